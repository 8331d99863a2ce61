/- Definitions and lemmas for the law, part 4. No condition beyond those in each statement. -/
import Derived.RangeFuncNested
import Derived.Recover
import Derived.Scope
import Derived.Test.YtinjgnaimmenbaaDoorP3
set_option linter.unusedSimpArgs false
set_option linter.unusedVariables false
set_option linter.deprecated false
namespace Go.Proofs.YtinjgnaimmenbaaDoor
open Go.Abs
def kindN (n : Int) : Int := if 48 ≤ n ∧ n ≤ 57 then 0 else if n = 46 then 1 else if n = 101 ∨ n = 69 then 2 else if n = 43 ∨ n = 45 then 3 else -1
theorem kindN_cases (n : Int) : (kindN n = 0 ∧ 48 ≤ n ∧ n ≤ 57) ∨ (kindN n = 1 ∧ n = 46) ∨ (kindN n = 2 ∧ (n = 101 ∨ n = 69)) ∨ (kindN n = 3 ∧ (n = 43 ∨ n = 45)) ∨ (kindN n = -1 ∧ ¬ (48 ≤ n ∧ n ≤ 57) ∧ n ≠ 46 ∧ n ≠ 101 ∧ n ≠ 69 ∧ n ≠ 43 ∧ n ≠ 45) := by
  unfold kindN
  repeat' split
  all_goals omega
theorem c_kind (n : Int) : ACalls seat 26 [.int .u8 n] [] (fun x _ => x = .ret (.int .i64 (kindN n))) := by
  refine ACalls.body seat_ok Tryd.func26 rfl rfl ?_
  rcases kindN_cases n with ⟨h, h1, h2⟩ | ⟨h, h1⟩ | ⟨h, h1 | h1⟩ | ⟨h, h1 | h1⟩ | ⟨h, h1, h2, h3, h4, h5, h6⟩
  · rw [h]; conv => whnf
    repeat' ((first | refine zq1 (by omega) ?_ | refine zq2 (by omega) ?_ | refine NumH.rem (by omega) ?_ | refine zq4 (by omega) ?_ | refine zq5 (by omega) ?_ | refine zq6 ?_ | refine Req.mk (by omega) ?_ | refine Req.mk (by dsimp only; omega) ?_ | refine Req.mk (show pendP _ _ by repeat' constructor) ?_ | (with_reducible first | refine brT (by assumption) ?_ | refine brF (by assumption) ?_ | refine brDT (by omega) ?_ | refine brDF (by omega) ?_ | refine brET (by omega) ?_ | refine brEF (by omega) ?_ | refine brNET (by omega) ?_ | refine brNEF (by omega) ?_ | refine brNot ?_)); conv => whnf)
    rfl
  · rw [h]; conv => whnf
    repeat' ((first | refine zq1 (by omega) ?_ | refine zq2 (by omega) ?_ | refine NumH.rem (by omega) ?_ | refine zq4 (by omega) ?_ | refine zq5 (by omega) ?_ | refine zq6 ?_ | refine Req.mk (by omega) ?_ | refine Req.mk (by dsimp only; omega) ?_ | refine Req.mk (show pendP _ _ by repeat' constructor) ?_ | (with_reducible first | refine brT (by assumption) ?_ | refine brF (by assumption) ?_ | refine brDT (by omega) ?_ | refine brDF (by omega) ?_ | refine brET (by omega) ?_ | refine brEF (by omega) ?_ | refine brNET (by omega) ?_ | refine brNEF (by omega) ?_ | refine brNot ?_)); conv => whnf)
    rfl
  · rw [h]; conv => whnf
    repeat' ((first | refine zq1 (by omega) ?_ | refine zq2 (by omega) ?_ | refine NumH.rem (by omega) ?_ | refine zq4 (by omega) ?_ | refine zq5 (by omega) ?_ | refine zq6 ?_ | refine Req.mk (by omega) ?_ | refine Req.mk (by dsimp only; omega) ?_ | refine Req.mk (show pendP _ _ by repeat' constructor) ?_ | (with_reducible first | refine brT (by assumption) ?_ | refine brF (by assumption) ?_ | refine brDT (by omega) ?_ | refine brDF (by omega) ?_ | refine brET (by omega) ?_ | refine brEF (by omega) ?_ | refine brNET (by omega) ?_ | refine brNEF (by omega) ?_ | refine brNot ?_)); conv => whnf)
    rfl
  · rw [h]; conv => whnf
    repeat' ((first | refine zq1 (by omega) ?_ | refine zq2 (by omega) ?_ | refine NumH.rem (by omega) ?_ | refine zq4 (by omega) ?_ | refine zq5 (by omega) ?_ | refine zq6 ?_ | refine Req.mk (by omega) ?_ | refine Req.mk (by dsimp only; omega) ?_ | refine Req.mk (show pendP _ _ by repeat' constructor) ?_ | (with_reducible first | refine brT (by assumption) ?_ | refine brF (by assumption) ?_ | refine brDT (by omega) ?_ | refine brDF (by omega) ?_ | refine brET (by omega) ?_ | refine brEF (by omega) ?_ | refine brNET (by omega) ?_ | refine brNEF (by omega) ?_ | refine brNot ?_)); conv => whnf)
    rfl
  · rw [h]; conv => whnf
    repeat' ((first | refine zq1 (by omega) ?_ | refine zq2 (by omega) ?_ | refine NumH.rem (by omega) ?_ | refine zq4 (by omega) ?_ | refine zq5 (by omega) ?_ | refine zq6 ?_ | refine Req.mk (by omega) ?_ | refine Req.mk (by dsimp only; omega) ?_ | refine Req.mk (show pendP _ _ by repeat' constructor) ?_ | (with_reducible first | refine brT (by assumption) ?_ | refine brF (by assumption) ?_ | refine brDT (by omega) ?_ | refine brDF (by omega) ?_ | refine brET (by omega) ?_ | refine brEF (by omega) ?_ | refine brNET (by omega) ?_ | refine brNEF (by omega) ?_ | refine brNot ?_)); conv => whnf)
    rfl
  · rw [h]; conv => whnf
    repeat' ((first | refine zq1 (by omega) ?_ | refine zq2 (by omega) ?_ | refine NumH.rem (by omega) ?_ | refine zq4 (by omega) ?_ | refine zq5 (by omega) ?_ | refine zq6 ?_ | refine Req.mk (by omega) ?_ | refine Req.mk (by dsimp only; omega) ?_ | refine Req.mk (show pendP _ _ by repeat' constructor) ?_ | (with_reducible first | refine brT (by assumption) ?_ | refine brF (by assumption) ?_ | refine brDT (by omega) ?_ | refine brDF (by omega) ?_ | refine brET (by omega) ?_ | refine brEF (by omega) ?_ | refine brNET (by omega) ?_ | refine brNEF (by omega) ?_ | refine brNot ?_)); conv => whnf)
    rfl
  · rw [h]
    by_cases g : 48 ≤ n
    · conv => whnf
      repeat' ((first | refine zq1 (by omega) ?_ | refine zq2 (by omega) ?_ | refine NumH.rem (by omega) ?_ | refine zq4 (by omega) ?_ | refine zq5 (by omega) ?_ | refine zq6 ?_ | refine Req.mk (by omega) ?_ | refine Req.mk (by dsimp only; omega) ?_ | refine Req.mk (show pendP _ _ by repeat' constructor) ?_ | (with_reducible first | refine brT (by assumption) ?_ | refine brF (by assumption) ?_ | refine brDT (by omega) ?_ | refine brDF (by omega) ?_ | refine brET (by omega) ?_ | refine brEF (by omega) ?_ | refine brNET (by omega) ?_ | refine brNEF (by omega) ?_ | refine brNot ?_)); conv => whnf)
      rfl
    · conv => whnf
      repeat' ((first | refine zq1 (by omega) ?_ | refine zq2 (by omega) ?_ | refine NumH.rem (by omega) ?_ | refine zq4 (by omega) ?_ | refine zq5 (by omega) ?_ | refine zq6 ?_ | refine Req.mk (by omega) ?_ | refine Req.mk (by dsimp only; omega) ?_ | refine Req.mk (show pendP _ _ by repeat' constructor) ?_ | (with_reducible first | refine brT (by assumption) ?_ | refine brF (by assumption) ?_ | refine brDT (by omega) ?_ | refine brDF (by omega) ?_ | refine brET (by omega) ?_ | refine brEF (by omega) ?_ | refine brNET (by omega) ?_ | refine brNEF (by omega) ?_ | refine brNot ?_)); conv => whnf)
      rfl
end Go.Proofs.YtinjgnaimmenbaaDoor
namespace Go.Abs
open Go.RowKit
variable {S : Seat}
end Go.Abs
namespace Go.Abs
open Go.RowKit
variable {S : Seat}
structure LExt (E E' : Env) : Prop where
  blk : ∀ i b, E.blk i = some b → E'.blk i = some b
  tok : ∀ i F v, E.tok i = some (F, v) → ∃ F' v', E'.tok i = some (F', v') ∧ (F < F' ∨ (F' = F ∧ v' = v))
  cbv : ∀ i v, E.cbv i = some v → E'.cbv i = some v ∧ E'.cbJ i = E.cbJ i
  imm : ∀ b o u, E.imm b o = some u → E'.imm b o = some u
theorem Ext.l {E E' : Env} (h : Ext E E') : LExt E E' := ⟨h.blk, h.tok, h.cbv, h.imm⟩
theorem LExt.refl (E : Env) : LExt E E := (Ext.refl E).l
theorem LExt.v {E E' : Env} (h : LExt E E') : VExt E E' := ⟨h.blk, h.tok, fun i v hv => (h.cbv i v hv).1, h.imm⟩
theorem LExt.trans {A B C : Env} (h : LExt A B) (k : LExt B C) : LExt A C where
  blk i b hb := k.blk i b (h.blk i b hb)
  tok i F v ht := by
    obtain ⟨F1, v1, h1, h2⟩ := h.tok i F v ht
    obtain ⟨F2, v2, h3, h4⟩ := k.tok i F1 v1 h1
    refine ⟨F2, v2, h3, ?_⟩
    rcases h2 with h2 | ⟨rfl, rfl⟩ <;> rcases h4 with h4 | ⟨rfl, rfl⟩
    · exact .inl (Nat.lt_trans h2 h4)
    · exact .inl h2
    · exact .inl h4
    · exact .inr ⟨rfl, rfl⟩
  cbv i v hv := by
    obtain ⟨h1, h2⟩ := h.cbv i v hv
    obtain ⟨h3, h4⟩ := k.cbv i v h1
    exact ⟨h3, h4.trans h2⟩
  imm b o u hu := k.imm b o u (h.imm b o u hu)
def Env.lone (E : Env) : Env := { E with rnd := none, marks := [] }
def ownsH (E : Env) (h : Heap) (b : Nat) : Prop := ∃ i c, h[i]? = some c ∧ ownsC E i c b
def Env.round (E : Env) (h : Heap) (w : World) (l : Nat) (M : List Nat) : Env := { E with keep := fun b => b < w.heap.size ∧ ¬ ownsH E h b ∧ b ∉ M, base := w, rnd := some l, marks := M }
theorem R0.lone {E : Env} {h : Heap} {w : World} (hr : R0 S E h w) : R0 S E.lone h w := by
  have oc : ∀ i c b, ownsC E.lone i c b ↔ ownsC E i c b := fun i c b => ownsC_same rfl rfl rfl i c b
  exact ⟨fun i c hi => CR.same (E := E) (E' := E.lone) rfl rfl rfl rfl rfl rfl hr.imm (hr.ch i c hi), fun g cs hg => VRI.mono (VExt.of_eq (E := E) (E' := E.lone) rfl rfl rfl rfl) _ _ _ (hr.glob g cs hg), hr.non, fun i c b hi ho => hr.lt i c b hi ((oc i c b).1 ho), fun i j c d b hi hj h1 h2 => hr.disj i j c d b hi hj ((oc i c b).1 h1) ((oc j d b).1 h2), hr.imm, fun l hl => (by cases hl), fun D hD => (by cases hD)⟩
theorem R0.round {E : Env} {h : Heap} {w : World} (hr : R0 S E h w) {l : Nat} {r : Loop} (hl : w.heap[l]? = some (.loop r)) (hno : ¬ ownsH E h l) {M : List Nat} (hM : ∀ D ∈ M, w.heap[D]? = some (.deferred (some [])) ∧ ¬ ownsH E h D) : R S (E.round h w l M) h w := by
  have oc : ∀ i c b, ownsC (E.round h w l M) i c b ↔ ownsC E i c b := fun i c b => ownsC_same rfl rfl rfl i c b
  refine ⟨⟨fun i c hi => CR.same (E := E) (E' := E.round h w l M) rfl rfl rfl rfl rfl rfl hr.imm (hr.ch i c hi), fun g cs hg => VRI.mono (VExt.of_eq (E := E) (E' := E.round h w l M) rfl rfl rfl rfl) _ _ _ (hr.glob g cs hg), hr.non, fun i c b hi ho => hr.lt i c b hi ((oc i c b).1 ho), fun i j c d b hi hj h1 h2 => hr.disj i j c d b hi hj ((oc i c b).1 h1) ((oc j d b).1 h2), hr.imm, fun l' hl' => ?_, fun D hD => ⟨(hM D hD).1, fun hk => hk.2.2 hD, fun i c hi ho => (hM D hD).2 ⟨i, c, hi, (oc i c D).1 ho⟩⟩⟩, ⟨fun _ _ => rfl, fun i c b hi ho hk => hk.2.1 ⟨i, c, hi, (oc i c b).1 ho⟩, Nat.le_refl _, fun b hk => hk.1, Same3.refl w⟩⟩
  have : l = l' := by cases hl'; rfl
  subst this
  exact ⟨⟨r, hl⟩, fun i c hi ho => hno ⟨i, c, hi, (oc i c l).1 ho⟩⟩
theorem cell_of_heap {w w' : World} {a : Addr} (h : w'.heap[a.block]? = w.heap[a.block]?) : w'.cell? a = w.cell? a := by
  unfold World.cell?; rw [h]
theorem immOK_put {imm : Imm} {w : World} (h : immOK imm w) {l : Nat} {r : Loop} (hl : w.heap[l]? = some (.loop r)) (r' : Loop) : immOK imm (w.putObj l (.loop r')) := by
  intro b o u hu
  have h1 := h b o u hu
  by_cases e : b = l
  · subst e
    exfalso
    simp [World.cell?, hl] at h1
  · rw [cell_of_heap (World.putObj_heap_other e)]; exact h1
theorem R0.putLoop {E : Env} {h : Heap} {w : World} (hr : R0 S E h w) (hrn : E.rnd = none) (hmk : E.marks = []) {l : Nat} {r : Loop} (hl : w.heap[l]? = some (.loop r)) (hno : ¬ ownsH E h l) (r' : Loop) : R0 S E h (w.putObj l (.loop r')) := by
  have hap : Apart E h w E.imm (w.putObj l (.loop r')) := ⟨fun i c b hi ho => World.putObj_heap_other (fun e => hno ⟨i, c, hi, e ▸ ho⟩), fun _ _ _ _ _ _ => rfl, fun _ _ _ h => h, immOK_put hr.imm hl r', by simp, ⟨rfl, rfl, rfl⟩, fun l hl => (by rw [hrn] at hl; cases hl), fun D hD => (by rw [hmk] at hD; cases hD)⟩
  exact hr.apart hap
def stopOf : AExit → Bool | .normal => false | _ => true
def jumpOf : AExit → Option Code | .exit i => some (.exit i) | .goto l => some (.goto l) | .ret => some .ret | _ => none
def loopRec (fn : FuncId) (tmps : Array Value) (ps : Array Tmp) (assign body : Code) (d : Nat) (e : AExit) : Loop :=
  { state := if stopOf e then .done else .ready, pending := jumpOf e, fn, tmps, params := ps, assign, body, defers := d }
def rangeJ (S : Seat) (E0 : Env) (l : Nat) (rc : AExit → Loop) (I : List (List AV) → AExit → Heap → Prop) : CbJ := fun seen st fp imm w =>
  ∃ E2 h2 e, I seen e h2 ∧ (∀ v, e ≠ .pan v) ∧ st = stopOf e ∧ R0 S E2 h2 w ∧ LExt E0 E2 ∧ E2.rnd = none ∧ E2.marks = [] ∧ E2.imm = imm ∧
    (∀ b, fp b ↔ ownsH E2 h2 b ∨ b = l) ∧ w.heap[l]? = some (.loop (rc e)) ∧ ¬ ownsH E2 h2 l
def setPs : List Nat → List AV → List AV → List AV
  | p :: ps, a :: as0, t => setPs ps as0 (t.set p a)
  | _, _, t => t
theorem setPs_run {E : Env} : ∀ (ps : List Nat) (as0 : List AV) (as0' : List Value) (t : List AV) (u : Array Value), VRL E as0 as0' → VRL E t u.toList → VRL E (setPs ps as0 t) ((ps.zip as0').foldl (fun tmps x => tmps.setIfInBounds x.1 x.2) u).toList
  | [], _, _, t, u, _, ht => by simpa [setPs] using ht
  | p :: ps, [], as0', t, u, ha, ht => by
    obtain rfl : as0' = [] := by simpa only [VRL] using ha
    simpa [setPs] using ht
  | p :: ps, a :: as0, as0', t, u, ha, ht => by
    obtain ⟨v, vs, rfl, hv, hvs⟩ := ha.uncons
    simp only [setPs, List.zip_cons_cons, List.foldl_cons]
    refine setPs_run ps as0 vs _ _ hvs ?_
    rw [Array.toList_setIfInBounds]
    exact ht.set p hv
end Go.Abs
namespace Go.Abs
open Go.RowKit
variable {S : Seat} {B : List Deferred}
theorem lext_round (E : Env) (h : Heap) (w : World) (l : Nat) (M : List Nat) : LExt E (E.round h w l M) := ⟨fun _ _ h => h, fun _ F v h => ⟨F, v, h, .inr ⟨rfl, rfl⟩⟩, fun _ _ h => ⟨h, rfl⟩, fun _ _ _ h => h⟩
theorem lext_lone (E : Env) : LExt E E.lone := ⟨fun _ _ h => h, fun _ F v h => ⟨F, v, h, .inr ⟨rfl, rfl⟩⟩, fun _ _ h => ⟨h, rfl⟩, fun _ _ _ h => h⟩
def RoundOK (S : Seat) (n : Nat) (ps : List Nat) (assign body : Code) (t : List AV) (acc : List (List AV) → List AV → Prop) (I : List (List AV) → AExit → Heap → Prop) : Prop :=
  ∀ seen args h1, acc seen args → I seen .normal h1 → args.length = ps.length ∧
    Sat S assign (setPs ps args t) h1 (fun x t1 h2 => x = .normal ∧ Sat S body t1 h2 (fun x _ h3 => (∀ v, x ≠ .pan v) ∧ I (seen ++ [args]) x (takeH n h3) ∧ IdsH (· < n) (takeH n h3)))
theorem ownsH_lone {E : Env} {h : Heap} {b : Nat} : ownsH E.lone h b ↔ ownsH E h b := by
  unfold ownsH; constructor <;> rintro ⟨i, c, hi, ho⟩ <;> exact ⟨i, c, hi, (ownsC_same (E := E) (E' := E.lone) rfl rfl rfl i c b).1 ho⟩
theorem round_after {E : Env} {h : Heap} {w : World} {l : Nat} {M : List Nat} {E' : Env} {h' : Heap} {w' : World} (hx : Ext (E.round h w l M) E') (hr : R S E' h' w') :
    (∀ b, b < w.heap.size → ¬ ownsH E h b → b ∉ M → w'.heap[b]? = w.heap[b]?) ∧ (∀ b, b < w.heap.size → ¬ ownsH E h b → b ∉ M → ∀ o, E'.imm b o = E.imm b o) ∧ (∀ b, ownsH E' h' b ∨ b ∈ E'.marks → (ownsH E h b ∨ b ∈ M) ∨ w.heap.size ≤ b) ∧ w.heap.size ≤ w'.heap.size ∧ Same3 w w' := by
  have key : ∀ b, ¬ E'.keep b → (ownsH E h b ∨ b ∈ M) ∨ w.heap.size ≤ b := fun b hk => by
    rw [hx.keep] at hk
    by_cases hlt : b < w.heap.size
    · left
      refine Classical.byContradiction fun hn => hk ⟨hlt, fun h => hn (.inl h), fun h => hn (.inr h)⟩
    · exact .inr (Nat.le_of_not_lt hlt)
  refine ⟨fun b hb hn hm => ?_, fun b hb hn hm o => hx.new b o ⟨hb, hn, hm⟩, fun b hb => key b ?_, ?_, ?_⟩
  · have := hr.kp.same b (by rw [hx.keep]; exact ⟨hb, hn, hm⟩); rw [hx.base] at this; exact this
  · rcases hb with ⟨i, c, hi, ho⟩ | hb
    · exact hr.kp.keep i c b hi ho
    · exact (hr.r0.mks b hb).2.1
  · have := hr.kp.size; rw [hx.base] at this; exact this
  · have := hr.kp.s3; rw [hx.base] at this; exact this
theorem LExt.forget {E E' : Env} (hx : LExt E E') {n : Nat} (hn : ∀ i, n ≤ i → E.blk i = none ∧ E.tok i = none ∧ E.cbv i = none) : LExt E (E'.forget n) where
  blk i b h := by
    have hi : i < n := Nat.lt_of_not_le fun hge => by rw [(hn i hge).1] at h; cases h
    exact (if_pos hi).trans (hx.blk i b h)
  tok i F v h := by
    have hi : i < n := Nat.lt_of_not_le fun hge => by rw [(hn i hge).2.1] at h; cases h
    obtain ⟨F', v', h1, h2⟩ := hx.tok i F v h
    exact ⟨F', v', (if_pos hi).trans h1, h2⟩
  cbv i v h := by
    have hi : i < n := Nat.lt_of_not_le fun hge => by rw [(hn i hge).2.2] at h; cases h
    exact ⟨(if_pos hi).trans (hx.cbv i v h).1, (hx.cbv i v h).2⟩
  imm := hx.imm
theorem ownsH_forget {E : Env} {h : Heap} {n b : Nat} (ho : ownsH (E.forget n).lone (takeH n h) b) : ownsH E h b := by
  obtain ⟨i, c, hi, ho⟩ := ho
  rw [takeH_eq, List.getElem?_take] at hi
  split at hi
  · rename_i hlt
    have hs := SameOn.forget E n
    exact ⟨i, c, hi, (ownsC_congr (hs.blk i hlt) (hs.tok i hlt) rfl c b).1 ((ownsC_same (E := E.forget n) (E' := (E.forget n).lone) rfl rfl rfl i c b).1 ho)⟩
  · cases hi
theorem rangeJ_ok (hG : GOK S) {n : Nat} {E0 : Env} (hn0 : ∀ i, n ≤ i → E0.blk i = none ∧ E0.tok i = none ∧ E0.cbv i = none) {l : Nat} {fn : FuncId} {tmps : Array Value} {ps : Array Tmp} {assign body : Code} {d : Nat} {t : List AV} {acc : List (List AV) → List AV → Prop} {I : List (List AV) → AExit → Heap → Prop}
    (ht : VRL E0 t tmps.toList) (hround : RoundOK S n ps.toList assign body t acc I) :
    CbOK S.P (.func (.yield l) #[] #[]) acc (rangeJ S E0 l (loopRec fn tmps ps assign body d) I) where
  isfn := ⟨_, _, _, rfl, fun n h => by cases h⟩
  own := by
    rintro seen st fp imm w ⟨E2, h2, e, hI, hp, hst, hr0, hx, hrn, hmk, hi, hfp, hl, hno⟩ b hb
    rcases (hfp b).1 hb with ⟨i, c, h1, h3⟩ | rfl
    · exact hr0.lt i c b h1 h3
    · exact (Array.getElem?_eq_some_iff.1 hl).1
  loc := by
    rintro seen st fp imm w imm' w' ⟨E2, h2, e, hI, hp, hst, hr0, hx, hrn, hmk, rfl, hfp, hl, hno⟩ hs hsI hm hok hsz hs3
    have hap : Apart E2 h2 w imm' w' := ⟨fun i c b hi ho => hs b ((hfp b).2 (.inl ⟨i, c, hi, ho⟩)), fun i c b hi ho o => hsI b ((hfp b).2 (.inl ⟨i, c, hi, ho⟩)) o, hm, hok, hsz, hs3, fun l hl => (by rw [hrn] at hl; cases hl), fun D hD => (by rw [hmk] at hD; cases hD)⟩
    have hoe : ∀ b, ownsH (E2.withImm imm') h2 b ↔ ownsH E2 h2 b := fun b => by
      unfold ownsH; constructor <;> rintro ⟨i, c, hi, ho⟩ <;> exact ⟨i, c, hi, by rwa [ownsC_withImm] at *⟩
    refine ⟨E2.withImm imm', h2, e, hI, hp, hst, hr0.apart hap, hx.trans ⟨fun _ _ h => h, fun _ F v h => ⟨F, v, h, .inr ⟨rfl, rfl⟩⟩, fun _ _ h => ⟨h, rfl⟩, hm⟩, hrn, hmk, rfl, fun b => by rw [hoe]; exact hfp b, ?_, by rw [hoe]; exact hno⟩
    rw [hs l ((hfp l).2 (.inr rfl))]; exact hl
  call := by
    rintro seen fp imm w args args' hacc ⟨E2, h2, e, hI, hp, hst, hr0, hx, hrn, hmk, rfl, hfp, hl, hno⟩ hok hargs
    have he : e = .normal := by cases e <;> simp [stopOf] at hst ⊢
    subst he
    obtain ⟨hlen, hsat⟩ := hround seen args h2 hacc hI
    have hargs2 : VRL E2 args args' := VRL.mono (E := closedEnv E2.imm) (E' := E2) ⟨fun _ _ h => (by cases h), fun _ _ _ h => (by cases h), fun _ _ h => (by cases h), fun _ _ _ h => h⟩ _ _ hargs
    have hal : args'.length = args.length := hargs2.length.symm
    have hlt : l < w.heap.size := (Array.getElem?_eq_some_iff.1 hl).1
    refine .inr ⟨l, fn, _, assign, body, rfl, run_yield hl (by simp [loopRec, hal, hlen]), ?_⟩
    refine roundIn_of_wpIn trivial ?_
    have hact : ActR [] (E2.round h2 w l []) (setPs ps.toList args t) { tmps := (ps.zip args'.toArray).foldl (fun tmps (x : Tmp × Value) => tmps.setIfInBounds x.1 x.2) tmps, defers := [] } := by
      refine ⟨?_, rfl, List.nodup_nil⟩
      have := setPs_run ps.toList args args' t tmps (hargs2.mono (lext_round E2 h2 w l []).v) (ht.mono (hx.trans (lext_round E2 h2 w l [])).v)
      rw [← Array.foldl_toList]
      simpa using this
    have hA := hsat.out [] (E2.round h2 w l []) w _ (hr0.round hl hno (fun D hD => (by cases hD))) hact
    refine wpIn_mono hA ?_
    rintro e a1 w1 ⟨Ea, t1, h3, x, hxa, hRa, hacta, hex, rfl, hbody⟩
    simp only [ExitR] at hex; subst hex
    obtain ⟨s1, s2, s3, s4, s5⟩ := round_after hxa hRa
    have hl1 : w1.heap[l]? = some (.loop (loopRec fn tmps ps assign body d .normal)) := by rw [s1 l hlt hno (by simp)]; exact hl
    have s3' : ∀ b, ownsH Ea h3 b ∨ b ∈ Ea.marks → ownsH E2 h2 b ∨ w.heap.size ≤ b := fun b hb => by
      rcases s3 b hb with (h | h) | h
      · exact .inl h
      · cases h
      · exact .inr h
    have hnoa : ¬ ownsH Ea h3 l := fun h => by
      rcases s3' l (.inl h) with h | h
      · exact hno h
      · omega
    have hlm : l ∉ Ea.marks := fun h => by
      rcases s3' l (.inr h) with h | h
      · exact hno h
      · omega
    have hlt1 : l < w1.heap.size := (Array.getElem?_eq_some_iff.1 hl1).1
    refine ⟨_, run_beginRound hl1 rfl, ?_⟩
    generalize hrb : ({ loopRec fn tmps ps assign body d .normal with state := .busy } : Loop) = rb
    have hl2 : (w1.putObj l (.loop rb)).heap[l]? = some (.loop rb) := World.putObj_heap_same hlt1
    have hr2 : R0 S Ea.lone h3 (w1.putObj l (.loop rb)) := hRa.r0.lone.putLoop rfl rfl hl1 (by rw [ownsH_lone]; exact hnoa) rb
    have hno2 : ¬ ownsH Ea.lone h3 l := by rw [ownsH_lone]; exact hnoa
    have hact2 : ActR [] (Ea.lone.round h3 (w1.putObj l (.loop rb)) l Ea.marks) t1 a1 := by
      exact ⟨hacta.1.mono ((lext_lone Ea).trans (lext_round _ _ _ _ _)).v, hacta.2.1, hacta.2.2⟩
    have hM : ∀ D ∈ Ea.marks, (w1.putObj l (.loop rb)).heap[D]? = some (.deferred (some [])) ∧ ¬ ownsH Ea.lone h3 D := fun D hD => by
      obtain ⟨m1, m2, m3⟩ := hRa.r0.mks D hD
      refine ⟨?_, ?_⟩
      · rw [World.putObj_heap_other (fun h => hlm (by rw [← h]; exact hD))]; exact m1
      · rw [ownsH_lone]; rintro ⟨i, c, hi, ho⟩; exact m3 i c hi ho
    have hB := hbody.out [] (Ea.lone.round h3 (w1.putObj l (.loop rb)) l Ea.marks) _ a1 (hr2.round hl2 hno2 hM) hact2
    refine wpIn_mono hB ?_
    rintro e a2 w3 ⟨Eb, t2, h4, x, hxb, hRb, hactb, hex, hpan, hI2, hids⟩
    obtain ⟨u1, u2, u3, u4, u5⟩ := round_after hxb hRb
    have hl3 : w3.heap[l]? = some (.loop rb) := by rw [u1 l (by simpa using hlt1) hno2 hlm]; exact hl2
    have hnob : ¬ ownsH Eb h4 l := fun h => by
      rcases u3 l (.inl h) with (h | h) | h
      · exact hno2 h
      · exact hlm h
      · simp at h; omega
    have hlt3 : l < w3.heap.size := (Array.getElem?_eq_some_iff.1 hl3).1
    have fin : ∀ jump, jump = jumpOf x → jump.isNone = !stopOf x → ∃ v w', (Instr.endRound l jump).run S.P w3 = .ok v w' ∧
        ∃ st fp2 imm2, Ending.returned v = .returned (.bool (!st)) ∧ rangeJ S E0 l (loopRec fn tmps ps assign body d) I (seen ++ [args]) st fp2 imm2 w' ∧ (∀ b o u, E2.imm b o = some u → imm2 b o = some u) ∧ immOK imm2 w' ∧
          (∀ b, b < w.heap.size → ¬ fp b → w'.heap[b]? = w.heap[b]?) ∧ (∀ b, b < w.heap.size → ¬ fp b → ∀ o, imm2 b o = E2.imm b o) ∧ (∀ b, fp2 b → fp b ∨ w.heap.size ≤ b) ∧ w.heap.size ≤ w'.heap.size ∧ Same3 w w' := by
      rintro jump hj hjn
      refine ⟨_, _, run_endRound jump hl3, stopOf x, fun b => ownsH (Eb.forget n).lone (takeH n h4) b ∨ b = l, Eb.imm, by rw [hjn], ?_, ?_, ?_, ?_, ?_, ?_, ?_, ?_⟩
      · have hrec : ({ rb with state := if jump.isNone then .ready else .done, pending := jump } : Loop) = loopRec fn tmps ps assign body d x := by
          subst hrb
          unfold loopRec
          simp only
          rw [hjn, hj]
          cases stopOf x <;> simp
        rw [hrec]
        refine ⟨(Eb.forget n).lone, takeH n h4, x, hI2, hpan, rfl, (hRb.forget hG n hids).r0.lone.putLoop rfl rfl hl3 (fun h => hnob (ownsH_forget h)) _, ?_, rfl, rfl, rfl, fun b => Iff.rfl, World.putObj_heap_same hlt3, fun h => hnob (ownsH_forget h)⟩
        exact ((hx.trans ((lext_round E2 h2 w l []).trans (hxa.l.trans ((lext_lone Ea).trans ((lext_round _ _ _ _ _).trans hxb.l))))).forget hn0).trans (lext_lone _)
      · intro b o u hu
        exact hxb.imm b o u (hxa.imm b o u hu)
      · exact immOK_put hRb.r0.imm hl3 _
      · intro b hb hn
        have hne : b ≠ l := fun h => hn ((hfp b).2 (.inr h))
        have ho : ¬ ownsH E2 h2 b := fun h => hn ((hfp b).2 (.inl h))
        have ho2 : ¬ ownsH Ea.lone h3 b := fun h => by
          rw [ownsH_lone] at h
          rcases s3' b (.inl h) with h | h
          · exact ho h
          · omega
        have hm2 : b ∉ Ea.marks := fun h => by
          rcases s3' b (.inr h) with h | h
          · exact ho h
          · omega
        rw [World.putObj_heap_other hne, u1 b (by simp; omega) ho2 hm2, World.putObj_heap_other hne, s1 b hb ho (by simp)]
      · intro b hb hn o
        have ho : ¬ ownsH E2 h2 b := fun h => hn ((hfp b).2 (.inl h))
        have ho2 : ¬ ownsH Ea.lone h3 b := fun h => by
          rw [ownsH_lone] at h
          rcases s3' b (.inl h) with h | h
          · exact ho h
          · omega
        have hm2 : b ∉ Ea.marks := fun h => by
          rcases s3' b (.inr h) with h | h
          · exact ho h
          · omega
        rw [u2 b (by simp; omega) ho2 hm2 o]
        exact s2 b hb ho (by simp) o
      · rintro b (h | rfl)
        · have h := ownsH_forget h
          have k : ownsH Ea h3 b ∨ b ∈ Ea.marks → fp b ∨ w.heap.size ≤ b := fun h => (s3' b h).imp (fun h => (hfp b).2 (.inl h)) id
          rcases u3 b (.inl h) with (h | h) | h
          · rw [ownsH_lone] at h
            exact k (.inl h)
          · exact k (.inr h)
          · simp at h; exact .inr (by omega)
        · exact .inl ((hfp b).2 (.inr rfl))
      · simp at u4 ⊢; omega
      · exact ⟨u5.os.trans s5.os, u5.tape.trans s5.tape, u5.output.trans s5.output⟩
    cases x with
    | normal => simp only [ExitR] at hex; subst hex; exact fin none rfl rfl
    | ret => simp only [ExitR] at hex; subst hex; exact fin (some .ret) rfl rfl
    | exit i => simp only [ExitR] at hex; subst hex; exact fin (some (.exit i)) rfl rfl
    | goto i => simp only [ExitR] at hex; subst hex; exact fin (some (.goto i)) rfl rfl
    | pan v => exact absurd rfl (hpan v)
end Go.Abs
namespace Go.Abs
open Go.RowKit
variable {S : Seat} {B : List Deferred}
theorem enter_run {E : Env} {h : Heap} {w : World} (hr : R S E h w) (gn : FuncId) (tmps : Array Value) (ps : Array Tmp) (assign body : Code) :
    ∃ (l : Nat) (mark : List Deferred) (w1 : World) (M : List Nat) (d : Nat), (Instr.enterLoop gn tmps ps assign body (fen E).round).run S.P w = .ok (l, mark) w1 ∧ w.heap.size ≤ w1.heap.size ∧ (∀ b, b < w.heap.size → w1.heap[b]? = w.heap[b]?) ∧
      w1.heap[l]? = some (.loop (loopRec gn tmps ps assign body d .normal)) ∧ mark = M.map markOf ∧ (∀ D ∈ M, w.heap.size ≤ D ∧ D ≠ l ∧ w1.heap[D]? = some (.deferred (some []))) ∧ M.Nodup ∧ Same3 w w1 ∧ w.heap.size ≤ l := by
  cases hrn : E.rnd with
  | none =>
    have hf : (fen E).round = none := by unfold fen; rw [hrn]; rfl
    rw [hf]
    have hs : (w.alloc (.deferred (some []))).heap.size = w.heap.size + 1 := World.size_alloc _ _
    refine ⟨_, _, _, [w.heap.size], w.heap.size, run_enterLoop_outer gn tmps ps assign body, by simp only [World.size_alloc]; omega, fun b hb => ?_, ?_, rfl, fun D hD => ?_, by simp, ⟨rfl, rfl, rfl⟩, by omega⟩
    · rw [Below.heap_alloc _ _ _ (by omega), Below.heap_alloc _ _ _ hb]
    · have := World.alloc_heap_new (w.alloc (.deferred (some []))) (.loop { state := .ready, pending := none, fn := gn, tmps, params := ps, assign, body, defers := w.heap.size })
      rw [hs] at this; exact this
    · simp only [List.mem_singleton] at hD; subst hD
      refine ⟨Nat.le_refl _, by omega, ?_⟩
      rw [Below.heap_alloc _ _ _ (by omega)]; exact World.alloc_heap_new w _
  | some l0 =>
    obtain ⟨⟨r0, hl0⟩, _⟩ := hr.r0.rnd l0 hrn
    have hf : (fen E).round = some l0 := by unfold fen; rw [hrn]; rfl
    rw [hf]
    refine ⟨_, _, _, [], r0.defers, run_enterLoop_inner hl0 gn tmps ps assign body, by simp only [World.size_alloc]; omega, fun b hb => Below.heap_alloc _ _ _ hb, World.alloc_heap_new w _, rfl, fun D hD => (by cases hD), List.nodup_nil, ⟨rfl, rfl, rfl⟩, Nat.le_refl _⟩
theorem CallOut.calls {P : Program} {f : FuncId} {args : Array Value} {w : World} {R : Ending → World → Prop} (h : CallOut P f args w R) (hen : (callFunc f args).run P w = .ok (.enter f args) w) : Calls P f args w R := by
  rcases h with ⟨_, h2⟩ | ⟨v, w', h1, _⟩
  · exact h2
  · rw [hen] at h1; cases h1
theorem Sat.range (hS : SeatOK S) (hG : GOK S) {g : Operand} {ps : Array Tmp} {assign body : Code} {t : List AV} {h : Heap} {k : ExK} {f : Nat} {first caps : List AV}
    (hg : ev S.G t g = .fn f first caps) (hcl1 : ClosedL first) (hcl2 : ClosedL caps) {fn : Func} {c : Code} (hf : S.P.funcs[f]? = some fn) (hb : fn.body = some c) (hn : (fn.name == "runtime.NumGoroutine") = false)
    (acc : List (List AV) → List AV → Prop) (I : List (List AV) → AExit → Heap → Prop) (Fin : List (List AV) → Bool → Prop)
    (hcall : ACalls S f (first ++ .cb 0 :: caps) [.cb acc [] false] (fun r h' => (∃ v, r = .ret v) ∧ ∃ seen st, h'[0]? = some (.cb acc seen st) ∧ Fin seen st))
    (hI : I [] .normal h) (hround : RoundOK S h.length ps.toList assign body t acc I) (hfin : ∀ seen e h1, Fin seen (stopOf e) → I seen e h1 → k e t h1) : Sat S (.rangeFunc g ps assign body) t h k := by
  refine ⟨fun B E w a hr ha => ?_⟩
  have hgv := ev_VR hr ha g
  rw [hg] at hgv; simp only [VR] at hgv
  obtain ⟨us, ws, hval, hus, hws⟩ := hgv
  refine wpIn_rangeFunc (fun gn _ => ?_)
  obtain ⟨l, mark, w1, M, d, hent, hsz, hold, hl, hmark, hM, hMn, hs3, hlge⟩ := enter_run hr gn a.tmps ps assign body
  have hlt : l < w1.heap.size := (Array.getElem?_eq_some_iff.1 hl).1
  have hap : Apart E h w E.imm w1 := ⟨fun i c b hi ho => hold b (hr.r0.lt i c b hi ho), fun _ _ _ _ _ _ => rfl, fun _ _ _ h => h, fun b o u hu => by
      have h1 := hr.r0.imm b o u hu
      have hb : b < w.heap.size := by
        apply Classical.byContradiction; intro hn
        have : w.heap[b]? = none := Array.getElem?_eq_none (Nat.le_of_not_lt hn)
        simp [World.cell?, this] at h1
      rw [cell_of_heap (hold b hb)]; exact h1, hsz, hs3, fun l hl => by
      obtain ⟨⟨r, h1⟩, _⟩ := hr.r0.rnd l hl
      exact hold l (Array.getElem?_eq_some_iff.1 h1).1, fun D hD => hold D (Array.getElem?_eq_some_iff.1 (hr.r0.mks D hD).1).1⟩
  have hr1 : R0 S E h w1 := hr.r0.apart hap
  have hown : ∀ b, ownsH E h b → b < w.heap.size := fun b ⟨i, c, hi, ho⟩ => hr.r0.lt i c b hi ho
  have hnol : ¬ ownsH E h l := fun h => by have := hown l h; omega
  let Ec : Env := { blk := fun _ => none, tok := fun _ => none, fp := fun _ b => ownsH E h b ∨ b = l, cbv := fun i => if i = 0 then some (.func (.yield l) #[] #[]) else none, cbJ := fun _ => rangeJ S E l (loopRec gn a.tmps ps assign body d) I, imm := E.imm, keep := fun b => b < w1.heap.size ∧ ¬ (ownsH E h b ∨ b = l), base := w1, rnd := none, marks := [] }
  have hle : ImmLe E Ec := fun _ _ _ h => h
  have hJ : rangeJ S E l (loopRec gn a.tmps ps assign body d) I [] false (fun b => ownsH E h b ∨ b = l) E.imm w1 :=
    ⟨E.lone, h, .normal, hI, (by intro v h; cases h), rfl, hr1.lone, lext_lone E, rfl, rfl, rfl, fun b => by rw [ownsH_lone], hl, by rw [ownsH_lone]; exact hnol⟩
  have hRc : R S Ec [.cb acc [] false] w1 := by
    have h0 : ∀ i c, ([.cb acc [] false] : Heap)[i]? = some c → i = 0 ∧ c = .cb acc [] false := fun i c hi => by
      cases i with
      | zero => simp at hi; exact ⟨rfl, hi.symm⟩
      | succ i => simp at hi
    have hfp : ∀ b, (ownsH E h b ∨ b = l) → b < w1.heap.size := fun b hb => by
      rcases hb with hb | rfl
      · have := hown b hb; omega
      · exact hlt
    refine ⟨⟨fun i c hi => ?_, fun g cs hg => Closed.VRI hle cs g 0 (hG.glob g cs hg) (hr1.glob g cs hg), fun i hi => ⟨rfl, rfl, ?_⟩, fun i c b hi ho => ?_, fun i j c d b hi hj _ _ => ?_, hr1.imm, fun l hl => (by cases hl), fun D hD => (by cases hD)⟩, ⟨fun _ _ => rfl, fun i c b hi ho hk => ?_, Nat.le_refl _, fun b hk => hk.1, Same3.refl w1⟩⟩
    · obtain ⟨rfl, rfl⟩ := h0 i c hi
      simp only [CR]
      exact ⟨_, rfl, rangeJ_ok hG (fun i hi => hr.r0.non i (List.getElem?_eq_none hi)) ha.1 hround, hJ⟩
    · cases i with
      | zero => simp at hi
      | succ i => rfl
    · obtain ⟨rfl, rfl⟩ := h0 i c hi
      exact hfp b ho
    · rw [(h0 i c hi).1, (h0 j d hj).1]
    · obtain ⟨rfl, rfl⟩ := h0 i c hi
      exact hk.2 ho
  have hargs : VRL Ec (first ++ .cb 0 :: caps) (us ++ .func (.yield l) #[] #[] :: ws) := by
    refine (Closed.VRL hle _ _ hcl1 hus).append (VRL.cons ?_ (Closed.VRL hle _ _ hcl2 hws))
    simp only [VR]
    exact ⟨rfl, _, _, _, rfl, fun n h => by cases h⟩
  have hen : ∀ args w', (callFunc f args).run S.P w' = .ok (.enter f args) w' := fun args w' => by
    unfold callFunc
    simp only [beq_eq_false_iff_ne, ne_eq] at hn
    simp [Sem.run_bind, go_sem, hf, hn, hb]
  have hC := hcall Ec w1 (us ++ .func (.yield l) #[] #[] :: ws) rfl rfl hRc hargs
  have hC2 := hC.calls (hen _ _)
  refine ⟨l, mark, w1, { target := .fn (.func f) ws.toArray, args := us.toArray ++ #[.func (.yield l) #[] #[]] }, w1, f, (us ++ .func (.yield l) #[] #[] :: ws).toArray, w1, hent, ?_, fun f' _ => fen_fn E f', ?_, fun hd => (by rw [fen_depth] at hd; cases hd), ?_⟩
  · have hy : a.eval (.const (.func (.yield l) #[] #[])) = .func (.yield l) #[] #[] := rfl
    simp [resolve, rangeCall, hval, hy, Deferred.ofValue]
  · simp only [invoke]
    rw [show us.toArray ++ #[Value.func (.yield l) #[] #[]] ++ ws.toArray = (us ++ .func (.yield l) #[] #[] :: ws).toArray by simp]
    exact hen _ _
  refine (callsIn_fen hC2).mono ?_
  rintro e w3 ⟨E', h', r, hx, hm', hr', he, ⟨v, rfl⟩, seen, st, hget, hFin⟩
  obtain ⟨u, rfl, _⟩ := he
  have hcr := hr'.r0.ch 0 _ hget
  simp only [CR] at hcr
  obtain ⟨fv, hcbv, _, hJ'⟩ := hcr
  rw [(hx.cbv 0 _ rfl).2] at hJ'
  obtain ⟨E2, h2, e, hI2, hpan, rfl, hr0, hxl, hrn2, hmk2, himm, hfp, hl2, hno⟩ := hJ'
  have hlt3 : l < w3.heap.size := (Array.getElem?_eq_some_iff.1 hl2).1
  have hkeepc : ∀ b, b < w1.heap.size → ¬ (ownsH E h b ∨ b = l) → w3.heap[b]? = w1.heap[b]? := fun b h1 h2 => by
    have := hr'.kp.same b (by rw [hx.keep]; exact ⟨h1, h2⟩)
    rw [hx.base] at this; exact this
  have hown2 : ∀ b, ownsH E2 h2 b → ownsH E h b ∨ w1.heap.size ≤ b := fun b hb => by
    have h1 := hr'.kp.keep 0 _ b hget ((hfp b).2 (.inl hb))
    rw [hx.keep] at h1
    by_cases hlt : b < w1.heap.size
    · left
      apply Classical.byContradiction; intro hn
      refine h1 ⟨hlt, fun h => ?_⟩
      rcases h with h | rfl
      · exact hn h
      · exact hno hb
    · exact .inr (Nat.le_of_not_lt hlt)
  have hsz3 : w1.heap.size ≤ w3.heap.size := by have := hr'.kp.size; rw [hx.base] at this; exact this
  have hs33 : Same3 w1 w3 := by have := hr'.kp.s3; rw [hx.base] at this; exact this
  generalize hrl : ({ loopRec gn a.tmps ps assign body d e with state := .exhausted } : Loop) = rl
  have hrun := run_endLoop (P := S.P) hl2 (by unfold loopRec; cases e <;> simp [stopOf])
  rw [hrl] at hrun
  have hq0 : R0 S E2 h2 (w3.putObj l (.loop rl)) := hr0.putLoop hrn2 hmk2 hl2 hno rl
  have hw4 : ∀ b, b < w.heap.size → ¬ ownsH E h b → (w3.putObj l (.loop rl)).heap[b]? = w.heap[b]? := fun b hb hn => by
    rw [World.putObj_heap_other (by omega), hkeepc b (by omega) (by rintro (h | rfl); exact hn h; omega), hold b hb]
  let Ef : Env := { E2 with keep := E.keep, base := E.base, rnd := E.rnd, marks := M ++ E.marks }
  have oc : ∀ i c b, ownsC Ef i c b ↔ ownsC E2 i c b := fun i c b => ownsC_same rfl rfl rfl i c b
  have hnotD : ∀ D, D ∈ M ++ E.marks → ¬ ownsH E h D ∧ D < w1.heap.size ∧ D ≠ l := fun D hD => by
    rcases List.mem_append.1 hD with hD | hD
    · obtain ⟨h1, h2, h3⟩ := hM D hD
      exact ⟨fun h => by have := hown D h; omega, (Array.getElem?_eq_some_iff.1 h3).1, h2⟩
    · obtain ⟨h1, h2, h3⟩ := hr.r0.mks D hD
      have : D < w.heap.size := (Array.getElem?_eq_some_iff.1 h1).1
      exact ⟨fun ⟨i, c, hi, ho⟩ => h3 i c hi ho, by omega, by omega⟩
  have hRf : R S Ef h2 (w3.putObj l (.loop rl)) := by
    refine ⟨⟨fun i c hi => CR.same (E := E2) (E' := Ef) rfl rfl rfl rfl rfl rfl hq0.imm (hq0.ch i c hi), fun g cs hg => VRI.mono (VExt.of_eq (E := E2) (E' := Ef) rfl rfl rfl rfl) _ _ _ (hq0.glob g cs hg), hq0.non, fun i c b hi ho => hq0.lt i c b hi ((oc i c b).1 ho), fun i j c d b hi hj h1 h2 => hq0.disj i j c d b hi hj ((oc i c b).1 h1) ((oc j d b).1 h2), hq0.imm, fun l0 hl0 => ?_, fun D hD => ?_⟩, ⟨fun b hb => ?_, fun i c b hi ho hk => ?_, ?_, hr.kp.klt, ?_⟩⟩
    · obtain ⟨⟨r, h1⟩, h3⟩ := hr.r0.rnd l0 hl0
      have hlt0 : l0 < w.heap.size := (Array.getElem?_eq_some_iff.1 h1).1
      have hno0 : ¬ ownsH E h l0 := fun ⟨i, c, hi, ho⟩ => h3 i c hi ho
      refine ⟨⟨r, by rw [hw4 l0 hlt0 hno0]; exact h1⟩, fun i c hi ho => ?_⟩
      rcases hown2 l0 ⟨i, c, hi, (oc i c l0).1 ho⟩ with h | h
      · exact hno0 h
      · omega
    · obtain ⟨n1, n2, n3⟩ := hnotD D hD
      refine ⟨?_, ?_, fun i c hi ho => ?_⟩
      · rw [World.putObj_heap_other n3, hkeepc D n2 (by rintro (h | h); exact n1 h; exact n3 h)]
        rcases List.mem_append.1 hD with hD | hD
        · exact (hM D hD).2.2
        · have h1 := (hr.r0.mks D hD).1
          rw [hold D (Array.getElem?_eq_some_iff.1 h1).1]; exact h1
      · rcases List.mem_append.1 hD with hD | hD
        · intro hk
          have := Nat.lt_of_lt_of_le (hr.kp.klt D hk) hr.kp.size
          have := (hM D hD).1
          omega
        · exact (hr.r0.mks D hD).2.1
      · rcases hown2 D ⟨i, c, hi, (oc i c D).1 ho⟩ with h | h
        · exact n1 h
        · omega
    · have h1 := Nat.lt_of_lt_of_le (hr.kp.klt b hb) hr.kp.size
      have h2 : ¬ ownsH E h b := fun ⟨i, c, hi, ho⟩ => hr.kp.keep i c b hi ho hb
      rw [hw4 b h1 h2]; exact hr.kp.same b hb
    · have h1 := Nat.lt_of_lt_of_le (hr.kp.klt b hk) hr.kp.size
      rcases hown2 b ⟨i, c, hi, (oc i c b).1 ho⟩ with ⟨j, c2, hj, ho2⟩ | h
      · exact hr.kp.keep j c2 b hj ho2 hk
      · omega
    · have := hr.kp.size
      show E.base.heap.size ≤ (w3.putObj l (.loop rl)).heap.size
      rw [World.putObj_size]; omega
    · exact hr.kp.s3.trans (hs3.trans ⟨hs33.os, hs33.tape, hs33.output⟩)
  have hxf : Ext E Ef := ⟨hxl.blk, hxl.tok, hxl.cbv, hxl.imm, fun b o hb => by
      show E2.imm b o = E.imm b o
      rw [himm]
      have h1 := Nat.lt_of_lt_of_le (hr.kp.klt b hb) hr.kp.size
      exact hx.new b o ⟨by omega, fun h => by
        rcases h with ⟨i, c, hi, ho⟩ | rfl
        · exact hr.kp.keep i c b hi ho hb
        · omega⟩, rfl, rfl, rfl⟩
  have hactf : ActR B Ef t { a with defers := mark ++ a.defers } := by
    refine ⟨ha.1.mono hxf.v, ?_, ?_⟩
    · show mark ++ a.defers = (M ++ E.marks).map markOf ++ B
      rw [List.map_append, hmark, ha.2.1, List.append_assoc]
    · show (M ++ E.marks).Nodup
      rw [List.nodup_append]
      refine ⟨hMn, ha.2.2, fun x hx y hy hxy => ?_⟩
      subst hxy
      have h1 := (hM x hx).1
      have h2 := (Array.getElem?_eq_some_iff.1 (hr.r0.mks x hy).1).1
      omega
  have hk := hfin seen e h2 hFin hI2
  have hfe : fen Ef = fen E := fen_ext hxf
  have post : ∀ e a w, PostR S B Ef k e a w → PostR S B E k e a w := fun e a w hp => by
    obtain ⟨E3, t3, h3, x3, p1, p2, p3, p4, p5⟩ := hp
    exact ⟨E3, t3, h3, x3, hxf.trans p1, p2, p3, p4, p5⟩
  refine ⟨jumpOf e, _, hrun, ?_⟩
  cases e with
  | normal => exact ⟨Ef, t, h2, .normal, hxf, hRf, hactf, rfl, hk⟩
  | ret =>
    have := (codeR_sound hS .ret t h2 k hk).out B Ef _ _ hRf hactf
    rw [hfe] at this
    exact wpIn_mono this post
  | exit i =>
    have := (codeR_sound hS (.exit i) t h2 k hk).out B Ef _ _ hRf hactf
    rw [hfe] at this
    exact wpIn_mono this post
  | goto i =>
    have := (codeR_sound hS (.goto i) t h2 k hk).out B Ef _ _ hRf hactf
    rw [hfe] at this
    exact wpIn_mono this post
  | pan v => exact absurd rfl (hpan v)
end Go.Abs
namespace Go.Abs
open Go.RowKit
variable {S : Seat}
def SealV (i : Nat) (cs : List AV) (v v' : AV) : Prop := ∀ E E' u, VExt E E' → (∀ p, VR E (.ptr i 0) p → VR E' (.iptr cs) p) → VR E v u → VR E' v' u
def SealL (i : Nat) (cs : List AV) : List AV → List AV → Prop
  | [], [] => True
  | v :: l, v' :: l' => SealV i cs v v' ∧ SealL i cs l l'
  | _, _ => False
theorem SealV.refl {i : Nat} {cs : List AV} (v : AV) : SealV i cs v v := fun _ _ u h _ hv => VR.mono h v u hv
theorem SealV.ptr {i : Nat} {cs : List AV} : SealV i cs (.ptr i 0) (.iptr cs) := fun _ _ u _ hp hv => hp u hv
theorem SealL.run {i : Nat} {cs : List AV} {E E' : Env} (h : VExt E E') (hp : ∀ p, VR E (.ptr i 0) p → VR E' (.iptr cs) p) : ∀ {l l' : List AV} {us : List Value}, SealL i cs l l' → VRL E l us → VRL E' l' us
  | [], [], us, _, hv => by simpa only [VRL] using hv
  | v :: l, v' :: l', us, hs, hv => by
    obtain ⟨u, us', rfl, h1, h2⟩ := hv.uncons
    exact VRL.cons (hs.1 E E' u h hp h1) (SealL.run h hp hs.2 h2)
  | [], _ :: _, _, hs, _ => hs.elim
  | _ :: _, [], _, hs, _ => hs.elim
theorem SealV.fn {i : Nat} {cs : List AV} {f : Nat} {a a' b b' : List AV} (ha : SealL i cs a a') (hb : SealL i cs b b') : SealV i cs (.fn f a b) (.fn f a' b') := fun E E' u h hp hv => by
  simp only [VR] at hv ⊢
  obtain ⟨us, ws, rfl, h1, h2⟩ := hv
  exact ⟨us, ws, rfl, ha.run h hp h1, hb.run h hp h2⟩
theorem SealL.refl {i : Nat} {cs : List AV} : ∀ l, SealL i cs l l
  | [] => trivial
  | v :: l => ⟨SealV.refl v, SealL.refl l⟩
end Go.Abs
namespace Go.Abs
variable {S : Seat}
theorem DrawH.cut {id : Nat} {ops : List Oper} {t : List AV} {h : Heap} {k : ExK} (T : List AV) (H : Heap) (h1 : DrawH S id ops t h (fun e t' h' => e = .normal ∧ WeakL t' T ∧ h' = H)) (h2 : k .normal T H) : DrawH S id ops t h k := by
  refine ⟨⟨fun B E w a hr ha => ?_⟩⟩
  refine wpIn_mono (h1.out.out B E w a hr ha) ?_
  rintro e a' w' ⟨E', t', h', x, p1, p2, p3, p4, rfl, p6, rfl⟩
  exact ⟨E', T, _, .normal, p1, p2, ⟨p6.run p3.1, p3.2⟩, p4, h2⟩
end Go.Abs
namespace Go.Abs
variable {S : Seat}
def storeK (sz o : Nat) (cs new : List AV) (k : List AV → Prop) : Prop :=
  match Nat.beq (lenN new) sz, natLe (o + lenN new) (lenN cs), okCells new with
  | true, true, true => spliceK cs o new k
  | _, _, _ => False
theorem storeK.mk {sz o : Nat} {cs new : List AV} {k : List AV → Prop} (cs' : List AV) (he : splice cs o new = cs') (h1 : new.length = sz) (h2 : o + new.length ≤ cs.length) (h3 : okCells new = true) (hk : k cs') : storeK sz o cs new k := by
  subst he
  have e1 : Nat.beq (lenN new) sz = true := by rw [lenN_eq, h1]; exact Nat.beq_refl sz
  have e2 : natLe (o + lenN new) (lenN cs) = true := natLe_eq.2 (by rw [lenN_eq, lenN_eq]; exact h2)
  unfold storeK
  rw [e1, e2, h3]
  simp only [spliceK_eq]
  exact hk
end Go.Abs
namespace Go.Abs
open Go.RowKit
variable {S : Seat}
mutual
def ren (ρ : Nat → Nat) : AV → AV
  | .ptr i o => .ptr (ρ i) o
  | .row i o len cap => .row (ρ i) o len cap
  | .cb i => .cb (ρ i)
  | .mapp i => .mapp (ρ i)
  | .vec cs len g => .vec (renL ρ cs) len (match g with | some i => some (ρ i) | none => none)
  | .iptr cs => .iptr (renL ρ cs)
  | .fn f a b => .fn f (renL ρ a) (renL ρ b)
  | .ifc t v => .ifc t (ren ρ v)
  | .agg cs => .agg (renL ρ cs)
  | .tup cs => .tup (renL ρ cs)
  | .undef => .undef
  | .bool b => .bool b
  | .int k n => .int k n
  | .str s => .str s
  | .nilp => .nilp
  | .nils => .nils
  | .nilf => .nilf
  | .nili => .nili
  | .nilm => .nilm
def renL (ρ : Nat → Nat) : List AV → List AV
  | [] => []
  | c :: cs => ren ρ c :: renL ρ cs
end
mutual
theorem Closed.ren (ρ : Nat → Nat) : ∀ (a : AV), Closed a → Abs.ren ρ a = a
  | .undef, _ => by simp only [Abs.ren]
  | .bool _, _ => by simp only [Abs.ren]
  | .int _ _, _ => by simp only [Abs.ren]
  | .str _, _ => by simp only [Abs.ren]
  | .nilp, _ => by simp only [Abs.ren]
  | .ptr i o, h => by simp only [Closed] at h
  | .iptr cs, h => by simp only [Closed] at h; simp only [Abs.ren]; rw [ClosedL.ren ρ cs h]
  | .nils, _ => by simp only [Abs.ren]
  | .vec cs len g, h => by
    simp only [Closed] at h; obtain ⟨rfl, h⟩ := h; simp only [Abs.ren]; rw [ClosedL.ren ρ cs h]
  | .row i o len cap, h => by simp only [Closed] at h
  | .nilf, _ => by simp only [Abs.ren]
  | .fn f a b, h => by simp only [Closed] at h; simp only [Abs.ren]; rw [ClosedL.ren ρ a h.1, ClosedL.ren ρ b h.2]
  | .cb i, h => by simp only [Closed] at h
  | .nili, _ => by simp only [Abs.ren]
  | .ifc t v, h => by simp only [Closed] at h; simp only [Abs.ren]; rw [Closed.ren ρ v h]
  | .agg cs, h => by simp only [Closed] at h; simp only [Abs.ren]; rw [ClosedL.ren ρ cs h]
  | .tup cs, h => by simp only [Closed] at h; simp only [Abs.ren]; rw [ClosedL.ren ρ cs h]
  | .mapp i, h => by simp only [Closed] at h
  | .nilm, _ => by simp only [Abs.ren]
theorem ClosedL.ren (ρ : Nat → Nat) : ∀ (cs : List AV), ClosedL cs → renL ρ cs = cs
  | [], _ => by simp only [renL]
  | c :: cs, h => by simp only [ClosedL] at h; simp only [renL]; rw [Closed.ren ρ c h.1, ClosedL.ren ρ cs h.2]
end
structure RenE (ρ : Nat → Nat) (E E' : Env) : Prop where
  blk : ∀ j, E'.blk (ρ j) = E.blk j
  tok : ∀ j, E'.tok (ρ j) = E.tok j
  cbv : ∀ j, E'.cbv (ρ j) = E.cbv j
  cbJ : ∀ j, E'.cbJ (ρ j) = E.cbJ j
  fp : ∀ j, E'.fp (ρ j) = E.fp j
  imm : E'.imm = E.imm
theorem tokOK_ren {ρ : Nat → Nat} {E E' : Env} (h : RenE ρ E E') {g : Option Nat} {len : Nat} {v : Value} : tokOK E' (match g with | some i => some (ρ i) | none => none) len v ↔ tokOK E g len v := by
  cases g with
  | none => exact Iff.intro (fun _ i hi => nomatch hi) (fun _ i hi => nomatch hi)
  | some j =>
    constructor
    · intro k i hi
      cases hi
      obtain ⟨F, v0, h1, h2⟩ := k (ρ j) rfl
      exact ⟨F, v0, by rw [← h.tok j]; exact h1, h2⟩
    · intro k i hi
      cases hi
      obtain ⟨F, v0, h1, h2⟩ := k j rfl
      exact ⟨F, v0, by rw [h.tok j]; exact h1, h2⟩
mutual
theorem VR_ren {ρ : Nat → Nat} {E E' : Env} (h : RenE ρ E E') : ∀ (a : AV) (v : Value), VR E' (ren ρ a) v ↔ VR E a v
  | .undef, _ => by simp only [ren, VR]
  | .bool b, v => by simp only [ren, VR]
  | .int k n, v => by simp only [ren, VR]
  | .str s, v => by simp only [ren, VR]
  | .nilp, v => by simp only [ren, VR]
  | .ptr i o, v => by simp only [ren, VR, h.blk]
  | .iptr cs, v => by
    simp only [ren, VR]
    exact ⟨fun ⟨b, o, e, hi⟩ => ⟨b, o, e, (VRI_ren h cs b o).1 hi⟩, fun ⟨b, o, e, hi⟩ => ⟨b, o, e, (VRI_ren h cs b o).2 hi⟩⟩
  | .nils, v => by simp only [ren, VR]
  | .vec cs len g, v => by
    simp only [ren, VR]
    refine ⟨?_, ?_⟩
    · rintro ⟨a, cap, e, hc, hi, ht⟩
      refine ⟨a, cap, e, hc, ?_, (tokOK_ren h).1 ht⟩
      rcases hi with hi | ⟨b, o, ha, hi⟩
      · exact .inl (by cases cs with | nil => rfl | cons c cs => simp [renL] at hi)
      · exact .inr ⟨b, o, ha, (VRI_ren h cs b o).1 hi⟩
    · rintro ⟨a, cap, e, hc, hi, ht⟩
      refine ⟨a, cap, e, hc, ?_, (tokOK_ren h).2 ht⟩
      rcases hi with hi | ⟨b, o, ha, hi⟩
      · exact .inl (by rw [hi]; simp only [renL])
      · exact .inr ⟨b, o, ha, (VRI_ren h cs b o).2 hi⟩
  | .row i o len cap, v => by simp only [ren, VR, h.blk]
  | .nilf, v => by simp only [ren, VR]
  | .fn f first caps, v => by
    simp only [ren, VR]
    exact ⟨fun ⟨us, ws, e, h1, h2⟩ => ⟨us, ws, e, (VRL_ren h first us).1 h1, (VRL_ren h caps ws).1 h2⟩, fun ⟨us, ws, e, h1, h2⟩ => ⟨us, ws, e, (VRL_ren h first us).2 h1, (VRL_ren h caps ws).2 h2⟩⟩
  | .cb i, v => by simp only [ren, VR, h.cbv]
  | .nili, v => by simp only [ren, VR]
  | .ifc t x, v => by
    simp only [ren, VR]
    exact ⟨fun ⟨u, e, hu⟩ => ⟨u, e, (VR_ren h x u).1 hu⟩, fun ⟨u, e, hu⟩ => ⟨u, e, (VR_ren h x u).2 hu⟩⟩
  | .agg cs, v => by
    simp only [ren, VR]
    exact ⟨fun ⟨us, e, hu⟩ => ⟨us, e, (VRL_ren h cs us).1 hu⟩, fun ⟨us, e, hu⟩ => ⟨us, e, (VRL_ren h cs us).2 hu⟩⟩
  | .tup cs, v => by
    simp only [ren, VR]
    exact ⟨fun ⟨us, e, hu⟩ => ⟨us, e, (VRL_ren h cs us).1 hu⟩, fun ⟨us, e, hu⟩ => ⟨us, e, (VRL_ren h cs us).2 hu⟩⟩
  | .mapp i, v => by simp only [ren, VR, h.blk]
  | .nilm, v => by simp only [ren, VR]
theorem VRI_ren {ρ : Nat → Nat} {E E' : Env} (h : RenE ρ E E') : ∀ (cs : List AV) (b o : Nat), VRI E' (renL ρ cs) b o ↔ VRI E cs b o
  | [], b, o => by simp only [renL, VRI]
  | c :: cs, b, o => by
    simp only [renL, VRI, h.imm]
    exact ⟨fun ⟨⟨u, e, hu⟩, hr⟩ => ⟨⟨u, e, (VR_ren h c u).1 hu⟩, (VRI_ren h cs b (o + 1)).1 hr⟩, fun ⟨⟨u, e, hu⟩, hr⟩ => ⟨⟨u, e, (VR_ren h c u).2 hu⟩, (VRI_ren h cs b (o + 1)).2 hr⟩⟩
theorem VRL_ren {ρ : Nat → Nat} {E E' : Env} (h : RenE ρ E E') : ∀ (cs : List AV) (us : List Value), VRL E' (renL ρ cs) us ↔ VRL E cs us
  | [], us => by simp only [renL, VRL]
  | c :: cs, us => by
    simp only [renL, VRL]
    exact ⟨fun ⟨u, us', e, hu, hr⟩ => ⟨u, us', e, (VR_ren h c u).1 hu, (VRL_ren h cs us').1 hr⟩, fun ⟨u, us', e, hu, hr⟩ => ⟨u, us', e, (VR_ren h c u).2 hu, (VRL_ren h cs us').2 hr⟩⟩
end
def renC (ρ : Nat → Nat) : Chunk → Chunk
  | .var cs t => .var (renL ρ cs) t
  | .ro cs => .ro (renL ρ cs)
  | .tok F t sz => .tok F t sz
  | .cb acc seen st => .cb acc seen st
  | .dead => .dead
  | .unborn => .unborn
def renR (ρ : Nat → Nat) : AEnd → AEnd
  | .ret v => .ret (ren ρ v)
  | .pan v => .pan (ren ρ v)
def renH (ρ : Nat → Nat) : Heap → Heap
  | [] => []
  | c :: h => renC ρ c :: renH ρ h
theorem renH_get (ρ : Nat → Nat) : ∀ (h : Heap) (i : Nat), (renH ρ h)[i]? = (h[i]?).map (renC ρ)
  | [], i => by simp [renH]
  | c :: a, 0 => by simp [renH]
  | c :: a, i + 1 => by simp [renH, renH_get ρ a i]
theorem CR_ren {ρ : Nat → Nat} {E E' : Env} (h : RenE ρ E E') {P : Program} {w : World} {j : Nat} : ∀ (c : Chunk), CR P E' w (ρ j) (renC ρ c) ↔ CR P E w j c
  | .var cs t => by simp only [renC, CR, h.blk, h.tok, h.imm, VRL_ren h]
  | .ro cs => by simp only [renC, CR, h.blk, VRI_ren h]
  | .tok F t sz => by simp only [renC, CR, h.tok, h.imm]
  | .cb acc seen st => by simp only [renC, CR, h.cbv, h.cbJ, h.fp, h.imm]
  | .dead => by simp only [renC, CR]
  | .unborn => by simp only [renC, CR, h.blk, h.tok, h.cbv]
theorem ownsC_ren {ρ : Nat → Nat} {E E' : Env} (h : RenE ρ E E') {j b : Nat} : ∀ (c : Chunk), ownsC E' (ρ j) (renC ρ c) b ↔ ownsC E j c b
  | .var cs t => by simp only [renC, ownsC, h.blk]
  | .ro cs => by simp only [renC, ownsC]
  | .tok F t sz => by simp only [renC, ownsC, h.tok]
  | .cb acc seen st => by simp only [renC, ownsC, h.fp]
  | .dead => by simp only [renC, ownsC]
  | .unborn => by simp only [renC, ownsC]
def rho : List Nat → Nat → Nat → Nat
  | [], n, j => n + j
  | i :: _, _, 0 => i
  | _ :: L, n, j + 1 => rho L n j
theorem rho_lt : ∀ {L : List Nat} {n j i : Nat}, L[j]? = some i → rho L n j = i
  | i0 :: L, n, 0, i, h => by simp at h; simp [rho, h]
  | i0 :: L, n, j + 1, i, h => by simp at h; simp [rho, rho_lt h]
theorem rho_ge : ∀ {L : List Nat} {n j : Nat}, L.length ≤ j → rho L n j = n + (j - L.length)
  | [], n, j, h => by simp [rho]
  | i0 :: L, n, 0, h => by simp at h
  | i0 :: L, n, j + 1, h => by simp at h; simp [rho, rho_ge h]
theorem rho_inj {L : List Nat} {n : Nat} (hn : L.Nodup) (hlt : ∀ i ∈ L, i < n) {a b : Nat} (h : rho L n a = rho L n b) : a = b := by
  by_cases ha : a < L.length
  · by_cases hb : b < L.length
    · rw [rho_lt (List.getElem?_eq_getElem ha), rho_lt (List.getElem?_eq_getElem hb)] at h
      exact (List.getElem_inj hn).1 h
    · rw [rho_lt (List.getElem?_eq_getElem ha), rho_ge (Nat.le_of_not_lt hb)] at h
      have := hlt _ (List.getElem_mem ha); omega
  · by_cases hb : b < L.length
    · rw [rho_lt (List.getElem?_eq_getElem hb), rho_ge (Nat.le_of_not_lt ha)] at h
      have := hlt _ (List.getElem_mem hb); omega
    · rw [rho_ge (Nat.le_of_not_lt ha), rho_ge (Nat.le_of_not_lt hb)] at h; omega
def mergeH (ρ : Nat → Nat) : List Nat → Heap → Heap → Heap
  | [], h0, h => h ++ renH ρ h0
  | i :: L, c :: h0, h => mergeH ρ L h0 (put h i (renC ρ c))
  | _ :: _, [], h => h
theorem mergeH_get (ρ : Nat → Nat) : ∀ (L : List Nat) (h0 h : Heap), L.Nodup → (∀ i ∈ L, i < h.length) → L.length ≤ h0.length →
    (∀ (j i : Nat), L[j]? = some i → (mergeH ρ L h0 h)[i]? = (h0[j]?).map (renC ρ)) ∧ (∀ (i : Nat), i < h.length → i ∉ L → (mergeH ρ L h0 h)[i]? = h[i]?) ∧ (∀ (q : Nat), (mergeH ρ L h0 h)[h.length + q]? = (h0[L.length + q]?).map (renC ρ))
  | [], h0, h, _, _, _ => by
    refine ⟨fun j i hj => by simp at hj, fun i hi _ => ?_, fun q => ?_⟩
    · simp only [mergeH]; rw [List.getElem?_append_left hi]
    · simp only [mergeH]; rw [List.getElem?_append_right (by omega), renH_get]; simp
  | i0 :: L, [], h, _, _, hl => by simp at hl
  | i0 :: L, c :: h0, h, hn, hlt, hl => by
    have hp : put h i0 (renC ρ c) = h.set i0 (renC ρ c) := put_set h i0 _ (hlt i0 (by simp))
    have hlen : (put h i0 (renC ρ c)).length = h.length := by rw [hp]; simp
    obtain ⟨hn0, hn⟩ := List.nodup_cons.1 hn
    obtain ⟨a, b, d⟩ := mergeH_get ρ L h0 (put h i0 (renC ρ c)) hn (fun i hi => by rw [hlen]; exact hlt i (by simp [hi])) (by simpa using hl)
    simp only [mergeH]
    refine ⟨fun j i hj => ?_, fun i hi hni => ?_, fun q => ?_⟩
    · cases j with
      | zero =>
        simp at hj; subst hj
        rw [b i0 (by rw [hlen]; exact hlt i0 (by simp)) hn0, put_same]; simp
      | succ j => simp at hj; rw [a j i hj]; simp
    · rw [b i (by rw [hlen]; exact hi) (fun h => hni (by simp [h])), hp, List.getElem?_set_ne (fun e => hni (by simp [e]))]
    · have := d q
      rw [hlen] at this; rw [this]
      simp [Nat.add_right_comm]
theorem ACalls.mem (hG : GOK S) {f : Nat} {args args0 : List AV} {hc h : Heap} {Q k : AEnd → Heap → Prop} (L : List Nat) (hA : ACalls S f args hc Q) (hn : L.Nodup) (hlt : ∀ i ∈ L, i < h.length) (ha : args0 = renL (rho L h.length) args) (hh : L.map (fun i => h[i]?) = (renH (rho L h.length) hc).map some)
    (hq : ∀ r h0, Q r h0 → L.length ≤ h0.length ∧ k (renR (rho L h.length) r) (mergeH (rho L h.length) L h0 h)) : ACalls S f args0 h k := by
  intro E w args' hm hrn hr hargs
  subst ha
  generalize hρ : rho L h.length = ρ at *
  have hlenc : hc.length = L.length := by
    have := congrArg List.length hh
    simp at this
    have hl : ∀ l : Heap, (renH ρ l).length = l.length := fun l => by induction l with | nil => rfl | cons c l ih => simp [renH, ih]
    rw [hl] at this; exact this.symm
  have inj : ∀ a b, ρ a = ρ b → a = b := fun a b e => by subst hρ; exact rho_inj hn hlt e
  have hat : ∀ j c, hc[j]? = some c → ∃ i, L[j]? = some i ∧ ρ j = i ∧ h[i]? = some (renC ρ c) := fun j c hj => by
    have h1 := congrArg (fun l => l[j]?) hh
    simp only [List.getElem?_map, renH_get, hj] at h1
    have hjl : j < L.length := by rw [← hlenc]; exact (List.getElem?_eq_some_iff.1 hj).1
    rw [List.getElem?_eq_getElem hjl] at h1
    simp at h1
    exact ⟨L[j], List.getElem?_eq_getElem hjl, by subst hρ; exact rho_lt (List.getElem?_eq_getElem hjl), h1⟩
  have hge : ∀ j, L.length ≤ j → ρ j = h.length + (j - L.length) := fun j hj => by subst hρ; exact rho_ge hj
  let Ec : Env := { blk := fun j => E.blk (ρ j), tok := fun j => E.tok (ρ j), fp := fun j => E.fp (ρ j), cbv := fun j => E.cbv (ρ j), cbJ := fun j => E.cbJ (ρ j), imm := E.imm, keep := fun b => b < w.heap.size ∧ ¬ ∃ j c, hc[j]? = some c ∧ ownsC E (ρ j) (renC ρ c) b, base := w, rnd := none, marks := [] }
  have hE : RenE ρ Ec E := ⟨fun _ => rfl, fun _ => rfl, fun _ => rfl, fun _ => rfl, fun _ => rfl, rfl⟩
  have hR : R S Ec hc w := by
    refine ⟨⟨fun j c hj => ?_, fun g cs hg => Closed.VRI (E := E) (E' := Ec) (fun _ _ _ h => h) cs g 0 (hG.glob g cs hg) (hr.r0.glob g cs hg), fun j hj => ?_, fun j c b hj ho => ?_, fun i j c d b hi hj h1 h2 => ?_, hr.r0.imm, fun l hl => (by cases hl), fun D hD => (by cases hD)⟩, ⟨fun _ _ => rfl, fun j c b hj ho hk => ?_, Nat.le_refl _, fun b hk => hk.1, Same3.refl w⟩⟩
    · obtain ⟨i, _, e, hi⟩ := hat j c hj
      have := hr.r0.ch i _ hi
      rw [← e] at this
      exact (CR_ren hE c).1 this
    · have hjl : L.length ≤ j := by rw [← hlenc]; exact List.getElem?_eq_none_iff.1 hj
      have := hr.r0.non (ρ j) (List.getElem?_eq_none (by rw [hge j hjl]; omega))
      exact this
    · obtain ⟨i, _, e, hi⟩ := hat j c hj
      have := (ownsC_ren hE (j := j) (b := b) c).2 ho
      rw [e] at this
      exact hr.r0.lt i _ b hi this
    · obtain ⟨i', _, e, hi⟩ := hat i c hi
      obtain ⟨j', _, e', hj⟩ := hat j d hj
      have o1 := (ownsC_ren hE (j := i) (b := b) c).2 h1
      have o2 := (ownsC_ren hE (j := j) (b := b) d).2 h2
      rw [e] at o1; rw [e'] at o2
      have := hr.r0.disj i' j' _ _ b hi hj o1 o2
      exact inj _ _ (by rw [e, e', this])
    · exact hk.2 ⟨j, c, hj, (ownsC_ren hE c).2 ho⟩
  refine (hA Ec w args' rfl rfl hR ((VRL_ren hE args args').1 hargs)).mono ?_
  rintro e w' ⟨E0, h0, r, hx, hm0, hR0, he, hQ⟩
  obtain ⟨hl0, hk⟩ := hq r h0 hQ
  obtain ⟨m1, m2, m3⟩ := mergeH_get ρ L h0 h hn hlt hl0
  have hkeep : ∀ b, Ec.keep b → w'.heap[b]? = w.heap[b]? := fun b hb => by
    have := hR0.kp.same b (by rw [hx.keep]; exact hb)
    rw [hx.base] at this; exact this
  have hsz : w.heap.size ≤ w'.heap.size := by have := hR0.kp.size; rw [hx.base] at this; exact this
  have hs3 : Same3 w w' := by have := hR0.kp.s3; rw [hx.base] at this; exact this
  have hEk : ∀ b, E.keep b → Ec.keep b := fun b hb => ⟨Nat.lt_of_lt_of_le (hr.kp.klt b hb) hr.kp.size, fun ⟨j, c, hj, ho⟩ => by
    obtain ⟨i, _, e, hi⟩ := hat j c hj
    rw [e] at ho
    exact hr.kp.keep i _ b hi ho hb⟩
  have hother : ∀ i c b, (∀ j, ρ j ≠ i) → h[i]? = some c → ownsC E i c b → Ec.keep b := fun i c b hne hi ho => ⟨hr.r0.lt i c b hi ho, fun ⟨j, c', hj, ho'⟩ => by
    obtain ⟨i', _, e, hi'⟩ := hat j c' hj
    rw [e] at ho'
    exact hne j (by rw [e]; exact (hr.r0.disj i i' _ _ b hi hi' ho ho').symm)⟩
  have hdec : ∀ i, (∃ j, ρ j = i) ∨ ∀ j, ρ j ≠ i := fun i => (Classical.em (∃ j, ρ j = i)).imp id fun h j e => h ⟨j, e⟩
  let pick : {α : Sort 1} → (Nat → α) → (Nat → α) → Nat → α := fun F G i => @dite _ (∃ j, ρ j = i) (Classical.propDecidable _) (fun hj => F (Classical.choose hj)) (fun _ => G i)
  have pick1 : ∀ {α : Sort 1} (F G : Nat → α) (j : Nat), pick F G (ρ j) = F j := fun F G j => by
    have hj : ∃ j', ρ j' = ρ j := ⟨j, rfl⟩
    refine (@dif_pos _ (Classical.propDecidable _) hj _ _ _).trans ?_
    rw [inj _ _ (Classical.choose_spec hj)]
  have pick2 : ∀ {α : Sort 1} (F G : Nat → α) (i : Nat), (∀ j, ρ j ≠ i) → pick F G i = G i := fun F G i hi => by
    exact @dif_neg _ (Classical.propDecidable _) (fun ⟨j, e⟩ => hi j e) _ _ _
  let E' : Env := { blk := pick E0.blk E.blk, tok := pick E0.tok E.tok, fp := pick E0.fp E.fp, cbv := pick E0.cbv E.cbv, cbJ := pick E0.cbJ E.cbJ, imm := E0.imm, keep := E.keep, base := E.base, rnd := none, marks := [] }
  have hE' : RenE ρ E0 E' := ⟨fun j => pick1 _ _ j, fun j => pick1 _ _ j, fun j => pick1 _ _ j, fun j => pick1 _ _ j, fun j => pick1 _ _ j, rfl⟩
  have hext : Ext E E' := by
    refine ⟨fun i b hb => ?_, fun i F v hv => ?_, fun i v hv => ?_, hx.imm, fun b o hb => hx.new b o (hEk b hb), rfl, rfl, hrn.symm⟩
    · rcases hdec i with ⟨j, rfl⟩ | hi
      · rw [hE'.blk]; exact hx.blk j b hb
      · exact (pick2 _ _ i hi).trans hb
    · rcases hdec i with ⟨j, rfl⟩ | hi
      · rw [hE'.tok]; exact hx.tok j F v hv
      · exact ⟨F, v, (pick2 _ _ i hi).trans hv, .inr ⟨rfl, rfl⟩⟩
    · rcases hdec i with ⟨j, rfl⟩ | hi
      · rw [hE'.cbv, hE'.cbJ]; exact hx.cbv j v hv
      · exact ⟨(pick2 _ _ i hi).trans hv, pick2 _ _ i hi⟩
  have hnum : ∀ i c, (mergeH ρ L h0 h)[i]? = some c → (∃ j c0, ρ j = i ∧ h0[j]? = some c0 ∧ c = renC ρ c0) ∨ ((∀ j, ρ j ≠ i) ∧ h[i]? = some c) := fun i c hi => by
    by_cases hil : h.length ≤ i
    · have := m3 (i - h.length)
      rw [show h.length + (i - h.length) = i by omega, hi] at this
      cases hq : h0[L.length + (i - h.length)]? with
      | none => rw [hq] at this; simp at this
      | some c0 =>
        rw [hq] at this
        exact .inl ⟨L.length + (i - h.length), c0, by rw [hge _ (by omega)]; omega, hq, by simpa using this⟩
    · have hlt' : i < h.length := Nat.lt_of_not_le hil
      by_cases hin : i ∈ L
      · obtain ⟨j, hj, rfl⟩ := List.getElem_of_mem hin
        have hj' := List.getElem?_eq_getElem hj
        have := m1 j _ hj'
        rw [hi] at this
        cases hq : h0[j]? with
        | none => rw [hq] at this; simp at this
        | some c0 =>
          rw [hq] at this
          exact .inl ⟨j, c0, by subst hρ; exact rho_lt hj', hq, by simpa using this⟩
      · rw [m2 i hlt' hin] at hi
        refine .inr ⟨fun j e => ?_, hi⟩
        by_cases hj : j < L.length
        · have e2 : ρ j = L[j] := by subst hρ; exact rho_lt (List.getElem?_eq_getElem hj)
          exact hin (by rw [← e, e2]; exact List.getElem_mem hj)
        · rw [hge j (Nat.le_of_not_lt hj)] at e; omega
  have oc2 : ∀ i, (∀ j, ρ j ≠ i) → ∀ c b, ownsC E' i c b ↔ ownsC E i c b := fun i hi c b => ownsC_congr (pick2 _ _ i hi) (pick2 _ _ i hi) (pick2 _ _ i hi) c b
  have hnk : ∀ j c0 b, h0[j]? = some c0 → ownsC E0 j c0 b → ¬ Ec.keep b := fun j c0 b hj ho => by
    have := hR0.kp.keep j c0 b hj ho
    rw [hx.keep] at this; exact this
  refine ⟨E', mergeH ρ L h0 h, renR ρ r, hext, rfl, ⟨⟨fun i c hi => ?_, fun g cs hg => ?_, fun i hi => ?_, fun i c b hi ho => ?_, fun i i' c d b hi hi' h1 h2 => ?_, hR0.r0.imm, fun l hl => (by cases hl), fun D hD => (by cases hD)⟩, ⟨fun b hb => ?_, fun i c b hi ho hb => ?_, Nat.le_trans hr.kp.size hsz, hr.kp.klt, hr.kp.s3.trans hs3⟩⟩, ?_, hk⟩
  · rcases hnum i c hi with ⟨j, c0, rfl, hj, rfl⟩ | ⟨hne, hi⟩
    · exact (CR_ren hE' c0).2 (hR0.r0.ch j c0 hj)
    · exact (hr.r0.ch i c hi).move hext.v (pick2 _ _ i hne) (pick2 _ _ i hne) (pick2 _ _ i hne) (pick2 _ _ i hne) (pick2 _ _ i hne) (fun b ho => hkeep b (hother i c b hne hi ho)) (fun b ho o => hx.new b o (hother i c b hne hi ho)) hR0.r0.imm hsz hs3
  · exact Closed.VRI hext.imm cs g 0 (hG.glob g cs hg) (hr.r0.glob g cs hg)
  · have hil : h.length ≤ i := by
      apply Nat.le_of_not_lt; intro hlt'
      by_cases hin : i ∈ L
      · obtain ⟨j, hj, rfl⟩ := List.getElem_of_mem hin
        rw [m1 j _ (List.getElem?_eq_getElem hj), List.getElem?_eq_getElem (Nat.lt_of_lt_of_le hj hl0)] at hi
        simp at hi
      · rw [m2 i hlt' hin, List.getElem?_eq_getElem hlt'] at hi; cases hi
    have := m3 (i - h.length)
    rw [show h.length + (i - h.length) = i by omega, hi] at this
    have hq : h0[L.length + (i - h.length)]? = none := by
      cases hq : h0[L.length + (i - h.length)]? with
      | none => rfl
      | some c0 => rw [hq] at this; simp at this
    have e : ρ (L.length + (i - h.length)) = i := by rw [hge _ (by omega)]; omega
    have := hR0.r0.non _ hq
    refine ⟨?_, ?_, ?_⟩
    · have := this.1; rw [← hE'.blk, e] at this; exact this
    · have := this.2.1; rw [← hE'.tok, e] at this; exact this
    · have := this.2.2; rw [← hE'.cbv, e] at this; exact this
  · rcases hnum i c hi with ⟨j, c0, rfl, hj, rfl⟩ | ⟨hne, hi⟩
    · exact hR0.r0.lt j c0 b hj ((ownsC_ren hE' c0).1 ho)
    · exact Nat.lt_of_lt_of_le (hr.r0.lt i c b hi ((oc2 i hne c b).1 ho)) hsz
  · rcases hnum i c hi with ⟨j, c0, rfl, hj, rfl⟩ | ⟨hne, hi⟩ <;> rcases hnum i' d hi' with ⟨j', c0', rfl, hj', rfl⟩ | ⟨hne', hi'⟩
    · rw [hR0.r0.disj j j' _ _ b hj hj' ((ownsC_ren hE' c0).1 h1) ((ownsC_ren hE' c0').1 h2)]
    · exact (hnk j c0 b hj ((ownsC_ren hE' c0).1 h1) (hother i' d b hne' hi' ((oc2 i' hne' d b).1 h2))).elim
    · exact (hnk j' c0' b hj' ((ownsC_ren hE' c0').1 h2) (hother i c b hne hi ((oc2 i hne c b).1 h1))).elim
    · exact hr.r0.disj i i' c d b hi hi' ((oc2 i hne c b).1 h1) ((oc2 i' hne' d b).1 h2)
  · show w'.heap[b]? = E.base.heap[b]?
    rw [hkeep b (hEk b hb)]; exact hr.kp.same b hb
  · rcases hnum i c hi with ⟨j, c0, rfl, hj, rfl⟩ | ⟨hne, hi⟩
    · exact hnk j c0 b hj ((ownsC_ren hE' c0).1 ho) (hEk b hb)
    · exact hr.kp.keep i c b hi ((oc2 i hne c b).1 ho) hb
  · cases r with
    | ret v => obtain ⟨u, e1, e2⟩ := he; exact ⟨u, e1, (VR_ren hE' v u).2 e2⟩
    | pan v => obtain ⟨u, e1, e2⟩ := he; exact ⟨u, e1, (VR_ren hE' v u).2 e2⟩
theorem CallH.mem (hG : GOK S) {f : Nat} {args args0 : List AV} {hc h hc' h' : Heap} {v v' : AV} {k : AEnd → Heap → Prop} (L : List Nat) (hA : ACalls S f args hc (fun r h' => r = .ret v ∧ h' = hc')) (hn : L.Nodup) (hlt : ∀ i ∈ L, i < h.length) (ha : args0 = renL (rho L h.length) args) (hh : L.map (fun i => h[i]?) = (renH (rho L h.length) hc).map some)
    (hl : L.length ≤ hc'.length) (hv : ren (rho L h.length) v = v') (hm : mergeH (rho L h.length) L hc' h = h') (hk : k (.ret v') h') : CallH S f args0 h k :=
  ⟨ACalls.mem hG L hA hn hlt ha hh fun r h0 hQ => by
    obtain ⟨rfl, rfl⟩ := hQ
    refine ⟨hl, ?_⟩
    rw [hm]; simp only [renR, hv]; exact hk⟩
theorem ACalls.take (hG : GOK S) {f : Nat} {args : List AV} {hc hc' : Heap} {v : AV} (n : Nat) (hn : hc.length ≤ n) (hv : Ids (· < n) v) (hI : IdsH (· < n) hc') (hA : ACalls S f args hc (fun r h' => r = .ret v ∧ takeH n h' = hc')) : ACalls S f args hc (fun r h' => r = .ret v ∧ h' = hc') := by
  intro E w args' hm hrn hr ha
  refine (hA E w args' hm hrn hr ha).mono ?_
  rintro e w' ⟨E', h', r, hx, hm', hr', he, rfl, rfl⟩
  obtain ⟨u, rfl, hu⟩ := he
  exact ⟨E'.forget n, takeH n h', .ret v, hx.forget fun i hi => hr.r0.non i (List.getElem?_eq_none (Nat.le_trans hn hi)), hm', hr'.forget hG n hI, ⟨u, rfl, Ids.VR (SameOn.forget E' n) v u hv hu⟩, rfl, rfl⟩
theorem CallH.mem1 (hG : GOK S) {f : Nat} {args args0 : List AV} {cs cs' : List AV} {e e' : Nat} {h : Heap} {v : AV} {k : AEnd → Heap → Prop} (i : Nat) (hA : ACalls S f args [.var cs e] (fun r h' => r = .ret v ∧ h' = [.var cs' e'])) (hi : getO h i = some (.var cs e)) (hcs : ClosedL cs) (hcs' : ClosedL cs') (hv : Closed v)
    (ha : args0 = renL (rho [i] h.length) args) (hk : k (.ret v) (put h i (.var cs' e'))) : CallH S f args0 h k := by
  rw [getO_eq] at hi
  have hlt : i < h.length := (List.getElem?_eq_some_iff.1 hi).1
  refine CallH.mem hG [i] hA (by simp) (by simpa using hlt) ha ?_ (by simp) (Closed.ren _ _ hv) (h' := put h i (.var cs' e')) ?_ hk
  · simp [renH, renC, ClosedL.ren _ _ hcs, hi]
  · simp [mergeH, renH, renC, ClosedL.ren _ _ hcs']
end Go.Abs
namespace Go.Abs
open Go.RowKit
variable {S : Seat}
theorem R.weakVar {E : Env} {h : Heap} {w : World} (hr : R S E h w) {i : Nat} {cs cs' : List AV} {e : Nat} (hi : h[i]? = some (.var cs e)) (hw : ∀ us, VRL E cs us → VRL E cs' us) : R S E (put h i (.var cs' e)) w := by
  obtain ⟨b, us, h1, h2, h3, h4, h5⟩ := hr.r0.ch i _ hi
  refine hr.step {
    v := (Ext.refl E).v
    blk := fun _ _ => rfl
    tok := fun _ _ => rfl
    cbv := fun _ _ => rfl, cbJ := fun _ _ => rfl, fp := fun _ _ => rfl
    own := fun _ _ _ _ _ _ => rfl
    ownI := fun _ _ _ _ _ _ _ => rfl
    ok := hr.r0.imm
    cr := ⟨b, us, h1, h2, hw us h3, h4, h5⟩
    new := fun b' ho => ?_
    kp := fun _ _ => rfl
    size := Nat.le_refl _
    s3 := Same3.refl w
    hrnd := fun _ _ => rfl
    hmks := fun _ _ => rfl
    keep := rfl, base := rfl, rnd := rfl, marks := rfl }
  have ho' : ownsC E i (.var cs e) b' := ho
  exact ⟨hr.r0.lt i _ b' hi ho', hr.kp.keep i _ b' hi ho', fun j d hj hd hod => hj (hr.r0.disj j i d _ b' hd hi hod ho'), fun hl => (hr.r0.rnd b' hl).2 i _ hi ho', fun hD => (hr.r0.mks b' hD).2.2 i _ hi ho'⟩
theorem Sat.nilTokH {c : Code} {t : List AV} {h : Heap} {k : ExK} (i j e sz : Nat) {cs : List AV} {ct : Nat} (hi : getO h i = some (.var cs ct)) (hj : getT cs j = .nils)
    (hs : Sat S c t (put h i (.var (cs.set j (.vec [] 0 (some h.length))) ct) ++ [.tok 0 e sz]) k) : Sat S c t h k := by
  refine ⟨fun B E w a hr ha => ?_⟩
  rw [getO_eq] at hi
  have hlt : i < h.length := (List.getElem?_eq_some_iff.1 hi).1
  obtain ⟨E', hx, hm, hr', hv⟩ := hr.nilTok e sz
  have hw : ∀ us, VRL E' cs us → VRL E' (cs.set j (.vec [] 0 (some h.length))) us := fun us hu => by
    refine VRL.of_get (by rw [List.length_set]; exact hu.length) fun q c u hc hq => ?_
    rw [List.getElem?_set] at hc
    split at hc
    · rename_i e0; subst e0
      split at hc
      · cases hc
        rw [getT_eq] at hj
        obtain ⟨c0, hc0⟩ : ∃ c0, cs[j]? = some c0 := ⟨cs[j], List.getElem?_eq_getElem (by assumption)⟩
        rw [hc0] at hj; simp only [Option.getD_some] at hj; subst hj
        obtain ⟨u', hu', hvu⟩ := hu.get j _ hc0
        rw [hq] at hu'; cases hu'
        refine hv u ?_
        simp only [VR] at hvu ⊢; exact hvu
      · cases hc
    · obtain ⟨u', hu', hvu⟩ := hu.get q c hc
      rw [hq] at hu'; cases hu'
      exact hvu
  have hr2 := hr'.weakVar (i := i) (cs := cs) (e := ct) (by rw [List.getElem?_append_left hlt]; exact hi) hw
  have hpe : put (h ++ [.tok 0 e sz]) i (.var (cs.set j (.vec [] 0 (some h.length))) ct) = put h i (.var (cs.set j (.vec [] 0 (some h.length))) ct) ++ [.tok 0 e sz] := by
    rw [put_set _ _ _ (by simp; omega), put_set _ _ _ hlt, List.set_append_left _ _ hlt]
  rw [hpe] at hr2
  have := hs.out B E' w a hr2 ⟨ha.1.mono hx.v, by rw [hm]; exact ha.2⟩
  rw [fen_ext hx] at this
  exact wpIn_mono this fun _ _ _ h => h.ext hx
end Go.Abs
namespace Go.Abs
open Go.RowKit
variable {S : Seat}
end Go.Abs
namespace Go.Abs
open Go.RowKit
variable {S : Seat} {B : List Deferred}
def PostM (S : Seat) (B : List Deferred) (E : Env) (k : ExK) (e : Exit) (a : Act) (w : World) : Prop :=
  ∃ E' t h x, Ext E E' ∧ E'.marks = E.marks ∧ R S E' h w ∧ ActR B E' t a ∧ ExitR E' x e ∧ k x t h
theorem PostM.ext {E E' : Env} {k : ExK} {e : Exit} {a : Act} {w : World} (hx : Ext E E') (hm : E'.marks = E.marks) (h : PostM S B E' k e a w) : PostM S B E k e a w := by
  obtain ⟨E2, t, hp, x, h1, h2, h3⟩ := h
  exact ⟨E2, t, hp, x, hx.trans h1, h2.trans hm, h3⟩
def ModeR (E : Env) : Option AV → FrameMode → Prop
  | none, u => u = .returning
  | some v, u => ∃ p, u = .panicking [{ v := p, recovered := false }] ∧ VR E v p
def DCalls (S : Seat) (g : Nat) (caps : List AV) (h : Heap) (m : Option AV) (K : Option AV → Heap → Prop) : Prop :=
  ∀ (E : Env) (w : World) (caps' : List Value) (u : FrameMode), E.marks = [] → E.rnd = none → R S E h w → VRL E caps caps' → ModeR E m u →
    CallsDIn Fence.wide 0 S.P g caps'.toArray u w fun e u' w' => (∃ v, e = .returned v) ∧ ∃ E' h' m', Ext E E' ∧ E'.marks = [] ∧ R S E' h' w' ∧ ModeR E' m' (settle u') ∧ K m' h'
structure DCallH (S : Seat) (g : Nat) (caps : List AV) (h : Heap) (m : Option AV) (K : Option AV → Heap → Prop) : Prop where
  out : DCalls S g caps h m K
end Go.Abs
namespace Go.Abs
open Go.RowKit
variable {S : Seat}
section
variable {F : Fence} {n : Nat} {P : Program} {a : Act} {w : World} {Q : Exit → Act → World → Prop}
theorem stepR_scope {b : Frame} {k : List Item} {cs : List Frame} {c : Code} : step P (lone (b.atR a (.code (.scope c) :: k)) cs w) = .next (lone (b.atR a (.code c :: .inScope c :: k)) cs w) :=
  step_lone_go (by simp [stepG, stepG.exec, Frame.atR])
theorem stepR_inScope {b : Frame} {k : List Item} {cs : List Frame} {c : Code} : step P (lone (b.atR a (.inScope c :: k)) cs w) = .next (lone (b.atR a k) cs w) :=
  step_lone_go (by simp [stepG, stepG.exec, Frame.atR])
theorem wpIn_scope_straight {c : Code} (h : c.wpIn F n P (Exit.noGoto Q) a w) : (Code.scope c).wpIn F n P Q a w := by
  intro b k cs hro hb hr
  have h0 : (lone (b.atR a (.code (.scope c) :: k)) cs w).fenced P F := fenced_calm hb hr rfl
  obtain ⟨e, a₁, w₁, hq, harr⟩ := h b (.inScope c :: k) cs hro hb hr
  cases e with
  | normal => exact ⟨.normal, a₁, w₁, hq, .head h0 stepR_scope (StepsIn.trans harr (.one (fenced_calm hb hr rfl) stepR_inScope))⟩
  | exit id =>
    have hx : exitTo id (.inScope c :: k) = exitTo id k := by simp [exitTo]
    exact ⟨.exit id, a₁, w₁, hq, fun k' hk => .head h0 stepR_scope (harr.1 k' (by rw [hx]; exact hk)),
      fun hr' hk => let ⟨k₁, h1, h2⟩ := harr.2 hr' (by rw [hx]; exact hk); ⟨k₁, h1, .head h0 stepR_scope h2⟩⟩
  | goto l => exact hq.elim
  | ret => exact ⟨_, a₁, w₁, hq, .of_steps (.one h0 stepR_scope) harr⟩
  | panic ch => exact ⟨_, a₁, w₁, hq, .of_steps (.one h0 stepR_scope) harr⟩
  | outgrown => exact ⟨_, a₁, w₁, hq, .of_steps (.one h0 stepR_scope) harr⟩
end
theorem Sat.scope (hS : SeatOK S) {b : Code} {t : List AV} {h : Heap} {k : ExK} (hb : codeR S b t h (fun x t' h' => match x with
      | .normal => k .normal t' h'
      | .exit j => k (.exit j) t' h'
      | .goto _ => False
      | .ret => k .ret t' h'
      | .pan v => k (.pan v) t' h')) : Sat S (.scope b) t h k := by
  refine ⟨fun B E w a hr ha => wpIn_scope_straight (wpIn_mono ((codeR_sound hS b t h _ hb).out B E w a hr ha) ?_)⟩
  rintro e a' w' ⟨E', t', h', x, g1, g2, g3, g4, g5⟩
  cases x with
  | goto l => exact g5.elim
  | normal => cases e <;> first | exact ⟨E', t', h', _, g1, g2, g3, g4, g5⟩ | (simp [ExitR] at g4)
  | exit j => cases e <;> first | exact ⟨E', t', h', _, g1, g2, g3, g4, g5⟩ | (simp [ExitR] at g4)
  | ret => cases e <;> first | exact ⟨E', t', h', _, g1, g2, g3, g4, g5⟩ | (simp [ExitR] at g4)
  | pan v => cases e <;> first | exact ⟨E', t', h', _, g1, g2, g3, g4, g5⟩ | (simp [ExitR] at g4)
end Go.Abs
namespace Go.Abs
open Go.RowKit
variable {S : Seat}
theorem ACalls.bodyS (hS : SeatOK S) {f : Nat} {fn : Func} {c : Code} (hf : S.P.funcs[f]? = some fn) (hb : fn.body = some c) (hn : (fn.name == "runtime.NumGoroutine") = false) {args : List AV} {h : Heap} {Q : AEnd → Heap → Prop}
    (hk : Sat S c (appL args (undefs (fn.ntmps - lenN args))) h (fun x t h' => match x with
    | .normal => resK S t h' fn.results.toList (fun vs => Q (.ret (retK vs)) h')
    | .ret => resK S t h' fn.results.toList (fun vs => Q (.ret (retK vs)) h')
    | .pan v => Q (.pan v) h'
    | _ => False)) : ACalls S f args h Q := by
  intro E w args' hm hrn hr ha
  refine .inl ⟨?_, ?_⟩
  · unfold callFunc
    simp only [beq_eq_false_iff_ne, ne_eq] at hn
    simp [Sem.run_bind, go_sem, hf, hn, hb]
  · rw [← callsIn_wide (n := 0)]
    refine callsIn_of_wp_marks hf hb trivial ?_
    have hact : ActR [] E (appL args (undefs (fn.ntmps - lenN args))) { tmps := args'.toArray ++ Array.replicate (fn.ntmps - args'.toArray.size) undef, defers := [] } := by
      refine ⟨?_, by rw [hm]; exact ⟨rfl, List.nodup_nil⟩⟩
      rw [appL_eq, undefs_eq, lenN_eq, ha.length]
      simp only [Array.toList_append, Array.toList_replicate, List.size_toArray]
      exact ha.append (VRL.replicate_undef _ _ (by simp))
    have := hk.out [] E w _ hr hact
    have hfen : fen E = Fence.wide := by unfold fen; rw [hrn]
    rw [hfen] at this
    refine wpIn_mono this ?_
    rintro e a' w' ⟨E', t', h', x, h1, h2, h3, h4, h5⟩
    have hres : ∀ (w' : World), R S { E' with marks := [] } h' w' → resK S t' h' fn.results.toList (fun vs => Q (.ret (retK vs)) h') → LeavesIn Fence.wide 0 S.P fn a'.tmps (fun e w' => ∃ E' h' r, Ext E E' ∧ E'.marks = [] ∧ R S E' h' w' ∧ EndR E' r e ∧ Q r h') [] .returning w' := by
      intro w' hr' hk
      have ht : VRL { E' with marks := [] } t' a'.tmps.toList := VRL.mono (VExt.of_eq (E := E') (E' := { E' with marks := [] }) rfl rfl rfl rfl) _ _ h3.1
      obtain ⟨vs, us, hq, hvs, hrun⟩ := resK_run hS hr' ht _ _ hk
      have hrun2 : (results fn a'.tmps).run S.P w' = .ok (if h : us.toArray.size = 1 then us.toArray[0] else .tuple us.toArray) w' := by
        rw [results_eq, Sem.run_bind, Array.mapM_eq_mapM_toList, map_eq_pure_bind, Sem.run_bind, hrun]
        rfl
      refine ⟨_, hrun2, { E' with marks := [] }, h', .ret (retK vs), ⟨h1.blk, h1.tok, h1.cbv, h1.imm, h1.new, h1.keep, h1.base, h1.rnd⟩, rfl, hr', ⟨_, rfl, ?_⟩, hq⟩
      have hl := hvs.length
      match vs, us, hvs, hl with
      | [], [], hvs, _ => simpa [retK, VR] using hvs
      | [v], [u], hvs, _ => obtain ⟨_, _, e, h1, _⟩ := hvs.uncons; cases e; simpa [retK] using h1
      | v1 :: v2 :: vs, u1 :: u2 :: us, hvs, _ =>
        have : ¬ (u1 :: u2 :: us).toArray.size = 1 := by simp
        rw [dif_neg this]
        simp only [retK, VR]
        exact ⟨_, rfl, hvs⟩
    cases x with
    | normal =>
      simp only [ExitR] at h4; subst h4
      show LeavesInM _ _ _ _ _ _ _ _ _
      rw [h3.2.1, List.append_nil]
      exact leaves_of (by simp) E'.marks E' w' rfl h3.2.2 h2 fun w' hr' => hres w' hr' h5
    | ret =>
      simp only [ExitR] at h4; subst h4
      show LeavesInM _ _ _ _ _ _ _ _ _
      rw [h3.2.1, List.append_nil]
      exact leaves_of (by simp) E'.marks E' w' rfl h3.2.2 h2 fun w' hr' => hres w' hr' h5
    | pan v =>
      obtain ⟨u, rfl, hu⟩ := h4
      show LeavesInM _ _ _ _ _ _ _ _ _
      rw [h3.2.1, List.append_nil]
      exact leaves_of (by simp) E'.marks E' w' rfl h3.2.2 h2 fun w' hr' => ⟨{ E' with marks := [] }, h', .pan v, ⟨h1.blk, h1.tok, h1.cbv, h1.imm, h1.new, h1.keep, h1.base, h1.rnd⟩, rfl, hr', ⟨u, rfl, VR.mono (VExt.of_eq (E := E') (E' := { E' with marks := [] }) rfl rfl rfl rfl) _ _ hu⟩, h5⟩
    | exit i => exact h5.elim
    | goto i => exact h5.elim
def splitC : Nat → Code → Code × Code
  | 0, c => (.skip, c)
  | n + 1, .seq x y => (.seq x (splitC n y).1, (splitC n y).2)
  | _ + 1, c => (.skip, c)
theorem Sat.weakT {c : Code} {t t2 : List AV} {h : Heap} {k : ExK} (hw : WeakL t t2) (hs : Sat S c t2 h k) : Sat S c t h k :=
  ⟨fun B E w a hr ha => hs.out B E w a hr ⟨WeakL.run hw ha.1, ha.2⟩⟩
theorem Sat.seq {x y : Code} {t : List AV} {h : Heap} {k : ExK} (hx : Sat S x t h (fun e t' h' => match e with
      | .normal => Sat S y t' h' k
      | .exit i => k (.exit i) t' h'
      | .goto i => k (.goto i) t' h'
      | .ret => k .ret t' h'
      | .pan v => k (.pan v) t' h')) : Sat S (.seq x y) t h k := by
  refine ⟨fun B E w a hr ha => wpIn_seq (wpIn_mono (hx.out B E w a hr ha) ?_)⟩
  rintro e a' w' ⟨E', t', h', z, h1, h2, h3, h4, h5⟩
  cases z with
  | normal =>
    simp only [ExitR] at h4; subst h4
    have := h5.out B E' w' a' h2 h3
    rw [fen_ext h1] at this
    exact wpIn_mono this fun _ _ _ h => h.ext h1
  | exit i => simp only [ExitR] at h4; subst h4; exact ⟨E', t', h', .exit i, h1, h2, h3, rfl, h5⟩
  | goto i => simp only [ExitR] at h4; subst h4; exact ⟨E', t', h', .goto i, h1, h2, h3, rfl, h5⟩
  | ret => simp only [ExitR] at h4; subst h4; exact ⟨E', t', h', .ret, h1, h2, h3, rfl, h5⟩
  | pan v => obtain ⟨u, rfl, hu⟩ := h4; exact ⟨E', t', h', .pan v, h1, h2, h3, ⟨u, rfl, hu⟩, h5⟩
theorem Sat.splitAt (hS : SeatOK S) (P : List AV → Heap → Prop) {k : ExK} : ∀ (n : Nat) {c : Code} {t : List AV} {h : Heap}
    (h1 : codeR S (splitC n c).1 t h (fun x t' h' => match x with
      | .normal => ∃ t2, WeakL t' t2 ∧ P t2 h'
      | .exit i => k (.exit i) t' h'
      | .goto i => k (.goto i) t' h'
      | .ret => k .ret t' h'
      | .pan v => k (.pan v) t' h'))
    (h2 : ∀ t h, P t h → Sat S (splitC n c).2 t h k), Sat S c t h k
  | 0, c, t, h, h1, h2 => by
    obtain ⟨t2, hw, hp⟩ := h1
    exact (h2 t2 h hp).weakT hw
  | n + 1, c, t, h, h1, h2 => by
    cases c with
    | seq x y =>
      refine Sat.seq ((codeR_sound hS x t h _ h1).mono fun e t' h' he => ?_)
      cases e with
      | normal => exact Sat.splitAt hS P n he h2
      | exit i => exact he
      | goto i => exact he
      | ret => exact he
      | pan v => exact he
    | _ =>
      obtain ⟨t2, hw, hp⟩ := h1
      exact (h2 t2 h hp).weakT hw
end Go.Abs
namespace Go.Abs
open Go.RowKit
variable {S : Seat}
end Go.Abs
namespace Go.Abs
open Go.RowKit
variable {S : Seat} {B : List Deferred}
end Go.Abs
namespace Go.Abs
open Go.RowKit
variable {S : Seat} {B : List Deferred}
theorem WeakL.vri {E : Env} : ∀ {cs cs' : List AV} {b o : Nat}, WeakL cs cs' → VRI E cs b o → VRI E cs' b o
  | [], [], _, _, _, _ => by simp only [VRI]
  | c :: cs, c' :: cs', b, o, hw, h => by
    simp only [VRI] at h ⊢
    obtain ⟨⟨u, hu, hv⟩, hr⟩ := h
    exact ⟨⟨u, hu, hw.1 E u hv⟩, WeakL.vri hw.2 hr⟩
  | [], _ :: _, _, _, hw, _ => hw.elim
  | _ :: _, [], _, _, hw, _ => hw.elim
theorem Weak.vec {cs cs' : List AV} {n : Nat} {g : Option Nat} (h : WeakL cs cs') : Weak (.vec cs n g) (.vec cs' n g) := fun E u hv => by
  simp only [VR] at hv ⊢
  obtain ⟨a, cap, h1, h2, h3, h4⟩ := hv
  refine ⟨a, cap, h1, h2, ?_, h4⟩
  rcases h3 with rfl | ⟨b, o, h5, h6⟩
  · cases cs' with
    | nil => exact .inl rfl
    | cons c l => exact h.elim
  · exact .inr ⟨b, o, h5, WeakL.vri h h6⟩
theorem WeakL.set : ∀ {l : List AV} (i : Nat) {a b : AV}, Weak a b → WeakL (l.set i a) (l.set i b)
  | [], _, _, _, _ => trivial
  | _ :: l, 0, _, _, h => ⟨h, WeakL.refl l⟩
  | _ :: _, i + 1, _, _, h => ⟨Weak.refl _, WeakL.set i h⟩
end Go.Abs
namespace Go.Proofs.YtinjgnaimmenbaaDoor
open Go.Abs
def nextL : List Int := [2, 3, 0, 1, 2, 3, 0, 0, 2, 4, 6, 0, 5, 0, 0, 0, 5, 0, 6, 0, 5, 0, 6, 0, 8, 0, 0, 7, 8, 0, 0, 0, 8, 0, 0, 0]
def nextT (s : Nat) (k : Int) : Nat := (nextL[s * 4 + k.toNat]?.getD 0).toNat
def endsT (s : Nat) : Bool := s == 2 || s == 4 || s == 5 || s == 8
def stopT (signed : Bool) (st : Nat) (k : Int) : Bool := decide (k < 0) || (decide (k = 3) && decide (st = 0) && !signed) || decide (nextT st k = 0)
def dfa (signed : Bool) : Nat → List UInt8 → Nat × Nat
  | st, [] => (0, st)
  | st, b :: l => if stopT signed st (kindN b.toNat) = true then (0, st) else ((dfa signed (nextT st (kindN b.toNat)) l).1 + 1, (dfa signed (nextT st (kindN b.toNat)) l).2)
theorem nextT_lt {s : Nat} {k : Int} (hs : s < 9) (hk : 0 ≤ k ∧ k < 4) : nextT s k < 9 := by
  obtain ⟨j, rfl⟩ := Int.eq_ofNat_of_zero_le hk.1
  have : ∀ s < 9, ∀ j < 4, nextT s ((j : Nat) : Int) < 9 := by decide
  exact this s hs j (by omega)
theorem next_ld {s : Nat} {k : Int} (hs : s < 9) (hk : 0 ≤ k ∧ k < 4) : partK false (dropL (dropL (ci .i64 nextL) (s * 4)) (k.toNat * 1)) 0 1 = some (.int .i64 (nextT s k)) := by
  obtain ⟨j, rfl⟩ := Int.eq_ofNat_of_zero_le hk.1
  have : ∀ s : Fin 9, ∀ j : Fin 4, partK false (dropL (dropL (ci .i64 nextL) (s.val * 4)) (j.val * 1)) 0 1 = some (.int .i64 (nextT s.val (j.val : Nat))) := by
    intro s j
    match s, j with
    | ⟨0, _⟩, ⟨0, _⟩ => rfl
    | ⟨0, _⟩, ⟨1, _⟩ => rfl
    | ⟨0, _⟩, ⟨2, _⟩ => rfl
    | ⟨0, _⟩, ⟨3, _⟩ => rfl
    | ⟨1, _⟩, ⟨0, _⟩ => rfl
    | ⟨1, _⟩, ⟨1, _⟩ => rfl
    | ⟨1, _⟩, ⟨2, _⟩ => rfl
    | ⟨1, _⟩, ⟨3, _⟩ => rfl
    | ⟨2, _⟩, ⟨0, _⟩ => rfl
    | ⟨2, _⟩, ⟨1, _⟩ => rfl
    | ⟨2, _⟩, ⟨2, _⟩ => rfl
    | ⟨2, _⟩, ⟨3, _⟩ => rfl
    | ⟨3, _⟩, ⟨0, _⟩ => rfl
    | ⟨3, _⟩, ⟨1, _⟩ => rfl
    | ⟨3, _⟩, ⟨2, _⟩ => rfl
    | ⟨3, _⟩, ⟨3, _⟩ => rfl
    | ⟨4, _⟩, ⟨0, _⟩ => rfl
    | ⟨4, _⟩, ⟨1, _⟩ => rfl
    | ⟨4, _⟩, ⟨2, _⟩ => rfl
    | ⟨4, _⟩, ⟨3, _⟩ => rfl
    | ⟨5, _⟩, ⟨0, _⟩ => rfl
    | ⟨5, _⟩, ⟨1, _⟩ => rfl
    | ⟨5, _⟩, ⟨2, _⟩ => rfl
    | ⟨5, _⟩, ⟨3, _⟩ => rfl
    | ⟨6, _⟩, ⟨0, _⟩ => rfl
    | ⟨6, _⟩, ⟨1, _⟩ => rfl
    | ⟨6, _⟩, ⟨2, _⟩ => rfl
    | ⟨6, _⟩, ⟨3, _⟩ => rfl
    | ⟨7, _⟩, ⟨0, _⟩ => rfl
    | ⟨7, _⟩, ⟨1, _⟩ => rfl
    | ⟨7, _⟩, ⟨2, _⟩ => rfl
    | ⟨7, _⟩, ⟨3, _⟩ => rfl
    | ⟨8, _⟩, ⟨0, _⟩ => rfl
    | ⟨8, _⟩, ⟨1, _⟩ => rfl
    | ⟨8, _⟩, ⟨2, _⟩ => rfl
    | ⟨8, _⟩, ⟨3, _⟩ => rfl
  exact this ⟨s, hs⟩ ⟨j, by omega⟩
theorem ends_ld {s : Nat} (hs : s < 9) : partK false (dropL (ci .i64 [0, 0, 1, 0, 1, 1, 0, 0, 1]) (s * 1)) 0 1 = some (.int .i64 (if endsT s then 1 else 0)) := by
  have : ∀ s : Fin 9, partK false (dropL (ci .i64 [0, 0, 1, 0, 1, 1, 0, 0, 1]) (s.val * 1)) 0 1 = some (.int .i64 (if endsT s.val then 1 else 0)) := by
    intro s
    match s with
    | ⟨0, _⟩ => rfl
    | ⟨1, _⟩ => rfl
    | ⟨2, _⟩ => rfl
    | ⟨3, _⟩ => rfl
    | ⟨4, _⟩ => rfl
    | ⟨5, _⟩ => rfl
    | ⟨6, _⟩ => rfl
    | ⟨7, _⟩ => rfl
    | ⟨8, _⟩ => rfl
  exact this ⟨s, hs⟩
theorem kindN_range (n : Int) : kindN n = -1 ∨ (0 ≤ kindN n ∧ kindN n < 4) := by rcases kindN_cases n with h | h | h | h | h <;> omega
theorem dfa_le (sg : Bool) : ∀ (l : List UInt8) (st : Nat), st < 9 → (dfa sg st l).1 ≤ l.length ∧ (dfa sg st l).2 < 9
  | [], st, h => ⟨Nat.le_refl _, h⟩
  | b :: l, st, h => by
    unfold dfa
    split
    · exact ⟨Nat.zero_le _, h⟩
    · rename_i g
      have hk : 0 ≤ kindN b.toNat ∧ kindN b.toNat < 4 := by
        rcases kindN_range b.toNat with h | h
        · exact absurd (by simp [stopT, h]) g
        · exact h
      have := dfa_le sg l _ (nextT_lt h hk)
      exact ⟨by simp; omega, this.2⟩
set_option maxRecDepth 20000 in
theorem c_dscan (s : List UInt8) (at' : Int) (sg : Bool) (hl : s.length < 4611686018427387904) : ACalls seat 13 [.str s, .int .i64 at', .bool sg] [] (fun x _ => x = .ret (if at' < 0 ∨ s.length < at' then .tup [.int .i64 0, .bool false] else .tup [.int .i64 (at' + (dfa sg 0 (s.drop at'.toNat)).1), .bool (endsT (dfa sg 0 (s.drop at'.toNat)).2)])) := by
  refine ACalls.body seat_ok Tryd.func13 rfl rfl ?_
  by_cases g : at' < 0 ∨ s.length < at'
  · rw [if_pos g]
    by_cases g1 : at' < 0
    · conv => whnf
      refine Sat.scope seat_ok ?_
      conv => whnf
      repeat' ((first | refine zq1 (by omega) ?_ | refine zq2 (by omega) ?_ | refine NumH.rem (by omega) ?_ | refine zq4 (by omega) ?_ | refine zq5 (by omega) ?_ | refine zq6 ?_ | refine Req.mk (by omega) ?_ | refine Req.mk (by dsimp only; omega) ?_ | refine Req.mk (show pendP _ _ by repeat' constructor) ?_ | (with_reducible first | refine brT (by assumption) ?_ | refine brF (by assumption) ?_ | refine brDT (by omega) ?_ | refine brDF (by omega) ?_ | refine brET (by omega) ?_ | refine brEF (by omega) ?_ | refine brNET (by omega) ?_ | refine brNEF (by omega) ?_ | refine brNot ?_)); conv => whnf)
      rfl
    · have g2 : (s.length : Int) < at' := by omega
      conv => whnf
      refine Sat.scope seat_ok ?_
      conv => whnf
      repeat' ((first | refine zq1 (by omega) ?_ | refine zq2 (by omega) ?_ | refine NumH.rem (by omega) ?_ | refine zq4 (by omega) ?_ | refine zq5 (by omega) ?_ | refine zq6 ?_ | refine Req.mk (by omega) ?_ | refine Req.mk (by dsimp only; omega) ?_ | refine Req.mk (show pendP _ _ by repeat' constructor) ?_ | (with_reducible first | refine brT (by assumption) ?_ | refine brF (by assumption) ?_ | refine brDT (by omega) ?_ | refine brDF (by omega) ?_ | refine brET (by omega) ?_ | refine brEF (by omega) ?_ | refine brNET (by omega) ?_ | refine brNEF (by omega) ?_ | refine brNot ?_)); conv => whnf)
      rfl
  rw [if_neg g]
  obtain ⟨p0, rfl⟩ : ∃ p0 : Nat, at' = p0 := ⟨at'.toNat, by omega⟩
  rw [Int.toNat_natCast]
  have g1 : ¬ ((p0 : Int) < 0) := by omega
  have g2 : ¬ ((s.length : Int) < p0) := by omega
  obtain ⟨n, f, hd⟩ : ∃ n f, dfa sg 0 (s.drop p0) = (n, f) := ⟨_, _, rfl⟩
  have hf : f < 9 := by have := (dfa_le sg (s.drop p0) 0 (by omega)).2; rw [hd] at this; exact this
  rw [hd]
  conv => whnf
  refine Sat.scope seat_ok ?_
  conv => whnf
  repeat' ((first | refine zq1 (by omega) ?_ | refine zq2 (by omega) ?_ | refine NumH.rem (by omega) ?_ | refine zq4 (by omega) ?_ | refine zq5 (by omega) ?_ | refine zq6 ?_ | refine Req.mk (by omega) ?_ | refine Req.mk (by dsimp only; omega) ?_ | refine Req.mk (show pendP _ _ by repeat' constructor) ?_ | (with_reducible first | refine brT (by assumption) ?_ | refine brF (by assumption) ?_ | refine brDT (by omega) ?_ | refine brDF (by omega) ?_ | refine brET (by omega) ?_ | refine brEF (by omega) ?_ | refine brNET (by omega) ?_ | refine brNEF (by omega) ?_ | refine brNot ?_)); conv => whnf)
  refine Sat.cut (fun x t h => x = .exit 0 ∧ t = (uu::.int .i64 (p0 + n)::uu::uu::uu::uu::uu::uu::.int .i64 f::uu::uu::uu::uu::uu::uu::uu::uu::uu::uu::uu::uu::uu::uu::uu::uu::uu::uu::uu::uu::uu::uu::uu::uu::uu::uu::uu::uu::uu::uu::uu::uu::uu::uu::uu::uu::uu::uu::uu::uu::uu::uu::uu::uu::uu::uu::uu::uu::[]) ∧ h = []) ?_ ?_
  · refine Sat.invP seat_ok seat_g (maskOf 57 [0, 1, 2, 8]) 0 (fun μ t h => ∃ (p st : Nat), p ≤ s.length ∧ p0 ≤ p ∧ st < 9 ∧ dfa sg st (s.drop p) = (p0 + n - p, f) ∧ p ≤ p0 + n ∧ μ = s.length - p ∧
      t = (.str s::.int .i64 p::.bool sg::uu::uu::uu::uu::uu::.int .i64 st::uu::uu::uu::uu::uu::uu::uu::uu::uu::uu::uu::uu::uu::uu::uu::uu::uu::uu::uu::uu::uu::uu::uu::uu::uu::uu::uu::uu::uu::uu::uu::uu::uu::uu::uu::uu::uu::uu::uu::uu::uu::uu::uu::uu::uu::uu::uu::uu::[]) ∧ h = []) ?_ ⟨_, _, WeakL.of_eq rfl, p0, 0, by omega, by omega, by omega, by rw [hd]; congr 1; omega, by omega, rfl, rfl, rfl⟩ ?_
    · rintro _ _ _ ⟨p, st, -, -, -, -, -, -, rfl, rfl⟩
      exact ⟨rfl, (by simp [IdsL, Ids, IdsH, IdsC, lv_ids, ci_ids]), (by simp [IdsL, Ids, IdsH, IdsC, lv_ids, ci_ids])⟩
    rintro _ _ _ ⟨p, st, hp, hp0, hst, hdf, hpn, rfl, rfl, rfl⟩
    by_cases g : p < s.length
    · obtain ⟨b, hb⟩ : ∃ b, s[p]? = some b := ⟨_, List.getElem?_eq_getElem g⟩
      have hdr := drop_cons' hb
      rw [hdr] at hdf
      have ck := c_kind b.toNat
      unfold dfa at hdf
      have hkr := kindN_range b.toNat
      generalize kindN b.toNat = k at *
      have eb : (s[(p : Int).toNat]?) = some b := hb
      by_cases hs : stopT sg st k = true
      · rw [if_pos hs] at hdf
        simp only [Prod.mk.injEq] at hdf
        obtain ⟨h1, rfl⟩ := hdf
        obtain rfl : p = p0 + n := by omega
        have e : ((p0 + n : Nat) : Int) = p0 + n := by omega
        rw [← e]
        rcases hkr with hk | hk
        · conv => whnf
          repeat' (first | exact ⟨_, keepT_weak (maskOf 57 [1, 8]) _, rfl, rfl, rfl⟩ | (refine ldI _ eb ?_; conv => whnf) | (refine CallH.lift seat_g ck (by simp [Closed, ClosedL]) (by simp [Closed]) ?_; conv => whnf) | ((first | refine zq1 (by omega) ?_ | refine zq2 (by omega) ?_ | refine NumH.rem (by omega) ?_ | refine zq4 (by omega) ?_ | refine zq5 (by omega) ?_ | refine zq6 ?_ | refine Req.mk (by omega) ?_ | refine Req.mk (by dsimp only; omega) ?_ | refine Req.mk (show pendP _ _ by repeat' constructor) ?_ | (with_reducible first | refine brT (by assumption) ?_ | refine brF (by assumption) ?_ | refine brDT (by omega) ?_ | refine brDF (by omega) ?_ | refine brET (by omega) ?_ | refine brEF (by omega) ?_ | refine brNET (by omega) ?_ | refine brNEF (by omega) ?_ | refine brNot ?_)); conv => whnf))
        · have hn := next_ld hst hk
          have hk0 : ¬ k < 0 := by omega
          by_cases hz : nextT st k = 0
          · rw [hz] at hn
            by_cases h3 : k = 3
            · by_cases h0 : (st : Int) = 0
              · cases sg
                · conv => whnf
                  repeat' (first | exact ⟨_, keepT_weak (maskOf 57 [1, 8]) _, rfl, rfl, rfl⟩ | (refine ldI _ eb ?_; conv => whnf) | (refine CallH.lift seat_g ck (by simp [Closed, ClosedL]) (by simp [Closed]) ?_; conv => whnf) | (refine ldI _ hn ?_; conv => whnf) | ((first | refine zq1 (by omega) ?_ | refine zq2 (by omega) ?_ | refine NumH.rem (by omega) ?_ | refine zq4 (by omega) ?_ | refine zq5 (by omega) ?_ | refine zq6 ?_ | refine Req.mk (by omega) ?_ | refine Req.mk (by dsimp only; omega) ?_ | refine Req.mk (show pendP _ _ by repeat' constructor) ?_ | (with_reducible first | refine brT (by assumption) ?_ | refine brF (by assumption) ?_ | refine brDT (by omega) ?_ | refine brDF (by omega) ?_ | refine brET (by omega) ?_ | refine brEF (by omega) ?_ | refine brNET (by omega) ?_ | refine brNEF (by omega) ?_ | refine brNot ?_)); conv => whnf))
                · conv => whnf
                  repeat' (first | exact ⟨_, keepT_weak (maskOf 57 [1, 8]) _, rfl, rfl, rfl⟩ | (refine ldI _ eb ?_; conv => whnf) | (refine CallH.lift seat_g ck (by simp [Closed, ClosedL]) (by simp [Closed]) ?_; conv => whnf) | (refine ldI _ hn ?_; conv => whnf) | ((first | refine zq1 (by omega) ?_ | refine zq2 (by omega) ?_ | refine NumH.rem (by omega) ?_ | refine zq4 (by omega) ?_ | refine zq5 (by omega) ?_ | refine zq6 ?_ | refine Req.mk (by omega) ?_ | refine Req.mk (by dsimp only; omega) ?_ | refine Req.mk (show pendP _ _ by repeat' constructor) ?_ | (with_reducible first | refine brT (by assumption) ?_ | refine brF (by assumption) ?_ | refine brDT (by omega) ?_ | refine brDF (by omega) ?_ | refine brET (by omega) ?_ | refine brEF (by omega) ?_ | refine brNET (by omega) ?_ | refine brNEF (by omega) ?_ | refine brNot ?_)); conv => whnf))
              · conv => whnf
                repeat' (first | exact ⟨_, keepT_weak (maskOf 57 [1, 8]) _, rfl, rfl, rfl⟩ | (refine ldI _ eb ?_; conv => whnf) | (refine CallH.lift seat_g ck (by simp [Closed, ClosedL]) (by simp [Closed]) ?_; conv => whnf) | (refine ldI _ hn ?_; conv => whnf) | ((first | refine zq1 (by omega) ?_ | refine zq2 (by omega) ?_ | refine NumH.rem (by omega) ?_ | refine zq4 (by omega) ?_ | refine zq5 (by omega) ?_ | refine zq6 ?_ | refine Req.mk (by omega) ?_ | refine Req.mk (by dsimp only; omega) ?_ | refine Req.mk (show pendP _ _ by repeat' constructor) ?_ | (with_reducible first | refine brT (by assumption) ?_ | refine brF (by assumption) ?_ | refine brDT (by omega) ?_ | refine brDF (by omega) ?_ | refine brET (by omega) ?_ | refine brEF (by omega) ?_ | refine brNET (by omega) ?_ | refine brNEF (by omega) ?_ | refine brNot ?_)); conv => whnf))
            · conv => whnf
              repeat' (first | exact ⟨_, keepT_weak (maskOf 57 [1, 8]) _, rfl, rfl, rfl⟩ | (refine ldI _ eb ?_; conv => whnf) | (refine CallH.lift seat_g ck (by simp [Closed, ClosedL]) (by simp [Closed]) ?_; conv => whnf) | (refine ldI _ hn ?_; conv => whnf) | ((first | refine zq1 (by omega) ?_ | refine zq2 (by omega) ?_ | refine NumH.rem (by omega) ?_ | refine zq4 (by omega) ?_ | refine zq5 (by omega) ?_ | refine zq6 ?_ | refine Req.mk (by omega) ?_ | refine Req.mk (by dsimp only; omega) ?_ | refine Req.mk (show pendP _ _ by repeat' constructor) ?_ | (with_reducible first | refine brT (by assumption) ?_ | refine brF (by assumption) ?_ | refine brDT (by omega) ?_ | refine brDF (by omega) ?_ | refine brET (by omega) ?_ | refine brEF (by omega) ?_ | refine brNET (by omega) ?_ | refine brNEF (by omega) ?_ | refine brNot ?_)); conv => whnf))
          · have h30 : k = 3 ∧ st = 0 ∧ sg = false := by
              simp [stopT, hz] at hs
              rcases hs with h | ⟨⟨h1, h2⟩, h3⟩
              · omega
              · exact ⟨h1, h2, h3⟩
            obtain ⟨h3, h0, rfl⟩ := h30
            have h0 : (st : Int) = 0 := by omega
            conv => whnf
            repeat' (first | exact ⟨_, keepT_weak (maskOf 57 [1, 8]) _, rfl, rfl, rfl⟩ | (refine ldI _ eb ?_; conv => whnf) | (refine CallH.lift seat_g ck (by simp [Closed, ClosedL]) (by simp [Closed]) ?_; conv => whnf) | ((first | refine zq1 (by omega) ?_ | refine zq2 (by omega) ?_ | refine NumH.rem (by omega) ?_ | refine zq4 (by omega) ?_ | refine zq5 (by omega) ?_ | refine zq6 ?_ | refine Req.mk (by omega) ?_ | refine Req.mk (by dsimp only; omega) ?_ | refine Req.mk (show pendP _ _ by repeat' constructor) ?_ | (with_reducible first | refine brT (by assumption) ?_ | refine brF (by assumption) ?_ | refine brDT (by omega) ?_ | refine brDF (by omega) ?_ | refine brET (by omega) ?_ | refine brEF (by omega) ?_ | refine brNET (by omega) ?_ | refine brNEF (by omega) ?_ | refine brNot ?_)); conv => whnf))
      · rw [if_neg hs] at hdf
        have hk : 0 ≤ k ∧ k < 4 := by
          rcases hkr with h | h
          · exact absurd (by simp [stopT, h]) hs
          · exact h
        have hn := next_ld hst hk
        have hk0 : ¬ k < 0 := by omega
        have hlt := nextT_lt hst hk
        have hz : ((nextT st k : Nat) : Int) ≠ 0 := by
          intro h; apply hs; have h9 : nextT st k = 0 := by omega
          simp [stopT, h9]
        have hns : ¬ (k = 3 ∧ st = 0 ∧ sg = false) := by
          rintro ⟨h1, h2, h3⟩; apply hs; simp [stopT, h1, h2, h3]
        generalize nextT st k = st2 at *
        obtain ⟨hd1, hd2⟩ := Prod.mk.inj hdf
        have hinv : dfa sg st2 (s.drop (p + 1)) = (p0 + n - (p + 1), f) := by rw [← hd2]; exact Prod.ext (by simp only; omega) rfl
        by_cases h3 : k = 3
        · by_cases h0 : (st : Int) = 0
          · cases sg
            · exact absurd ⟨h3, by omega, rfl⟩ hns
            · conv => whnf
              repeat' (first | exact ⟨_, _, Nat.sub_lt_sub_left g (Nat.lt_succ_self p), WeakL.of_eq rfl, p + 1, st2, by omega, by omega, hlt, hinv, by omega, rfl, rfl, rfl⟩ | (refine ldI _ eb ?_; conv => whnf) | (refine CallH.lift seat_g ck (by simp [Closed, ClosedL]) (by simp [Closed]) ?_; conv => whnf) | (refine ldI _ hn ?_; conv => whnf) | ((first | refine zq1 (by omega) ?_ | refine zq2 (by omega) ?_ | refine NumH.rem (by omega) ?_ | refine zq4 (by omega) ?_ | refine zq5 (by omega) ?_ | refine zq6 ?_ | refine Req.mk (by omega) ?_ | refine Req.mk (by dsimp only; omega) ?_ | refine Req.mk (show pendP _ _ by repeat' constructor) ?_ | (with_reducible first | refine brT (by assumption) ?_ | refine brF (by assumption) ?_ | refine brDT (by omega) ?_ | refine brDF (by omega) ?_ | refine brET (by omega) ?_ | refine brEF (by omega) ?_ | refine brNET (by omega) ?_ | refine brNEF (by omega) ?_ | refine brNot ?_)); conv => whnf))
          · conv => whnf
            repeat' (first | exact ⟨_, _, Nat.sub_lt_sub_left g (Nat.lt_succ_self p), WeakL.of_eq rfl, p + 1, st2, by omega, by omega, hlt, hinv, by omega, rfl, rfl, rfl⟩ | (refine ldI _ eb ?_; conv => whnf) | (refine CallH.lift seat_g ck (by simp [Closed, ClosedL]) (by simp [Closed]) ?_; conv => whnf) | (refine ldI _ hn ?_; conv => whnf) | ((first | refine zq1 (by omega) ?_ | refine zq2 (by omega) ?_ | refine NumH.rem (by omega) ?_ | refine zq4 (by omega) ?_ | refine zq5 (by omega) ?_ | refine zq6 ?_ | refine Req.mk (by omega) ?_ | refine Req.mk (by dsimp only; omega) ?_ | refine Req.mk (show pendP _ _ by repeat' constructor) ?_ | (with_reducible first | refine brT (by assumption) ?_ | refine brF (by assumption) ?_ | refine brDT (by omega) ?_ | refine brDF (by omega) ?_ | refine brET (by omega) ?_ | refine brEF (by omega) ?_ | refine brNET (by omega) ?_ | refine brNEF (by omega) ?_ | refine brNot ?_)); conv => whnf))
        · conv => whnf
          repeat' (first | exact ⟨_, _, Nat.sub_lt_sub_left g (Nat.lt_succ_self p), WeakL.of_eq rfl, p + 1, st2, by omega, by omega, hlt, hinv, by omega, rfl, rfl, rfl⟩ | (refine ldI _ eb ?_; conv => whnf) | (refine CallH.lift seat_g ck (by simp [Closed, ClosedL]) (by simp [Closed]) ?_; conv => whnf) | (refine ldI _ hn ?_; conv => whnf) | ((first | refine zq1 (by omega) ?_ | refine zq2 (by omega) ?_ | refine NumH.rem (by omega) ?_ | refine zq4 (by omega) ?_ | refine zq5 (by omega) ?_ | refine zq6 ?_ | refine Req.mk (by omega) ?_ | refine Req.mk (by dsimp only; omega) ?_ | refine Req.mk (show pendP _ _ by repeat' constructor) ?_ | (with_reducible first | refine brT (by assumption) ?_ | refine brF (by assumption) ?_ | refine brDT (by omega) ?_ | refine brDF (by omega) ?_ | refine brET (by omega) ?_ | refine brEF (by omega) ?_ | refine brNET (by omega) ?_ | refine brNEF (by omega) ?_ | refine brNot ?_)); conv => whnf))
    · rw [List.drop_eq_nil_of_le (by omega)] at hdf
      simp only [dfa, Prod.mk.injEq] at hdf
      obtain ⟨h1, rfl⟩ := hdf
      obtain rfl : p = p0 + n := by omega
      have e : ((p0 + n : Nat) : Int) = p0 + n := by omega
      rw [← e]
      conv => whnf
      repeat' ((first | refine zq1 (by omega) ?_ | refine zq2 (by omega) ?_ | refine NumH.rem (by omega) ?_ | refine zq4 (by omega) ?_ | refine zq5 (by omega) ?_ | refine zq6 ?_ | refine Req.mk (by omega) ?_ | refine Req.mk (by dsimp only; omega) ?_ | refine Req.mk (show pendP _ _ by repeat' constructor) ?_ | (with_reducible first | refine brT (by assumption) ?_ | refine brF (by assumption) ?_ | refine brDT (by omega) ?_ | refine brDF (by omega) ?_ | refine brET (by omega) ?_ | refine brEF (by omega) ?_ | refine brNET (by omega) ?_ | refine brNEF (by omega) ?_ | refine brNot ?_)); conv => whnf)
      exact ⟨_, keepT_weak (maskOf 57 [1, 8]) _, rfl, rfl, rfl⟩
  · rintro _ _ _ ⟨rfl, rfl, rfl⟩
    have he := ends_ld hf
    have hb : ((if endsT f then (1 : Int) else 0) == 1) = endsT f := by cases endsT f <;> rfl
    conv => whnf
    refine DrawH.plan seat_ok (.take 0 (.take 1 (.take 2 (.take 3 (.take 4 (.take 5 (.take 6 Plan.done))))))) 0 (by kernel_rfl) ?_
    conv => whnf
    repeat' (first | exact congrArg (fun b => AEnd.ret (.tup [.int .i64 (p0 + n), .bool b])) hb | (refine ldI _ he ?_; conv => whnf) | ((first | refine zq1 (by omega) ?_ | refine zq2 (by omega) ?_ | refine NumH.rem (by omega) ?_ | refine zq4 (by omega) ?_ | refine zq5 (by omega) ?_ | refine zq6 ?_ | refine Req.mk (by omega) ?_ | refine Req.mk (by dsimp only; omega) ?_ | refine Req.mk (show pendP _ _ by repeat' constructor) ?_ | (with_reducible first | refine brT (by assumption) ?_ | refine brF (by assumption) ?_ | refine brDT (by omega) ?_ | refine brDF (by omega) ?_ | refine brET (by omega) ?_ | refine brEF (by omega) ?_ | refine brNET (by omega) ?_ | refine brNEF (by omega) ?_ | refine brNot ?_)); conv => whnf) | (refine And.intro ?_ ?_ <;> (conv => whnf)))
end Go.Proofs.YtinjgnaimmenbaaDoor
namespace Go.Proofs.YtinjgnaimmenbaaDoor
open Go.Abs
def kd : List UInt8 → Int
  | [] => -1
  | b :: _ => kindN b.toNat
def runN : List UInt8 → Nat
  | [] => 0
  | b :: l => if kindN b.toNat = 0 then runN l + 1 else 0
def eR (sm : Bool) (l : List UInt8) (i : Nat) : Nat × Bool :=
  if sm = false then (i, false)
  else if kd (l.drop i) = 2 then
    let j := if kd (l.drop (i + 1)) = 3 then i + 1 + 1 else i + 1
    (j + runN (l.drop j), decide (0 < runN (l.drop j)))
  else (i, true)
def ptR (l : List UInt8) (i : Nat) : Nat × Bool :=
  let a := i + runN (l.drop i)
  if kd (l.drop a) = 1 then eR (decide (0 < runN (l.drop i)) || decide (0 < runN (l.drop (a + 1)))) l (a + 1 + runN (l.drop (a + 1)))
  else eR (decide (0 < runN (l.drop i))) l a
def scR (sg : Bool) (l : List UInt8) (p : Nat) : Nat × Bool := ptR l (if sg = true ∧ kd (l.drop p) = 3 then p + 1 else p)
end Go.Proofs.YtinjgnaimmenbaaDoor
namespace Go.Proofs.YtinjgnaimmenbaaDoor
open Go.Abs
def ans (sg : Bool) (st : Nat) (l : List UInt8) : Nat × Bool := ((dfa sg st l).1, endsT (dfa sg st l).2)
theorem ans_stop {sg : Bool} {st : Nat} {b : UInt8} {l : List UInt8} {k : Int} (hk : kindN b.toNat = k) (h : stopT sg st k = true) : ans sg st (b :: l) = (0, endsT st) := by
  unfold ans dfa; rw [hk, if_pos h]
theorem ans_step {sg : Bool} {st : Nat} {b : UInt8} {l : List UInt8} {k : Int} (hk : kindN b.toNat = k) (h : stopT sg st k = false) : ans sg st (b :: l) = ((ans sg (nextT st k) l).1 + 1, (ans sg (nextT st k) l).2) := by
  unfold ans; rw [dfa, hk, if_neg (by rw [h]; decide)]
theorem runN_0 {b : UInt8} {l : List UInt8} (h : kindN b.toNat = 0) : runN (b :: l) = runN l + 1 := if_pos h
theorem runN_n {b : UInt8} {l : List UInt8} {k : Int} (hk : kindN b.toNat = k) (h : k ≠ 0) : runN (b :: l) = 0 := if_neg (by rw [hk]; exact h)
theorem L8 (sg : Bool) : ∀ l, ans sg 8 l = (runN l, true)
  | [] => rfl
  | b :: l => by
    rcases kindN_cases b.toNat with ⟨h, -⟩ | ⟨h, -⟩ | ⟨h, -⟩ | ⟨h, -⟩ | ⟨h, -⟩
    · rw [ans_step h (by rfl), show nextT 8 0 = 8 from rfl, L8 sg l, runN_0 h]
    all_goals rw [ans_stop h (by rfl), runN_n h (by decide)]; rfl
theorem L7 (sg : Bool) : ∀ l, ans sg 7 l = (runN l, decide (0 < runN l))
  | [] => rfl
  | b :: l => by
    rcases kindN_cases b.toNat with ⟨h, -⟩ | ⟨h, -⟩ | ⟨h, -⟩ | ⟨h, -⟩ | ⟨h, -⟩
    · rw [ans_step h (by rfl), show nextT 7 0 = 8 from rfl, L8 sg l, runN_0 h, decide_eq_true (Nat.succ_pos _)]
    all_goals rw [ans_stop h (by rfl), runN_n h (by decide)]; rfl
def expS (l : List UInt8) : Nat × Bool := if kd l = 3 then (1 + runN (l.drop 1), decide (0 < runN (l.drop 1))) else (runN l, decide (0 < runN l))
theorem L6 (sg : Bool) : ∀ l, ans sg 6 l = expS l
  | [] => rfl
  | b :: l => by
    unfold expS
    rcases kindN_cases b.toNat with ⟨h, -⟩ | ⟨h, -⟩ | ⟨h, -⟩ | ⟨h, -⟩ | ⟨h, -⟩
    · rw [if_neg (by rw [kd, h]; decide), ans_step h (by rfl), show nextT 6 0 = 8 from rfl, L8 sg l, runN_0 h, decide_eq_true (Nat.succ_pos _)]
    · rw [if_neg (by rw [kd, h]; decide), ans_stop h (by rfl), runN_n h (by decide)]; rfl
    · rw [if_neg (by rw [kd, h]; decide), ans_stop h (by rfl), runN_n h (by decide)]; rfl
    · rw [if_pos (by rw [kd, h]), ans_step h (by rfl), show nextT 6 3 = 7 from rfl, L7 sg l, List.drop_one, List.tail_cons, Nat.add_comm]
    · rw [if_neg (by rw [kd, h]; decide), ans_stop h (by rfl), runN_n h (by decide)]; rfl
def eS (sm : Bool) (l : List UInt8) : Nat × Bool := if sm = false then (0, false) else if kd l = 2 then (1 + (expS (l.drop 1)).1, (expS (l.drop 1)).2) else (0, true)
def addA (n : Nat) (a : Nat × Bool) : Nat × Bool := (n + a.1, a.2)
theorem addA_add (m n : Nat) (a : Nat × Bool) : addA m (addA n a) = addA (m + n) a := by simp [addA, Nat.add_assoc]
theorem addA_zero (a : Nat × Bool) : addA 0 a = a := by simp [addA]
theorem ans_step' {sg : Bool} {st st' : Nat} {b : UInt8} {l : List UInt8} {k : Int} (hk : kindN b.toNat = k) (h : stopT sg st k = false) (hn : nextT st k = st') : ans sg st (b :: l) = addA 1 (ans sg st' l) := by
  rw [ans_step hk h, hn, addA, Nat.add_comm]
theorem L5 (sg : Bool) : ∀ l, ans sg 5 l = addA (runN l) (eS true (l.drop (runN l)))
  | [] => rfl
  | b :: l => by
    rcases kindN_cases b.toNat with ⟨h, -⟩ | ⟨h, -⟩ | ⟨h, -⟩ | ⟨h, -⟩ | ⟨h, -⟩
    · rw [ans_step' (st' := 5) h (by rfl) rfl, L5 sg l, runN_0 h, addA_add, Nat.add_comm 1, List.drop_succ_cons]
    · rw [ans_stop h (by rfl), runN_n h (by decide), addA_zero, List.drop_zero]; unfold eS; rw [if_neg (by decide), if_neg (by rw [kd, h]; decide)]; rfl
    · rw [ans_step' (st' := 6) h (by rfl) rfl, runN_n h (by decide), addA_zero, List.drop_zero, L6]; unfold eS; rw [if_neg (by decide), if_pos (by rw [kd, h])]; rfl
    all_goals rw [ans_stop h (by rfl), runN_n h (by decide), addA_zero, List.drop_zero]; unfold eS; rw [if_neg (by decide), if_neg (by rw [kd, h]; decide)]; rfl
theorem L4 (sg : Bool) : ∀ l, ans sg 4 l = addA (runN l) (eS true (l.drop (runN l)))
  | [] => rfl
  | b :: l => by
    rcases kindN_cases b.toNat with ⟨h, -⟩ | ⟨h, -⟩ | ⟨h, -⟩ | ⟨h, -⟩ | ⟨h, -⟩
    · rw [ans_step' (st' := 5) h (by rfl) rfl, L5 sg l, runN_0 h, addA_add, Nat.add_comm 1, List.drop_succ_cons]
    · rw [ans_stop h (by rfl), runN_n h (by decide), addA_zero, List.drop_zero]; unfold eS; rw [if_neg (by decide), if_neg (by rw [kd, h]; decide)]; rfl
    · rw [ans_step' (st' := 6) h (by rfl) rfl, runN_n h (by decide), addA_zero, List.drop_zero, L6]; unfold eS; rw [if_neg (by decide), if_pos (by rw [kd, h])]; rfl
    all_goals rw [ans_stop h (by rfl), runN_n h (by decide), addA_zero, List.drop_zero]; unfold eS; rw [if_neg (by decide), if_neg (by rw [kd, h]; decide)]; rfl
theorem L3 (sg : Bool) : ∀ l, ans sg 3 l = addA (runN l) (eS (decide (0 < runN l)) (l.drop (runN l)))
  | [] => rfl
  | b :: l => by
    rcases kindN_cases b.toNat with ⟨h, -⟩ | ⟨h, -⟩ | ⟨h, -⟩ | ⟨h, -⟩ | ⟨h, -⟩
    · rw [ans_step' (st' := 5) h (by rfl) rfl, L5 sg l, runN_0 h, addA_add, Nat.add_comm 1, List.drop_succ_cons, decide_eq_true (Nat.succ_pos _)]
    all_goals rw [ans_stop h (by rfl), runN_n h (by decide), addA_zero, List.drop_zero]; rfl
def ptS (sm : Bool) (l : List UInt8) : Nat × Bool := if kd l = 1 then addA 1 (addA (runN (l.drop 1)) (eS (sm || decide (0 < runN (l.drop 1))) ((l.drop 1).drop (runN (l.drop 1))))) else eS sm l
theorem L2 (sg : Bool) : ∀ l, ans sg 2 l = addA (runN l) (ptS true (l.drop (runN l)))
  | [] => rfl
  | b :: l => by
    rcases kindN_cases b.toNat with ⟨h, -⟩ | ⟨h, -⟩ | ⟨h, -⟩ | ⟨h, -⟩ | ⟨h, -⟩
    · rw [ans_step' (st' := 2) h (by rfl) rfl, L2 sg l, runN_0 h, addA_add, Nat.add_comm 1, List.drop_succ_cons]
    · rw [ans_step' (st' := 4) h (by rfl) rfl, runN_n h (by decide), addA_zero, List.drop_zero, L4]; unfold ptS; rw [if_pos (by rw [kd, h]), Bool.true_or, List.drop_one, List.tail_cons]
    · rw [ans_step' (st' := 6) h (by rfl) rfl, runN_n h (by decide), addA_zero, List.drop_zero, L6]; unfold ptS eS; rw [if_neg (by rw [kd, h]; decide), if_neg (by decide), if_pos (by rw [kd, h])]; rfl
    all_goals rw [ans_stop h (by rfl), runN_n h (by decide), addA_zero, List.drop_zero]; unfold ptS eS; rw [if_neg (by rw [kd, h]; decide), if_neg (by decide), if_neg (by rw [kd, h]; decide)]; rfl
theorem L1 (sg : Bool) : ∀ l, ans sg 1 l = addA (runN l) (ptS (decide (0 < runN l)) (l.drop (runN l)))
  | [] => rfl
  | b :: l => by
    rcases kindN_cases b.toNat with ⟨h, -⟩ | ⟨h, -⟩ | ⟨h, -⟩ | ⟨h, -⟩ | ⟨h, -⟩
    · rw [ans_step' (st' := 2) h (by rfl) rfl, L2 sg l, runN_0 h, addA_add, Nat.add_comm 1, List.drop_succ_cons, decide_eq_true (Nat.succ_pos _)]
    · rw [ans_step' (st' := 3) h (by rfl) rfl, runN_n h (by decide), addA_zero, List.drop_zero, L3]; unfold ptS; rw [if_pos (by rw [kd, h]), show decide (0 < 0) = false from rfl, Bool.false_or, List.drop_one, List.tail_cons]
    all_goals rw [ans_stop h (by rfl), runN_n h (by decide), addA_zero, List.drop_zero]; unfold ptS eS; rw [if_neg (by rw [kd, h]; decide), if_pos (by decide)]; rfl
def scS (sg : Bool) (l : List UInt8) : Nat × Bool :=
  if sg = true ∧ kd l = 3 then addA 1 (addA (runN (l.drop 1)) (ptS (decide (0 < runN (l.drop 1))) ((l.drop 1).drop (runN (l.drop 1))))) else addA (runN l) (ptS (decide (0 < runN l)) (l.drop (runN l)))
theorem L0 (sg : Bool) : ∀ l, ans sg 0 l = scS sg l
  | [] => by cases sg <;> rfl
  | b :: l => by
    unfold scS
    rcases kindN_cases b.toNat with ⟨h, -⟩ | ⟨h, -⟩ | ⟨h, -⟩ | ⟨h, -⟩ | ⟨h, -⟩
    · rw [if_neg (by rw [kd, h]; simp), ans_step' (st' := 2) h (by rfl) rfl, L2 sg l, runN_0 h, addA_add, Nat.add_comm 1, List.drop_succ_cons, decide_eq_true (Nat.succ_pos _)]
    · rw [if_neg (by rw [kd, h]; simp), ans_step' (st' := 3) h (by rfl) rfl, runN_n h (by decide), addA_zero, List.drop_zero, L3]; unfold ptS; rw [if_pos (by rw [kd, h]), show decide (0 < 0) = false from rfl, Bool.false_or, List.drop_one, List.tail_cons]
    · rw [if_neg (by rw [kd, h]; simp), ans_stop h (by rfl), runN_n h (by decide), addA_zero, List.drop_zero]; unfold ptS eS; rw [if_neg (by rw [kd, h]; decide), if_pos (by decide)]; rfl
    · cases sg with
      | true => rw [if_pos ⟨rfl, by rw [kd, h]⟩, ans_step' (st' := 1) h (by rfl) rfl, L1, List.drop_one, List.tail_cons]
      | false => rw [if_neg (by simp), ans_stop h (by rfl), runN_n h (by decide), addA_zero, List.drop_zero]; unfold ptS eS; rw [if_neg (by rw [kd, h]; decide), if_pos (by decide)]; rfl
    · rw [if_neg (by rw [kd, h]; simp), ans_stop h (by rfl), runN_n h (by decide), addA_zero, List.drop_zero]; unfold ptS eS; rw [if_neg (by rw [kd, h]; decide), if_pos (by decide)]; rfl
theorem eR_S (sm : Bool) (l : List UInt8) (i : Nat) : eR sm l i = addA i (eS sm (l.drop i)) := by
  unfold eR eS
  cases sm with
  | false => rfl
  | true =>
    have n0 : ¬ (true = false) := by decide
    rw [if_neg n0, if_neg n0]
    by_cases h : kd (l.drop i) = 2
    · rw [if_pos h, if_pos h]
      unfold expS addA
      rw [List.drop_drop]
      by_cases h3 : kd (l.drop (i + 1)) = 3
      · simp only [if_pos h3, List.drop_drop]
        rw [Nat.add_assoc i 1 1]
        congr 1; omega
      · simp only [if_neg h3]
        congr 1; omega
    · rw [if_neg h, if_neg h]; rfl
theorem ptR_S (l : List UInt8) (i : Nat) : ptR l i = addA i (addA (runN (l.drop i)) (ptS (decide (0 < runN (l.drop i))) ((l.drop i).drop (runN (l.drop i))))) := by
  unfold ptR ptS
  simp only [List.drop_drop]
  by_cases h : kd (l.drop (i + runN (l.drop i))) = 1
  · rw [if_pos h, if_pos h, eR_S]
    simp only [addA_add, List.drop_drop]
    congr 1; omega
  · rw [if_neg h, if_neg h, eR_S, addA_add]
theorem scR_S (sg : Bool) (l : List UInt8) (p : Nat) : scR sg l p = addA p (scS sg (l.drop p)) := by
  unfold scR scS
  by_cases h : sg = true ∧ kd (l.drop p) = 3
  · rw [if_pos h, if_pos h, ptR_S]
    simp only [List.drop_drop, addA_add, Nat.add_assoc]
  · rw [if_neg h, if_neg h, ptR_S]
theorem scan_eq (sg : Bool) (l : List UInt8) (p : Nat) : scR sg l p = addA p (ans sg 0 (l.drop p)) := by rw [scR_S, L0]
end Go.Proofs.YtinjgnaimmenbaaDoor
namespace Go.Proofs.YtinjgnaimmenbaaDoor
open Go.Abs
end Go.Proofs.YtinjgnaimmenbaaDoor
namespace Go.Proofs.YtinjgnaimmenbaaDoor
open Go.Abs
def flrQ (s : Bool) (m C : Nat) : Nat := if s = true ∧ m % C ≠ 0 then m / C + 1 else m / C
def nearM (s : Bool) (m C : Nat) : Bool × Nat := (addS s (2 * m) false C && decide (flrQ (addS s (2 * m) false C) (addM s (2 * m) false C) (2 * C) ≠ 0), flrQ (addS s (2 * m) false C) (addM s (2 * m) false C) (2 * C))
theorem sg_add (s1 s2 : Bool) (m n : Nat) : sg (addS s1 m s2 n) (addM s1 m s2 n) = sg s1 m + sg s2 n := by
  unfold addS addM
  by_cases h : m < n
  · cases s1 <;> cases s2 <;> simp [sg, h] <;> omega
  · cases s1 <;> cases s2 <;> simp [sg, h] <;> omega
theorem flrQ_spec (s : Bool) (m C : Nat) (hC : 0 < C) : sg s (flrQ s m C) = sg s m / (C : Int) := by
  unfold flrQ
  cases s with
  | false => simp [sg]
  | true =>
    simp only [sg, true_and, if_true]
    have h1 := Nat.div_add_mod m C
    have h2 := Nat.mod_lt m hC
    split
    · rename_i g
      symm
      have : -(m : Int) = ((C - m % C : Nat) : Int) + C * (-((m / C + 1 : Nat) : Int)) := by
        have e1 : ((C - m % C : Nat) : Int) = (C : Int) - ((m % C : Nat) : Int) := Int.ofNat_sub (Nat.le_of_lt h2)
        have e2 : (m : Int) = C * ((m / C : Nat) : Int) + ((m % C : Nat) : Int) := by exact_mod_cast h1.symm
        rw [e1, Int.mul_neg]
        have e3 : (C : Int) * ((m / C + 1 : Nat) : Int) = C * ((m / C : Nat) : Int) + C := by rw [Int.natCast_add, Int.mul_add]; simp
        rw [e3]; omega
      rw [this, Int.add_mul_ediv_left _ _ (by omega), Int.ediv_eq_zero_of_lt (by omega) (by omega)]
      simp
    · rename_i g
      have g : m % C = 0 := by simpa using g
      have e2 : (m : Int) = C * ((m / C : Nat) : Int) := by
        have : m = C * (m / C) := by omega
        exact_mod_cast this
      symm
      rw [show -(m : Int) = C * (-((m / C : Nat) : Int)) by rw [Int.mul_neg]; omega, Int.mul_ediv_cancel_left _ (by omega)]
theorem nearM_spec (s : Bool) (m C : Nat) (hC : 0 < C) : sg (nearM s m C).1 (nearM s m C).2 = (2 * sg s m + C) / (2 * (C : Int)) := by
  have h1 := sg_add s false (2 * m) C
  unfold nearM
  simp only
  generalize addS s (2 * m) false C = u at *
  generalize addM s (2 * m) false C = v at *
  have h2 := flrQ_spec u v (2 * C) (by omega)
  have h3 : sg s (2 * m) = 2 * sg s m := by
    cases s
    · simp [sg]
    · simp [sg]; omega
  have h4 : sg false C = (C : Int) := by simp [sg]
  rw [h1, h3, h4] at h2
  have h5 : ((2 * C : Nat) : Int) = 2 * (C : Int) := by simp
  rw [h5] at h2
  rw [← h2]
  generalize flrQ u v (2 * C) = f
  cases u <;> simp [sg]
  intro h; simp [h]
theorem dv_drop (n : Nat) : ∀ (j : Nat), dv ((dig n).drop j) = ((n / 65536 ^ j : Nat) : Int) := by
  intro j
  induction j generalizing n with
  | zero => simp [dv_dig]
  | succ j ih =>
    by_cases h : n = 0
    · subst h; simp [dig_zero, dv]
    · rw [dig_pos h, List.drop_succ_cons, ih, Nat.pow_succ, Nat.mul_comm, Nat.div_div_eq_div_mul]
end Go.Proofs.YtinjgnaimmenbaaDoor
namespace Go.Proofs.YtinjgnaimmenbaaDoor
open Go.Abs
theorem fdiv_is {a b c : Int} (h : b = c) (hc : 0 < c) : a.fdiv b = a / c := by subst h; exact Int.fdiv_eq_ediv_of_nonneg a (by omega)
theorem and_u64 {n : Int} (h1 : 0 ≤ n) : IntKind.wrap .u64 ((BitVec.ofInt (IntKind.bits .u64) n &&& BitVec.ofInt (IntKind.bits .u64) 4294967295).toNat : Int) = n % 4294967296 := by
  show IntKind.wrap .u64 ((BitVec.ofInt 64 n &&& BitVec.ofInt 64 4294967295).toNat : Int) = _
  rw [and_low 32 (by decide) n 4294967295 4294967296 (by decide) (by decide)]
  exact wrap_u64 (by omega) (by omega)
theorem prod_bound {x y b : Int} (hx : 0 ≤ x ∧ x ≤ b) (hy : 0 ≤ y ∧ y ≤ b) : 0 ≤ x * y ∧ x * y ≤ b * b :=
  ⟨Int.mul_nonneg hx.1 hy.1, Int.mul_le_mul hx.2 hy.2 hy.1 (by omega)⟩
theorem c_mul64 (x y : Int) (hx : U64 x) (hy : U64 y) : ACalls seat 16 [.int .u64 x, .int .u64 y] [] (fun r _ => r = .ret (.tup [.int .u64 (x * y / 18446744073709551616), .int .u64 (x * y % 18446744073709551616)])) := by
  refine ACalls.body seat_ok Tryd.func16 rfl rfl ?_
  obtain ⟨x1, x2⟩ := hx
  obtain ⟨y1, y2⟩ := hy
  have e : x * y = 18446744073709551616 * (x / 4294967296 * (y / 4294967296)) + 4294967296 * (x / 4294967296 * (y % 4294967296) + x % 4294967296 * (y / 4294967296)) + x % 4294967296 * (y % 4294967296) := by
    have h1 := Int.mul_ediv_add_emod x 4294967296
    have h2 := Int.mul_ediv_add_emod y 4294967296
    generalize x / 4294967296 = a at *
    generalize x % 4294967296 = b at *
    generalize y / 4294967296 = c at *
    generalize y % 4294967296 = d at *
    subst h1 h2; grind
  have p00 := prod_bound (b := 4294967295) (x := x % 4294967296) (y := y % 4294967296) (by omega) (by omega)
  have p01 := prod_bound (b := 4294967295) (x := x % 4294967296) (y := y / 4294967296) (by omega) (by omega)
  have p10 := prod_bound (b := 4294967295) (x := x / 4294967296) (y := y % 4294967296) (by omega) (by omega)
  have p11 := prod_bound (b := 4294967295) (x := x / 4294967296) (y := y / 4294967296) (by omega) (by omega)
  rw [show (4294967295 : Int) * 4294967295 = 18446744065119617025 by decide] at p00 p01 p10 p11
  conv => whnf
  repeat' (first | (refine WrapH.is _ (and_u64 (by omega)) ?_; conv => whnf) | (refine NumH.is _ (fdiv_is (c := 4294967296) rfl (by decide)) ?_; conv => whnf) | ((first | refine zq1 (by omega) ?_ | refine zq2 (by omega) ?_ | refine NumH.rem (by omega) ?_ | refine zq4 (by omega) ?_ | refine zq5 (by omega) ?_ | refine zq6 ?_ | refine Req.mk (by omega) ?_ | refine Req.mk (by dsimp only; omega) ?_ | refine Req.mk (show pendP _ _ by repeat' constructor) ?_ | (with_reducible first | refine brT (by assumption) ?_ | refine brF (by assumption) ?_ | refine brDT (by omega) ?_ | refine brDF (by omega) ?_ | refine brET (by omega) ?_ | refine brEF (by omega) ?_ | refine brNET (by omega) ?_ | refine brNEF (by omega) ?_ | refine brNot ?_)); conv => whnf))
  refine congrArg AEnd.ret (congrArg AV.tup (congrArg (fun v => [AV.int .u64 v, _]) ?_))
  generalize x / 4294967296 * (y / 4294967296) = q11 at *
  generalize x / 4294967296 * (y % 4294967296) = q10 at *
  generalize x % 4294967296 * (y / 4294967296) = q01 at *
  generalize x % 4294967296 * (y % 4294967296) = q00 at *
  omega
theorem or_add {a b : Nat} {k : Nat} (hb : b < 2 ^ k) : (2 ^ k * a) ||| b = 2 ^ k * a + b := (Nat.two_pow_add_eq_or_of_lt hb a).symm
theorem or_u64 {a b : Int} {k : Nat} (ha : 0 ≤ a) (hb : 0 ≤ b ∧ b < 2 ^ k) (hs : 2 ^ k * a + b < 18446744073709551616) : IntKind.wrap .u64 ((BitVec.ofInt (IntKind.bits .u64) (2 ^ k * a) ||| BitVec.ofInt (IntKind.bits .u64) b).toNat : Int) = 2 ^ k * a + b := by
  obtain ⟨x, rfl⟩ := Int.eq_ofNat_of_zero_le ha
  obtain ⟨y, rfl⟩ := Int.eq_ofNat_of_zero_le hb.1
  have hy : y < 2 ^ k := by have := hb.2; rw [show ((2 : Int) ^ k) = ((2 ^ k : Nat) : Int) by rw [Int.natCast_pow]; rfl] at this; exact Int.ofNat_lt.1 this
  have e1 : ((2 : Int) ^ k * (x : Int)) = ((2 ^ k * x : Nat) : Int) := by rw [Int.natCast_mul, Int.natCast_pow]; rfl
  have hlt : 2 ^ k * x + y < 18446744073709551616 := by rw [e1] at hs; omega
  show IntKind.wrap .u64 ((BitVec.ofInt 64 (2 ^ k * (x : Int)) ||| BitVec.ofInt 64 (y : Int)).toNat : Int) = _
  rw [e1, BitVec.ofInt_natCast, BitVec.ofInt_natCast, BitVec.toNat_or, BitVec.toNat_ofNat, BitVec.toNat_ofNat, Nat.mod_eq_of_lt (by omega), Nat.mod_eq_of_lt (by omega), or_add hy]
  exact wrap_u64 (by omega) (by omega)
theorem and_u64' {n : Int} : IntKind.wrap .u64 ((BitVec.ofInt (IntKind.bits .u64) n &&& BitVec.ofInt (IntKind.bits .u64) 4294967295).toNat : Int) = n % 4294967296 := by
  show IntKind.wrap .u64 ((BitVec.ofInt 64 n &&& BitVec.ofInt 64 4294967295).toNat : Int) = _
  rw [and_low 32 (by decide) n 4294967295 4294967296 (by decide) (by decide)]
  exact wrap_u64 (by omega) (by omega)
theorem wrap_u8 {n : Int} (h1 : 0 ≤ n) (h2 : n < 256) : IntKind.wrap .u8 n = n := by rw [wrap_u8m]; omega
set_option maxRecDepth 20000 in
theorem c_len17 : ACalls seat 27 [.int .u64 100000000000000000] [] (fun x _ => x = .ret (.int .i64 7)) := by
  refine ACalls.body seat_ok Tryd.func27 rfl rfl ?_
  conv => whnf
  refine CallH.body seat_ok Tryd.func35 rfl rfl ?_
  conv => whnf
  repeat' (first | exact rfl | (refine WrapH.is _ (wrap_u8 (by omega) (by omega)) ?_; conv => whnf) | (refine Req.mk ⟨by decide, by decide⟩ ?_; conv => whnf) | (refine ldI 1 rfl ?_; conv => whnf) | (refine WrapH.is (kd := .i64) (n := ((1 : UInt8).toNat : Int)) 1 rfl ?_; conv => whnf) | (refine NumH.is _ (fdiv_is (c := 4294967296) rfl (by decide)) ?_; conv => whnf) | (refine NumH.is _ (fdiv_is (c := 65536) rfl (by decide)) ?_; conv => whnf) | (refine NumH.is _ (fdiv_is (c := 256) rfl (by decide)) ?_; conv => whnf) | ((first | refine zq1 (by omega) ?_ | refine zq2 (by omega) ?_ | refine NumH.rem (by omega) ?_ | refine zq4 (by omega) ?_ | refine zq5 (by omega) ?_ | refine zq6 ?_ | refine Req.mk (by omega) ?_ | refine Req.mk (by dsimp only; omega) ?_ | refine Req.mk (show pendP _ _ by repeat' constructor) ?_ | (with_reducible first | refine brT (by assumption) ?_ | refine brF (by assumption) ?_ | refine brDT (by omega) ?_ | refine brDF (by omega) ?_ | refine brET (by omega) ?_ | refine brEF (by omega) ?_ | refine brNET (by omega) ?_ | refine brNEF (by omega) ?_ | refine brNot ?_)); conv => whnf))
end Go.Proofs.YtinjgnaimmenbaaDoor
namespace Go.Proofs.YtinjgnaimmenbaaDoor
open Go.Abs
structure RS where
  below : Bool
  ds : List Int
  pt : Int
  seen : Bool
def dsF (ds : List Int) (c : Int) : List Int := if c ≠ 48 ∨ 0 < ds.length then ds ++ [c - 48] else ds
def ptF (seen : Bool) (ds : List Int) (pt : Int) : Int := if seen = false then (if 0 < ds.length then pt + 1 else pt) else (if ds.length = 0 then pt - 1 else pt)
def rdStep (r : RS) (b : UInt8) : RS :=
  if kindN b.toNat = 0 then ⟨r.below, dsF r.ds b.toNat, ptF r.seen (dsF r.ds b.toNat) r.pt, r.seen⟩
  else if kindN b.toNat = 1 then ⟨r.below, r.ds, r.pt, true⟩
  else if kindN b.toNat = 3 then ⟨(b.toNat : Int) == 45, r.ds, r.pt, r.seen⟩
  else r
def rdM (l : List UInt8) : RS := l.foldl rdStep ⟨false, [], 0, false⟩
def powF (cap : Int) (p : Int) (C : List UInt8) : Int := C.foldl (fun p c => if cap < 10 * p + ((c.toNat : Int) - 48) then cap else 10 * p + ((c.toNat : Int) - 48)) p
def stripL (l : List Int) : List Int := (l.reverse.dropWhile (· == 0)).reverse
theorem stripL_last (l : List Int) (x : Int) : stripL (l ++ [x]) = if x = 0 then stripL l else l ++ [x] := by
  unfold stripL
  rw [List.reverse_append]
  by_cases h : x = 0 <;> simp [h]
theorem rdStep_len (r : RS) (b : UInt8) : (rdStep r b).ds.length ≤ r.ds.length + 1 ∧ (-(r.pt.natAbs : Int) - 1 ≤ (rdStep r b).pt ∧ (rdStep r b).pt ≤ r.pt.natAbs + 1) := by
  have hd : ∀ c, (dsF r.ds c).length ≤ r.ds.length + 1 := fun c => by unfold dsF; split <;> simp
  have hp : ∀ ds, -(r.pt.natAbs : Int) - 1 ≤ ptF r.seen ds r.pt ∧ ptF r.seen ds r.pt ≤ r.pt.natAbs + 1 := fun ds => by unfold ptF; repeat' split
                                                                                                                       all_goals omega
  unfold rdStep
  split
  · exact ⟨hd _, hp _⟩
  · split
    · exact ⟨Nat.le_succ _, by simp only; omega⟩
    · split
      · exact ⟨Nat.le_succ _, by simp only; omega⟩
      · exact ⟨Nat.le_succ _, by omega⟩
theorem rdM_snoc (l : List UInt8) (b : UInt8) : rdM (l ++ [b]) = rdStep (rdM l) b := by simp [rdM]
theorem rdM_bd : ∀ (n : Nat) (l : List UInt8), l.length = n → (rdM l).ds.length ≤ n ∧ (-(n : Int) ≤ (rdM l).pt ∧ (rdM l).pt ≤ n)
  | 0, l, h => by
    obtain rfl := List.length_eq_zero_iff.1 h
    exact ⟨Nat.le_refl _, by simp [rdM]⟩
  | n + 1, l, h => by
    have hne : l ≠ [] := by intro h2; rw [h2] at h; simp at h
    have e := (List.dropLast_concat_getLast hne).symm
    have hl : l.dropLast.length = n := by rw [List.length_dropLast]; omega
    have ih := rdM_bd n _ hl
    rw [e, rdM_snoc]
    have := rdStep_len (rdM l.dropLast) (l.getLast hne)
    omega
theorem powF_snoc (cap p : Int) (C : List UInt8) (c : UInt8) : powF cap p (C ++ [c]) = if cap < 10 * powF cap p C + ((c.toNat : Int) - 48) then cap else 10 * powF cap p C + ((c.toNat : Int) - 48) := by unfold powF; rw [List.foldl_append]; rfl
theorem powF_bd {cap : Int} (hc : 0 ≤ cap) : ∀ (n : Nat) (C : List UInt8), C.length = n → (∀ c ∈ C, kindN c.toNat = 0) → 0 ≤ powF cap 0 C ∧ powF cap 0 C ≤ cap
  | 0, C, h, _ => by
    obtain rfl := List.length_eq_zero_iff.1 h
    simpa [powF] using hc
  | n + 1, C, h, hk => by
    have hne : C ≠ [] := by intro h2; rw [h2] at h; simp at h
    have e := (List.dropLast_concat_getLast hne).symm
    have hl : C.dropLast.length = n := by rw [List.length_dropLast]; omega
    have ih := powF_bd hc n _ hl (fun c h => hk c (List.dropLast_subset _ h))
    have h0 := kindN_cases (C.getLast hne).toNat
    have h1 := hk _ (List.getLast_mem hne)
    rw [e, powF_snoc]
    split <;> omega
def expB : Option (UInt8 × List UInt8 × List UInt8) → List UInt8
  | none => []
  | some (e, sg, C) => e :: (sg ++ C)
def exOK : Option (UInt8 × List UInt8 × List UInt8) → Prop
  | none => True
  | some (e, sg, C) => kindN e.toNat = 2 ∧ (sg = [] ∨ sg = [43] ∨ sg = [45]) ∧ C ≠ [] ∧ ∀ c ∈ C, kindN c.toNat = 0
def exPow (cap : Int) : Option (UInt8 × List UInt8 × List UInt8) → Int
  | none => 0
  | some (_, sg, C) => powF cap 0 C
def exDown : Option (UInt8 × List UInt8 × List UInt8) → Bool
  | none => false
  | some (_, sg, _) => sg == [45]
def numV (r : RS) (pow : Int) (down : Bool) : AV := .agg [.bool r.below, .vec (ci .u8 (stripL r.ds)) (stripL r.ds).length none, .int .i64 (r.pt + if down then 0 - pow else pow)]
end Go.Proofs.YtinjgnaimmenbaaDoor
namespace Go.Proofs.YtinjgnaimmenbaaDoor
open Go.Abs
def rStep (r : Nat × Nat × Bool) (b : UInt8) : Nat × Nat × Bool :=
  if kindN b.toNat = 1 then (r.1, r.2.1, true) else (r.1 * 10 + ((b.toNat : Int) - 48).toNat, if r.2.2 = true then r.2.1 + 1 else r.2.1, r.2.2)
def rFold (l : List UInt8) : Nat × Nat × Bool := l.foldl rStep (0, 0, false)
theorem rFold_snoc (l : List UInt8) (b : UInt8) : rFold (l ++ [b]) = rStep (rFold l) b := by simp [rFold]
theorem rFold_bd : ∀ (n : Nat) (l : List UInt8), l.length = n → (∀ b ∈ l, kindN b.toNat = 0 ∨ kindN b.toNat = 1) → (rFold l).1 < 10 ^ n ∧ (rFold l).2.1 ≤ n
  | 0, l, h, _ => by
    obtain rfl := List.length_eq_zero_iff.1 h
    decide
  | n + 1, l, h, hk => by
    have hne : l ≠ [] := by intro h2; rw [h2] at h; simp at h
    have e := (List.dropLast_concat_getLast hne).symm
    have hl : l.dropLast.length = n := by rw [List.length_dropLast]; omega
    have ih := rFold_bd n _ hl (fun c h => hk c (List.dropLast_subset _ h))
    have h0 := kindN_cases (l.getLast hne).toNat
    have h1 := hk _ (List.getLast_mem hne)
    rw [e, rFold_snoc]
    generalize l.getLast hne = b at *
    generalize rFold l.dropLast = r at *
    unfold rStep
    have hp : 10 ^ (n + 1) = 10 ^ n * 10 := Nat.pow_succ ..
    split
    · exact ⟨by rw [hp]; omega, by simp only; omega⟩
    · refine ⟨?_, ?_⟩
      · simp only; rw [hp]; omega
      · simp only; split <;> omega
end Go.Proofs.YtinjgnaimmenbaaDoor
namespace Go.Proofs.YtinjgnaimmenbaaDoor
open Go.Abs
def digL (l : List UInt8) : Prop := ∀ b ∈ l, kindN b.toNat = 0
def dotL : Option (List UInt8) → List UInt8
  | none => []
  | some B => 46 :: B
def txt (S A : List UInt8) (B : Option (List UInt8)) (ex : Option (UInt8 × List UInt8 × List UInt8)) : List UInt8 := S ++ ((A ++ dotL B) ++ expB ex)
structure TxtOK (S A : List UInt8) (B : Option (List UInt8)) (ex : Option (UInt8 × List UInt8 × List UInt8)) : Prop where
  hS : S = [] ∨ S = [43] ∨ S = [45]
  hA : digL A
  hB : digL (B.getD [])
  some : 0 < A.length + (B.getD []).length
  hex : exOK ex
theorem run_app : ∀ (A r : List UInt8), digL A → kd r ≠ 0 → runN (A ++ r) = A.length
  | [], r, _, h => by
    cases r with
    | nil => rfl
    | cons b l => exact if_neg h
  | b :: A, r, hA, h => by rw [List.cons_append, runN_0 (hA b (.head _)), run_app A r (fun x hx => hA x (.tail _ hx)) h]; rfl
theorem run_all (A : List UInt8) (hA : digL A) : runN A = A.length := by
  have := run_app A [] hA (by decide)
  rwa [List.append_nil] at this
theorem expB_kd (ex : Option (UInt8 × List UInt8 × List UInt8)) (h : exOK ex) : (ex = none ∧ kd (expB ex) = -1) ∨ (ex ≠ none ∧ kd (expB ex) = 2) := by
  cases ex with
  | none => exact .inl ⟨rfl, rfl⟩
  | some x => exact .inr ⟨by simp, h.1⟩
theorem eS_txt (ex : Option (UInt8 × List UInt8 × List UInt8)) (h : exOK ex) : eS true (expB ex) = ((expB ex).length, true) := by
  unfold eS
  have n0 : ¬ (true = false) := by decide
  rw [if_neg n0]
  cases ex with
  | none => rfl
  | some x =>
    obtain ⟨e, sg, C⟩ := x
    obtain ⟨he, hsg, hC, hCk⟩ := h
    have hr := run_all C hCk
    have h0 : 0 < C.length := List.length_pos_iff.2 hC
    have hk : kd (expB (some (e, sg, C))) = 2 := he
    rw [if_pos hk]
    unfold expB
    simp only [List.drop_one, List.tail_cons, List.length_cons]
    unfold expS
    rcases hsg with rfl | rfl | rfl
    · have hk3 : kd ([] ++ C) ≠ 3 := by
        cases C with
        | nil => decide
        | cons c l => have : kindN c.toNat = 0 := hCk c (.head _); simp only [List.nil_append, kd]; omega
      rw [if_neg hk3, List.nil_append, hr, decide_eq_true h0, Nat.add_comm]
    · rw [if_pos (by rfl)]
      simp only [List.cons_append, List.nil_append, List.drop_one, List.tail_cons, List.length_cons]
      rw [hr, decide_eq_true h0]; congr 1; omega
    · rw [if_pos (by rfl)]
      simp only [List.cons_append, List.nil_append, List.drop_one, List.tail_cons, List.length_cons]
      rw [hr, decide_eq_true h0]; congr 1; omega
theorem scan_coreT {A : List UInt8} {B : Option (List UInt8)} {ex} (hA : digL A) (hB : digL (B.getD [])) (h0 : 0 < A.length + (B.getD []).length) (hex : exOK ex) :
    addA (runN ((A ++ dotL B) ++ expB ex)) (ptS (decide (0 < runN ((A ++ dotL B) ++ expB ex))) (((A ++ dotL B) ++ expB ex).drop (runN ((A ++ dotL B) ++ expB ex)))) = (((A ++ dotL B) ++ expB ex).length, true) := by
  have hke := expB_kd ex hex
  have hkm : kd (dotL B ++ expB ex) ≠ 0 := by
    cases B with
    | none => simp only [dotL, List.nil_append]; omega
    | some B => intro h; exact absurd (show (1 : Int) = 0 from h) (by decide)
  rw [List.append_assoc, run_app A _ hA hkm, List.drop_left]
  cases B with
  | none =>
    rw [show dotL none ++ expB ex = expB ex from rfl]
    unfold ptS
    simp only [Option.getD_none, List.length_nil, Nat.add_zero] at h0
    rw [if_neg (by omega), decide_eq_true h0, eS_txt ex hex]
    simp [addA]
  | some B =>
    simp only [Option.getD_some] at h0 hB
    unfold ptS
    rw [if_pos (by rfl)]
    simp only [dotL, List.cons_append, List.drop_one, List.tail_cons]
    rw [run_app B _ hB (by omega), List.drop_left]
    rw [show (decide (0 < A.length) || decide (0 < B.length)) = true by simp only [Bool.or_eq_true, decide_eq_true_eq]; omega, eS_txt ex hex]
    simp [addA]
    omega
theorem scan_txt {S A : List UInt8} {B : Option (List UInt8)} {ex} (h : TxtOK S A B ex) : scR true (txt S A B ex) 0 = ((txt S A B ex).length, true) := by
  obtain ⟨hS, hA, hB, h0, hex⟩ := h
  have hc := scan_coreT hA hB h0 hex
  rw [scR_S, addA_zero, List.drop_zero]
  unfold scS txt
  rcases hS with rfl | rfl | rfl
  · have hk : kd ([] ++ (A ++ dotL B ++ expB ex)) ≠ 3 := by
      have hke := expB_kd ex hex
      cases A with
      | cons a l => have : kindN a.toNat = 0 := hA a (.head _); simp only [List.nil_append, List.cons_append, kd]; omega
      | nil =>
        cases B with
        | some B => intro h; exact absurd (show (1 : Int) = 3 from h) (by decide)
        | none => simp only [dotL, List.nil_append]; omega
    rw [if_neg (fun h => hk h.2), List.nil_append]; exact hc
  · rw [if_pos ⟨rfl, rfl⟩]
    simp only [List.cons_append, List.nil_append, List.drop_one, List.tail_cons, List.length_cons]
    rw [hc]; simp only [addA, Nat.add_comm]
  · rw [if_pos ⟨rfl, rfl⟩]
    simp only [List.cons_append, List.nil_append, List.drop_one, List.tail_cons, List.length_cons]
    rw [hc]; simp only [addA, Nat.add_comm]
end Go.Proofs.YtinjgnaimmenbaaDoor
