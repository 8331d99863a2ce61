/- Definitions and lemmas for the law, part 2. No condition beyond those in each statement. -/
import Derived.RangeFuncLeaves
import Derived.RowKit3
import Derived.ChangeSame
import GoSem.ClaimChange
import Derived.Test.YteicdddheaajlaaDoorT1
set_option linter.unusedSimpArgs false
set_option linter.unusedVariables false
set_option linter.deprecated false
namespace Go.Abs
open Go.RowKit
variable {S : Seat}
theorem run_bounds {P : Program} {w : World} (isS : Bool) (len cap : Nat) (lo hi mx : Option Value) (l hh mm : Int) (hlo : (lo = none ∧ l = 0) ∨ ∃ k, lo = some (.int k l)) (hhi : (hi = none ∧ hh = len ∧ mx = none) ∨ ∃ k, hi = some (.int k hh))
    (hmx : (mx = none ∧ mm = cap) ∨ ∃ k, mx = some (.int k mm)) (h0 : 0 ≤ l) (h1 : l ≤ hh) (h2 : hh ≤ mm) (h3 : mm ≤ cap) :
    (Instr.sliceBounds isS len cap lo hi mx).run P w = .ok (l.toNat, hh.toNat, mm.toNat) w := by
  have hb : ∀ (k : IntKind) (i : Int) (y : Nat) (c : BoundsCode), 0 ≤ i → i ≤ y → (Instr.sliceBound (.int k i) y c).run P w = .ok i.toNat w := by
    intro k i y c a b
    simp [Instr.sliceBound, asIntOf, a, b]
  have e1 : mm ≤ (cap : Int) := h3
  have e2 : hh ≤ ((mm.toNat : Nat) : Int) := by omega
  have e3 : l ≤ ((hh.toNat : Nat) : Int) := by omega
  unfold Instr.sliceBounds
  rcases hmx with ⟨rfl, rfl⟩ | ⟨km, rfl⟩
  · rcases hhi with ⟨rfl, rfl, _⟩ | ⟨kh, rfl⟩
    · rcases hlo with ⟨rfl, rfl⟩ | ⟨kl, rfl⟩
      · simp
      · simp [hb kl l len _ h0 (by omega)]
    · rcases hlo with ⟨rfl, rfl⟩ | ⟨kl, rfl⟩
      · simp [hb kh hh cap _ (by omega) (by omega)]
      · simp [hb kh hh cap _ (by omega) (by omega), hb kl l hh.toNat _ h0 e3]
  · rcases hhi with ⟨_, _, h⟩ | ⟨kh, rfl⟩
    · cases h
    · rcases hlo with ⟨rfl, rfl⟩ | ⟨kl, rfl⟩
      · simp [hb km mm cap _ (by omega) h3, hb kh hh mm.toNat _ (by omega) e2]
      · simp [hb km mm cap _ (by omega) h3, hb kh hh mm.toNat _ (by omega) e2, hb kl l hh.toNat _ h0 e3]
theorem intOf?_run {E : Env} {a : AV} {v : Value} {n : Int} (h : intOf? a = some n) (hv : VR E a v) : ∃ k, v = .int k n := by
  cases a <;> simp only [intOf?] at h <;> first | (cases h; done) | skip
  cases h
  simp only [VR] at hv
  exact ⟨_, hv⟩
section
variable {ρ : Operand → AV} {h : Heap} {nid : Nat} {k : OpK}
theorem lo_run {E : Env} {ρ' : Operand → Value} (hv : ∀ x, VR E (ρ x) (ρ' x)) {lo : Option Operand} {l : Int} (h : (match lo with | none => some 0 | some l => intOf? (ρ l)) = some l) : (lo.map ρ' = none ∧ l = 0) ∨ ∃ k, lo.map ρ' = some (.int k l) := by
  cases lo with
  | none => cases h; exact .inl ⟨rfl, rfl⟩
  | some x =>
    obtain ⟨k, hk⟩ := intOf?_run h (hv x)
    exact .inr ⟨k, by simp [hk]⟩
theorem hi_run {E : Env} {ρ' : Operand → Value} (hv : ∀ x, VR E (ρ x) (ρ' x)) {lo : Option Operand} {n l : Int} (h : (match lo with | none => some n | some l => intOf? (ρ l)) = some l) : (lo.map ρ' = none ∧ l = n) ∨ ∃ k, lo.map ρ' = some (.int k l) := by
  cases lo with
  | none => cases h; exact .inl ⟨rfl, rfl⟩
  | some x =>
    obtain ⟨k, hk⟩ := intOf?_run h (hv x)
    exact .inr ⟨k, by simp [hk]⟩
theorem op_slice (hS : SeatOK S) {t : TypeId} {x : Operand} {lo hi mx : Option Operand} (hk : opK S.flat S.Γ ρ h nid (.slice t x lo hi mx) k) : OpSound S ρ h nid (.slice t x lo hi mx) k := by
  simp only [opK] at hk
  split at hk
  · exact hk.elim
  · rename_i ti hti
    have hT := hS.ty t ti hti
    split at hk
    ·
      rename_i s hkd hx
      split at hk
      · exact hk.elim
      rename_i hmx
      obtain ⟨l, hl, hk⟩ := hk.elim
      obtain ⟨hh, hhh, hk⟩ := hk.elim
      obtain ⟨h0, h1, h2⟩ := hk.pf
      refine .pure hk.go fun E w ρ' hv o ho => ?_
      have hx' := hv x; rw [hx] at hx'; simp only [VR] at hx'
      have hlo := lo_run hv hl
      have hhi := hi_run hv hhh
      refine ⟨.string ((⟨s.toArray⟩ : ByteArray).extract l.toNat hh.toNat), ?_, ?_⟩
      · have hb := run_bounds (P := S.P) (w := w) false s.length s.length (lo.map ρ') (hi.map ρ') none l hh s.length hlo (by
          rcases hhi with ⟨a, b⟩ | h
          · exact .inl ⟨a, b, rfl⟩
          · exact .inr h) (.inl ⟨rfl, rfl⟩) h0 h1 h2 (by omega)
        have hsz : (⟨s.toArray⟩ : ByteArray).size = s.length := by simp [ByteArray.size]
        simp [execOp, ho, hx', Instr.sliceAt, Instr.slice, run_underlying (hT.str hkd), hsz, hb]
      · simp only [VR]
        congr 1
        apply ByteArray.ext
        simp [ByteArray.data_extract, List.extract_eq_take_drop]
    ·
      rename_i e cs len g hkd hx
      obtain ⟨size, hs, hk⟩ := hk.elim
      unfold sizeT at hs
      split at hs
      · rename_i te hte
        cases hs
        have hTe := hS.ty e te hte
        obtain ⟨l, hl, hk⟩ := hk.elim
        obtain ⟨hh, hhh, hk⟩ := hk.elim
        obtain ⟨mm, hmm, hk⟩ := hk.elim
        obtain ⟨h0, h1, h2, h3⟩ := hk.pf
        refine .pure hk.go fun E w ρ' hv o ho => ?_
        have hx' := hv x; rw [hx] at hx'; simp only [VR] at hx'
        obtain ⟨a, cap, hx', hcap, hc, _⟩ := hx'
        have hlo := lo_run hv hl
        have hmx : ∃ m : Int, ((mx.map ρ' = none ∧ m = cap) ∨ ∃ k, mx.map ρ' = some (.int k m)) ∧ hh ≤ m ∧ m ≤ cap := by
          cases mx with
          | none => cases hmm; exact ⟨cap, .inl ⟨rfl, rfl⟩, by omega, by omega⟩
          | some y =>
            obtain ⟨km, hkm⟩ := intOf?_run hmm (hv y)
            exact ⟨mm, .inr ⟨km, by simp [hkm]⟩, h2, by omega⟩
        obtain ⟨m, hm1, hm2, hm3⟩ := hmx
        have hhi : (hi.map ρ' = none ∧ hh = len ∧ mx.map ρ' = none) ∨ ∃ k, hi.map ρ' = some (.int k hh) := by
          cases hi with
          | none =>
            cases mx with
            | none => cases hhh; exact .inl ⟨rfl, rfl, rfl⟩
            | some y => cases hhh
          | some y =>
            obtain ⟨kh, hkh⟩ := intOf?_run hhh (hv y)
            exact .inr ⟨kh, by simp [hkh]⟩
        have hb := run_bounds (P := S.P) (w := w) true len cap (lo.map ρ') (hi.map ρ') (mx.map ρ') l hh m hlo hhi hm1 h0 h1 hm2 hm3
        refine ⟨.slice (if m.toNat = l.toNat then a else a.map (·.add (l.toNat * te.size))) (hh.toNat - l.toNat) (m.toNat - l.toNat), ?_, ?_⟩
        · simp [execOp, ho, hx', Instr.sliceAt, Instr.slice, run_underlying (hT.slice hkd), hb, hTe.runSize]
        · simp only [VR]
          refine ⟨_, _, rfl, by omega, ?_, fun i hi => by cases hi⟩
          by_cases hz : hh.toNat - l.toNat = 0
          · left; rw [hz]; simp
          · rcases hc with hc | ⟨b, o0, rfl, hc⟩
            · left; rw [hc]; simp
            · right
              refine ⟨b, o0 + l.toNat * te.size, ?_, (hc.drop _).take _⟩
              rw [if_neg (by omega)]
              simp [Addr.add_lit]
      · cases hs
    ·
      rename_i e hkd hx
      split at hk
      · exact hk.elim
      rename_i hmx
      obtain ⟨size, hs, hk⟩ := hk.elim
      obtain ⟨l, hl, hk⟩ := hk.elim
      obtain ⟨hh, hhh, hk⟩ := hk.elim
      obtain ⟨rfl, rfl⟩ := hk.pf
      refine .pure hk.go fun E w ρ' hv o ho => ?_
      have hx' := hv x; rw [hx] at hx'; simp only [VR] at hx'
      have hlo := lo_run hv hl
      have hhi := hi_run hv hhh
      have hb := run_bounds (P := S.P) (w := w) true 0 0 (lo.map ρ') (hi.map ρ') none 0 0 0 hlo (by
        rcases hhi with ⟨a, b⟩ | h
        · exact .inl ⟨a, by omega, rfl⟩
        · exact .inr h) (.inl ⟨rfl, rfl⟩) (by omega) (by omega) (by omega) (by omega)
      refine ⟨.slice none 0 0, ?_, by simp only [VR]⟩
      have hu := hT.slice hkd
      obtain ⟨ie, hie⟩ : ∃ i, (sizeOf e).run S.P w = .ok i w := by
        unfold sizeT at hs
        split at hs
        · rename_i te hte; exact ⟨_, (hS.ty e te hte).runSize w⟩
        · cases hs
      simp [execOp, ho, hx', Instr.sliceAt, Instr.slice, run_underlying hu, hb, hie]
    ·
      rename_i n e cs hkd hx
      split at hk
      · exact hk.elim
      rename_i hmx
      obtain ⟨size, hs, hk⟩ := hk.elim
      unfold sizeT at hs
      split at hs
      · rename_i te hte
        cases hs
        have hTe := hS.ty e te hte
        obtain ⟨l, hl, hk⟩ := hk.elim
        obtain ⟨hh, hhh, hk⟩ := hk.elim
        obtain ⟨h0, h1, h2, h3⟩ := hk.pf
        refine .pure hk.go fun E w ρ' hv o ho => ?_
        have hx' := hv x; rw [hx] at hx'; simp only [VR] at hx'
        obtain ⟨b, o0, hx', hc⟩ := hx'
        have hlo := lo_run hv hl
        have hhi := hi_run hv hhh
        have hb := run_bounds (P := S.P) (w := w) false n n (lo.map ρ') (hi.map ρ') none l hh n hlo (by
          rcases hhi with ⟨a, b⟩ | h
          · exact .inl ⟨a, b, rfl⟩
          · exact .inr h) (.inl ⟨rfl, rfl⟩) h0 h1 h2 (by omega)
        refine ⟨.slice (some (if ((n : Int)).toNat = l.toNat then ⟨b, o0, none⟩ else (⟨b, o0, none⟩ : Addr).add (l.toNat * te.size))) (hh.toNat - l.toNat) ((n : Int).toNat - l.toNat), ?_, ?_⟩
        · simp [execOp, ho, hx', Instr.sliceAt, Instr.sureAddr, run_underlying (hT.arr hkd), hb, hTe.runSize]
        · simp only [VR]
          refine ⟨_, _, rfl, by omega, ?_, fun i hi => by cases hi⟩
          by_cases hz : hh.toNat - l.toNat = 0
          · left; rw [hz]; simp
          · right
            refine ⟨b, o0 + l.toNat * te.size, ?_, (hc.drop _).take _⟩
            rw [if_neg (by omega)]
            simp [Addr.add_lit]
      · cases hs
    ·
      rename_i n e i0 o0 hkd hx
      split at hk
      · exact hk.elim
      rename_i hmx
      obtain ⟨size, hs, hk⟩ := hk.elim
      unfold sizeT at hs
      split at hs
      · rename_i te hte
        cases hs
        have hTe := hS.ty e te hte
        obtain ⟨l, hl, hk⟩ := hk.elim
        obtain ⟨hh, hhh, hk⟩ := hk.elim
        obtain ⟨h0, h1, h2⟩ := hk.pf
        have hk := hk.go
        have key : ∀ (E : Env) (w : World) (ρ' : Operand → Value), (∀ x, VR E (ρ x) (ρ' x)) → ∀ o : Oper, o.op = .slice t x lo hi none → ∃ b, E.blk i0 = some b ∧ (execOp ρ' o).run S.P w = .ok (.value (.slice (some (if ((n : Int)).toNat = l.toNat then ⟨b, o0, none⟩ else (⟨b, o0, none⟩ : Addr).add (l.toNat * te.size))) (hh.toNat - l.toNat) ((n : Int).toNat - l.toNat))) w := by
          intro E w ρ' hv o ho
          have hx' := hv x; rw [hx] at hx'; simp only [VR] at hx'
          obtain ⟨b, hb0, hx'⟩ := hx'
          have hlo := lo_run hv hl
          have hhi := hi_run hv hhh
          have hb := run_bounds (P := S.P) (w := w) false n n (lo.map ρ') (hi.map ρ') none l hh n hlo (by
            rcases hhi with ⟨a, b⟩ | h
            · exact .inl ⟨a, b, rfl⟩
            · exact .inr h) (.inl ⟨rfl, rfl⟩) h0 h1 h2 (by omega)
          exact ⟨b, hb0, by simp [execOp, ho, hx', Instr.sliceAt, Instr.sureAddr, run_underlying (hT.arr hkd), hb, hTe.runSize]⟩
        split at hk
        · rename_i hlt
          have hlt := of_decide_eq_true hlt
          refine .pure hk fun E w ρ' hv o ho => ?_
          obtain ⟨b, hb0, hrun⟩ := key E w ρ' hv o ho
          refine ⟨_, hrun, ?_⟩
          simp only [VR]
          refine ⟨b, hb0, ?_⟩
          rw [if_neg (by omega)]
          simp [Addr.add_lit]
        · rename_i hlt
          have hlt := of_decide_eq_false hlt
          refine .pure hk fun E w ρ' hv o ho => ?_
          obtain ⟨b, hb0, hrun⟩ := key E w ρ' hv o ho
          refine ⟨_, hrun, ?_⟩
          simp only [VR]
          refine ⟨b, hb0, ?_⟩
          rw [if_pos (by omega)]
          simp
      · cases hs
    · exact hk.elim
def Env.withTok (E : Env) (i F : Nat) (v : Value) (imm' : Imm) : Env := { E with tok := fun j => if j = i then some (F, v) else E.tok j, imm := imm' }
def immRow (imm : Imm) (b : Nat) (us : List Value) : Imm := fun c o => if c = b then us[o]? else imm c o
theorem Ext.withTok {E : Env} {i F : Nat} {v : Value} {imm' : Imm} (h : E.tok i = none) (hi : ∀ b o u, E.imm b o = some u → imm' b o = some u) (hk : ∀ b o, E.keep b → imm' b o = E.imm b o) : Ext E (E.withTok i F v imm') where
  blk j c hj := hj
  tok j F' v' hj := ⟨F', v', by
    show (if j = i then some (F, v) else E.tok j) = some (F', v')
    rw [if_neg (fun e => by subst e; rw [h] at hj; cases hj)]; exact hj, .inr ⟨rfl, rfl⟩⟩
  cbv j v hj := ⟨hj, rfl⟩
  imm := hi
  new := hk
  keep := rfl
  base := rfl
  rnd := rfl
theorem R.newTok {E : Env} {h : Heap} {w : World} (hr : R S E h w) {i : Nat} (hb : E.tok i = none) {us : List Value} {len t sz : Nat} (hlen : us.length = len * sz) (hmax : len ≤ maxLen) :
    R S (E.withTok i len (.slice (some ⟨w.heap.size, 0, none⟩) len len) (immRow E.imm w.heap.size us)) (put h i (.tok len t sz)) (w.alloc (.cells us.toArray t)) ∧
    Ext E (E.withTok i len (.slice (some ⟨w.heap.size, 0, none⟩) len len) (immRow E.imm w.heap.size us)) := by
  have hfresh : ∀ b o u, E.imm b o = some u → b ≠ w.heap.size := fun b o u hu e => absurd (imm_lt hr.r0.imm hu) (by omega)
  have himm : ∀ b o u, E.imm b o = some u → immRow E.imm w.heap.size us b o = some u := fun b o u hu => by
    unfold immRow; rw [if_neg (hfresh b o u hu)]; exact hu
  have hlt : ∀ b, E.keep b → b < w.heap.size := fun b hk => Nat.lt_of_lt_of_le (hr.kp.klt b hk) hr.kp.size
  have hext : Ext E (E.withTok i len (.slice (some ⟨w.heap.size, 0, none⟩) len len) (immRow E.imm w.heap.size us)) :=
    Ext.withTok hb himm fun b o hk => by unfold immRow; rw [if_neg (by have := hlt b hk; omega)]
  have hold : ∀ b, b < w.heap.size → (w.alloc (.cells us.toArray t)).heap[b]? = w.heap[b]? := fun b hb => Below.heap_alloc w _ b hb
  refine ⟨hr.step {
    v := hext.v
    blk := fun _ _ => rfl
    tok := fun j hj => if_neg hj
    cbv := fun _ _ => rfl, cbJ := fun _ _ => rfl, fp := fun _ _ => rfl
    own := fun j d b hj hd ho => hold b (hr.r0.lt j d b hd ho)
    ownI := fun j d b hj hd ho o => by
      show immRow E.imm w.heap.size us b o = E.imm b o
      unfold immRow; rw [if_neg (by have := hr.r0.lt j d b hd ho; omega)]
    ok := fun b o u hu => ?_
    cr := ⟨_, us, if_pos rfl, ⟨hlen, .inr ⟨w.heap.size, len, us.toArray, rfl, Nat.zero_le _, heap_alloc_new w _, Nat.le_refl _, hmax, by simpa using hlen, ?_⟩⟩, fun b hb' o u hu => ?_⟩
    new := fun b ho => ?_
    kp := fun b hk => hold b (hlt b hk)
    size := by simp
    s3 := ⟨rfl, rfl, rfl⟩
    hrnd := fun l hl => ?_
    hmks := fun D hD => ?_
    keep := rfl, base := rfl, rnd := rfl, marks := rfl }, hext⟩
  · have hu2 : immRow E.imm w.heap.size us b o = some u := hu
    unfold immRow at hu2
    split at hu2
    · rename_i e; subst e
      rw [World.cell?_alloc_new]; simpa using hu2
    · exact hr.r0.imm.alloc _ b o u hu2
  · simp [← hlen]
  · simp [Value.ownBlock] at hb'
    subst hb'
    have hu : immRow E.imm w.heap.size us w.heap.size o = some u := hu
    unfold immRow at hu; rwa [if_pos rfl] at hu
  · obtain ⟨F, v, e, hob⟩ := ho
    have e : (if i = i then some (len, Value.slice (some ⟨w.heap.size, 0, none⟩) len len) else E.tok i) = some (F, v) := e
    rw [if_pos rfl] at e; cases e
    simp [Value.ownBlock] at hob
    subst hob
    refine ⟨by simp, fun hk => absurd (hlt _ hk) (Nat.lt_irrefl _), fun j d hj hd ho' => absurd (hr.r0.lt j d _ hd ho') (Nat.lt_irrefl _), fun e => ?_, fun hm => ?_⟩
    · obtain ⟨⟨r, hl⟩, _⟩ := hr.r0.rnd _ e
      exact absurd (Array.getElem?_eq_some_iff.1 hl).1 (Nat.lt_irrefl _)
    · exact absurd (Array.getElem?_eq_some_iff.1 (hr.r0.mks _ hm).1).1 (Nat.lt_irrefl _)
  · obtain ⟨⟨r, hl'⟩, _⟩ := hr.r0.rnd _ hl
    exact hold l (Array.getElem?_eq_some_iff.1 hl').1
  · exact hold D (Array.getElem?_eq_some_iff.1 (hr.r0.mks _ hD).1).1
end
end Go.Abs
namespace Go.Abs
open Go.RowKit
variable {S : Seat}
theorem repL_length (l : List AV) : ∀ n, (repL n l).length = n * l.length
  | 0 => by simp [repL]
  | n + 1 => by rw [repL, List.length_append, repL_length l n, Nat.succ_mul]; omega
theorem repL_get (l : List AV) : ∀ n i, i < n * l.length → (repL n l)[i]? = l[i % l.length]?
  | 0, i, h => by simp at h
  | n + 1, i, h => by
    rw [repL, List.getElem?_append]
    split
    · rw [Nat.mod_eq_of_lt (by assumption)]
    · rename_i hge
      rw [Nat.succ_mul] at h
      have e : i % l.length = (i - l.length) % l.length := Nat.mod_eq_sub_mod (by omega)
      rw [repL_get l n (i - l.length) (by omega), e]
theorem zeros_VRL (E : Env) (z : Value) (n : Nat) (hz : 0 < z.cells.size) : VRL E (repL n (cellsOf (ofV z))) ((Array.range (n * z.cells.size)).map (z.cells[· % z.cells.size]!)).toList := by
  have h0 := zero_VRL E z
  have hl : (cellsOf (ofV z)).length = z.cells.size := h0.length.trans Array.length_toList
  refine VRL.of_get (by rw [repL_length, hl]; simp) fun i c u hc hu => ?_
  have hi : i < n * (cellsOf (ofV z)).length := by
    have := (List.getElem?_eq_some_iff.1 hc).1; rwa [repL_length] at this
  rw [repL_get _ _ _ hi] at hc
  obtain ⟨u', hu', hr⟩ := h0.get _ c hc
  have e : u = z.cells[i % z.cells.size]! := by
    have hi' : i < n * z.cells.size := by rwa [hl] at hi
    rw [Array.toList_map, List.getElem?_map, Array.toList_range, List.getElem?_range hi'] at hu
    exact (Option.some.inj hu).symm
  rw [e]
  have hlt : i % z.cells.size < z.cells.size := Nat.mod_lt _ hz
  rw [hl] at hu'
  have : z.cells[i % z.cells.size]! = u' := by
    rw [getElem!_pos z.cells _ hlt]
    rw [Array.getElem?_toList, Array.getElem?_eq_getElem hlt] at hu'
    exact Option.some.inj hu'
  rw [this]; exact hr
section
variable {ρ : Operand → AV} {h : Heap} {nid : Nat} {k : OpK}
theorem op_buildSlice (hS : SeatOK S) {t : TypeId} {len : Nat} {parts : Array (Nat × Operand)} (hk : opK S.flat S.Γ ρ h nid (.buildSlice t len parts) k) : OpSound S ρ h nid (.buildSlice t len parts) k := by
  simp only [opK] at hk
  split at hk
  · rename_i ti hti
    have hT := hS.ty t ti hti
    split at hk
    · rename_i e hkd
      split at hk
      · rename_i te hte
        have hTe := hS.ty e te hte
        split at hk
        · rename_i h1 h2 h3
          have h1 := natLe_eq.1 h1
          have h2 := natLe_eq.1 h2
          have h3 := Nat.eq_of_beq_eq_true h3
          rw [lenN_eq] at h3
          rw [repK_eq] at hk
          obtain ⟨cs', hk', hrun⟩ := fillA_run hk
          have hzs : te.zero.cells.size = te.size := by
            have := (zero_VRL (closedEnv fun _ _ => none) te.zero).length.trans Array.length_toList
            omega
          refine ⟨_, _, _, hk', fun p hp => .inl (by simp at hp; rw [hp]), fun h' _ E w ρ' hr hb ht _ hun hv o ho => ?_⟩
          have hz := zeros_VRL E te.zero len (by omega)
          rw [hzs] at hz
          obtain ⟨us', hlen, hf, hvs⟩ := hrun E _ (parts.toList.map fun p => (p.1, ρ' p.2)) hz (partsR_of hv _)
          have hl : us'.length = len * te.size := by rw [hlen]; simp
          have hlm : len ≤ maxLen := by
            have : len * 1 ≤ len * te.size := Nat.mul_le_mul_left _ h2
            simp only [maxLen]; omega
          obtain ⟨hr', hext⟩ := hr.newTok (ht (by simp)) (t := e) hl hlm
          refine ⟨_, _, .slice (some ⟨w.heap.size, 0, none⟩) len len, .inl ?_, ?_, hext, rfl, hr', fun h => nomatch h⟩
          · have hgt : ¬ (len * te.size > 2 ^ 24) := by omega
            have hzz : (if len * te.size = 0 then (pure #[] : Sem (Array Value)) else do pure (← zeroValue e).cells).run S.P w = .ok (if len * te.size = 0 then #[] else te.zero.cells) w := by
              split
              · rfl
              · simp [hTe.runZero]
            have hcells : ((Array.range (len * te.size)).map ((if len * te.size = 0 then (#[] : Array Value) else te.zero.cells)[· % (if len * te.size = 0 then (#[] : Array Value) else te.zero.cells).size]!)) = ((Array.range (len * te.size)).map (te.zero.cells[· % te.zero.cells.size]!)).toList.toArray := by
              by_cases h0 : len * te.size = 0
              · simp only [h0, if_true]; simp
              · simp only [h0, if_false]
            have hf' : Instr.fill (fun i => some (i * te.size, te.size)) ((Array.range (len * te.size)).map (te.zero.cells[· % te.zero.cells.size]!)).toList.toArray (parts.toList.map fun p => (p.1, ρ' p.2)) = some us'.toArray := by rw [hzs]; exact hf
            simp only [execOp, ho, Instr.buildSlice, Sem.run_bind, run_underlying (hT.slice hkd), Result.andThen_ok, hTe.runSize, hgt, if_false]
            by_cases h0 : len * te.size = 0
            · have hc0 := hcells
              simp only [h0, if_true] at hc0
              rw [h0] at hf'
              simp only [Array.toList_map] at hf'
              simp only [h0, if_true, Sem.run_bind, Sem.run_pure, Result.andThen_ok, hc0, Array.toList_map, hf', newRow, run_newObj]
              rfl
            · have hc0 := hcells
              simp only [h0, if_false] at hc0
              simp only [h0, if_false, Sem.run_bind, Sem.run_pure, Result.andThen_ok, hTe.runZero, hc0, Array.toList_map, hf', newRow, run_newObj]
              rfl
          · simp only [VR]
            refine ⟨_, _, rfl, Nat.le_refl _, .inr ⟨w.heap.size, 0, rfl, VRI.of_get fun i c hc => ?_⟩, fun i hi => ?_⟩
            · obtain ⟨u, hu1, hu2⟩ := (hvs.mono hext.v).get i c hc
              refine ⟨u, ?_, hu2⟩
              show immRow E.imm w.heap.size us' w.heap.size (0 + i) = some u
              unfold immRow; rw [if_pos rfl, Nat.zero_add]; exact hu1
            · cases hi
              exact ⟨len, _, if_pos rfl, Nat.le_refl _, fun _ => rfl⟩
        · exact hk.elim
      · exact hk.elim
    · exact hk.elim
  · exact hk.elim
theorem op_makeSlice (hS : SeatOK S) {t : TypeId} {l c : Operand} (hk : opK S.flat S.Γ ρ h nid (.makeSlice t l c) k) : OpSound S ρ h nid (.makeSlice t l c) k := by
  simp only [opK] at hk
  split at hk
  · rename_i ti n m hti hl hc
    have hT := hS.ty t ti hti
    split at hk
    · rename_i e hkd
      split at hk
      · rename_i te hte
        have hTe := hS.ty e te hte
        split at hk
        · rename_i h3
          have h3 := Nat.eq_of_beq_eq_true h3
          rw [lenN_eq] at h3
          obtain ⟨p0, p1, p2, p3⟩ := hk.pf
          have hzs : te.zero.cells.size = te.size := by
            have := (zero_VRL (closedEnv fun _ _ => none) te.zero).length.trans Array.length_toList
            omega
          refine ⟨_, _, _, hk.go, fun p hp => .inl (by simp at hp; rw [hp]), fun h' _ E w ρ' hr hb ht _ hun hv o ho => ?_⟩
          have hl' := hv l; have hc' := hv c
          rw [hl] at hl'; rw [hc] at hc'
          simp only [VR] at hl' hc'
          have hz : VRL E (repL m.toNat (cellsOf (ofV te.zero))) ((Array.range (m.toNat * te.size)).map ((if m.toNat * te.size = 0 then (#[] : Array Value) else te.zero.cells)[· % (if m.toNat * te.size = 0 then (#[] : Array Value) else te.zero.cells).size]!)).toList := by
            by_cases h0 : m.toNat * te.size = 0
            · simp only [h0, if_true]
              have : repL m.toNat (cellsOf (ofV te.zero)) = [] := List.eq_nil_of_length_eq_zero (by rw [repL_length, h3]; exact h0)
              rw [this]; simpa using VRL.nil
            · simp only [h0, if_false]
              have := zeros_VRL E te.zero m.toNat (by rw [hzs]; exact Nat.pos_of_ne_zero fun e => h0 (by rw [e]; simp))
              rwa [hzs] at this ⊢
          have hn := hr.new (hb (by simp)) (ht (by simp)) hz e
          refine ⟨_, _, .slice (some ⟨w.heap.size, 0, none⟩) n.toNat m.toNat, .inl ?_, ?_, Ext.withBlk (hb (by simp)), rfl, hn, fun h => nomatch h⟩
          · obtain ⟨ie, hie, hie1, hie2, hie3⟩ := hTe.info'
            have wn : IntKind.i64.wrap n = n := by
              have : (2 : Int) ^ IntKind.i64.bits = 18446744073709551616 := by decide
              unfold IntKind.wrap; simp only [this]
              rw [Int.emod_eq_of_lt (by omega) (by omega)]
              simp [IntKind.signed, IntKind.bits]; omega
            have wm : IntKind.i64.wrap m = m := by
              have : (2 : Int) ^ IntKind.i64.bits = 18446744073709551616 := by decide
              unfold IntKind.wrap; simp only [this]
              rw [Int.emod_eq_of_lt (by omega) (by omega)]
              simp [IntKind.signed, IntKind.bits]; omega
            have hzz : ∀ w, (if m.toNat * te.size = 0 then (pure #[] : Sem (Array Value)) else do pure (← zeroValue e).cells).run S.P w = .ok (if m.toNat * te.size = 0 then #[] else te.zero.cells) w := by
              intro w; split
              · rfl
              · simp [hTe.runZero]
            have c1 : ¬ m < 0 := by omega
            have c2 : ¬ ((ie.bytes : Int) * m > 2 ^ 48) := by rw [hie2]; omega
            have c3 : ¬ n < 0 := by omega
            have c4 : ¬ n > m := by omega
            simp only [execOp, ho, Instr.makeSlice, Sem.run_bind, run_underlying (hT.slice hkd), Result.andThen_ok, hl', hc', asInt, asIntOf, Sem.run_pure, typeInfo, run_program, hie, wn, wm, c1, c2, c3, c4, decide_false, Bool.or_false, Bool.false_eq_true, if_false, Bool.or_self, run_askRoom, run_sizeOf' hie, hie1]
            by_cases h0 : m.toNat * te.size = 0
            · simp only [h0, if_true, Sem.run_bind, Sem.run_pure, Result.andThen_ok, newRow, run_newObj]
              rfl
            · simp only [h0, if_false, Sem.run_bind, Sem.run_pure, Result.andThen_ok, hTe.runZero, newRow, run_newObj]
              rfl
          · simp only [VR]; exact ⟨w.heap.size, if_pos rfl, rfl⟩
        · exact hk.elim
      · exact hk.elim
    · exact hk.elim
  · exact hk.elim
theorem opK_sound (hS : SeatOK S) {op : Op} (hk : opK S.flat S.Γ ρ h nid op k) : OpSound S ρ h nid op k := by
  cases op with
  | move x => exact op_move hk
  | assign x => exact op_assign hk
  | pick c a b => exact op_pick hk
  | alloc t => exact op_alloc hS hk
  | box t x => exact op_box hk
  | build t p => exact op_build hS hk
  | buildSlice t n p => exact op_buildSlice hS hk
  | load t a => exact op_load hS hk
  | store t a x => exact op_store hS hk
  | nilCheck x => exact op_nilCheck hk
  | binOp op t x y yt => exact op_bin hS hk
  | unOp op t x => exact op_un hk
  | convert a b x => exact op_conv hS hk
  | makeInterface t x => exact op_iface hS hk
  | makeFunc f a b => exact op_func hk
  | fieldAddr t x f => exact op_fieldAddr hS hk
  | field t x f => exact op_field hS hk
  | indexAddr t x i => exact op_indexAddr hS hk
  | index t x i => exact op_index hS hk
  | slice t x a b c => exact op_slice hS hk
  | extract x i => exact op_extract hk
  | typeAssert x t a ok => exact op_typeAssert hS hk
  | makeSlice t l c => exact op_makeSlice hS hk
  | _ => exact hk.elim
end
end Go.Abs
namespace Go.Abs
open Go.RowKit
inductive AExit where
  | normal
  | exit (id : Nat)
  | goto (l : Nat)
  | ret
  | pan (v : AV)
abbrev ExK := AExit → List AV → Heap → Prop
def markOf (D : Nat) : Deferred := { target := .collected D, args := #[] }
def ActR (B : List Deferred) (E : Env) (t : List AV) (a : Act) : Prop := VRL E t a.tmps.toList ∧ a.defers = E.marks.map markOf ++ B ∧ E.marks.Nodup
def fen (E : Env) : Fence := match E.rnd with | none => Fence.wide | some l => Fence.wide.inRound l
def ExitR (E : Env) : AExit → Exit → Prop
  | .normal, e => e = .normal
  | .exit i, e => e = .exit i
  | .goto i, e => e = .goto i
  | .ret, e => e = .ret
  | .pan v, e => ∃ u, e = .panic [{ v := u, recovered := false }] ∧ VR E v u
def PostR (S : Seat) (B : List Deferred) (E : Env) (k : ExK) (e : Exit) (a : Act) (w : World) : Prop :=
  ∃ E' t h x, Ext E E' ∧ R S E' h w ∧ ActR B E' t a ∧ ExitR E' x e ∧ k x t h
structure Sat (S : Seat) (c : Code) (t : List AV) (h : Heap) (k : ExK) : Prop where
  out : ∀ (B : List Deferred) (E : Env) (w : World) (a : Act), R S E h w → ActR B E t a → c.wpIn (fen E) 0 S.P (PostR S B E k) a w
structure SatOps (S : Seat) (ops : Array Oper) (l : List Nat) (t : List AV) (h : Heap) (k : ExK) : Prop where
  out : ∀ (B : List Deferred) (E : Env) (w : World) (a : Act), R S E h w → ActR B E t a → wpOpsIn (fen E) 0 S.P ops (PostR S B E k) l a w
structure CallH (S : Seat) (f : Nat) (args : List AV) (h : Heap) (k : AEnd → Heap → Prop) : Prop where
  out : ACalls S f args h k
structure CbH (S : Seat) (i : Nat) (args : List AV) (h : Heap) (k : AEnd → Heap → Prop) : Prop where
  out : ∀ (E : Env) (w : World) (args' : List Value) (fv : Value), R S E h w → VRL E args args' → VR E (.cb i) fv →
    Invoke S.P fv args' w fun e w' => ∃ E' h' r, Ext E E' ∧ E'.marks = E.marks ∧ R S E' h' w' ∧ EndR E' r e ∧ k r h'
def lenAV : TK → AV → Option Int
  | .str, .str s => some s.length
  | .slice _, .vec _ n _ => some n
  | .slice _, .nils => some 0
  | .slice _, .row _ _ n _ => some n
  | .arr n _, _ => some n
  | _, _ => none
def min2A (x y : AV) : Option AV := match x, y with | .int k a, .int k' b => (match kEq k k' with | true => some (.int k (if b < a then b else a)) | false => none) | _, _ => none
def max2A (x y : AV) : Option AV := match x, y with | .int k a, .int k' b => (match kEq k k' with | true => some (.int k (if b > a then b else a)) | false => none) | _, _ => none
def foldK (f : AV → AV → Option AV) : AV → List AV → (AV → Prop) → Prop
  | x, [], k => k x
  | x, y :: r, k => LdK (f x y) (fun z => foldK f z r k)
def appL {α : Type} : List α → List α → List α
  | [], l => l
  | a :: r, l => a :: appL r l
theorem appL_eq {α : Type} : ∀ (a b : List α), appL a b = a ++ b
  | [], b => rfl
  | x :: a, b => by simp [appL, appL_eq a b]
def setD (t : List AV) (d : Option Nat) (v : AV) (k : List AV → Prop) : Prop :=
  match d with
  | some i => forceK v (fun v => setK t i v k)
  | none => k t
def setDst (t : List AV) (d : Option Nat) (v : AV) : List AV := match d with | some i => t.set i v | none => t
theorem setD_eq (t : List AV) (d : Option Nat) (v : AV) (k : List AV → Prop) : setD t d v k = k (setDst t d v) := by
  cases d <;> simp [setD, setDst, forceK_eq, setK_eq]
def putsK : Heap → List (Nat × Chunk) → (Heap → Prop) → Prop
  | h, [], k => k h
  | h, (i, c) :: r, k => putK h i c (fun h' => putsK h' r k)
theorem putsK_eq : ∀ (h : Heap) (ups : List (Nat × Chunk)) (k : Heap → Prop), putsK h ups k = k (puts h ups)
  | h, [], k => rfl
  | h, (i, c) :: r, k => by simp only [putsK, putK_eq, puts]; exact putsK_eq _ r k
def appK (S : Seat) (h : Heap) (nid : Nat) (t : Nat) (s x : AV) (k : OpK) : Prop :=
  match S.Γ t with
  | some ti =>
    match ti.kind with
    | .slice e =>
      match S.Γ e with
      | some te =>
        match x with
        | .vec ds m _ =>
          match s with
          | .nils => Req (ds.length = m * te.size ∧ (∀ c ∈ ds, okCell c = true) ∧ m * te.bytes ≤ 140737488355328 ∧ m ≤ 9223372036854775807 ∧ 0 < te.size)
              (k (.vec ds m (some nid)) [(nid, .tok m e te.size)] [])
          | .vec cs len (some i) =>
            match getO h i with
            | some (.tok F e' sz) => Req (F = len ∧ e' = e ∧ sz = te.size ∧ cs.length = len * te.size ∧ ds.length = m * te.size ∧ (∀ c ∈ ds, okCell c = true) ∧ (len + m) * te.bytes ≤ 140737488355328 ∧ len + m ≤ 9223372036854775807 ∧ 0 < te.size)
                (k (.vec (cs ++ ds) (len + m) (some i)) [(i, .tok (len + m) e te.size)] [i])
            | _ => False
          | _ => False
        | .nils =>
          match s with
          | .nils => k .nils [] []
          | .vec cs len g => k (.vec cs len g) [] []
          | _ => False
        | _ => False
      | none => False
    | _ => False
  | none => False
def operN (S : Seat) (nid : Nat) (o : Oper) (t : List AV) (h : Heap) (k : AEnd → Heap → Prop) : Prop :=
  match o.op with
  | .call c =>
    match c.callee with
    | .value fo =>
      match ev S.G t fo with
      | .fn f a b => mapF (ev S.G t) c.args.toList (fun l => CallH S f (appL a (appL l b)) h k)
      | .cb i => mapF (ev S.G t) c.args.toList (fun l => CbH S i l h k)
      | _ => False
    | .builtin .len =>
      match c.args.toList, c.argTypes.toList with
      | x :: _, ty :: _ => match S.Γ ty with
        | some ti => LdK (lenAV ti.kind (ev S.G t x)) (fun n => k (.ret (.int .i64 n)) h)
        | none => False
      | _, _ => False
    | .builtin .min => mapF (ev S.G t) c.args.toList (fun l => match l with | x :: r => foldK min2A x r (fun v => k (.ret v) h) | [] => False)
    | .builtin .max => mapF (ev S.G t) c.args.toList (fun l => match l with | x :: r => foldK max2A x r (fun v => k (.ret v) h) | [] => False)
    | .builtin .append =>
      match c.args.toList, c.argTypes.toList with
      | [s, x], [ty, ty2] => match Nat.beq ty ty2 with
        | true => appK S h nid ty (ev S.G t s) (ev S.G t x) (fun v ups _ => putsK h ups (fun h' => k (.ret v) h'))
        | false => False
      | _, _ => False
    | _ => False
  | .panic x => match ev S.G t x with | .ifc ty v => k (.pan (.ifc ty v)) h | _ => False
  | op => opK S.flat S.Γ (ev S.G t) h nid op (fun v ups _ => putsK h ups (fun h' => k (.ret v) h'))
def operK (S : Seat) (o : Oper) (t : List AV) (h : Heap) (k : AEnd → Heap → Prop) : Prop := operN S (lenN h) o t h k
def opsK (S : Seat) (ops : List Oper) : List Oper → List AV → Heap → ExK → Prop
  | [], t, h, k => k .normal t h
  | o :: r, t, h, k =>
    match o.guard with
    | none => operK S o t h (fun e h' => match e with | .ret v => setD t o.dst v (fun t' => opsK S ops r t' h' k) | .pan v => k (.pan v) t h')
    | some (j, want) =>
      match getO ops j with
      | some oj =>
        match oj.dst with
        | some d =>
          match getT t d, want with
          | .bool b, true => Br b (operK S o t h (fun e h' => match e with | .ret v => setD t o.dst v (fun t' => opsK S ops r t' h' k) | .pan v => k (.pan v) t h')) (setD t o.dst (.tup []) (fun t' => opsK S ops r t' h k))
          | .bool b, false => Br b (setD t o.dst (.tup []) (fun t' => opsK S ops r t' h k)) (operK S o t h (fun e h' => match e with | .ret v => setD t o.dst v (fun t' => opsK S ops r t' h' k) | .pan v => k (.pan v) t h'))
          | .tup [], _ => setD t o.dst (.tup []) (fun t' => opsK S ops r t' h k)
          | _, _ => False
        | none => False
      | none => False
structure DrawH (S : Seat) (id : Nat) (ops : List Oper) (t : List AV) (h : Heap) (k : ExK) : Prop where
  out : Sat S (.region id ops.toArray true) t h k
def codeK (S : Seat) : Code → List AV → Heap → ExK → Prop
  | .skip, t, h, k => k .normal t h
  | .label _, t, h, k => k .normal t h
  | .region id ops draw, t, h, k =>
    match draw with
    | false => opsK S ops.toList ops.toList t h k
    | true => DrawH S id ops.toList t h k
  | .seq a b, t, h, k => codeK S a t h (fun e t' h' => match e with | .normal => codeK S b t' h' k | .exit i => k (.exit i) t' h' | .goto i => k (.goto i) t' h' | .ret => k .ret t' h' | .pan v => k (.pan v) t' h')
  | .cond c a b, t, h, k => match ev S.G t c with | .bool x => Br x (codeK S a t h k) (codeK S b t h k) | _ => False
  | .block id b, t, h, k => codeK S b t h (fun e t' h' => match e with | .exit j => (match Nat.beq j id with | true => k .normal t' h' | false => k (.exit j) t' h') | .normal => k .normal t' h' | .goto i => k (.goto i) t' h' | .ret => k .ret t' h' | .pan v => k (.pan v) t' h')
  | .loop b, t, h, k => Sat S (.loop b) t h k
  | .rangeFunc f ps a b, t, h, k => Sat S (.rangeFunc f ps a b) t h k
  | .exit id, t, h, k => k (.exit id) t h
  | .goto l, t, h, k => k (.goto l) t h
  | .ret, t, h, k => k .ret t h
  | .scope b, t, h, k => Sat S (.scope b) t h k
  | .refuse _, _, _, _ => False
end Go.Abs
namespace Go.Abs
open Go.RowKit
variable {S : Seat}
theorem VRI.values {E : Env} : ∀ {cs : List AV} {b o : Nat}, VRI E cs b o → ∃ us : List Value, VRL E cs us ∧ ∀ j u, us[j]? = some u → E.imm b (o + j) = some u
  | [], b, o, _ => ⟨[], VRL.nil, fun j u h => by simp at h⟩
  | c :: cs, b, o, h => by
    simp only [VRI] at h
    obtain ⟨⟨u, hu, hv⟩, hr⟩ := h
    obtain ⟨us, h1, h2⟩ := VRI.values hr
    refine ⟨u :: us, VRL.cons hv h1, fun j u' hj => ?_⟩
    cases j with
    | zero => simp at hj; subst hj; exact hu
    | succ j =>
      have := h2 j u' (by simpa using hj)
      rwa [show o + (j + 1) = o + 1 + j by omega]
theorem okCells_all {E : Env} : ∀ {cs : List AV} {us : List Value}, (∀ c ∈ cs, okCell c = true) → VRL E cs us → ∀ u ∈ us, u.oneCell' = true
  | [], us, _, hv, u, hu => by simp only [VRL] at hv; subst hv; cases hu
  | c :: cs, us, h, hv, u, hu => by
    simp only [VRL] at hv
    obtain ⟨u0, us', rfl, h0, hr⟩ := hv
    rcases List.mem_cons.1 hu with rfl | hu
    · exact okCell_one (h c (by simp)) h0
    · exact okCells_all (fun c hc => h c (by simp [hc])) hr u hu
theorem Ext.tokUp {E : Env} {i F F' : Nat} {v v' : Value} {imm' : Imm} (h : E.tok i = some (F, v)) (hF : F < F') (hi : ∀ b o u, E.imm b o = some u → imm' b o = some u) (hk : ∀ b o, E.keep b → imm' b o = E.imm b o) : Ext E (E.withTok i F' v' imm') where
  blk j c hj := hj
  tok j F0 v0 hj := by
    by_cases e : j = i
    · subst e; rw [h] at hj; cases hj
      exact ⟨F', v', if_pos rfl, .inl hF⟩
    · exact ⟨F0, v0, (if_neg e).trans hj, .inr ⟨rfl, rfl⟩⟩
  cbv j v hj := ⟨hj, rfl⟩
  imm := hi
  new := hk
  keep := rfl
  base := rfl
  rnd := rfl
theorem R.grow {E : Env} {h : Heap} {w : World} (hr : R S E h w) {i F F' e sz : Nat} {v v' : Value} {xs : List Value} {w' : World} {imm' : Imm}
    (hext : Ext E (E.withTok i F' v' imm'))
    (hrow : w'.ownsRow 0 e sz v' F' xs) (himm : ∀ b, v'.ownBlock = some b → ∀ o u, imm' b o = some u → xs[o]? = some u)
    (hok : immOK imm' w') (hsz : w.heap.size ≤ w'.heap.size) (hs3 : Same3 w w')
    (hblk : ∀ b, b < w.heap.size → v'.ownBlock ≠ some b → w'.heap[b]? = w.heap[b]?)
    (himm2 : ∀ b, b < w.heap.size → v'.ownBlock ≠ some b → ∀ o, imm' b o = E.imm b o)
    (hown : ∀ b, v'.ownBlock = some b → b < w'.heap.size ∧ (w.heap.size ≤ b ∨ (h[i]? = some (.tok F e sz) ∧ E.tok i = some (F, v) ∧ v.ownBlock = some b))) :
    R S (E.withTok i F' v' imm') (put h i (.tok F' e sz)) w' := by
  have hlt : ∀ b, E.keep b → b < w.heap.size := fun b hk => Nat.lt_of_lt_of_le (hr.kp.klt b hk) hr.kp.size
  have hne : ∀ b, b < w.heap.size → (∀ c, h[i]? = some c → ¬ ownsC E i c b) → v'.ownBlock ≠ some b := by
    intro b hb hno e
    rcases (hown b e).2 with h1 | ⟨h1, h2, h3⟩
    · omega
    · exact hno _ h1 ⟨F, v, h2, h3⟩
  refine hr.step {
    v := hext.v
    blk := fun _ _ => rfl
    tok := fun j hj => if_neg hj
    cbv := fun _ _ => rfl, cbJ := fun _ _ => rfl, fp := fun _ _ => rfl
    own := fun j d b hj hd ho => hblk b (hr.r0.lt j d b hd ho) (hne b (hr.r0.lt j d b hd ho) fun c hc ho2 => hj (hr.r0.disj j i d c b hd hc ho ho2))
    ownI := fun j d b hj hd ho o => himm2 b (hr.r0.lt j d b hd ho) (hne b (hr.r0.lt j d b hd ho) fun c hc ho2 => hj (hr.r0.disj j i d c b hd hc ho ho2)) o
    ok := hok
    cr := ⟨v', xs, if_pos rfl, hrow, himm⟩
    new := fun b ho => ?_
    kp := fun b hk => hblk b (hlt b hk) (hne b (hlt b hk) fun c hc ho => hr.kp.keep i c b hc ho hk)
    size := hsz
    s3 := hs3
    hrnd := fun l hl => ?_
    hmks := fun D hD => ?_
    keep := rfl, base := rfl, rnd := rfl, marks := rfl }
  · obtain ⟨F0, v0, e0, hob⟩ := ho
    have e0 : (if i = i then some (F', v') else E.tok i) = some (F0, v0) := e0
    rw [if_pos rfl] at e0; cases e0
    obtain ⟨h1, h2⟩ := hown b hob
    refine ⟨h1, ?_⟩
    rcases h2 with h2 | ⟨h2, h3, h4⟩
    · refine ⟨fun hk => by have := hlt b hk; omega, fun j d hj hd ho' => by have := hr.r0.lt j d b hd ho'; omega, fun e => ?_, fun hm => ?_⟩
      · obtain ⟨⟨r, hl⟩, _⟩ := hr.r0.rnd _ e
        have := (Array.getElem?_eq_some_iff.1 hl).1; omega
      · have := (Array.getElem?_eq_some_iff.1 (hr.r0.mks _ hm).1).1; omega
    · have ho : ownsC E i (.tok F e sz) b := ⟨F, v, h3, h4⟩
      exact ⟨hr.kp.keep i _ b h2 ho, fun j d hj hd ho' => hj (hr.r0.disj j i d _ b hd h2 ho' ho), fun e => (hr.r0.rnd _ e).2 i _ h2 ho, fun hm => (hr.r0.mks _ hm).2.2 i _ h2 ho⟩
  · obtain ⟨⟨r, hl'⟩, hno⟩ := hr.r0.rnd _ hl
    have := (Array.getElem?_eq_some_iff.1 hl').1
    exact hblk l this (hne l this fun c hc => hno i c hc)
  · obtain ⟨hl', _, hno⟩ := hr.r0.mks _ hD
    have := (Array.getElem?_eq_some_iff.1 hl').1
    exact hblk D this (hne D this fun c hc => hno i c hc)
theorem R.drew {E : Env} {h : Heap} {w : World} (hr : R S E h w) : R S E h w.drew := by
  obtain ⟨r0, kp⟩ := hr
  obtain ⟨c1, c2, c3, c4, c5, c6, c7, c8⟩ := r0
  obtain ⟨k1, k2, k3, k4, k5⟩ := kp
  exact ⟨⟨fun i c hi => CR.move (w := w) (w' := w.drew) (Ext.refl E).v rfl rfl rfl rfl rfl (fun _ _ => rfl) (fun _ _ _ => rfl) c6 (Nat.le_refl _) ⟨rfl, rfl, rfl⟩ (c1 i c hi), c2, c3, c4, c5, c6, c7, c8⟩, ⟨k1, k2, k3, k4, k5.trans ⟨rfl, rfl, rfl⟩⟩⟩
theorem R.regrow {E : Env} {h : Heap} {w : World} (hr : R S E h w) {i F n cap e sz : Nat} {v : Value} (ht : E.tok i = some (F, v) ∨ E.tok i = none) (hF : ∀ F0 v0, E.tok i = some (F0, v0) → F0 < n)
    (all : List Value) (hall : all.length = n * sz) (hge : n ≤ cap) (hcm : cap ≤ maxLen) (zs : Array Value) (hz : zs.size = (cap - n) * sz) :
    R S (E.withTok i n (.slice (some ⟨w.heap.size, 0, none⟩) n cap) (immRow E.imm w.heap.size all)) (put h i (.tok n e sz)) (w.drew.alloc (.cells (all.toArray ++ zs) e)) ∧
    Ext E (E.withTok i n (.slice (some ⟨w.heap.size, 0, none⟩) n cap) (immRow E.imm w.heap.size all)) := by
  have hfresh : ∀ b o u, E.imm b o = some u → b ≠ w.heap.size := fun b o u hu e => absurd (imm_lt hr.r0.imm hu) (by omega)
  have himm : ∀ b o u, E.imm b o = some u → immRow E.imm w.heap.size all b o = some u := fun b o u hu => by
    unfold immRow; rw [if_neg (hfresh b o u hu)]; exact hu
  have hlt : ∀ b, E.keep b → b < w.heap.size := fun b hk => Nat.lt_of_lt_of_le (hr.kp.klt b hk) hr.kp.size
  have hkp : ∀ b o, E.keep b → immRow E.imm w.heap.size all b o = E.imm b o := fun b o hk => by unfold immRow; rw [if_neg (by have := hlt b hk; omega)]
  have hext : Ext E (E.withTok i n (.slice (some ⟨w.heap.size, 0, none⟩) n cap) (immRow E.imm w.heap.size all)) := by
    rcases ht with ht | ht
    · exact Ext.tokUp ht (hF _ _ ht) himm hkp
    · exact Ext.withTok ht himm hkp
  have hcell : ∀ o u, all[o]? = some u → (w.drew.alloc (.cells (all.toArray ++ zs) e)).cell? ⟨w.heap.size, o, none⟩ = some u := fun o u ho => by
    have := World.cell?_alloc_new w.drew (all.toArray ++ zs) e o
    simp only [World.size_drew] at this
    rw [this, Array.getElem?_append_left (by simpa using (List.getElem?_eq_some_iff.1 ho).1)]
    simpa using ho
  have hold : ∀ b, b < w.heap.size → (w.drew.alloc (.cells (all.toArray ++ zs) e)).heap[b]? = w.heap[b]? := fun b hb => Below.heap_alloc w.drew _ b hb
  refine ⟨hr.grow (F := F) (v := v) (xs := all) hext ⟨hall, .inr ⟨w.heap.size, cap, _, rfl, Nat.zero_le _, heap_alloc_new w.drew _, hge, hcm, ?_, ?_⟩⟩ ?_ ?_ ?_ ⟨rfl, rfl, rfl⟩ ?_ ?_ ?_, hext⟩
  · rw [Array.size_append, List.size_toArray, hall, hz, ← Nat.add_mul]; congr 1; omega
  · rw [← hall]; simp
  · intro b hb o u hu
    simp [Value.ownBlock] at hb; subst hb
    unfold immRow at hu; rwa [if_pos rfl] at hu
  · intro b o u hu
    unfold immRow at hu
    split at hu
    · rename_i e0; subst e0; exact hcell o u hu
    · exact hr.drew.r0.imm.alloc _ b o u hu
  · simp
  · intro b hb _; exact hold b hb
  · intro b hb hne o
    unfold immRow
    rw [if_neg (by omega)]
  · intro b hb
    simp [Value.ownBlock] at hb; subst hb
    exact ⟨by simp, .inl (Nat.le_refl _)⟩
theorem zeroCells_size (z : Value) (n : Nat) : (Builtin.zeroCells z.cells n).size = n * z.cells.size := by simp [Builtin.zeroCells]
theorem appK_sound (hS : SeatOK S) {h : Heap} {nid t : Nat} {s x : AV} {k : OpK} (hk : appK S h nid t s x k) :
    ∃ v ups rds, k v ups rds ∧ (∀ p ∈ ups, p.1 = nid ∨ p.1 ∈ rds) ∧ ∀ h' : Heap, (∀ i ∈ rds, h'[i]? = h[i]?) → ∀ (E : Env) (w : World), R S E h' w → E.tok nid = none → ∀ (sv xv : Value) (ty : TypeId), VR E s sv → VR E x xv →
      ∃ E' w' u, (Builtin.append_ #[t, t] ty #[sv, xv]).run S.P w = .ok u w' ∧ VR E' v u ∧ Ext E E' ∧ E'.marks = E.marks ∧ R S E' (puts h' ups) w' := by
  unfold appK at hk
  split at hk
  case h_2 => exact hk.elim
  rename_i ti hti
  have hT := hS.ty t ti hti
  split at hk
  case h_2 => exact hk.elim
  rename_i e hkd
  split at hk
  case h_2 => exact hk.elim
  rename_i te hte
  have hTe := hS.ty e te hte
  obtain ⟨ie, hie, hie1, hie2, hie3⟩ := hTe.info'
  have hzs := hTe.zsize
  have hu := hT.slice hkd
  have hnilapp : ∀ (w : World) (a : Option Addr) (c : Nat) (ty : TypeId) (a0 : Option Addr) (F c0 : Nat), F ≤ c0 → (Builtin.append_ #[t, t] ty #[.slice a0 F c0, .slice a 0 c]).run S.P w = .ok (.slice a0 F c0) w := by
    intro w a c ty a0 F c0 hF
    cases a <;> cases a0 <;> simp [Builtin.append_, run_underlying hu, sizeOf, typeInfo, hie, Builtin.lenOf, Builtin.firstCells, loadCells, loadCellsFrom, hF, storeCells]
  split at hk
  · rename_i ds m g
    split at hk
    ·
      obtain ⟨p1, p2, p3, p4, p5⟩ := hk.pf
      refine ⟨_, _, _, hk.go, fun p hp => .inl (by simp at hp; rw [hp]), fun h' _ E w hr ht sv xv ty hs hx => ?_⟩
      simp only [VR] at hs hx
      subst hs
      obtain ⟨a, c, rfl, hmc, hc, _⟩ := hx
      by_cases hm : m = 0
      · subst hm
        have hds : ds = [] := List.eq_nil_of_length_eq_zero (by simpa using p1)
        subst hds
        have hext : Ext E (E.withTok nid 0 (.slice none 0 0) E.imm) := Ext.withTok ht (fun _ _ _ h => h) fun _ _ _ => rfl
        refine ⟨_, w, .slice none 0 0, hnilapp w a c ty none 0 0 (Nat.le_refl _), ?_, hext, rfl, hr.grow (F := 0) (v := .slice none 0 0) (xs := []) hext (World.ownsRow_nil w 0 e te.size) (fun b hb => by simp [Value.ownBlock] at hb) hr.r0.imm (Nat.le_refl _) (Same3.refl w) (fun _ _ _ => rfl) (fun _ _ _ _ => rfl) (fun b hb => by simp [Value.ownBlock] at hb)⟩
        simp only [VR]
        exact ⟨none, 0, rfl, Nat.le_refl _, by simp, fun i hi => by cases hi; exact ⟨0, _, if_pos rfl, Nat.le_refl _, fun _ => rfl⟩⟩
      · rcases hc with hc | ⟨b, o, rfl, hc⟩
        · exfalso
          have : 0 < m * te.size := Nat.mul_pos (Nat.pos_of_ne_zero hm) p5
          rw [hc] at p1; simp only [List.length_nil] at p1; omega
        · obtain ⟨news, hn1, hn2⟩ := hc.values
          have hnl : news.length = m * ie.size := by rw [← hn1.length, p1, hie1]
          have hrun := run_append_nil (P := S.P) w t ty e ie te.zero hu hie hie3 ⟨b, o, none⟩ m c news hnl (fun j u hj => by rw [Addr.add_lit]; exact hr.r0.imm _ _ _ (hn2 j u hj)) (by omega) (by omega) (by rw [hie2]; omega)
          have hge := grownCap_ge w m 0 e
          have hcm : grownCap w m 0 e ≤ maxLen := grownCap_le_maxLen w m 0 e (by simp only [maxLen]; omega)
          obtain ⟨hr', hext⟩ := hr.regrow (F := 0) (v := .slice none 0 0) (i := nid) (e := e) (sz := te.size) (.inr ht) (fun F0 v0 h0 => by rw [ht] at h0; cases h0) news (by rw [hnl, hie1]) hge hcm (Builtin.zeroCells te.zero.cells (grownCap w m 0 e - m)) (by rw [zeroCells_size, hzs])
          refine ⟨_, _, _, hrun, ?_, hext, rfl, hr'⟩
          simp only [VR]
          refine ⟨_, _, rfl, hge, .inr ⟨w.heap.size, 0, rfl, VRI.of_get fun j c hj => ?_⟩, fun i hi => by cases hi; exact ⟨m, _, if_pos rfl, Nat.le_refl _, fun _ => rfl⟩⟩
          obtain ⟨u, hu1, hu2⟩ := (hn1.mono hext.v).get j c hj
          refine ⟨u, ?_, hu2⟩
          show immRow E.imm w.heap.size news w.heap.size (0 + j) = some u
          unfold immRow; rw [if_pos rfl, Nat.zero_add]; exact hu1
    ·
      rename_i cs len i
      split at hk
      · rename_i F e' sz hi
        rw [getO_eq] at hi
        obtain ⟨rfl, rfl, rfl, q1, p1, p2, p3, p4, p5⟩ := hk.pf
        refine ⟨_, _, _, hk.go, fun p hp => .inr (by simp at hp; rw [hp]; simp), fun h' hh E w hr ht sv xv ty hs hx => ?_⟩
        have hi' : h'[i]? = some (.tok F e' te.size) := by rw [hh i (by simp)]; exact hi
        obtain ⟨v0, xs, t1, t2, t3⟩ := hr.r0.ch i _ hi'
        simp only [VR] at hs hx
        obtain ⟨a0, c0, rfl, hFc, hcs, htk⟩ := hs
        obtain ⟨F1, v1, t4, _, t5⟩ := htk i rfl
        rw [t1] at t4; cases t4
        have t5 := t5 rfl
        subst t5
        obtain ⟨a, c, rfl, hmc, hc, _⟩ := hx
        have hxl : xs.length = F * te.size := t2.1
        by_cases hm : m = 0
        · subst hm
          have hds : ds = [] := List.eq_nil_of_length_eq_zero (by simpa using p1)
          subst hds
          have hext : Ext E (E.withTok i F (.slice a0 F c0) E.imm) := ⟨fun _ _ h => h, fun j F0 v0 hj => ⟨F0, v0, by
            show (if j = i then some (F, Value.slice a0 F c0) else E.tok j) = some (F0, v0)
            split
            · rename_i e0; subst e0; rw [t1] at hj; exact hj
            · exact hj, .inr ⟨rfl, rfl⟩⟩, fun _ _ h => ⟨h, rfl⟩, fun _ _ _ h => h, fun _ _ _ => rfl, rfl, rfl, rfl⟩
          refine ⟨_, w, .slice a0 F c0, hnilapp w a c ty a0 F c0 hFc, ?_, hext, rfl, hr.grow (F := F) (v := .slice a0 F c0) (xs := xs) hext t2 t3 hr.r0.imm (Nat.le_refl _) (Same3.refl w) (fun _ _ _ => rfl) (fun _ _ _ _ => rfl) (fun b hb => ⟨hr.r0.lt i _ b hi' ⟨F, _, t1, hb⟩, .inr ⟨hi', t1, hb⟩⟩)⟩
          simp only [VR, List.append_nil, Nat.add_zero]
          refine ⟨a0, c0, rfl, hFc, ?_, fun j hj => by cases hj; exact ⟨F, _, if_pos rfl, Nat.le_refl _, fun _ => rfl⟩⟩
          rcases hcs with hcs | ⟨b, o, e0, hcs⟩
          · exact .inl hcs
          · exact .inr ⟨b, o, e0, hcs.mono hext.v⟩
        · rcases hc with hc | ⟨b, o, rfl, hc⟩
          · exfalso
            have : 0 < m * te.size := Nat.mul_pos (Nat.pos_of_ne_zero hm) p5
            rw [hc] at p1; simp only [List.length_nil] at p1; omega
          obtain ⟨news, hn1, hn2⟩ := hc.values
          have hnl : news.length = m * ie.size := by rw [← hn1.length, p1, hie1]
          have hnews : ∀ j u, news[j]? = some u → w.cell? ((⟨b, o, none⟩ : Addr).add j) = some u := fun j u hj => by rw [Addr.add_lit]; exact hr.r0.imm _ _ _ (hn2 j u hj)
          have hone := okCells_all p2 hn1
          have hold : ∀ (g : Nat), a0 = some ⟨g, 0, none⟩ → ∀ (j : Nat) (c : AV), cs[j]? = some c → ∃ u, xs[j]? = some u ∧ VR E c u := by
            intro g hg j c hj
            rcases hcs with hcs | ⟨b', o', e0, hcs⟩
            · rw [hcs] at hj; simp at hj
            · rw [hg] at e0; cases e0
              obtain ⟨u, hu1, hu2⟩ := hcs.get j c hj
              rw [Nat.zero_add] at hu1
              exact ⟨u, t3 g (by rw [hg]; rfl) j u hu1, hu2⟩
          have hnilcs : a0 = none → cs = [] := by
            intro ha
            rcases hcs with hcs | ⟨b', o', e0, hcs⟩
            · exact hcs
            · rw [ha] at e0; cases e0
          have hall : ∀ (E' : Env), VExt E E' → ∀ (g : Nat), (∀ (j : Nat) (u : Value), (xs ++ news)[j]? = some u → E'.imm g j = some u) → (∀ (j : Nat) (c : AV), cs[j]? = some c → ∃ u, xs[j]? = some u ∧ VR E c u) → VRI E' (cs ++ ds) g 0 := by
            intro E' hv g himm hcsx
            refine VRI.of_get fun j c hj => ?_
            rw [Nat.zero_add]
            rw [List.getElem?_append] at hj
            split at hj
            · obtain ⟨u, hu1, hu2⟩ := hcsx j c hj
              exact ⟨u, himm j u (by rw [List.getElem?_append_left (List.getElem?_eq_some_iff.1 hu1).1]; exact hu1), hu2.mono hv⟩
            · rename_i hge
              obtain ⟨u, hu1, hu2⟩ := hn1.get _ c hj
              refine ⟨u, himm j u ?_, hu2.mono hv⟩
              rw [List.getElem?_append_right (by omega), hxl, ← q1]; exact hu1
          rcases t2.2 with ⟨hv0, hF0⟩ | ⟨g, cap, cur, hv0, _, hgh, hFcap, hcapm, hcur, htake⟩
          ·
            cases hv0
            have hxs : xs = [] := List.eq_nil_of_length_eq_zero (by rw [hxl]; simp)
            have hcs0 := hnilcs rfl
            have hrun := run_append_nil (P := S.P) w t ty e' ie te.zero hu hie hie3 ⟨b, o, none⟩ m c news hnl hnews (by omega) (by omega) (by rw [hie2]; rw [Nat.zero_add] at p3; omega)
            have hge := grownCap_ge w m 0 e'
            have hcm : grownCap w m 0 e' ≤ maxLen := grownCap_le_maxLen w m 0 e' (by simp only [maxLen]; omega)
            obtain ⟨hr', hext⟩ := hr.regrow (F := 0) (v := .slice none 0 0) (i := i) (e := e') (sz := te.size) (.inl t1) (fun F0 v0 h0 => by rw [t1] at h0; cases h0; omega) news (by rw [hnl, hie1]) hge hcm (Builtin.zeroCells te.zero.cells (grownCap w m 0 e' - m)) (by rw [zeroCells_size, hzs])
            rw [Nat.zero_add]
            refine ⟨_, _, _, hrun, ?_, hext, rfl, hr'⟩
            simp only [VR]
            refine ⟨_, _, rfl, hge, .inr ⟨w.heap.size, 0, rfl, hall _ hext.v w.heap.size (fun j u hj => ?_) (fun j c hj => by rw [hcs0] at hj; simp at hj)⟩, fun j hj => by cases hj; exact ⟨m, _, if_pos rfl, Nat.le_refl _, fun _ => rfl⟩⟩
            show immRow E.imm w.heap.size news w.heap.size j = some u
            unfold immRow; rw [if_pos rfl]; rw [hxs] at hj; simpa using hj
          · cases hv0
            by_cases hroom : F + m ≤ c0
            ·
              have hfit : F * ie.size + news.length ≤ cur.size := by rw [hnl, hcur, hie1, ← Nat.add_mul]; exact Nat.mul_le_mul_right _ hroom
              have hrun := run_append_room (P := S.P) w t ty e' ie hu hie g F c0 cur hgh ⟨b, o, none⟩ m c news hnl hnews hone hroom hfit
              have hcells : cur.toList.take (F * ie.size) = xs := by rw [hie1]; exact htake
              rw [hcells] at hrun
              have hoth : ∀ k, k ≠ g → (w.setRow g (xs ++ news ++ cur.toList.drop (F * ie.size + news.length)).toArray).heap[k]? = w.heap[k]? := fun k hk => setRow_other w g k _ hk
              have himm : ∀ b o u, E.imm b o = some u → immRow E.imm g (xs ++ news) b o = some u := fun b o u hu => by
                unfold immRow
                split
                · rename_i e0; subst e0
                  have := t3 b rfl o u hu
                  rw [List.getElem?_append_left (List.getElem?_eq_some_iff.1 this).1]; exact this
                · exact hu
              have hgown : ownsC E i (.tok F e' te.size) g := ⟨F, _, t1, rfl⟩
              have hext : Ext E (E.withTok i (F + m) (.slice (some ⟨g, 0, none⟩) (F + m) c0) (immRow E.imm g (xs ++ news))) :=
                Ext.tokUp t1 (by omega) himm fun b o hk => by unfold immRow; rw [if_neg (fun e0 => by subst e0; exact hr.kp.keep i _ _ hi' hgown hk)]
              have hheap := setRow_heap w g cur (xs ++ news ++ cur.toList.drop (F * ie.size + news.length)).toArray e' _ hgh
              have hlen2 : (xs ++ news).length = (F + m) * te.size := by rw [List.length_append, hxl, hnl, hie1, Nat.add_mul]
              refine ⟨_, _, _, hrun, ?_, hext, rfl, hr.grow (F := F) (v := .slice (some ⟨g, 0, none⟩) F c0) (xs := xs ++ news) hext ⟨hlen2, .inr ⟨g, c0, _, rfl, Nat.zero_le _, hheap, hroom, hcapm, ?_, ?_⟩⟩ ?_ ?_ ?_ ⟨rfl, rfl, rfl⟩ ?_ ?_ ?_⟩
              · simp only [VR]
                refine ⟨_, _, rfl, hroom, .inr ⟨g, 0, rfl, hall _ hext.v g (fun j u hj => ?_) (hold g rfl)⟩, fun j hj => by cases hj; exact ⟨F + m, _, if_pos rfl, Nat.le_refl _, fun _ => rfl⟩⟩
                show immRow E.imm g (xs ++ news) g j = some u
                unfold immRow; rw [if_pos rfl]; exact hj
              · rw [← hcells]
                simp only [List.size_toArray, List.length_append, List.length_take, List.length_drop, Array.length_toList]
                omega
              · rw [List.append_assoc, ← List.append_assoc, ← hlen2]
                exact List.take_left
              · intro b' hb' o' u' hu'
                simp [Value.ownBlock] at hb'; subst hb'
                unfold immRow at hu'; rwa [if_pos rfl] at hu'
              · intro b' o' u' hu'
                unfold immRow at hu'
                split at hu'
                · rename_i e0; subst e0
                  rw [cell_of_row _ _ _ _ _ _ hheap]
                  simp only [List.getElem?_toArray]
                  rw [List.getElem?_append_left (List.getElem?_eq_some_iff.1 hu').1]; exact hu'
                · rename_i hne
                  exact (World.cell?_of_block (w := w) (a := ⟨b', o', none⟩) (hoth b' hne)).trans (hr.r0.imm b' o' u' hu')
              · simp [World.setRow]
              · intro b' _ hne
                exact hoth b' (fun e0 => hne (by subst e0; rfl))
              · intro b' _ hne o'
                unfold immRow
                rw [if_neg (fun e0 => hne (by subst e0; rfl))]
              · intro b' hb'
                simp [Value.ownBlock] at hb'; subst hb'
                refine ⟨by have := hr.r0.lt i _ g hi' hgown; simpa [World.setRow] using this, .inr ⟨hi', t1, rfl⟩⟩
            ·
              have holds : ∀ j u, xs[j]? = some u → w.cell? ((⟨g, 0, none⟩ : Addr).add j) = some u := t2.cells (g := g) rfl
              have hrun := run_append_grow (P := S.P) w t ty e' ie te.zero hu hie hie3 ⟨g, 0, none⟩ F c0 xs (by rw [hxl, hie1]) holds ⟨b, o, none⟩ m c news hnl hnews (by omega) (by omega) (by rw [hie2]; exact growslice_fits (by omega) p3)
              have hge := grownCap_ge w (F + m) c0 e'
              have hcm : grownCap w (F + m) c0 e' ≤ maxLen := grownCap_le_maxLen w (F + m) c0 e' (by simp only [maxLen]; omega)
              have hlen2 : (xs ++ news).length = (F + m) * te.size := by rw [List.length_append, hxl, hnl, hie1, Nat.add_mul]
              obtain ⟨hr', hext⟩ := hr.regrow (F := F) (v := .slice (some ⟨g, 0, none⟩) F c0) (i := i) (e := e') (sz := te.size) (.inl t1) (fun F0 v0 h0 => by rw [t1] at h0; cases h0; omega) (xs ++ news) hlen2 hge hcm (Builtin.zeroCells te.zero.cells (grownCap w (F + m) c0 e' - (F + m))) (by rw [zeroCells_size, hzs])
              have earr : xs.toArray ++ news.toArray = (xs ++ news).toArray := by simp
              rw [earr] at hrun
              refine ⟨_, _, _, hrun, ?_, hext, rfl, hr'⟩
              simp only [VR]
              refine ⟨_, _, rfl, hge, .inr ⟨w.heap.size, 0, rfl, hall _ hext.v w.heap.size (fun j u hj => ?_) (hold g rfl)⟩, fun j hj => by cases hj; exact ⟨F + m, _, if_pos rfl, Nat.le_refl _, fun _ => rfl⟩⟩
              show immRow E.imm w.heap.size (xs ++ news) w.heap.size j = some u
              unfold immRow; rw [if_pos rfl]; exact hj
      · exact hk.elim
    · exact hk.elim
  ·
    split at hk
    · refine ⟨_, _, _, hk, fun p hp => (nomatch hp), fun h' _ E w hr ht sv xv ty hs hx => ?_⟩
      simp only [VR] at hs hx
      subst hs; subst hx
      exact ⟨E, w, _, hnilapp w none 0 ty none 0 0 (Nat.le_refl _), by simp only [VR], Ext.refl E, rfl, hr⟩
    · refine ⟨_, _, _, hk, fun p hp => (nomatch hp), fun h' _ E w hr ht sv xv ty hs hx => ?_⟩
      have hs0 := hs
      simp only [VR] at hs hx
      subst hx
      obtain ⟨a0, c0, rfl, hFc, _⟩ := hs
      exact ⟨E, w, _, hnilapp w none 0 ty a0 _ c0 hFc, hs0, Ext.refl E, rfl, hr⟩
    · exact hk.elim
  · exact hk.elim
end Go.Abs
namespace Go.Abs
open Go.RowKit
variable {S : Seat} {B : List Deferred}
theorem fen_fn (E : Env) (f : FuncId) : (fen E).fn f := by
  unfold fen; split <;> trivial
theorem fen_depth (E : Env) : (fen E).depth = none := by
  unfold fen; split <;> rfl
theorem callsIn_fen {E : Env} {n : Nat} {P : Program} {f : FuncId} {args : Array Value} {w : World} {R : Ending → World → Prop} (h : Calls P f args w R) : CallsIn (fen E) n P f args w R := by
  unfold fen
  split
  · exact callsIn_wide.2 h
  · exact CallsIn.inRound _ (callsIn_wide.2 h)
theorem roundIn_fen {E : Env} {n : Nat} {P : Program} {l : Nat} {f : FuncId} {tmps : Array Value} {assign body : Code} {w : World} {R : Ending → World → Prop} (h : RoundIn Fence.wide n P l f tmps assign body w R) : RoundIn (fen E) n P l f tmps assign body w R := by
  unfold fen
  split
  · exact h
  · exact h
theorem fen_ext {E E' : Env} (h : Ext E E') : fen E' = fen E := by unfold fen; rw [h.rnd]
def Env.enter (E : Env) (w : World) : Env := { E with keep := fun b => E.keep b ∨ E.rnd = some b ∨ b ∈ E.marks, base := w, rnd := none, marks := [] }
def Env.back (E E' : Env) : Env := { E' with keep := E.keep, base := E.base, rnd := E.rnd, marks := E.marks }
theorem VExt.of_eq {E E' : Env} (h1 : E'.blk = E.blk) (h2 : E'.tok = E.tok) (h3 : E'.cbv = E.cbv) (h4 : E'.imm = E.imm) : VExt E E' :=
  ⟨fun i b h => by rw [h1]; exact h, fun i F v h => ⟨F, v, by rw [h2]; exact h, .inr ⟨rfl, rfl⟩⟩, fun i v h => by rw [h3]; exact h, fun b o u h => by rw [h4]; exact h⟩
theorem CR.same {P : Program} {E E' : Env} {w : World} {i : Nat} {c : Chunk} (h1 : E'.blk = E.blk) (h2 : E'.tok = E.tok) (h3 : E'.cbv = E.cbv) (h4 : E'.imm = E.imm) (h5 : E'.cbJ = E.cbJ) (h6 : E'.fp = E.fp) (hok : immOK E.imm w) (h : CR P E w i c) : CR P E' w i c :=
  h.move (VExt.of_eq h1 h2 h3 h4) (by rw [h1]) (by rw [h2]) (by rw [h3]) (by rw [h5]) (by rw [h6]) (fun _ _ => rfl) (fun _ _ _ => by rw [h4]) (by rw [h4]; exact hok) (Nat.le_refl _) (Same3.refl w)
theorem ownsC_same {E E' : Env} (h1 : E'.blk = E.blk) (h2 : E'.tok = E.tok) (h6 : E'.fp = E.fp) (i : Nat) (c : Chunk) (b : Nat) : ownsC E' i c b ↔ ownsC E i c b :=
  ownsC_congr (by rw [h1]) (by rw [h2]) (by rw [h6]) c b
theorem R.enter {E : Env} {h : Heap} {w : World} (hr : R S E h w) : R S (E.enter w) h w := by
  have oc : ∀ i c b, ownsC (E.enter w) i c b ↔ ownsC E i c b := fun i c b => ownsC_same rfl rfl rfl i c b
  refine ⟨⟨fun i c hi => CR.same (E := E) (E' := E.enter w) rfl rfl rfl rfl rfl rfl hr.r0.imm (hr.r0.ch i c hi), fun g cs hg => VRI.mono (VExt.of_eq (E := E) (E' := E.enter w) rfl rfl rfl rfl) _ _ _ (hr.r0.glob g cs hg), hr.r0.non, fun i c b hi ho => hr.r0.lt i c b hi ((oc i c b).1 ho), fun i j c d b hi hj h1 h2 => hr.r0.disj i j c d b hi hj ((oc i c b).1 h1) ((oc j d b).1 h2), hr.r0.imm, fun l hl => (by cases hl), fun D hD => (by cases hD)⟩, ⟨fun _ _ => rfl, fun i c b hi ho hk => ?_, Nat.le_refl _, fun b hk => ?_, Same3.refl w⟩⟩
  · have ho := (oc i c b).1 ho
    rcases hk with hk | hk | hk
    · exact hr.kp.keep i c b hi ho hk
    · exact (hr.r0.rnd b hk).2 i c hi ho
    · exact (hr.r0.mks b hk).2.2 i c hi ho
  · rcases hk with hk | hk | hk
    · exact Nat.lt_of_lt_of_le (hr.kp.klt b hk) hr.kp.size
    · obtain ⟨⟨r, hl⟩, _⟩ := hr.r0.rnd b hk
      exact (Array.getElem?_eq_some_iff.1 hl).1
    · exact (Array.getElem?_eq_some_iff.1 (hr.r0.mks b hk).1).1
theorem R.back {E : Env} {h : Heap} {w : World} (hr : R S E h w) {E' : Env} {h' : Heap} {w' : World} (hx : Ext (E.enter w) E') (hr' : R S E' h' w') : R S (E.back E') h' w' ∧ Ext E (E.back E') := by
  have oc : ∀ i c b, ownsC (E.back E') i c b ↔ ownsC E' i c b := fun i c b => ownsC_same rfl rfl rfl i c b
  have hk : ∀ b, (E.keep b ∨ E.rnd = some b ∨ b ∈ E.marks) → E'.keep b := fun b hb => by rw [hx.keep]; exact hb
  have hs : ∀ b, (E.keep b ∨ E.rnd = some b ∨ b ∈ E.marks) → w'.heap[b]? = w.heap[b]? := fun b hb => by
    have := hr'.kp.same b (hk b hb); rw [hx.base] at this; exact this
  have hsz : w.heap.size ≤ w'.heap.size := by have := hr'.kp.size; rw [hx.base] at this; exact this
  have hs3 : Same3 w w' := by have := hr'.kp.s3; rw [hx.base] at this; exact this
  refine ⟨⟨⟨fun i c hi => CR.same (E := E') (E' := E.back E') rfl rfl rfl rfl rfl rfl hr'.r0.imm (hr'.r0.ch i c hi), fun g cs hg => VRI.mono (VExt.of_eq (E := E') (E' := E.back E') rfl rfl rfl rfl) _ _ _ (hr'.r0.glob g cs hg), hr'.r0.non, fun i c b hi ho => hr'.r0.lt i c b hi ((oc i c b).1 ho), fun i j c d b hi hj h1 h2 => hr'.r0.disj i j c d b hi hj ((oc i c b).1 h1) ((oc j d b).1 h2), hr'.r0.imm, fun l hl => ?_, fun D hD => ?_⟩, ⟨fun b hb => ?_, fun i c b hi ho hb => hr'.kp.keep i c b hi ((oc i c b).1 ho) (hk b (.inl hb)), Nat.le_trans hr.kp.size hsz, hr.kp.klt, hr.kp.s3.trans hs3⟩⟩, ⟨hx.blk, hx.tok, hx.cbv, hx.imm, fun b o hb => hx.new b o (.inl hb), rfl, rfl, rfl⟩⟩
  · refine ⟨by rw [hs l (.inr (.inl hl))]; exact (hr.r0.rnd l hl).1, fun i c hi ho => hr'.kp.keep i c l hi ((oc i c l).1 ho) (hk l (.inr (.inl hl)))⟩
  · refine ⟨by rw [hs D (.inr (.inr hD))]; exact (hr.r0.mks D hD).1, (hr.r0.mks D hD).2.1, fun i c hi ho => hr'.kp.keep i c D hi ((oc i c D).1 ho) (hk D (.inr (.inr hD)))⟩
  · rw [hs b (.inl hb)]; exact hr.kp.same b hb
theorem CallH.run {E : Env} {h : Heap} {w : World} {f : Nat} {args : List AV} {k : AEnd → Heap → Prop} {args' : List Value} (hc : CallH S f args h k) (hr : R S E h w) (ha : VRL E args args') :
    CallOut S.P f args'.toArray w fun e w' => ∃ E' h' r, Ext E E' ∧ E'.marks = E.marks ∧ R S E' h' w' ∧ EndR E' r e ∧ k r h' := by
  refine (hc.out (E.enter w) w args' rfl rfl hr.enter (VRL.mono (VExt.of_eq (E := E) (E' := E.enter w) rfl rfl rfl rfl) _ _ ha)).mono ?_
  rintro e w' ⟨E', h', r, h1, h2, h3, h4, h5⟩
  obtain ⟨a, b⟩ := hr.back h1 h3
  refine ⟨E.back E', h', r, b, rfl, a, ?_, h5⟩
  cases r with
  | ret v => obtain ⟨u, e1, e2⟩ := h4; exact ⟨u, e1, VR.mono (VExt.of_eq (E := E') (E' := E.back E') rfl rfl rfl rfl) _ _ e2⟩
  | pan v => obtain ⟨u, e1, e2⟩ := h4; exact ⟨u, e1, VR.mono (VExt.of_eq (E := E') (E' := E.back E') rfl rfl rfl rfl) _ _ e2⟩
theorem ev_VR {E : Env} {h : Heap} {w : World} (hr : R S E h w) {t : List AV} {a : Act} (ha : ActR B E t a) (x : Operand) : VR E (ev S.G t x) (a.eval x) := by
  cases x with
  | tmp i =>
    simp only [ev, Act.eval, getT_eq]
    cases hi : t[i]? with
    | none => simp only [Option.getD_none, VR]
    | some c =>
      obtain ⟨u, hu, hv⟩ := ha.1.get i c hi
      have : a.tmps.getD i undef = u := by
        have : a.tmps[i]? = some u := by simpa using hu
        simp [Array.getD_eq_getD_getElem?, this]
      rw [this]; exact hv
  | const v => exact ofV_VR E v
  | global g =>
    simp only [ev, Act.eval]
    cases hg : S.G g with
    | none => simp only [VR]
    | some cs => simp only [VR]; exact ⟨g, 0, rfl, hr.r0.glob g cs hg⟩
  | func f => simp only [ev, Act.eval, VR]; exact ⟨[], [], rfl, VRL.nil, VRL.nil⟩
theorem ActR.put {E E' : Env} {t : List AV} {a : Act} (ha : ActR B E t a) (hx : Ext E E') (hm : E'.marks = E.marks) {v : AV} {u : Value} (hv : VR E' v u) (d : Option Tmp) : ActR B E' (setDst t d v) (a.put d u) := by
  refine ⟨?_, ?_⟩
  · cases d with
    | none => exact VRL.mono hx.v _ _ ha.1
    | some i => simp only [setDst, Act.put, Array.toList_setIfInBounds]; exact (ha.1.mono hx.v).set i hv
  · rw [hm, ← ha.2.1]; exact ⟨by cases d <;> rfl, ha.2.2⟩
theorem VRL.uncons {E : Env} {c : AV} {cs : List AV} {us : List Value} (h : VRL E (c :: cs) us) : ∃ u us', us = u :: us' ∧ VR E c u ∧ VRL E cs us' := by simpa only [VRL] using h
theorem len_run (hS : SeatOK S) {E : Env} {ty : Nat} {ti : TI} (hti : S.Γ ty = some ti) {x : AV} {n : Int} (hn : lenAV ti.kind x = some n) {u : Value} (hu : VR E x u) (args : Array Operand) (tys : Array TypeId) {ρ : Operand → Value} (ha : (args.map ρ)[0]? = some u) (ht : tys[0]? = some ty) {t : TypeId} {w : World} :
    (Builtin.len_ tys t (args.map ρ)).run S.P w = .ok (.int .i64 n) w := by
  have hT := hS.ty ty ti hti
  unfold Builtin.len_
  simp only [ha, ht]
  unfold lenAV at hn
  split at hn
  · rename_i s hk
    cases hn
    rw [Sem.run_bind, run_underlying (hT.str hk)]
    simp only [VR] at hu
    subst hu
    simp [Result.andThen, goInt, ByteArray.size]
  · rename_i hk
    cases hn
    rw [Sem.run_bind, run_underlying (hT.slice hk)]
    simp only [VR] at hu
    obtain ⟨p, cap, rfl, _⟩ := hu
    simp [Result.andThen, goInt]
  · rename_i hk
    cases hn
    rw [Sem.run_bind, run_underlying (hT.slice hk)]
    simp only [VR] at hu
    subst hu
    simp [Result.andThen, goInt]
  · rename_i hk
    cases hn
    rw [Sem.run_bind, run_underlying (hT.slice hk)]
    simp only [VR] at hu
    obtain ⟨b, _, rfl⟩ := hu
    simp [Result.andThen, goInt]
  · rename_i hk
    cases hn
    rw [Sem.run_bind, run_underlying (hT.arr hk)]
    simp [Result.andThen, goInt]
  · cases hn
theorem foldK_run {E : Env} {P : Program} {f : AV → AV → Option AV} {g : Value → Value → Sem Value} (hf : ∀ x y z u v, f x y = some z → VR E x u → VR E y v → ∃ r, (∀ w, (g u v).run P w = .ok r w) ∧ VR E z r) {k : AV → Prop} :
    ∀ {r : List AV} {x : AV} {us : List Value} {u : Value}, foldK f x r k → VR E x u → VRL E r us → ∃ v, k v ∧ ∃ v', (∀ w, (us.foldlM g u).run P w = .ok v' w) ∧ VR E v v'
  | [], x, us, u, hk, hu, hus => by
    simp only [VRL] at hus; subst hus
    exact ⟨x, hk, u, fun w => rfl, hu⟩
  | y :: r, x, us, u, hk, hu, hus => by
    obtain ⟨u1, us', rfl, h1, h2⟩ := hus.uncons
    obtain ⟨z, hz, hk⟩ := hk.elim
    obtain ⟨r1, hr1, hz'⟩ := hf _ _ _ _ _ hz hu h1
    obtain ⟨v, hk, v', hrun, hv⟩ := foldK_run hf hk hz' h2
    refine ⟨v, hk, v', fun w => ?_, hv⟩
    rw [List.foldlM_cons, Sem.run_bind, hr1 w]
    exact hrun w
theorem min2_run {E : Env} {P : Program} (x y z : AV) (u v : Value) (h : min2A x y = some z) (hu : VR E x u) (hv : VR E y v) : ∃ r, (∀ w, (Builtin.min2 u v).run P w = .ok r w) ∧ VR E z r := by
  unfold min2A at h
  split at h
  · rename_i k a k' b
    split at h
    · cases h
      simp only [VR] at hu hv
      subst hu hv
      exact ⟨_, fun w => rfl, by simp only [VR]⟩
    · cases h
  · cases h
theorem max2_run {E : Env} {P : Program} (x y z : AV) (u v : Value) (h : max2A x y = some z) (hu : VR E x u) (hv : VR E y v) : ∃ r, (∀ w, (Builtin.max2 u v).run P w = .ok r w) ∧ VR E z r := by
  unfold max2A at h
  split at h
  · rename_i k a k' b
    split at h
    · cases h
      simp only [VR] at hu hv
      subst hu hv
      exact ⟨_, fun w => rfl, by simp only [VR]⟩
    · cases h
  · cases h
theorem operN_sound (hS : SeatOK S) {nid : Nat} {o : Oper} {t : List AV} {h : Heap} {k : AEnd → Heap → Prop} (hk : operN S nid o t h k) {E : Env} {w : World} {a : Act} (hr : R S E h w) (ha : ActR B E t a)
    (hun : h[nid]? = none ∨ h[nid]? = some .unborn)
    (next : Act → World → Prop) (Q : Exit → Act → World → Prop)
    (hnext : ∀ E' h' v u w', Ext E E' → E'.marks = E.marks → R S E' h' w' → VR E' v u → k (.ret v) h' → next (a.put o.dst u) w')
    (hpan : ∀ E' h' v u w', Ext E E' → E'.marks = E.marks → R S E' h' w' → VR E' v u → k (.pan v) h' → Q (.panic [{ v := u, recovered := false }]) a w') :
    o.wpIn (fen E) 0 S.P a w next Q := by
  refine ⟨fun f _ => fen_fn E f, ?_⟩
  have hv := ev_VR hr ha
  obtain ⟨n1, n2, n3⟩ : E.blk nid = none ∧ E.tok nid = none ∧ E.cbv nid = none := by
    rcases hun with hun | hun
    · exact hr.r0.non nid hun
    · exact hr.r0.ch nid _ hun
  have hpostOf : ∀ (e : Ending) (w' : World), (∃ E' h' r, Ext E E' ∧ E'.marks = E.marks ∧ R S E' h' w' ∧ EndR E' r e ∧ k r h') → (match e, w' with
      | .returned v, w' => next (a.put o.dst v) w'
      | .panicked chain, w' => Q (.panic chain) a w'
      | .outgrown, _ => LetsOut Q) := by
    rintro e w' ⟨E', h', r, h1, h2, h3, h4, h5⟩
    cases r with
    | ret v => obtain ⟨u, rfl, hu⟩ := h4; exact hnext E' h' v u w' h1 h2 h3 hu h5
    | pan v => obtain ⟨u, rfl, hu⟩ := h4; exact hpan E' h' v u w' h1 h2 h3 hu h5
  have hcall : ∀ (f : Nat) (args : List AV) (args' : List Value), CallH S f args h k → VRL E args args' → (execOp a.eval o).run S.P w = (callFunc f args'.toArray).run S.P w → o.uponIn (fen E) 0 S.P a next Q ((execOp a.eval o).run S.P w) := by
    intro f args args' hc hargs hrun
    rw [hrun]
    have hpost := hpostOf
    rcases hc.run hr hargs with ⟨h1, h2⟩ | ⟨v, w', h1, h2⟩
    · rw [h1, Oper.uponIn_enter]
      exact ⟨fun hd => (by rw [fen_depth] at hd; cases hd), (callsIn_fen h2).mono hpost⟩
    · rw [h1, Oper.uponIn_value]
      exact hpost _ _ h2
  have hplain : ∀ (op : Op), o.op = op → (∀ c, op ≠ .defer c) → opK S.flat S.Γ (ev S.G t) h nid op (fun v ups _ => putsK h ups (fun h' => k (.ret v) h')) → o.uponIn (fen E) 0 S.P a next Q ((execOp a.eval o).run S.P w) := by
    intro op ho _ hop
    obtain ⟨v, ups, rds, h1, _, h3⟩ := opK_sound hS hop
    rw [putsK_eq] at h1
    obtain ⟨E', w', u, hrun, hu, hx, hm, hr', _⟩ := h3 h (fun _ _ => rfl) E w a.eval hr (fun _ => n1) (fun _ => n2) (fun _ => n3) (fun _ c hc => by rcases hun with hun | hun <;> rw [hun] at hc <;> cases hc; rfl) hv o ho
    rcases hrun with hrun | ⟨hrun, rfl⟩
    · rw [hrun, Oper.uponIn_value]; exact hnext E' _ v u w' hx hm hr' hu h1
    · rw [hrun, Oper.uponIn_skip]; exact hnext E' _ v undef w' hx hm hr' hu h1
  have hnd : (∀ c, o.op ≠ .defer c) → (o.semAt (fen E).round a.eval) = execOp a.eval o := fun h => Oper.semAt_eq _ _ _ h
  unfold operN at hk
  split at hk
  ·
    rename_i c hop
    rw [hnd (by rw [hop]; intro c h; cases h)]
    split at hk
    · rename_i fo hcal
      have hfo := hv fo
      split at hk
      · rename_i f x y e
        rw [e] at hfo; simp only [VR] at hfo
        obtain ⟨us, ws, hfo, hu, hw⟩ := hfo
        rw [mapF_eq, appL_eq, appL_eq] at hk
        have hmap := mapF_run hv c.args.toList
        refine hcall f _ (us ++ (c.args.toList.map a.eval ++ ws)) hk (hu.append (hmap.append hw)) ?_
        simp [execOp, hop, resolve, hcal, hfo, Deferred.ofValue, invoke]
        congr 2
        simp
      · rename_i i e
        rw [e] at hfo
        rw [mapF_eq] at hk
        have hmap := mapF_run hv c.args.toList
        have hI := hk.out E w _ _ hr hmap hfo
        have hpost := hpostOf
        rcases hI with ⟨f, first, caps, hfv, hco⟩ | ⟨l, fn, tmps, assign, body, hfv, hrun, hround⟩
        · have hrun : (execOp a.eval o).run S.P w = (callFunc f (first ++ (c.args.toList.map a.eval).toArray ++ caps)).run S.P w := by
            have ht : (c.args.toList.map a.eval).toArray = c.args.map a.eval := by cases c.args; simp
            rw [ht]
            simp [execOp, hop, resolve, hcal, hfv, Deferred.ofValue, invoke]
          rw [hrun]
          rcases hco with ⟨h1, h2⟩ | ⟨v, w', h1, h2⟩
          · rw [h1, Oper.uponIn_enter]
            exact ⟨fun hd => (by rw [fen_depth] at hd; cases hd), (callsIn_fen h2).mono hpost⟩
          · rw [h1, Oper.uponIn_value]
            exact hpost _ _ h2
        · have hrun2 : (execOp a.eval o).run S.P w = .ok (.round l fn tmps assign body) w := by
            rw [← hrun]
            have ht : (c.args.toList.map a.eval).toArray = c.args.map a.eval := by cases c.args; simp
            rw [ht]
            simp [execOp, hop, resolve, hcal, hfv, Deferred.ofValue, invoke]
          rw [hrun2, Oper.uponIn_round]
          exact ⟨fun hd => (by rw [fen_depth] at hd; cases hd), (roundIn_fen hround).mono hpost⟩
      · exact hk.elim
    ·
      rename_i hcal
      split at hk
      · rename_i x rx ty rty hax haty
        split at hk
        · rename_i ti hti
          obtain ⟨n, hn, hk⟩ := hk.elim
          obtain ⟨l, hargs⟩ : ∃ l, c.args = (x :: l).toArray := ⟨rx, by rw [← hax]⟩
          obtain ⟨l2, htys⟩ : ∃ l, c.argTypes = (ty :: l).toArray := ⟨rty, by rw [← haty]⟩
          have hvx := hv x
          have hrun : (execOp a.eval o).run S.P w = .ok (.value (.int .i64 n)) w := by
            simp only [execOp, hop, resolve, hcal, Sem.run_bind, Sem.run_pure, Result.andThen, invoke, builtin]
            rw [len_run hS hti hn hvx c.args c.argTypes (by rw [hargs]; simp) (by rw [htys]; simp)]
          rw [hrun, Oper.uponIn_value]
          exact hnext E h _ _ w (Ext.refl E) rfl hr (by simp only [VR]) hk
        · exact hk.elim
      · exact hk.elim
    ·
      rename_i hcal
      rw [mapF_eq] at hk
      have hmap := mapF_run hv c.args.toList
      split at hk
      · rename_i x r hl
        rw [hl] at hmap
        obtain ⟨u, us, e, hu, hus⟩ := hmap.uncons
        obtain ⟨v, hk, v', hrun, hv'⟩ := foldK_run min2_run hk hu hus
        have hrun : (execOp a.eval o).run S.P w = .ok (.value v') w := by
          simp only [execOp, hop, resolve, hcal, Sem.run_bind, Sem.run_pure, Result.andThen, invoke, builtin, Builtin.min_, Array.toList_map, e]
          rw [hrun w]
        rw [hrun, Oper.uponIn_value]
        exact hnext E h _ _ w (Ext.refl E) rfl hr hv' hk
      · exact hk.elim
    ·
      rename_i hcal
      rw [mapF_eq] at hk
      have hmap := mapF_run hv c.args.toList
      split at hk
      · rename_i x r hl
        rw [hl] at hmap
        obtain ⟨u, us, e, hu, hus⟩ := hmap.uncons
        obtain ⟨v, hk, v', hrun, hv'⟩ := foldK_run max2_run hk hu hus
        have hrun : (execOp a.eval o).run S.P w = .ok (.value v') w := by
          simp only [execOp, hop, resolve, hcal, Sem.run_bind, Sem.run_pure, Result.andThen, invoke, builtin, Builtin.max_, Array.toList_map, e]
          rw [hrun w]
        rw [hrun, Oper.uponIn_value]
        exact hnext E h _ _ w (Ext.refl E) rfl hr hv' hk
      · exact hk.elim
    ·
      rename_i hcal
      split at hk
      · rename_i s x ty ty2 hax haty
        split at hk
        · rename_i hb
          have := Nat.eq_of_beq_eq_true hb; subst this
          have hargs : c.args = #[s, x] := by rw [← Array.toArray_toList (xs := c.args), hax]
          have htys : c.argTypes = #[ty, ty] := by rw [← Array.toArray_toList (xs := c.argTypes), haty]
          obtain ⟨v, ups, rds, h1, _, h3⟩ := appK_sound hS hk
          rw [putsK_eq] at h1
          obtain ⟨E', w', u, hrun, hu, hx, hm, hr'⟩ := h3 h (fun _ _ => rfl) E w hr n2 (a.eval s) (a.eval x) o.type (hv s) (hv x)
          have hrun : (execOp a.eval o).run S.P w = .ok (.value u) w' := by
            simp only [execOp, hop, resolve, hcal, Sem.run_bind, Sem.run_pure, Result.andThen, invoke, builtin, hargs, htys]
            simp only [List.map_toArray, List.map_cons, List.map_nil, hrun]
          rw [hrun, Oper.uponIn_value]
          exact hnext E' _ v u w' hx hm hr' hu h1
        · exact hk.elim
      · exact hk.elim
    · exact hk.elim
  ·
    rename_i x hop
    rw [hnd (by rw [hop]; intro c h; cases h)]
    split at hk
    · rename_i ty v e
      have hvx := hv x
      rw [e] at hvx; simp only [VR] at hvx
      obtain ⟨u, hu, hvu⟩ := hvx
      have hrun : (execOp a.eval o).run S.P w = .halt (.panic (.iface ty u)) w := by
        simp [execOp, hop, hu, Instr.panic, goPanic, Sem.run_bind, Result.andThen]
      rw [hrun, Oper.uponIn_panic]
      exact hpan E h (.ifc ty v) (.iface ty u) w (Ext.refl E) rfl hr (by simp only [VR]; exact ⟨u, rfl, hvu⟩) hk
    · exact hk.elim
  · rename_i op h1 h2
    rw [hnd (by intro c h; rw [h] at hk; simp only [opK] at hk)]
    exact hplain o.op rfl (by intro c h; rw [h] at hk; simp only [opK] at hk) hk
theorem operK_sound (hS : SeatOK S) {o : Oper} {t : List AV} {h : Heap} {k : AEnd → Heap → Prop} (hk : operK S o t h k) {E : Env} {w : World} {a : Act} (hr : R S E h w) (ha : ActR B E t a)
    (next : Act → World → Prop) (Q : Exit → Act → World → Prop)
    (hnext : ∀ E' h' v u w', Ext E E' → E'.marks = E.marks → R S E' h' w' → VR E' v u → k (.ret v) h' → next (a.put o.dst u) w')
    (hpan : ∀ E' h' v u w', Ext E E' → E'.marks = E.marks → R S E' h' w' → VR E' v u → k (.pan v) h' → Q (.panic [{ v := u, recovered := false }]) a w') :
    o.wpIn (fen E) 0 S.P a w next Q :=
  operN_sound hS (nid := lenN h) hk hr ha (.inl (by rw [lenN_eq]; simp)) next Q hnext hpan
end Go.Abs
namespace Go.Abs
open Go.RowKit
variable {S : Seat} {B : List Deferred}
theorem ActR.mono {E E' : Env} {t : List AV} {a : Act} (ha : ActR B E t a) (hx : Ext E E') (hm : E'.marks = E.marks) : ActR B E' t a :=
  ⟨VRL.mono hx.v _ _ ha.1, by rw [hm]; exact ha.2⟩
theorem PostR.ext {E E' : Env} {k : ExK} {e : Exit} {a : Act} {w : World} (hx : Ext E E') (h : PostR S B E' k e a w) : PostR S B E k e a w := by
  obtain ⟨E2, t, hp, x, h1, h2⟩ := h
  exact ⟨E2, t, hp, x, hx.trans h1, h2⟩
theorem Oper.wpIn_monoQ {F : Fence} {n : Nat} {P : Program} {o : Oper} {a : Act} {w : World} {K K' : Act → World → Prop} {Q Q' : Exit → Act → World → Prop} (h : ∀ a w, K a w → K' a w) (hq : ∀ e a w, Q e a w → Q' e a w)
    (hh : o.wpIn F n P a w K Q) : o.wpIn F n P a w K' Q' := by
  unfold Oper.wpIn at *
  refine ⟨hh.1, ?_⟩
  have hh := hh.2
  have lo : LetsOut Q → LetsOut Q' := fun ⟨a, w, hl⟩ => ⟨a, w, hq _ _ _ hl⟩
  generalize (o.semAt F.round a.eval).run P w = r at *
  cases r with
  | ok x w' =>
    cases x <;> simp only [Oper.uponIn] at hh ⊢ <;>
      first
        | exact h _ _ hh
        | exact ⟨hh.1, CallsIn.mono hh.2 (fun e w'' he => by cases e <;> first | exact h _ _ he | exact hq _ _ _ he | exact lo he)⟩
        | exact ⟨hh.1, RowsIn.mono hh.2 (fun _ _ he => h _ _ he)⟩
        | exact ⟨hh.1, RoundIn.mono hh.2 (fun e w'' he => by cases e <;> first | exact h _ _ he | exact hq _ _ _ he | exact lo he)⟩
  | halt x w' => cases x <;> simp only [Oper.uponIn] at hh ⊢ <;> first | exact hh | exact hq _ _ _ hh
theorem wpOpsIn_mono {F : Fence} {n : Nat} {P : Program} {ops : Array Oper} {Q Q' : Exit → Act → World → Prop} (hq : ∀ e a w, Q e a w → Q' e a w) :
    ∀ (l : List Nat) (a : Act) (w : World), wpOpsIn F n P ops Q l a w → wpOpsIn F n P ops Q' l a w
  | [], a, w, h => hq _ _ _ h
  | i :: rest, a, w, h => by
    simp only [wpOpsIn] at h ⊢
    split
    · rename_i ho
      simp only [ho] at h
      exact wpOpsIn_mono hq rest a w h
    · rename_i o ho
      simp only [ho] at h
      split
      · rename_i hw
        simp only [hw, if_true] at h
        exact Oper.wpIn_monoQ (wpOpsIn_mono hq rest) hq h
      · rename_i hw
        simp only [hw, Bool.false_eq_true, if_false] at h
        exact ⟨h.1, wpOpsIn_mono hq rest _ _ h.2⟩
theorem opsK_sound (hS : SeatOK S) (ops : Array Oper) {k : ExK} : ∀ (l : List Oper) (i : Nat), ops.toList.drop i = l → ∀ (t : List AV) (h : Heap), opsK S ops.toList l t h k →
    ∀ (E : Env) (w : World) (a : Act), R S E h w → ActR B E t a → wpOpsIn (fen E) 0 S.P ops (PostR S B E k) (List.range' i l.length) a w
  | [], i, _, t, h, hk, E, w, a, hr, ha => ⟨E, t, h, .normal, Ext.refl E, hr, ha, rfl, hk⟩
  | o :: r, i, hd, t, h, hk, E, w, a, hr, ha => by
    have hget : ops[i]? = some o := by
      have : ops.toList[i]? = some o := by rw [← List.head?_drop, hd]; rfl
      simpa using this
    have hd' : ops.toList.drop (i + 1) = r := by rw [← List.tail_drop, hd]; rfl
    simp only [List.length_cons, List.range'_succ, wpOpsIn, hget]
    have hgo : operK S o t h (fun e h' => match e with | .ret v => setD t o.dst v (fun t' => opsK S ops.toList r t' h' k) | .pan v => k (.pan v) t h') →
        o.wpIn (fen E) 0 S.P a w (wpOpsIn (fen E) 0 S.P ops (PostR S B E k) (List.range' (i + 1) r.length)) (PostR S B E k) := by
      intro hk
      refine operK_sound hS hk hr ha _ _ ?_ ?_
      · intro E' h' v u w' hx hm hr' hv hk'
        simp only [setD_eq] at hk'
        have := opsK_sound hS ops r (i + 1) hd' _ h' hk' E' w' _ hr' (ha.put hx hm hv o.dst)
        rw [fen_ext hx] at this
        exact wpOpsIn_mono (fun _ _ _ h => h.ext hx) _ _ _ this
      · intro E' h' v u w' hx hm hr' hv hk'
        exact ⟨E', t, h', .pan v, hx, hr', ha.mono hx hm, ⟨u, rfl, hv⟩, hk'⟩
    have hskip : setD t o.dst (.tup []) (fun t' => opsK S ops.toList r t' h k) →
        (∀ f, o.about S.P w a.eval = some f → (fen E).fn f) ∧ wpOpsIn (fen E) 0 S.P ops (PostR S B E k) (List.range' (i + 1) r.length) (a.put o.dst undef) w := by
      intro hk
      rw [setD_eq] at hk
      exact ⟨fun f _ => fen_fn E f, opsK_sound hS ops r (i + 1) hd' _ h hk E w _ hr (ha.put (Ext.refl E) rfl (VR.dead E) o.dst)⟩
    unfold opsK at hk
    split at hk
    · rename_i hg
      simp only [Region.wanted, hg, if_true]
      exact hgo hk
    · rename_i j want hg
      split at hk
      · rename_i oj hoj
        rw [getO_eq] at hoj
        have hoj : ops[j]? = some oj := by simpa using hoj
        split at hk
        · rename_i d hdst
          have hb : ∀ b, getT t d = .bool b → yielded ops a.tmps j = some b := by
            intro b hb
            rw [getT_eq] at hb
            cases hi : t[d]? with
            | none => simp [hi] at hb
            | some c =>
              simp [hi] at hb
              obtain ⟨u, hu, hv⟩ := ha.1.get d c hi
              rw [hb] at hv; simp only [VR] at hv; subst hv
              have : a.tmps[d]? = some (.bool b) := by simpa using hu
              unfold yielded; rw [hoj]; simp [hdst, this]
          split at hk
          · rename_i b hbe
            have hyb := hb b hbe
            simp only [Region.wanted, hg, hyb]
            cases b with
            | true => simpa using hgo hk
            | false => simpa using hskip hk
          · rename_i b hbe
            have hyb := hb b hbe
            simp only [Region.wanted, hg, hyb]
            cases b with
            | true => simpa using hskip hk
            | false => simpa using hgo hk
          · rename_i hbe
            have hyb : yielded ops a.tmps j = none := by
              rw [getT_eq] at hbe
              cases hi : t[d]? with
              | none => simp [hi] at hbe
              | some c =>
                simp [hi] at hbe
                obtain ⟨u, hu, hv⟩ := ha.1.get d c hi
                rw [hbe] at hv
                have := hv.toDead; subst this
                have : a.tmps[d]? = some undef := by simpa using hu
                unfold yielded; rw [hoj]; simp [hdst, this, undef]
            simp only [Region.wanted, hg, hyb]
            simpa using hskip hk
          · exact hk.elim
        · exact hk.elim
      · exact hk.elim
theorem codeK_sound (hS : SeatOK S) : ∀ (c : Code) (t : List AV) (h : Heap) (k : ExK), codeK S c t h k → Sat S c t h k
  | .skip, t, h, k, hk => ⟨fun B E w a hr ha => wpIn_skip ⟨E, t, h, .normal, Ext.refl E, hr, ha, rfl, hk⟩⟩
  | .label _, t, h, k, hk => ⟨fun B E w a hr ha => wpIn_label ⟨E, t, h, .normal, Ext.refl E, hr, ha, rfl, hk⟩⟩
  | .region id ops draw, t, h, k, hk => by
    cases draw with
    | false =>
      refine ⟨fun B E w a hr ha => wpIn_region ?_⟩
      have := opsK_sound hS ops ops.toList 0 rfl t h hk E w a hr ha
      rwa [Array.length_toList, ← List.range_eq_range'] at this
    | true => exact hk.out
  | .seq x y, t, h, k, hk => by
    refine ⟨fun B E w a hr ha => wpIn_seq (wpIn_mono ((codeK_sound hS x t h _ hk).out B E w a hr ha) ?_)⟩
    rintro e a' w' ⟨E', t', h', z, h1, h2, h3, h4, h5⟩
    cases z with
    | normal =>
      simp only [ExitR] at h4; subst h4
      have := (codeK_sound hS y t' h' k h5).out B E' w' a' h2 h3
      rw [fen_ext h1] at this
      exact wpIn_mono this fun _ _ _ h => h.ext h1
    | exit i => simp only [ExitR] at h4; subst h4; exact ⟨E', t', h', .exit i, h1, h2, h3, rfl, h5⟩
    | goto i => simp only [ExitR] at h4; subst h4; exact ⟨E', t', h', .goto i, h1, h2, h3, rfl, h5⟩
    | ret => simp only [ExitR] at h4; subst h4; exact ⟨E', t', h', .ret, h1, h2, h3, rfl, h5⟩
    | pan v => obtain ⟨u, rfl, hu⟩ := h4; exact ⟨E', t', h', .pan v, h1, h2, h3, ⟨u, rfl, hu⟩, h5⟩
  | .cond c x y, t, h, k, hk => by
    unfold codeK at hk
    split at hk
    · rename_i b hc
      refine ⟨fun B E w a hr ha => ?_⟩
      have hv := ev_VR hr ha c
      rw [hc] at hv; simp only [VR] at hv
      cases b with
      | true => exact wpIn_cond_true hv ((codeK_sound hS x t h k hk).out B E w a hr ha)
      | false => exact wpIn_cond_false hv ((codeK_sound hS y t h k hk).out B E w a hr ha)
    · exact hk.elim
  | .block id b, t, h, k, hk => by
    refine ⟨fun B E w a hr ha => wpIn_block (wpIn_mono ((codeK_sound hS b t h _ hk).out B E w a hr ha) ?_)⟩
    rintro e a' w' ⟨E', t', h', z, h1, h2, h3, h4, h5⟩
    cases z with
    | normal => simp only [ExitR] at h4; subst h4; exact ⟨E', t', h', .normal, h1, h2, h3, rfl, h5⟩
    | exit i =>
      simp only [ExitR] at h4; subst h4
      simp only [Exit.inBlock]
      simp only [] at h5
      split at h5
      · rename_i hb
        have := Nat.eq_of_beq_eq_true hb
        rw [if_pos this]
        exact ⟨E', t', h', .normal, h1, h2, h3, rfl, h5⟩
      · rename_i hb
        rw [if_neg (fun e => by subst e; simp at hb)]
        exact ⟨E', t', h', .exit i, h1, h2, h3, rfl, h5⟩
    | goto i => simp only [ExitR] at h4; subst h4; exact ⟨E', t', h', .goto i, h1, h2, h3, rfl, h5⟩
    | ret => simp only [ExitR] at h4; subst h4; exact ⟨E', t', h', .ret, h1, h2, h3, rfl, h5⟩
    | pan v => obtain ⟨u, rfl, hu⟩ := h4; exact ⟨E', t', h', .pan v, h1, h2, h3, ⟨u, rfl, hu⟩, h5⟩
  | .loop b, t, h, k, hk => hk
  | .rangeFunc f ps x y, t, h, k, hk => hk
  | .exit id, t, h, k, hk => ⟨fun B E w a hr ha => wpIn_exit ⟨E, t, h, .exit id, Ext.refl E, hr, ha, rfl, hk⟩⟩
  | .goto l, t, h, k, hk => ⟨fun B E w a hr ha => wpIn_goto ⟨E, t, h, .goto l, Ext.refl E, hr, ha, rfl, hk⟩⟩
  | .ret, t, h, k, hk => ⟨fun B E w a hr ha => wpIn_ret ⟨E, t, h, .ret, Ext.refl E, hr, ha, rfl, hk⟩⟩
  | .scope b, t, h, k, hk => hk
  | .refuse _, _, _, _, hk => hk.elim
theorem Sat.mono {c : Code} {t : List AV} {h : Heap} {k k' : ExK} (hs : Sat S c t h k) (hk : ∀ x t h, k x t h → k' x t h) : Sat S c t h k' :=
  ⟨fun B E w a hr ha => wpIn_mono (hs.out B E w a hr ha) fun _ _ _ ⟨E', t', h', z, h1, h2, h3, h4, h5⟩ => ⟨E', t', h', z, h1, h2, h3, h4, hk _ _ _ h5⟩⟩
theorem Sat.loop {b : Code} {t : List AV} {h : Heap} {k : ExK} {ι : Type} (I : ι → List AV → Heap → Prop) (μ : ι → Nat) (i0 : ι) (h0 : I i0 t h)
    (round : ∀ i t h, I i t h → Sat S b t h (fun x t' h' => match x with | .normal => ∃ i', μ i' < μ i ∧ I i' t' h' | x => k x t' h')) : Sat S (.loop b) t h k := by
  refine ⟨fun B E w a hr ha => ?_⟩
  have key : ∀ n i t h, μ i = n → I i t h → ∀ (E : Env) (w : World) (a : Act), R S E h w → ActR B E t a → ∀ (E0 : Env), Ext E0 E → ∀ (fr : Frame) (ks : List Item) (cs : List Frame), fr.roundOf = (fen E0).round → (fen E0).fn fr.fn → (fen E0).room (cs.length + 1 + 0) →
      ∃ e a' w', PostR S B E0 k e a' w' ∧ ArrivesIn (Machine.fenced S.P (fen E0)) S.P (lone (fr.atR a (.code b :: .inLoop b :: ks)) cs w) fr ks cs e a' w' := by
    intro n
    induction n using Nat.strongRecOn with
    | _ n ih =>
      intro i t h hn hI E w a hr ha E0 hx fr ks cs hro hb hroom
      have hs := (round i t h hI).out B E w a hr ha
      rw [fen_ext hx] at hs
      obtain ⟨e, a₁, w₁, ⟨E', t', h', z, h1, h2, h3, h4, h5⟩, harr⟩ := hs fr (.inLoop b :: ks) cs hro hb hroom
      cases z with
      | normal =>
        simp only [ExitR] at h4; subst h4
        obtain ⟨i', hlt, hI'⟩ := h5
        obtain ⟨e₂, a₂, w₂, hq₂, harr₂⟩ := ih (μ i') (hn ▸ hlt) i' t' h' rfl hI' E' w₁ a₁ h2 h3 E0 (hx.trans h1) fr ks cs hro hb hroom
        exact ⟨e₂, a₂, w₂, hq₂, .of_steps (StepsIn.trans harr (.one (fenced_calm hb hroom rfl) stepR_inLoop)) harr₂⟩
      | exit id => simp only [ExitR] at h4; subst h4; exact ⟨_, a₁, w₁, ⟨E', t', h', .exit id, hx.trans h1, h2, h3, rfl, h5⟩, .pass (x := .inLoop b) rfl (fun _ _ => .inl (by simp)) harr⟩
      | goto id => simp only [ExitR] at h4; subst h4; exact ⟨_, a₁, w₁, ⟨E', t', h', .goto id, hx.trans h1, h2, h3, rfl, h5⟩, .pass (x := .inLoop b) rfl (fun _ _ => .inl (by simp)) harr⟩
      | ret => simp only [ExitR] at h4; subst h4; exact ⟨_, a₁, w₁, ⟨E', t', h', .ret, hx.trans h1, h2, h3, rfl, h5⟩, .pass (x := .inLoop b) rfl (fun _ _ => .inl (by simp)) harr⟩
      | pan v => obtain ⟨u, rfl, hu⟩ := h4; exact ⟨_, a₁, w₁, ⟨E', t', h', .pan v, hx.trans h1, h2, h3, ⟨u, rfl, hu⟩, h5⟩, .pass (x := .inLoop b) rfl (fun _ _ => .inl (by simp)) harr⟩
  intro fr ks cs hro hb hroom
  obtain ⟨e, a', w', hq, harr⟩ := key _ i0 t h rfl h0 E w a hr ha E (Ext.refl E) fr ks cs hro hb hroom
  exact ⟨e, a', w', hq, .of_steps (.one (fenced_calm hb hroom rfl) stepR_loop) harr⟩
def stepO (S : Seat) (ops : List Oper) (o : Oper) (ih : List AV → Heap → ExK → Prop) (t : List AV) (h : Heap) (k : ExK) : Prop :=
    match o.guard with
    | none => operK S o t h (fun e h' => match e with | .ret v => setD t o.dst v (fun t' => ih t' h' k) | .pan v => k (.pan v) t h')
    | some (j, want) =>
      match getO ops j with
      | some oj =>
        match oj.dst with
        | some d =>
          match getT t d, want with
          | .bool b, true => Br b (operK S o t h (fun e h' => match e with | .ret v => setD t o.dst v (fun t' => ih t' h' k) | .pan v => k (.pan v) t h')) (setD t o.dst (.tup []) (fun t' => ih t' h k))
          | .bool b, false => Br b (setD t o.dst (.tup []) (fun t' => ih t' h k)) (operK S o t h (fun e h' => match e with | .ret v => setD t o.dst v (fun t' => ih t' h' k) | .pan v => k (.pan v) t h'))
          | .tup [], _ => setD t o.dst (.tup []) (fun t' => ih t' h k)
          | _, _ => False
        | none => False
      | none => False
def opsR (S : Seat) (ops : List Oper) (l : List Oper) : List AV → Heap → ExK → Prop :=
  @List.rec Oper (fun _ => List AV → Heap → ExK → Prop) (fun t h k => k .normal t h) (fun o _ ih => stepO S ops o ih) l
theorem opsR_eq (S : Seat) (ops : List Oper) : ∀ (l : List Oper), opsR S ops l = opsK S ops l
  | [] => rfl
  | o :: r => by
    have ih := opsR_eq S ops r
    funext t h k
    show stepO S ops o (opsR S ops r) t h k = _
    rw [ih]
    unfold stepO
    conv => rhs; unfold opsK
    all_goals rfl
def seqR (ia ib : List AV → Heap → ExK → Prop) (t : List AV) (h : Heap) (k : ExK) : Prop :=
  ia t h (fun e t' h' => match e with | .normal => ib t' h' k | .exit i => k (.exit i) t' h' | .goto i => k (.goto i) t' h' | .ret => k .ret t' h' | .pan v => k (.pan v) t' h')
def blockR (id : Nat) (ib : List AV → Heap → ExK → Prop) (t : List AV) (h : Heap) (k : ExK) : Prop :=
  ib t h (fun e t' h' => match e with | .exit j => (match Nat.beq j id with | true => k .normal t' h' | false => k (.exit j) t' h') | .normal => k .normal t' h' | .goto i => k (.goto i) t' h' | .ret => k .ret t' h' | .pan v => k (.pan v) t' h')
def condR (S : Seat) (c : Operand) (ia ib : List AV → Heap → ExK → Prop) (t : List AV) (h : Heap) (k : ExK) : Prop :=
  match ev S.G t c with | .bool x => Br x (ia t h k) (ib t h k) | _ => False
def regionR (S : Seat) (id : Nat) (ops : Array Oper) (draw : Bool) (t : List AV) (h : Heap) (k : ExK) : Prop :=
  match draw with
  | false => opsR S ops.toList ops.toList t h k
  | true => DrawH S id ops.toList t h k
def codeR (S : Seat) (c : Code) : List AV → Heap → ExK → Prop :=
  @Code.rec (fun _ => List AV → Heap → ExK → Prop)
    (skip := fun t h k => k .normal t h)
    (label := fun _ t h k => k .normal t h)
    (region := fun id ops draw => regionR S id ops draw)
    (seq := fun _ _ ia ib => seqR ia ib)
    (cond := fun c _ _ ia ib => condR S c ia ib)
    (block := fun id _ ib => blockR id ib)
    (loop := fun b _ t h k => Sat S (.loop b) t h k)
    (rangeFunc := fun f ps a b _ _ t h k => Sat S (.rangeFunc f ps a b) t h k)
    (exit := fun id t h k => k (.exit id) t h)
    (goto := fun l t h k => k (.goto l) t h)
    (ret := fun t h k => k .ret t h)
    (scope := fun b _ t h k => Sat S (.scope b) t h k)
    (refuse := fun _ _ _ _ => False)
    c
theorem codeR_eq (S : Seat) : ∀ (c : Code), codeR S c = codeK S c
  | .skip => rfl
  | .label _ => rfl
  | .region id ops draw => by
    funext t h k
    show regionR S id ops draw t h k = _
    unfold regionR
    conv => rhs; unfold codeK
    rw [opsR_eq]
    all_goals rfl
  | .seq a b => by
    have ha := codeR_eq S a
    have hb := codeR_eq S b
    funext t h k
    show seqR (codeR S a) (codeR S b) t h k = _
    rw [ha, hb]
    unfold seqR
    conv => rhs; unfold codeK
    all_goals rfl
  | .cond c a b => by
    have ha := codeR_eq S a
    have hb := codeR_eq S b
    funext t h k
    show condR S c (codeR S a) (codeR S b) t h k = _
    rw [ha, hb]
    unfold condR
    conv => rhs; unfold codeK
    all_goals rfl
  | .block id b => by
    have hb := codeR_eq S b
    funext t h k
    show blockR id (codeR S b) t h k = _
    rw [hb]
    unfold blockR
    conv => rhs; unfold codeK
    all_goals rfl
  | .loop _ => rfl
  | .rangeFunc _ _ _ _ => rfl
  | .exit _ => rfl
  | .goto _ => rfl
  | .ret => rfl
  | .scope _ => rfl
  | .refuse _ => rfl
theorem codeR_sound (hS : SeatOK S) (c : Code) (t : List AV) (h : Heap) (k : ExK) (hk : codeR S c t h k) : Sat S c t h k := by
  rw [codeR_eq] at hk; exact codeK_sound hS c t h k hk
end Go.Abs
namespace Go.Abs
open Go.RowKit
variable {S : Seat}
def undefs (n : Nat) : List AV := @Nat.rec (fun _ => List AV) [] (fun _ ih => .undef :: ih) n
theorem undefs_eq : ∀ n, undefs n = List.replicate n .undef
  | 0 => rfl
  | n + 1 => by
    show AV.undef :: undefs n = _
    rw [undefs_eq n, List.replicate_succ]
def resK (S : Seat) (t : List AV) (h : Heap) : List ResultVar → (List AV → Prop) → Prop
  | [], k => k []
  | .tmp i :: r, k => forceK (getT t i) (fun v => resK S t h r (fun vs => k (v :: vs)))
  | .cell a ty :: r, k =>
    match getT t a with
    | .ptr i o =>
      match S.Γ ty with
      | some ti =>
        match getO h i with
        | some (.var cs _) => LdK (partK ti.kind.agg cs o ti.size) (fun v => resK S t h r (fun vs => k (v :: vs)))
        | _ => False
      | none => False
    | _ => False
def retK : List AV → AV
  | [v] => v
  | vs => .tup vs
def resV (tmps : Array Value) : ResultVar → Sem Value
  | .tmp t => pure (tmps.getD t undef)
  | .cell a t => do loadVar t (← asAddr (tmps.getD a undef))
theorem results_eq (fn : Func) (tmps : Array Value) : results fn tmps = (do let vs ← fn.results.mapM (resV tmps); pure (if h : vs.size = 1 then vs[0] else .tuple vs)) := by
  unfold results
  congr 1
theorem resK_run (hS : SeatOK S) {E : Env} {h : Heap} {w : World} (hr : R S E h w) {t : List AV} {tmps : Array Value} (ht : VRL E t tmps.toList) : ∀ (rs : List ResultVar) (k : List AV → Prop), resK S t h rs k →
    ∃ vs us, k vs ∧ VRL E vs us ∧ (rs.mapM (resV tmps)).run S.P w = .ok us w
  | [], k, hk => ⟨[], [], hk, VRL.nil, rfl⟩
  | r :: rs, k, hk => by
    have hg : ∀ i, VR E (getT t i) (tmps.getD i undef) := by
      intro i
      rw [getT_eq]
      cases hi : t[i]? with
      | none => simp only [Option.getD_none, VR]
      | some c =>
        obtain ⟨u, hu, hv⟩ := ht.get i c hi
        have : tmps[i]? = some u := by simpa using hu
        simp [Array.getD_eq_getD_getElem?, this, hv]
    have go : ∀ (v : AV) (u : Value) (m : Sem Value), VR E v u → m.run S.P w = .ok u w → resK S t h rs (fun vs => k (v :: vs)) →
        ∃ vs us, k vs ∧ VRL E vs us ∧ ((do let x ← m; let xs ← (rs.mapM (resV tmps)); pure (x :: xs) : Sem (List Value))).run S.P w = .ok us w := by
      intro v u m hv hm hk
      obtain ⟨vs, us, h1, h2, h3⟩ := resK_run hS hr ht rs _ hk
      refine ⟨_, u :: us, h1, VRL.cons hv h2, ?_⟩
      rw [Sem.run_bind, hm]
      simp only [Result.andThen_ok]
      rw [Sem.run_bind, h3]
      rfl
    rw [List.mapM_cons]
    cases r with
    | tmp i =>
      simp only [resK, forceK_eq] at hk
      exact go _ _ _ (hg i) rfl hk
    | cell a ty =>
      simp only [resK] at hk
      split at hk
      · rename_i i o e
        have hga := hg a
        rw [e] at hga; simp only [VR] at hga
        obtain ⟨b, hb, hab⟩ := hga
        split at hk
        · rename_i ti hti
          split at hk
          · rename_i cs te hgo
            rw [getO_eq] at hgo
            obtain ⟨v, hp, hk⟩ := hk.elim
            obtain ⟨b', us, h1, h2, h3, _⟩ := hr.r0.ch i _ hgo
            rw [hb] at h1; cases h1
            obtain ⟨u, h1, h2⟩ := run_loadVar' (w := w) (b := b) (off := 0) (hS.ty _ _ hti) (fun j c hj => by
              obtain ⟨u, hu, hv⟩ := h3.get j c hj
              refine ⟨u, ?_, hv⟩
              simp only [World.cell?, h2]
              simpa using hu) hp
            refine go v u _ h2 ?_ hk
            rw [Nat.zero_add] at h1
            simpa [resV, hab, asAddr, Sem.run_bind, Result.andThen] using h1
          · exact hk.elim
        · exact hk.elim
      · exact hk.elim
def bodyK (S : Seat) (fn : Func) (c : Code) (args : List AV) (h : Heap) (k : AEnd → Heap → Prop) : Prop :=
  codeR S c (appL args (undefs (fn.ntmps - lenN args))) h (fun x t h' => match x with
    | .normal => resK S t h' fn.results.toList (fun vs => k (.ret (retK vs)) h')
    | .ret => resK S t h' fn.results.toList (fun vs => k (.ret (retK vs)) h')
    | .pan v => k (.pan v) h'
    | _ => False)
theorem takeMark {E : Env} {h : Heap} {w : World} {D : Nat} {ms : List Nat} (hr : R S E h w) (hm : E.marks = D :: ms) (hnd : E.marks.Nodup) :
    (Instr.takeDeferred D).run S.P w = .ok [] (w.putObj D (.deferred none)) ∧ R S { E with marks := ms } h (w.putObj D (.deferred none)) := by
  have hD := hr.r0.mks D (by rw [hm]; simp)
  have hlt : D < w.heap.size := (Array.getElem?_eq_some_iff.1 hD.1).1
  have hne : ∀ b, b ≠ D → (w.putObj D (.deferred none)).heap[b]? = w.heap[b]? := fun b hb => World.putObj_heap_other hb
  have hcell : ∀ b o, w.cell? ⟨b, o, none⟩ = (w.putObj D (.deferred none)).cell? ⟨b, o, none⟩ := by
    intro b o
    by_cases hb : b = D
    · subst hb
      simp [World.cell?, hD.1, World.putObj_heap_same hlt]
    · simp [World.cell?, hne b hb]
  have imm : immOK E.imm (w.putObj D (.deferred none)) := fun b o u hu => by rw [← hcell]; exact hr.r0.imm b o u hu
  have hsz : (w.putObj D (.deferred none)).heap.size = w.heap.size := by simp
  have s3 : Same3 w (w.putObj D (.deferred none)) := ⟨rfl, rfl, rfl⟩
  have oc : ∀ i c b, ownsC { E with marks := ms } i c b ↔ ownsC E i c b := fun i c b => ownsC_same rfl rfl rfl i c b
  refine ⟨run_takeDeferred hD.1, ⟨⟨fun i c hi => ?_, fun g cs hg => VRI.mono (VExt.of_eq (E := E) (E' := { E with marks := ms }) rfl rfl rfl rfl) _ _ _ (hr.r0.glob g cs hg), hr.r0.non, fun i c b hi ho => ?_, fun i j c d b hi hj h1 h2 => hr.r0.disj i j c d b hi hj ((oc i c b).1 h1) ((oc j d b).1 h2), imm, fun l hl => ?_, fun D' hD' => ?_⟩,
    ⟨fun b hk => ?_, fun i c b hi ho => hr.kp.keep i c b hi ((oc i c b).1 ho), by rw [hsz]; exact hr.kp.size, hr.kp.klt, hr.kp.s3.trans s3⟩⟩⟩
  · exact (hr.r0.ch i c hi).move (E' := { E with marks := ms }) (VExt.of_eq (E := E) (E' := { E with marks := ms }) rfl rfl rfl rfl) rfl rfl rfl rfl rfl (fun b hb => hne b (fun e => hD.2.2 i c hi (e ▸ hb))) (fun _ _ _ => rfl) imm (by rw [hsz]; exact Nat.le_refl _) s3
  · rw [hsz]; exact hr.r0.lt i c b hi ((oc i c b).1 ho)
  · have := hr.r0.rnd l hl
    refine ⟨?_, fun i c hi ho => this.2 i c hi ((oc i c l).1 ho)⟩
    rw [hne l (fun e => by subst e; obtain ⟨r, e⟩ := this.1; rw [hD.1] at e; cases e)]
    exact this.1
  · have hin : D' ∈ E.marks := by rw [hm]; exact List.mem_cons_of_mem _ hD'
    have := hr.r0.mks D' hin
    refine ⟨?_, this.2.1, fun i c hi ho => this.2.2 i c hi ((oc i c D').1 ho)⟩
    rw [hne D' (fun e => by subst e; rw [hm] at hnd; exact (List.nodup_cons.1 hnd).1 hD')]
    exact this.1
  · rw [hne b (fun e => hD.2.1 (e ▸ hk))]
    exact hr.kp.same b hk
theorem leaves_of {fn : Func} {tmps : Array Value} {Rr : Ending → World → Prop} {u : FrameMode} (hu : u ≠ .run) {h : Heap} :
    ∀ (ms : List Nat) (E : Env) (w : World), E.marks = ms → E.marks.Nodup → R S E h w →
    (∀ w', R S { E with marks := [] } h w' → LeavesIn Fence.wide 0 S.P fn tmps Rr [] u w') → LeavesInM Fence.wide 0 S.P fn tmps Rr (ms.map markOf) u w
  | [], E, w, hm, _, hr, hk => hk w (by
      have : E = { E with marks := [] } := by cases E; simp_all
      rw [← this]; exact hr)
  | D :: ms, E, w, hm, hnd, hr, hk => by
    obtain ⟨h1, h2⟩ := takeMark hr hm hnd
    refine ⟨hu, .inl ⟨D, _, rfl, h1, leaves_of hu ms { E with marks := ms } _ rfl (by rw [hm] at hnd; exact (List.nodup_cons.1 hnd).2) h2 hk⟩⟩
theorem ACalls.body (hS : SeatOK S) {f : Nat} {fn : Func} {c : Code} (hf : S.P.funcs[f]? = some fn) (hb : fn.body = some c) (hn : (fn.name == "runtime.NumGoroutine") = false) {args : List AV} {h : Heap} {Q : AEnd → Heap → Prop}
    (hk : bodyK S fn c args h Q) : ACalls S f args h Q := by
  intro E w args' hm hrn hr ha
  refine .inl ⟨?_, ?_⟩
  · unfold callFunc
    simp only [beq_eq_false_iff_ne, ne_eq] at hn
    simp [Sem.run_bind, go_sem, hf, hn, hb]
  · rw [← callsIn_wide (n := 0)]
    refine callsIn_of_wp_marks hf hb trivial ?_
    have hact : ActR [] E (appL args (undefs (fn.ntmps - lenN args))) { tmps := args'.toArray ++ Array.replicate (fn.ntmps - args'.toArray.size) undef, defers := [] } := by
      refine ⟨?_, by rw [hm]; exact ⟨rfl, List.nodup_nil⟩⟩
      rw [appL_eq, undefs_eq, lenN_eq, ha.length]
      simp only [Array.toList_append, Array.toList_replicate, List.size_toArray]
      exact ha.append (VRL.replicate_undef _ _ (by simp))
    have := (codeR_sound hS c _ _ _ hk).out [] E w _ hr hact
    have hfen : fen E = Fence.wide := by unfold fen; rw [hrn]
    rw [hfen] at this
    refine wpIn_mono this ?_
    rintro e a' w' ⟨E', t', h', x, h1, h2, h3, h4, h5⟩
    have hres : ∀ (w' : World), R S { E' with marks := [] } h' w' → resK S t' h' fn.results.toList (fun vs => Q (.ret (retK vs)) h') → LeavesIn Fence.wide 0 S.P fn a'.tmps (fun e w' => ∃ E' h' r, Ext E E' ∧ E'.marks = [] ∧ R S E' h' w' ∧ EndR E' r e ∧ Q r h') [] .returning w' := by
      intro w' hr' hk
      have ht : VRL { E' with marks := [] } t' a'.tmps.toList := VRL.mono (VExt.of_eq (E := E') (E' := { E' with marks := [] }) rfl rfl rfl rfl) _ _ h3.1
      obtain ⟨vs, us, hq, hvs, hrun⟩ := resK_run hS hr' ht _ _ hk
      have hrun2 : (results fn a'.tmps).run S.P w' = .ok (if h : us.toArray.size = 1 then us.toArray[0] else .tuple us.toArray) w' := by
        rw [results_eq, Sem.run_bind, Array.mapM_eq_mapM_toList, map_eq_pure_bind, Sem.run_bind, hrun]
        rfl
      refine ⟨_, hrun2, { E' with marks := [] }, h', .ret (retK vs), ⟨h1.blk, h1.tok, h1.cbv, h1.imm, h1.new, h1.keep, h1.base, h1.rnd⟩, rfl, hr', ⟨_, rfl, ?_⟩, hq⟩
      have hl := hvs.length
      match vs, us, hvs, hl with
      | [], [], hvs, _ => simpa [retK, VR] using hvs
      | [v], [u], hvs, _ => obtain ⟨_, _, e, h1, _⟩ := hvs.uncons; cases e; simpa [retK] using h1
      | v1 :: v2 :: vs, u1 :: u2 :: us, hvs, _ =>
        have : ¬ (u1 :: u2 :: us).toArray.size = 1 := by simp
        rw [dif_neg this]
        simp only [retK, VR]
        exact ⟨_, rfl, hvs⟩
    cases x with
    | normal =>
      simp only [ExitR] at h4; subst h4
      show LeavesInM _ _ _ _ _ _ _ _ _
      rw [h3.2.1, List.append_nil]
      exact leaves_of (by simp) E'.marks E' w' rfl h3.2.2 h2 fun w' hr' => hres w' hr' h5
    | ret =>
      simp only [ExitR] at h4; subst h4
      show LeavesInM _ _ _ _ _ _ _ _ _
      rw [h3.2.1, List.append_nil]
      exact leaves_of (by simp) E'.marks E' w' rfl h3.2.2 h2 fun w' hr' => hres w' hr' h5
    | pan v =>
      obtain ⟨u, rfl, hu⟩ := h4
      show LeavesInM _ _ _ _ _ _ _ _ _
      rw [h3.2.1, List.append_nil]
      exact leaves_of (by simp) E'.marks E' w' rfl h3.2.2 h2 fun w' hr' => ⟨{ E' with marks := [] }, h', .pan v, ⟨h1.blk, h1.tok, h1.cbv, h1.imm, h1.new, h1.keep, h1.base, h1.rnd⟩, rfl, hr', ⟨u, rfl, VR.mono (VExt.of_eq (E := E') (E' := { E' with marks := [] }) rfl rfl rfl rfl) _ _ hu⟩, h5⟩
    | exit i => exact h5.elim
    | goto i => exact h5.elim
theorem CallH.body (hS : SeatOK S) {f : Nat} {fn : Func} {c : Code} (hf : S.P.funcs[f]? = some fn) (hb : fn.body = some c) (hn : (fn.name == "runtime.NumGoroutine") = false) {args : List AV} {h : Heap} {k : AEnd → Heap → Prop}
    (hk : bodyK S fn c args h k) : CallH S f args h k := ⟨ACalls.body hS hf hb hn hk⟩
end Go.Abs
namespace Go.Abs
open Go.RowKit
variable {S : Seat}
mutual
def Closed : AV → Prop
  | .ptr _ _ => False
  | .row _ _ _ _ => False
  | .cb _ => False
  | .mapp _ => False
  | .vec cs _ g => g = none ∧ ClosedL cs
  | .iptr cs => ClosedL cs
  | .fn _ a b => ClosedL a ∧ ClosedL b
  | .ifc _ v => Closed v
  | .agg cs => ClosedL cs
  | .tup cs => ClosedL cs
  | _ => True
def ClosedL : List AV → Prop
  | [] => True
  | c :: cs => Closed c ∧ ClosedL cs
end
theorem ClosedL_iff : ∀ {cs : List AV}, ClosedL cs ↔ ∀ c ∈ cs, Closed c
  | [] => by simp [ClosedL]
  | c :: cs => by simp [ClosedL, ClosedL_iff (cs := cs)]
theorem ClosedL.append {a b : List AV} (h : ClosedL a) (k : ClosedL b) : ClosedL (a ++ b) :=
  ClosedL_iff.2 fun c hc => (List.mem_append.1 hc).elim (ClosedL_iff.1 h c) (ClosedL_iff.1 k c)
def ImmLe (E E' : Env) : Prop := ∀ b o u, E.imm b o = some u → E'.imm b o = some u
mutual
theorem Closed.VR {E E' : Env} (h : ImmLe E E') : ∀ (a : AV) (v : Value), Closed a → Abs.VR E a v → Abs.VR E' a v
  | .undef, _, hc, hv => by simp only [Abs.VR]
  | .bool b, v, hc, hv => by simpa only [Abs.VR] using hv
  | .int k n, v, hc, hv => by simpa only [Abs.VR] using hv
  | .str s, v, hc, hv => by simpa only [Abs.VR] using hv
  | .nilp, v, hc, hv => by simpa only [Abs.VR] using hv
  | .ptr i o, v, hc, hv => by simp only [Closed] at hc
  | .iptr cs, v, hc, hv => by
    simp only [Closed] at hc
    simp only [Abs.VR] at hv ⊢
    obtain ⟨b, o, e, hi⟩ := hv
    exact ⟨b, o, e, Closed.VRI h cs b o hc hi⟩
  | .nils, v, hc, hv => by simpa only [Abs.VR] using hv
  | .vec cs len g, v, hc, hv => by
    simp only [Closed] at hc
    obtain ⟨rfl, hc⟩ := hc
    simp only [Abs.VR] at hv ⊢
    obtain ⟨a, cap, e, hcp, hi, ht⟩ := hv
    refine ⟨a, cap, e, hcp, ?_, fun i hi => nomatch hi⟩
    rcases hi with hi | ⟨b, o, ha, hi⟩
    · exact .inl hi
    · exact .inr ⟨b, o, ha, Closed.VRI h cs b o hc hi⟩
  | .row i o len cap, v, hc, hv => by simp only [Closed] at hc
  | .nilf, v, hc, hv => by simpa only [Abs.VR] using hv
  | .fn f first caps, v, hc, hv => by
    simp only [Closed] at hc
    simp only [Abs.VR] at hv ⊢
    obtain ⟨us, ws, e, h1, h2⟩ := hv
    exact ⟨us, ws, e, Closed.VRL h first us hc.1 h1, Closed.VRL h caps ws hc.2 h2⟩
  | .cb i, v, hc, hv => by simp only [Closed] at hc
  | .nili, v, hc, hv => by simpa only [Abs.VR] using hv
  | .ifc t x, v, hc, hv => by
    simp only [Closed] at hc
    simp only [Abs.VR] at hv ⊢
    obtain ⟨u, e, hu⟩ := hv
    exact ⟨u, e, Closed.VR h x u hc hu⟩
  | .agg cs, v, hc, hv => by
    simp only [Closed] at hc
    simp only [Abs.VR] at hv ⊢
    obtain ⟨us, e, hu⟩ := hv
    exact ⟨us, e, Closed.VRL h cs us hc hu⟩
  | .tup cs, v, hc, hv => by
    simp only [Closed] at hc
    simp only [Abs.VR] at hv ⊢
    obtain ⟨us, e, hu⟩ := hv
    exact ⟨us, e, Closed.VRL h cs us hc hu⟩
  | .mapp i, v, hc, hv => by simp only [Closed] at hc
  | .nilm, v, hc, hv => by simpa only [Abs.VR] using hv
theorem Closed.VRI {E E' : Env} (h : ImmLe E E') : ∀ (cs : List AV) (b o : Nat), ClosedL cs → Abs.VRI E cs b o → Abs.VRI E' cs b o
  | [], b, o, _, _ => by simp only [Abs.VRI]
  | c :: cs, b, o, hc, hv => by
    simp only [ClosedL] at hc
    simp only [Abs.VRI] at hv ⊢
    obtain ⟨⟨u, e, hu⟩, hr⟩ := hv
    exact ⟨⟨u, h b o u e, Closed.VR h c u hc.1 hu⟩, Closed.VRI h cs b (o + 1) hc.2 hr⟩
theorem Closed.VRL {E E' : Env} (h : ImmLe E E') : ∀ (cs : List AV) (us : List Value), ClosedL cs → Abs.VRL E cs us → Abs.VRL E' cs us
  | [], us, _, hv => by simpa only [Abs.VRL] using hv
  | c :: cs, us, hc, hv => by
    simp only [ClosedL] at hc
    simp only [Abs.VRL] at hv ⊢
    obtain ⟨u, us', e, hu, hr⟩ := hv
    exact ⟨u, us', e, Closed.VR h c u hc.1 hu, Closed.VRL h cs us' hc.2 hr⟩
end
def Env.bare (imm : Imm) (w : World) : Env := { closedEnv imm with keep := fun b => b < w.heap.size, base := w }
structure GOK (S : Seat) : Prop where
  glob : ∀ g cs, S.G g = some cs → ClosedL cs
theorem R.bare {imm : Imm} {w : World} (hok : immOK imm w) (hg : ∀ g cs, S.G g = some cs → VRI (Env.bare imm w) cs g 0) : R S (Env.bare imm w) [] w :=
  ⟨⟨fun i c h => by simp at h, hg, fun i _ => ⟨rfl, rfl, rfl⟩, fun i c b h => by simp at h, fun i j c d b h => by simp at h, hok, fun l h => (by cases h), fun D h => (by cases h)⟩,
    ⟨fun _ _ => rfl, fun i c b h => by simp at h, Nat.le_refl _, fun _ h => h, Same3.refl w⟩⟩
theorem ACalls.lift (hG : GOK S) {f : Nat} {args : List AV} {Q : AEnd → Heap → Prop} (hc : ACalls S f args [] Q) (hcl : ClosedL args) {h : Heap} {k : AEnd → Heap → Prop}
    (hq : ∀ r h', Q r h' → (∃ v, r = .ret v ∧ Closed v ∧ k (.ret v) h) ∨ (∃ v, r = .pan v ∧ Closed v ∧ k (.pan v) h)) : ACalls S f args h k := by
  intro E w args' hm hrn hr ha
  have hle : ImmLe E (Env.bare E.imm w) := fun _ _ _ h => h
  have hR0 : R S (Env.bare E.imm w) [] w := R.bare hr.r0.imm fun g cs hg => Closed.VRI hle cs g 0 (hG.glob g cs hg) (hr.r0.glob g cs hg)
  refine (hc (Env.bare E.imm w) w args' rfl rfl hR0 (Closed.VRL hle _ _ hcl ha)).mono ?_
  rintro e w' ⟨E0, h0, r, hx, _, hR, he, hQ⟩
  have hkeep : ∀ b, b < w.heap.size → w'.heap[b]? = w.heap[b]? := fun b hb => by
    have := hR.kp.same b (by rw [hx.keep]; exact hb)
    rw [hx.base] at this; exact this
  have hsz : w.heap.size ≤ w'.heap.size := by have := hR.kp.size; rw [hx.base] at this; exact this
  have hs3 : Same3 w w' := by have := hR.kp.s3; rw [hx.base] at this; exact this
  have hap : Apart E h w E0.imm w' := ⟨fun i c b hi ho => hkeep b (hr.r0.lt i c b hi ho), fun i c b hi ho o => hx.new b o (hr.r0.lt i c b hi ho), hx.imm, hR.r0.imm, hsz, hs3, fun l hl => (by rw [hrn] at hl; cases hl), fun D hD => (by rw [hm] at hD; cases hD)⟩
  have hnew : R S (E.withImm E0.imm) h w' := ⟨hr.r0.apart hap, ⟨fun b hb => by
      have hlt : b < w.heap.size := Nat.lt_of_lt_of_le (hr.kp.klt b hb) hr.kp.size
      rw [hkeep b hlt]; exact hr.kp.same b hb, fun i c b hi ho => hr.kp.keep i c b hi (by rwa [ownsC_withImm] at ho), Nat.le_trans hr.kp.size hsz, hr.kp.klt, hr.kp.s3.trans hs3⟩⟩
  have hext : Ext E (E.withImm E0.imm) := ⟨fun _ _ h => h, fun _ F v h => ⟨F, v, h, .inr ⟨rfl, rfl⟩⟩, fun _ _ h => ⟨h, rfl⟩, hx.imm, fun b o hb => hx.new b o (Nat.lt_of_lt_of_le (hr.kp.klt b hb) hr.kp.size), rfl, rfl, rfl⟩
  have hle2 : ImmLe E0 (E.withImm E0.imm) := fun _ _ _ h => h
  rcases hq r h0 hQ with ⟨v, rfl, hcv, hk⟩ | ⟨v, rfl, hcv, hk⟩
  · obtain ⟨u, rfl, hu⟩ := he
    exact ⟨E.withImm E0.imm, h, .ret v, hext, hm, hnew, ⟨u, rfl, Closed.VR hle2 v u hcv hu⟩, hk⟩
  · obtain ⟨u, rfl, hu⟩ := he
    exact ⟨E.withImm E0.imm, h, .pan v, hext, hm, hnew, ⟨u, rfl, Closed.VR hle2 v u hcv hu⟩, hk⟩
theorem CallH.lift (hG : GOK S) {f : Nat} {args : List AV} {r : AV} (hc : ACalls S f args [] (fun x _ => x = .ret r)) (hcl : ClosedL args) (hcr : Closed r) {h : Heap} {k : AEnd → Heap → Prop} (hk : k (.ret r) h) : CallH S f args h k :=
  ⟨hc.lift hG hcl fun x _ hx => .inl ⟨r, hx, hcr, hk⟩⟩
structure Kept (w w' : World) : Prop where
  same : ∀ b, b < w.heap.size → w'.heap[b]? = w.heap[b]?
  size : w.heap.size ≤ w'.heap.size
  s3 : Same3 w w'
theorem Kept.but {w w' : World} (h : Kept w w') (may : MemPlace → Prop) : w.keptBut w' may := by
  refine ⟨h.s3.os, h.s3.output, fun i hi => ?_⟩
  rw [h.same i hi]
  cases w.heap[i]? with
  | none => rfl
  | some o => cases o <;> simp
theorem ACalls.top {f : Nat} {args : List AV} {v : AV} {u : Value} (hc : ACalls S f args [] (fun r _ => r = .ret v)) (hv : ∀ E u', VR E v u' → u' = u) {fn : Func} {c : Code} (hf : S.P.funcs[f]? = some fn) (hb : fn.body = some c) (hn : (fn.name == "runtime.NumGoroutine") = false) {imm : Imm} {w : World} (hok : immOK imm w)
    (hg : ∀ g cs, S.G g = some cs → VRI (Env.bare imm w) cs g 0) {args' : List Value} (ha : VRL (Env.bare imm w) args args') :
    Calls S.P f args'.toArray w fun e w' => e = .returned u ∧ Kept w w' := by
  have hrun : (callFunc f args'.toArray).run S.P w = .ok (.enter f args'.toArray) w := by
    unfold callFunc
    simp only [beq_eq_false_iff_ne, ne_eq] at hn
    simp [Sem.run_bind, go_sem, hf, hn, hb]
  have hpost : ∀ (e : Ending) (w' : World), (∃ E' h' r, Ext (Env.bare imm w) E' ∧ E'.marks = [] ∧ R S E' h' w' ∧ EndR E' r e ∧ r = .ret v) → e = .returned u ∧ Kept w w' := by
    rintro e w' ⟨E', h', r, hx, _, hR, he, rfl⟩
    obtain ⟨u', rfl, hu⟩ := he
    rw [hv E' u' hu]
    refine ⟨rfl, fun b hb => ?_, ?_, ?_⟩
    · have := hR.kp.same b (by rw [hx.keep]; exact hb)
      rw [hx.base] at this; exact this
    · have := hR.kp.size; rw [hx.base] at this; exact this
    · have := hR.kp.s3; rw [hx.base] at this; exact this
  rcases hc (Env.bare imm w) w args' rfl rfl (R.bare hok hg) ha with ⟨h1, h2⟩ | ⟨v', w', h1, h2⟩
  · exact Calls.mono h2 hpost
  · rw [hrun] at h1; cases h1
end Go.Abs
namespace Go.Abs
open Go.RowKit
variable {S : Seat}
def unrollP (S : Seat) (b : Code) (k : ExK) (n : Nat) : List AV → Heap → Prop :=
  @Nat.rec (fun _ => List AV → Heap → Prop) (fun _ _ => False) (fun _ ih t h => codeR S b t h (fun x t' h' => match x with
    | .normal => ih t' h'
    | .exit i => k (.exit i) t' h'
    | .goto i => k (.goto i) t' h'
    | .ret => k .ret t' h'
    | .pan v => k (.pan v) t' h')) n
theorem Sat.unroll (hS : SeatOK S) {b : Code} {k : ExK} (n : Nat) {t : List AV} {h : Heap} (hu : unrollP S b k n t h) : Sat S (.loop b) t h k :=
  Sat.loop (ι := Nat) (fun n t h => unrollP S b k n t h) id n hu fun i t h hi => by
    cases i with
    | zero => exact hi.elim
    | succ i =>
      refine (codeR_sound hS b t h _ hi).mono fun x t' h' hx => ?_
      cases x with
      | normal => exact ⟨i, by simp, hx⟩
      | exit _ => exact hx
      | goto _ => exact hx
      | ret => exact hx
      | pan _ => exact hx
def Weak (v v' : AV) : Prop := ∀ E u, VR E v u → VR E v' u
theorem Weak.refl (v : AV) : Weak v v := fun _ _ h => h
theorem Weak.undef (v : AV) : Weak v .undef := fun _ _ _ => by simp only [VR]
theorem Weak.tok {cs : List AV} {n : Nat} {g : Option Nat} : Weak (.vec cs n g) (.vec cs n none) := fun _ _ h => by
  simp only [VR] at h ⊢
  obtain ⟨a, cap, e, h1, h2, _⟩ := h
  exact ⟨a, cap, e, h1, h2, fun i hi => nomatch hi⟩
def WeakL : List AV → List AV → Prop
  | [], [] => True
  | v :: l, v' :: l' => Weak v v' ∧ WeakL l l'
  | _, _ => False
theorem WeakL.run {E : Env} : ∀ {l l' : List AV} {us : List Value}, WeakL l l' → VRL E l us → VRL E l' us
  | [], [], _, _, h => h
  | v :: l, v' :: l', us, hw, h => by
    obtain ⟨u, us', rfl, h1, h2⟩ := h.uncons
    exact VRL.cons (hw.1 _ _ h1) (WeakL.run hw.2 h2)
  | [], _ :: _, _, hw, _ => hw.elim
  | _ :: _, [], _, hw, _ => hw.elim
theorem Sat.weak {c : Code} {t t' : List AV} {h : Heap} {k : ExK} (hw : WeakL t t') (hs : Sat S c t' h k) : Sat S c t h k :=
  ⟨fun B E w a hr ha => hs.out B E w a hr ⟨WeakL.run hw ha.1, ha.2⟩⟩
def keepT : List Bool → List AV → List AV
  | true :: m, v :: l => v :: keepT m l
  | _ :: m, _ :: l => .undef :: keepT m l
  | [], l => l
  | _, [] => []
theorem keepT_weak : ∀ (m : List Bool) (l : List AV), WeakL l (keepT m l)
  | true :: m, v :: l => ⟨Weak.refl v, keepT_weak m l⟩
  | false :: m, v :: l => ⟨Weak.undef v, keepT_weak m l⟩
  | [], [] => trivial
  | [], v :: l => ⟨Weak.refl v, keepT_weak [] l⟩
  | true :: _, [] => trivial
  | false :: _, [] => trivial
def maskOf (n : Nat) (live : List Nat) : List Bool := (List.range n).map fun i => live.contains i
theorem and_low (n : Nat) (hn : n < 64) (a m : Int) (M : Int) (hm : m = ((2 ^ n - 1 : Nat) : Int)) (hM : M = ((2 ^ n : Nat) : Int)) : ((BitVec.ofInt 64 a &&& BitVec.ofInt 64 m).toNat : Int) = a % M := by
  subst hm hM
  have hp : (2 : Nat) ^ n < 2 ^ 64 := Nat.pow_lt_pow_right (by omega) hn
  have hlt : 2 ^ n - 1 < 2 ^ 64 := by omega
  rw [BitVec.ofInt_natCast, BitVec.toNat_and, BitVec.toNat_ofNat, Nat.mod_eq_of_lt hlt, Nat.and_two_pow_sub_one_eq_mod, BitVec.toNat_ofInt]
  have h2 : (0 : Int) ≤ a % ((2 ^ 64 : Nat) : Int) := Int.emod_nonneg _ (by decide)
  rw [Int.natCast_emod, Int.toNat_of_nonneg h2]
  refine Int.emod_emod_of_dvd a ?_
  rw [Int.natCast_dvd_natCast]
  exact Nat.pow_dvd_pow 2 (by omega)
end Go.Abs
namespace Go.Abs
open Go.RowKit
theorem post_of_kept {H : Type} {enc : TypeId × Value → H} {P : Program} {f : Func} {s : ChangeSpec} {apart fresh handsOn : Bool} {W W' : World} {args : Array Value} {v : Value} {ds gs : List (DataW H)} {before pa pv : List MemPlace}
    (hW : DataW.Whole enc P f.params.toList s.vars apart W args.toList ds gs before)
    (hres : ∀ (b : Nat) (sp : Nat → Bool) (hd : Bool), DataW.TrodAll enc P W' b sp hd f.resultTypes.toList (v.resultList f.resultTypes.size) (s.fn H (ds ++ gs)).results [])
    (hargs : ∀ sp : Nat → Bool, (∀ p ∈ before, sp p.block = true) → DataW.TrodAll enc P W' 0 sp true f.params.toList args.toList (s.fn H (ds ++ gs)).args pa)
    (hvars : ∀ sp : Nat → Bool, (∀ p ∈ before, sp p.block = true) → DataW.TrodVars enc P W' sp s.vars (s.fn H (ds ++ gs)).vars pv)
    (hps : before = pa ++ pv) (hk : Kept W W') :
    s.post enc P f apart fresh handsOn false W args v W' := by
  have hold : ∀ p ∈ before, (fun b => decide (b < W.heap.size)) p.block = true := fun p hp => by simpa using hW.lt p hp
  refine ⟨ds, gs, before, [], pa, pv, hW, hres _ _ _, hargs _ hold, hvars _ hold, World.keptBut_mono (fun p hp => ⟨hp, ?_⟩) (hk.but (· ∈ before)), fun h => (by cases h)⟩
  rw [hps, List.mem_append] at hp
  exact Or.inr hp
theorem wf_i64 {n : Int} (h : (Lit.int .i64 n).wf = true) : -9223372036854775808 ≤ n ∧ n < 9223372036854775808 := by
  simp only [Lit.wf, Bool.and_eq_true, decide_eq_true_eq] at h
  have h1 : IntKind.min .i64 = -9223372036854775808 := by decide
  have h2 : IntKind.max .i64 = 9223372036854775807 := by decide
  omega
end Go.Abs
