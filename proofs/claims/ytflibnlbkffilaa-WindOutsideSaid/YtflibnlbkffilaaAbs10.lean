/- Every operation that is no call is the machine's: slices, new rows. No condition: lemmas. -/
import Derived.Test.YtflibnlbkffilaaAbs9
set_option linter.unusedSimpArgs false
set_option linter.unusedVariables false
set_option linter.deprecated false
namespace Go.Abs
open Go.RowKit
variable {S : Seat}

theorem run_bounds {P : Program} {w : World} (isS : Bool) (len cap : Nat) (lo hi mx : Option Value) (l hh mm : Int) (hlo : (lo = none ∧ l = 0) ∨ ∃ k, lo = some (.int k l)) (hhi : (hi = none ∧ hh = len ∧ mx = none) ∨ ∃ k, hi = some (.int k hh))
    (hmx : (mx = none ∧ mm = cap) ∨ ∃ k, mx = some (.int k mm)) (h0 : 0 ≤ l) (h1 : l ≤ hh) (h2 : hh ≤ mm) (h3 : mm ≤ cap) :
    (Instr.sliceBounds isS len cap lo hi mx).run P w = .ok (l.toNat, hh.toNat, mm.toNat) w := by
  have hb : ∀ (k : IntKind) (i : Int) (y : Nat) (c : BoundsCode), 0 ≤ i → i ≤ y → (Instr.sliceBound (.int k i) y c).run P w = .ok i.toNat w := by
    intro k i y c a b
    simp [Instr.sliceBound, asIntOf, a, b]
  have e1 : mm ≤ (cap : Int) := h3
  have e2 : hh ≤ ((mm.toNat : Nat) : Int) := by omega
  have e3 : l ≤ ((hh.toNat : Nat) : Int) := by omega
  unfold Instr.sliceBounds
  rcases hmx with ⟨rfl, rfl⟩ | ⟨km, rfl⟩
  · rcases hhi with ⟨rfl, rfl, _⟩ | ⟨kh, rfl⟩
    · rcases hlo with ⟨rfl, rfl⟩ | ⟨kl, rfl⟩
      · simp
      · simp [hb kl l len _ h0 (by omega)]
    · rcases hlo with ⟨rfl, rfl⟩ | ⟨kl, rfl⟩
      · simp [hb kh hh cap _ (by omega) (by omega)]
      · simp [hb kh hh cap _ (by omega) (by omega), hb kl l hh.toNat _ h0 e3]
  · rcases hhi with ⟨_, _, h⟩ | ⟨kh, rfl⟩
    · cases h
    · rcases hlo with ⟨rfl, rfl⟩ | ⟨kl, rfl⟩
      · simp [hb km mm cap _ (by omega) h3, hb kh hh mm.toNat _ (by omega) e2]
      · simp [hb km mm cap _ (by omega) h3, hb kh hh mm.toNat _ (by omega) e2, hb kl l hh.toNat _ h0 e3]

theorem intOf?_run {E : Env} {a : AV} {v : Value} {n : Int} (h : intOf? a = some n) (hv : VR E a v) : ∃ k, v = .int k n := by
  cases a <;> simp only [intOf?] at h <;> first | (cases h; done) | skip
  cases h
  simp only [VR] at hv
  exact ⟨_, hv⟩

section
variable {ρ : Operand → AV} {h : Heap} {nid : Nat} {k : OpK}

theorem lo_run {E : Env} {ρ' : Operand → Value} (hv : ∀ x, VR E (ρ x) (ρ' x)) {lo : Option Operand} {l : Int} (h : (match lo with | none => some 0 | some l => intOf? (ρ l)) = some l) : (lo.map ρ' = none ∧ l = 0) ∨ ∃ k, lo.map ρ' = some (.int k l) := by
  cases lo with
  | none => cases h; exact .inl ⟨rfl, rfl⟩
  | some x =>
    obtain ⟨k, hk⟩ := intOf?_run h (hv x)
    exact .inr ⟨k, by simp [hk]⟩
theorem hi_run {E : Env} {ρ' : Operand → Value} (hv : ∀ x, VR E (ρ x) (ρ' x)) {lo : Option Operand} {n l : Int} (h : (match lo with | none => some n | some l => intOf? (ρ l)) = some l) : (lo.map ρ' = none ∧ l = n) ∨ ∃ k, lo.map ρ' = some (.int k l) := by
  cases lo with
  | none => cases h; exact .inl ⟨rfl, rfl⟩
  | some x =>
    obtain ⟨k, hk⟩ := intOf?_run h (hv x)
    exact .inr ⟨k, by simp [hk]⟩

theorem op_slice (hS : SeatOK S) {t : TypeId} {x : Operand} {lo hi mx : Option Operand} (hk : opK S.flat S.Γ ρ h nid (.slice t x lo hi mx) k) : OpSound S ρ h nid (.slice t x lo hi mx) k := by
  simp only [opK] at hk
  split at hk
  · exact hk.elim
  · rename_i ti hti
    have hT := hS.ty t ti hti
    split at hk
    · -- strings
      rename_i s hkd hx
      split at hk
      · exact hk.elim
      rename_i hmx
      obtain ⟨l, hl, hk⟩ := hk.elim
      obtain ⟨hh, hhh, hk⟩ := hk.elim
      obtain ⟨h0, h1, h2⟩ := hk.pf
      refine .pure hk.go fun E w ρ' hv o ho => ?_
      have hx' := hv x; rw [hx] at hx'; simp only [VR] at hx'
      have hlo := lo_run hv hl
      have hhi := hi_run hv hhh
      refine ⟨.string ((⟨s.toArray⟩ : ByteArray).extract l.toNat hh.toNat), ?_, ?_⟩
      · have hb := run_bounds (P := S.P) (w := w) false s.length s.length (lo.map ρ') (hi.map ρ') none l hh s.length hlo (by
          rcases hhi with ⟨a, b⟩ | h
          · exact .inl ⟨a, b, rfl⟩
          · exact .inr h) (.inl ⟨rfl, rfl⟩) h0 h1 h2 (by omega)
        have hsz : (⟨s.toArray⟩ : ByteArray).size = s.length := by simp [ByteArray.size]
        simp [execOp, ho, hx', Instr.sliceAt, Instr.slice, run_underlying (hT.str hkd), hsz, hb]
      · simp only [VR]
        congr 1
        apply ByteArray.ext
        simp [ByteArray.data_extract, List.extract_eq_take_drop]
    · -- lists
      rename_i e cs len g hkd hx
      obtain ⟨size, hs, hk⟩ := hk.elim
      unfold sizeT at hs
      split at hs
      · rename_i te hte
        cases hs
        have hTe := hS.ty e te hte
        obtain ⟨l, hl, hk⟩ := hk.elim
        obtain ⟨hh, hhh, hk⟩ := hk.elim
        obtain ⟨mm, hmm, hk⟩ := hk.elim
        obtain ⟨h0, h1, h2, h3⟩ := hk.pf
        refine .pure hk.go fun E w ρ' hv o ho => ?_
        have hx' := hv x; rw [hx] at hx'; simp only [VR] at hx'
        obtain ⟨a, cap, hx', hcap, hc, _⟩ := hx'
        have hlo := lo_run hv hl
        have hmx : ∃ m : Int, ((mx.map ρ' = none ∧ m = cap) ∨ ∃ k, mx.map ρ' = some (.int k m)) ∧ hh ≤ m ∧ m ≤ cap := by
          cases mx with
          | none => cases hmm; exact ⟨cap, .inl ⟨rfl, rfl⟩, by omega, by omega⟩
          | some y =>
            obtain ⟨km, hkm⟩ := intOf?_run hmm (hv y)
            exact ⟨mm, .inr ⟨km, by simp [hkm]⟩, h2, by omega⟩
        obtain ⟨m, hm1, hm2, hm3⟩ := hmx
        have hhi : (hi.map ρ' = none ∧ hh = len ∧ mx.map ρ' = none) ∨ ∃ k, hi.map ρ' = some (.int k hh) := by
          cases hi with
          | none =>
            cases mx with
            | none => cases hhh; exact .inl ⟨rfl, rfl, rfl⟩
            | some y => cases hhh
          | some y =>
            obtain ⟨kh, hkh⟩ := intOf?_run hhh (hv y)
            exact .inr ⟨kh, by simp [hkh]⟩
        have hb := run_bounds (P := S.P) (w := w) true len cap (lo.map ρ') (hi.map ρ') (mx.map ρ') l hh m hlo hhi hm1 h0 h1 hm2 hm3
        refine ⟨.slice (if m.toNat = l.toNat then a else a.map (·.add (l.toNat * te.size))) (hh.toNat - l.toNat) (m.toNat - l.toNat), ?_, ?_⟩
        · simp [execOp, ho, hx', Instr.sliceAt, Instr.slice, run_underlying (hT.slice hkd), hb, hTe.runSize]
        · simp only [VR]
          refine ⟨_, _, rfl, by omega, ?_, fun i hi => by cases hi⟩
          by_cases hz : hh.toNat - l.toNat = 0
          · left; rw [hz]; simp
          · rcases hc with hc | ⟨b, o0, rfl, hc⟩
            · left; rw [hc]; simp
            · right
              refine ⟨b, o0 + l.toNat * te.size, ?_, (hc.drop _).take _⟩
              rw [if_neg (by omega)]
              simp [Addr.add_lit]
      · cases hs
    · -- nil
      rename_i e hkd hx
      split at hk
      · exact hk.elim
      rename_i hmx
      obtain ⟨size, hs, hk⟩ := hk.elim
      obtain ⟨l, hl, hk⟩ := hk.elim
      obtain ⟨hh, hhh, hk⟩ := hk.elim
      obtain ⟨rfl, rfl⟩ := hk.pf
      refine .pure hk.go fun E w ρ' hv o ho => ?_
      have hx' := hv x; rw [hx] at hx'; simp only [VR] at hx'
      have hlo := lo_run hv hl
      have hhi := hi_run hv hhh
      have hb := run_bounds (P := S.P) (w := w) true 0 0 (lo.map ρ') (hi.map ρ') none 0 0 0 hlo (by
        rcases hhi with ⟨a, b⟩ | h
        · exact .inl ⟨a, by omega, rfl⟩
        · exact .inr h) (.inl ⟨rfl, rfl⟩) (by omega) (by omega) (by omega) (by omega)
      refine ⟨.slice none 0 0, ?_, by simp only [VR]⟩
      have hu := hT.slice hkd
      obtain ⟨ie, hie⟩ : ∃ i, (sizeOf e).run S.P w = .ok i w := by
        unfold sizeT at hs
        split at hs
        · rename_i te hte; exact ⟨_, (hS.ty e te hte).runSize w⟩
        · cases hs
      simp [execOp, ho, hx', Instr.sliceAt, Instr.slice, run_underlying hu, hb, hie]
    · -- an array that never changes
      rename_i n e cs hkd hx
      split at hk
      · exact hk.elim
      rename_i hmx
      obtain ⟨size, hs, hk⟩ := hk.elim
      unfold sizeT at hs
      split at hs
      · rename_i te hte
        cases hs
        have hTe := hS.ty e te hte
        obtain ⟨l, hl, hk⟩ := hk.elim
        obtain ⟨hh, hhh, hk⟩ := hk.elim
        obtain ⟨h0, h1, h2, h3⟩ := hk.pf
        refine .pure hk.go fun E w ρ' hv o ho => ?_
        have hx' := hv x; rw [hx] at hx'; simp only [VR] at hx'
        obtain ⟨b, o0, hx', hc⟩ := hx'
        have hlo := lo_run hv hl
        have hhi := hi_run hv hhh
        have hb := run_bounds (P := S.P) (w := w) false n n (lo.map ρ') (hi.map ρ') none l hh n hlo (by
          rcases hhi with ⟨a, b⟩ | h
          · exact .inl ⟨a, b, rfl⟩
          · exact .inr h) (.inl ⟨rfl, rfl⟩) h0 h1 h2 (by omega)
        refine ⟨.slice (some (if ((n : Int)).toNat = l.toNat then ⟨b, o0, none⟩ else (⟨b, o0, none⟩ : Addr).add (l.toNat * te.size))) (hh.toNat - l.toNat) ((n : Int).toNat - l.toNat), ?_, ?_⟩
        · simp [execOp, ho, hx', Instr.sliceAt, Instr.sureAddr, run_underlying (hT.arr hkd), hb, hTe.runSize]
        · simp only [VR]
          refine ⟨_, _, rfl, by omega, ?_, fun i hi => by cases hi⟩
          by_cases hz : hh.toNat - l.toNat = 0
          · left; rw [hz]; simp
          · right
            refine ⟨b, o0 + l.toNat * te.size, ?_, (hc.drop _).take _⟩
            rw [if_neg (by omega)]
            simp [Addr.add_lit]
      · cases hs
    · -- an array that is a variable
      rename_i n e i0 o0 hkd hx
      split at hk
      · exact hk.elim
      rename_i hmx
      obtain ⟨size, hs, hk⟩ := hk.elim
      unfold sizeT at hs
      split at hs
      · rename_i te hte
        cases hs
        have hTe := hS.ty e te hte
        obtain ⟨l, hl, hk⟩ := hk.elim
        obtain ⟨hh, hhh, hk⟩ := hk.elim
        obtain ⟨h0, h1, h2⟩ := hk.pf
        have hk := hk.go
        have key : ∀ (E : Env) (w : World) (ρ' : Operand → Value), (∀ x, VR E (ρ x) (ρ' x)) → ∀ o : Oper, o.op = .slice t x lo hi none → ∃ b, E.blk i0 = some b ∧ (execOp ρ' o).run S.P w = .ok (.value (.slice (some (if ((n : Int)).toNat = l.toNat then ⟨b, o0, none⟩ else (⟨b, o0, none⟩ : Addr).add (l.toNat * te.size))) (hh.toNat - l.toNat) ((n : Int).toNat - l.toNat))) w := by
          intro E w ρ' hv o ho
          have hx' := hv x; rw [hx] at hx'; simp only [VR] at hx'
          obtain ⟨b, hb0, hx'⟩ := hx'
          have hlo := lo_run hv hl
          have hhi := hi_run hv hhh
          have hb := run_bounds (P := S.P) (w := w) false n n (lo.map ρ') (hi.map ρ') none l hh n hlo (by
            rcases hhi with ⟨a, b⟩ | h
            · exact .inl ⟨a, b, rfl⟩
            · exact .inr h) (.inl ⟨rfl, rfl⟩) h0 h1 h2 (by omega)
          exact ⟨b, hb0, by simp [execOp, ho, hx', Instr.sliceAt, Instr.sureAddr, run_underlying (hT.arr hkd), hb, hTe.runSize]⟩
        split at hk
        · rename_i hlt
          have hlt := of_decide_eq_true hlt
          refine .pure hk fun E w ρ' hv o ho => ?_
          obtain ⟨b, hb0, hrun⟩ := key E w ρ' hv o ho
          refine ⟨_, hrun, ?_⟩
          simp only [VR]
          refine ⟨b, hb0, ?_⟩
          rw [if_neg (by omega)]
          simp [Addr.add_lit]
        · rename_i hlt
          have hlt := of_decide_eq_false hlt
          refine .pure hk fun E w ρ' hv o ho => ?_
          obtain ⟨b, hb0, hrun⟩ := key E w ρ' hv o ho
          refine ⟨_, hrun, ?_⟩
          simp only [VR]
          refine ⟨b, hb0, ?_⟩
          rw [if_pos (by omega)]
          simp
      · cases hs
    · exact hk.elim

/-- what a token stands for -/
def Env.withTok (E : Env) (i F : Nat) (v : Value) (imm' : Imm) : Env := { E with tok := fun j => if j = i then some (F, v) else E.tok j, imm := imm' }

/-- the cells of a block, known from now on -/
def immRow (imm : Imm) (b : Nat) (us : List Value) : Imm := fun c o => if c = b then us[o]? else imm c o

theorem Ext.withTok {E : Env} {i F : Nat} {v : Value} {imm' : Imm} (h : E.tok i = none) (hi : ∀ b o u, E.imm b o = some u → imm' b o = some u) (hk : ∀ b o, E.keep b → imm' b o = E.imm b o) : Ext E (E.withTok i F v imm') where
  blk j c hj := hj
  tok j F' v' hj := ⟨F', v', by
    show (if j = i then some (F, v) else E.tok j) = some (F', v')
    rw [if_neg (fun e => by subst e; rw [h] at hj; cases hj)]; exact hj, .inr ⟨rfl, rfl⟩⟩
  cbv j v hj := ⟨hj, rfl⟩
  imm := hi
  new := hk
  keep := rfl
  base := rfl
  rnd := rfl

/-- A new row of a list's own. -/
theorem R.newTok {E : Env} {h : Heap} {w : World} (hr : R S E h w) {i : Nat} (hb : E.tok i = none) {us : List Value} {len t sz : Nat} (hlen : us.length = len * sz) (hmax : len ≤ maxLen) :
    R S (E.withTok i len (.slice (some ⟨w.heap.size, 0, none⟩) len len) (immRow E.imm w.heap.size us)) (put h i (.tok len t sz)) (w.alloc (.cells us.toArray t)) ∧
    Ext E (E.withTok i len (.slice (some ⟨w.heap.size, 0, none⟩) len len) (immRow E.imm w.heap.size us)) := by
  have hfresh : ∀ b o u, E.imm b o = some u → b ≠ w.heap.size := fun b o u hu e => absurd (imm_lt hr.r0.imm hu) (by omega)
  have himm : ∀ b o u, E.imm b o = some u → immRow E.imm w.heap.size us b o = some u := fun b o u hu => by
    unfold immRow; rw [if_neg (hfresh b o u hu)]; exact hu
  have hlt : ∀ b, E.keep b → b < w.heap.size := fun b hk => Nat.lt_of_lt_of_le (hr.kp.klt b hk) hr.kp.size
  have hext : Ext E (E.withTok i len (.slice (some ⟨w.heap.size, 0, none⟩) len len) (immRow E.imm w.heap.size us)) :=
    Ext.withTok hb himm fun b o hk => by unfold immRow; rw [if_neg (by have := hlt b hk; omega)]
  have hold : ∀ b, b < w.heap.size → (w.alloc (.cells us.toArray t)).heap[b]? = w.heap[b]? := fun b hb => Below.heap_alloc w _ b hb
  refine ⟨hr.step {
    v := hext.v
    blk := fun _ _ => rfl
    tok := fun j hj => if_neg hj
    cbv := fun _ _ => rfl, cbJ := fun _ _ => rfl, fp := fun _ _ => rfl
    own := fun j d b hj hd ho => hold b (hr.r0.lt j d b hd ho)
    ownI := fun j d b hj hd ho o => by
      show immRow E.imm w.heap.size us b o = E.imm b o
      unfold immRow; rw [if_neg (by have := hr.r0.lt j d b hd ho; omega)]
    ok := fun b o u hu => ?_
    cr := ⟨_, us, if_pos rfl, ⟨hlen, .inr ⟨w.heap.size, len, us.toArray, rfl, Nat.zero_le _, heap_alloc_new w _, Nat.le_refl _, hmax, by simpa using hlen, ?_⟩⟩, fun b hb' o u hu => ?_⟩
    new := fun b ho => ?_
    kp := fun b hk => hold b (hlt b hk)
    size := by simp
    s3 := ⟨rfl, rfl, rfl⟩
    hrnd := fun l hl => ?_
    hmks := fun D hD => ?_
    keep := rfl, base := rfl, rnd := rfl, marks := rfl }, hext⟩
  · have hu2 : immRow E.imm w.heap.size us b o = some u := hu
    unfold immRow at hu2
    split at hu2
    · rename_i e; subst e
      rw [World.cell?_alloc_new]; simpa using hu2
    · exact hr.r0.imm.alloc _ b o u hu2
  · simp [← hlen]
  · simp [Value.ownBlock] at hb'
    subst hb'
    have hu : immRow E.imm w.heap.size us w.heap.size o = some u := hu
    unfold immRow at hu; rwa [if_pos rfl] at hu
  · obtain ⟨F, v, e, hob⟩ := ho
    have e : (if i = i then some (len, Value.slice (some ⟨w.heap.size, 0, none⟩) len len) else E.tok i) = some (F, v) := e
    rw [if_pos rfl] at e; cases e
    simp [Value.ownBlock] at hob
    subst hob
    refine ⟨by simp, fun hk => absurd (hlt _ hk) (Nat.lt_irrefl _), fun j d hj hd ho' => absurd (hr.r0.lt j d _ hd ho') (Nat.lt_irrefl _), fun e => ?_, fun hm => ?_⟩
    · obtain ⟨⟨r, hl⟩, _⟩ := hr.r0.rnd _ e
      exact absurd (Array.getElem?_eq_some_iff.1 hl).1 (Nat.lt_irrefl _)
    · exact absurd (Array.getElem?_eq_some_iff.1 (hr.r0.mks _ hm).1).1 (Nat.lt_irrefl _)
  · obtain ⟨⟨r, hl'⟩, _⟩ := hr.r0.rnd _ hl
    exact hold l (Array.getElem?_eq_some_iff.1 hl').1
  · exact hold D (Array.getElem?_eq_some_iff.1 (hr.r0.mks _ hD).1).1

end
end Go.Abs
