/- Every operation that is no call is the machine's: lists written out, make; the theorem over all operations. No condition: lemmas. -/
import Derived.Test.YtflibnlbkffilaaAbs10
set_option linter.unusedSimpArgs false
set_option linter.unusedVariables false
set_option linter.deprecated false
namespace Go.Abs
open Go.RowKit
variable {S : Seat}

theorem repL_length (l : List AV) : ∀ n, (repL n l).length = n * l.length
  | 0 => by simp [repL]
  | n + 1 => by rw [repL, List.length_append, repL_length l n, Nat.succ_mul]; omega
theorem repL_get (l : List AV) : ∀ n i, i < n * l.length → (repL n l)[i]? = l[i % l.length]?
  | 0, i, h => by simp at h
  | n + 1, i, h => by
    rw [repL, List.getElem?_append]
    split
    · rw [Nat.mod_eq_of_lt (by assumption)]
    · rename_i hge
      rw [Nat.succ_mul] at h
      have e : i % l.length = (i - l.length) % l.length := Nat.mod_eq_sub_mod (by omega)
      rw [repL_get l n (i - l.length) (by omega), e]

theorem zeros_VRL (E : Env) (z : Value) (n : Nat) (hz : 0 < z.cells.size) : VRL E (repL n (cellsOf (ofV z))) ((Array.range (n * z.cells.size)).map (z.cells[· % z.cells.size]!)).toList := by
  have h0 := zero_VRL E z
  have hl : (cellsOf (ofV z)).length = z.cells.size := h0.length.trans Array.length_toList
  refine VRL.of_get (by rw [repL_length, hl]; simp) fun i c u hc hu => ?_
  have hi : i < n * (cellsOf (ofV z)).length := by
    have := (List.getElem?_eq_some_iff.1 hc).1; rwa [repL_length] at this
  rw [repL_get _ _ _ hi] at hc
  obtain ⟨u', hu', hr⟩ := h0.get _ c hc
  have e : u = z.cells[i % z.cells.size]! := by
    have hi' : i < n * z.cells.size := by rwa [hl] at hi
    rw [Array.toList_map, List.getElem?_map, Array.toList_range, List.getElem?_range hi'] at hu
    exact (Option.some.inj hu).symm
  rw [e]
  have hlt : i % z.cells.size < z.cells.size := Nat.mod_lt _ hz
  rw [hl] at hu'
  have : z.cells[i % z.cells.size]! = u' := by
    rw [getElem!_pos z.cells _ hlt]
    rw [Array.getElem?_toList, Array.getElem?_eq_getElem hlt] at hu'
    exact Option.some.inj hu'
  rw [this]; exact hr

section
variable {ρ : Operand → AV} {h : Heap} {nid : Nat} {k : OpK}

theorem op_buildSlice (hS : SeatOK S) {t : TypeId} {len : Nat} {parts : Array (Nat × Operand)} (hk : opK S.flat S.Γ ρ h nid (.buildSlice t len parts) k) : OpSound S ρ h nid (.buildSlice t len parts) k := by
  simp only [opK] at hk
  split at hk
  · rename_i ti hti
    have hT := hS.ty t ti hti
    split at hk
    · rename_i e hkd
      split at hk
      · rename_i te hte
        have hTe := hS.ty e te hte
        split at hk
        · rename_i h1 h2 h3
          have h1 := natLe_eq.1 h1
          have h2 := natLe_eq.1 h2
          have h3 := Nat.eq_of_beq_eq_true h3
          rw [lenN_eq] at h3
          rw [repK_eq] at hk
          obtain ⟨cs', hk', hrun⟩ := fillA_run hk
          have hzs : te.zero.cells.size = te.size := by
            have := (zero_VRL (closedEnv fun _ _ => none) te.zero).length.trans Array.length_toList
            omega
          refine ⟨_, _, _, hk', fun p hp => .inl (by simp at hp; rw [hp]), fun h' _ E w ρ' hr hb ht _ hun hv o ho => ?_⟩
          have hz := zeros_VRL E te.zero len (by omega)
          rw [hzs] at hz
          obtain ⟨us', hlen, hf, hvs⟩ := hrun E _ (parts.toList.map fun p => (p.1, ρ' p.2)) hz (partsR_of hv _)
          have hl : us'.length = len * te.size := by rw [hlen]; simp
          have hlm : len ≤ maxLen := by
            have : len * 1 ≤ len * te.size := Nat.mul_le_mul_left _ h2
            simp only [maxLen]; omega
          obtain ⟨hr', hext⟩ := hr.newTok (ht (by simp)) (t := e) hl hlm
          refine ⟨_, _, .slice (some ⟨w.heap.size, 0, none⟩) len len, .inl ?_, ?_, hext, rfl, hr', fun h => nomatch h⟩
          · have hgt : ¬ (len * te.size > 2 ^ 24) := by omega
            have hzz : (if len * te.size = 0 then (pure #[] : Sem (Array Value)) else do pure (← zeroValue e).cells).run S.P w = .ok (if len * te.size = 0 then #[] else te.zero.cells) w := by
              split
              · rfl
              · simp [hTe.runZero]
            have hcells : ((Array.range (len * te.size)).map ((if len * te.size = 0 then (#[] : Array Value) else te.zero.cells)[· % (if len * te.size = 0 then (#[] : Array Value) else te.zero.cells).size]!)) = ((Array.range (len * te.size)).map (te.zero.cells[· % te.zero.cells.size]!)).toList.toArray := by
              by_cases h0 : len * te.size = 0
              · simp only [h0, if_true]; simp
              · simp only [h0, if_false]
            have hf' : Instr.fill (fun i => some (i * te.size, te.size)) ((Array.range (len * te.size)).map (te.zero.cells[· % te.zero.cells.size]!)).toList.toArray (parts.toList.map fun p => (p.1, ρ' p.2)) = some us'.toArray := by rw [hzs]; exact hf
            simp only [execOp, ho, Instr.buildSlice, Sem.run_bind, run_underlying (hT.slice hkd), Result.andThen_ok, hTe.runSize, hgt, if_false]
            by_cases h0 : len * te.size = 0
            · have hc0 := hcells
              simp only [h0, if_true] at hc0
              rw [h0] at hf'
              simp only [Array.toList_map] at hf'
              simp only [h0, if_true, Sem.run_bind, Sem.run_pure, Result.andThen_ok, hc0, Array.toList_map, hf', newRow, run_newObj]
              rfl
            · have hc0 := hcells
              simp only [h0, if_false] at hc0
              simp only [h0, if_false, Sem.run_bind, Sem.run_pure, Result.andThen_ok, hTe.runZero, hc0, Array.toList_map, hf', newRow, run_newObj]
              rfl
          · simp only [VR]
            refine ⟨_, _, rfl, Nat.le_refl _, .inr ⟨w.heap.size, 0, rfl, VRI.of_get fun i c hc => ?_⟩, fun i hi => ?_⟩
            · obtain ⟨u, hu1, hu2⟩ := (hvs.mono hext.v).get i c hc
              refine ⟨u, ?_, hu2⟩
              show immRow E.imm w.heap.size us' w.heap.size (0 + i) = some u
              unfold immRow; rw [if_pos rfl, Nat.zero_add]; exact hu1
            · cases hi
              exact ⟨len, _, if_pos rfl, Nat.le_refl _, fun _ => rfl⟩
        · exact hk.elim
      · exact hk.elim
    · exact hk.elim
  · exact hk.elim

theorem op_makeSlice (hS : SeatOK S) {t : TypeId} {l c : Operand} (hk : opK S.flat S.Γ ρ h nid (.makeSlice t l c) k) : OpSound S ρ h nid (.makeSlice t l c) k := by
  simp only [opK] at hk
  split at hk
  · rename_i ti n m hti hl hc
    have hT := hS.ty t ti hti
    split at hk
    · rename_i e hkd
      split at hk
      · rename_i te hte
        have hTe := hS.ty e te hte
        split at hk
        · rename_i h3
          have h3 := Nat.eq_of_beq_eq_true h3
          rw [lenN_eq] at h3
          obtain ⟨p0, p1, p2, p3⟩ := hk.pf
          have hzs : te.zero.cells.size = te.size := by
            have := (zero_VRL (closedEnv fun _ _ => none) te.zero).length.trans Array.length_toList
            omega
          refine ⟨_, _, _, hk.go, fun p hp => .inl (by simp at hp; rw [hp]), fun h' _ E w ρ' hr hb ht _ hun hv o ho => ?_⟩
          have hl' := hv l; have hc' := hv c
          rw [hl] at hl'; rw [hc] at hc'
          simp only [VR] at hl' hc'
          have hz : VRL E (repL m.toNat (cellsOf (ofV te.zero))) ((Array.range (m.toNat * te.size)).map ((if m.toNat * te.size = 0 then (#[] : Array Value) else te.zero.cells)[· % (if m.toNat * te.size = 0 then (#[] : Array Value) else te.zero.cells).size]!)).toList := by
            by_cases h0 : m.toNat * te.size = 0
            · simp only [h0, if_true]
              have : repL m.toNat (cellsOf (ofV te.zero)) = [] := List.eq_nil_of_length_eq_zero (by rw [repL_length, h3]; exact h0)
              rw [this]; simpa using VRL.nil
            · simp only [h0, if_false]
              have := zeros_VRL E te.zero m.toNat (by rw [hzs]; exact Nat.pos_of_ne_zero fun e => h0 (by rw [e]; simp))
              rwa [hzs] at this ⊢
          have hn := hr.new (hb (by simp)) (ht (by simp)) hz e
          refine ⟨_, _, .slice (some ⟨w.heap.size, 0, none⟩) n.toNat m.toNat, .inl ?_, ?_, Ext.withBlk (hb (by simp)), rfl, hn, fun h => nomatch h⟩
          · obtain ⟨ie, hie, hie1, hie2, hie3⟩ := hTe.info'
            have wn : IntKind.i64.wrap n = n := by
              have : (2 : Int) ^ IntKind.i64.bits = 18446744073709551616 := by decide
              unfold IntKind.wrap; simp only [this]
              rw [Int.emod_eq_of_lt (by omega) (by omega)]
              simp [IntKind.signed, IntKind.bits]; omega
            have wm : IntKind.i64.wrap m = m := by
              have : (2 : Int) ^ IntKind.i64.bits = 18446744073709551616 := by decide
              unfold IntKind.wrap; simp only [this]
              rw [Int.emod_eq_of_lt (by omega) (by omega)]
              simp [IntKind.signed, IntKind.bits]; omega
            have hzz : ∀ w, (if m.toNat * te.size = 0 then (pure #[] : Sem (Array Value)) else do pure (← zeroValue e).cells).run S.P w = .ok (if m.toNat * te.size = 0 then #[] else te.zero.cells) w := by
              intro w; split
              · rfl
              · simp [hTe.runZero]
            have c1 : ¬ m < 0 := by omega
            have c2 : ¬ ((ie.bytes : Int) * m > 2 ^ 48) := by rw [hie2]; omega
            have c3 : ¬ n < 0 := by omega
            have c4 : ¬ n > m := by omega
            simp only [execOp, ho, Instr.makeSlice, Sem.run_bind, run_underlying (hT.slice hkd), Result.andThen_ok, hl', hc', asInt, asIntOf, Sem.run_pure, typeInfo, run_program, hie, wn, wm, c1, c2, c3, c4, decide_false, Bool.or_false, Bool.false_eq_true, if_false, Bool.or_self, run_askRoom, run_sizeOf' hie, hie1]
            by_cases h0 : m.toNat * te.size = 0
            · simp only [h0, if_true, Sem.run_bind, Sem.run_pure, Result.andThen_ok, newRow, run_newObj]
              rfl
            · simp only [h0, if_false, Sem.run_bind, Sem.run_pure, Result.andThen_ok, hTe.runZero, newRow, run_newObj]
              rfl
          · simp only [VR]; exact ⟨w.heap.size, if_pos rfl, rfl⟩
        · exact hk.elim
      · exact hk.elim
    · exact hk.elim
  · exact hk.elim

/-- **EVERY OPERATION THAT IS NO CALL.** -/
theorem opK_sound (hS : SeatOK S) {op : Op} (hk : opK S.flat S.Γ ρ h nid op k) : OpSound S ρ h nid op k := by
  cases op with
  | move x => exact op_move hk
  | assign x => exact op_assign hk
  | pick c a b => exact op_pick hk
  | alloc t => exact op_alloc hS hk
  | box t x => exact op_box hk
  | build t p => exact op_build hS hk
  | buildSlice t n p => exact op_buildSlice hS hk
  | load t a => exact op_load hS hk
  | store t a x => exact op_store hS hk
  | nilCheck x => exact op_nilCheck hk
  | binOp op t x y yt => exact op_bin hS hk
  | unOp op t x => exact op_un hk
  | convert a b x => exact op_conv hS hk
  | makeInterface t x => exact op_iface hS hk
  | makeFunc f a b => exact op_func hk
  | fieldAddr t x f => exact op_fieldAddr hS hk
  | field t x f => exact op_field hS hk
  | indexAddr t x i => exact op_indexAddr hS hk
  | index t x i => exact op_index hS hk
  | slice t x a b c => exact op_slice hS hk
  | extract x i => exact op_extract hk
  | typeAssert x t a ok => exact op_typeAssert hS hk
  | makeSlice t l c => exact op_makeSlice hS hk
  | _ => exact hk.elim
end
end Go.Abs
