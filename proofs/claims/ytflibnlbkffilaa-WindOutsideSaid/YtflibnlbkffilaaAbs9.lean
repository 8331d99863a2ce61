/- Every operation that is no call is the machine's: structs built, addresses, slices. No condition: lemmas. -/
import Derived.Test.YtflibnlbkffilaaAbs8
set_option linter.unusedSimpArgs false
set_option linter.unusedVariables false
set_option linter.deprecated false
namespace Go.Abs
open Go.RowKit
variable {S : Seat}

section
variable {ρ : Operand → AV} {h : Heap} {nid : Nat} {k : OpK}

theorem zero_VRL (E : Env) (z : Value) : VRL E (cellsOf (ofV z)) z.cells.toList := by
  cases hz : z with
  | agg cs => simpa [ofV, cellsOf, Value.cells] using ofCells_VRL E cs.toList
  | _ =>
    simp only [Value.cells]
    have h0 := ofV_VR E z
    rw [hz] at h0
    have : cellsOf (ofV z) = [ofV z] := by
      rw [hz]; simp only [ofV]
      first | rfl | (unfold ofCell; split <;> rfl)
    rw [hz] at this; rw [this]
    exact VRL.cons h0 VRL.nil

theorem op_build (hS : SeatOK S) {t : TypeId} {parts : Array (Nat × Operand)} (hk : opK S.flat S.Γ ρ h nid (.build t parts) k) : OpSound S ρ h nid (.build t parts) k := by
  simp only [opK] at hk
  split at hk
  · rename_i ti hti
    have hT := hS.ty t ti hti
    split at hk
    · rename_i fs hkd
      obtain ⟨F, hF, hrow, hall⟩ := hT.struct hkd
      obtain ⟨cs', hk', hrun⟩ := fillK_run hk
      refine .pure hk' fun E w ρ' hv o ho => ?_
      obtain ⟨us', h1, h2⟩ := hrun E ti.zero.cells.toList (parts.toList.map fun p => (p.1, ρ' p.2)) (((F.toList.map fun f => (f.offset, S.P.cellsOf f.type)).toArray)[·]?) (fun i => by
        rw [← hrow]; simp only [List.getElem?_toArray, List.getElem?_map]; cases F.toList[i]? <;> rfl) (zero_VRL E ti.zero) (partsR_of hv _)
      refine ⟨.agg us'.toArray, ?_, by simp only [VR]; exact ⟨us', rfl, h2⟩⟩
      have h1' : Instr.fill ((((F.toList.map fun f => (f.offset, S.P.cellsOf f.type)).toArray)[·]?)) ti.zero.cells (parts.toList.map fun p => (p.1, ρ' p.2)) = some us'.toArray := by simpa using h1
      have hff := run_fields hall w
      simp only [execOp, ho, Instr.build, Sem.run_bind, hT.runZero, Result.andThen_ok, run_underlying hF, hff, Array.toList_map, h1', Sem.run_pure]
    · rename_i n e hkd
      have hu := hT.arr hkd
      obtain ⟨size, hs, hk⟩ := hk.elim
      unfold sizeT at hs
      split at hs
      · rename_i te hte
        cases hs
        have hTe := hS.ty e te hte
        obtain ⟨cs', hk', hrun⟩ := fillA_run hk
        refine .pure hk' fun E w ρ' hv o ho => ?_
        obtain ⟨us', _, h1, h2⟩ := hrun E ti.zero.cells.toList (parts.toList.map fun p => (p.1, ρ' p.2)) (zero_VRL E ti.zero) (partsR_of hv _)
        refine ⟨.agg us'.toArray, ?_, by simp only [VR]; exact ⟨us', rfl, h2⟩⟩
        have h1' : Instr.fill (fun i => some (i * te.size, te.size)) ti.zero.cells (parts.toList.map fun p => (p.1, ρ' p.2)) = some us'.toArray := by simpa using h1
        simp only [execOp, ho, Instr.build, Sem.run_bind, hT.runZero, Result.andThen_ok, run_underlying hu, hTe.runSize, Array.toList_map, h1', Sem.run_pure]
      · cases hs
    · exact hk.elim
  · exact hk.elim

theorem op_fieldAddr (hS : SeatOK S) {t : TypeId} {x : Operand} {f : Nat} (hk : opK S.flat S.Γ ρ h nid (.fieldAddr t x f) k) : OpSound S ρ h nid (.fieldAddr t x f) k := by
  simp only [opK, getO_eq] at hk
  split at hk
  · rename_i ti hti
    have hT := hS.ty t ti hti
    split at hk
    · rename_i fs hkd
      obtain ⟨F, hF, hrow, hall⟩ := hT.struct hkd
      obtain ⟨p, hp, hk⟩ := hk.elim
      split at hk
      · rename_i hsz
        obtain ⟨v, hv, hk⟩ := hk.elim
        refine .pure hk fun E w ρ' hv' o ho => ?_
        rw [← hrow, List.getElem?_map] at hp
        cases hf : F.toList[f]? with
        | none => rw [hf] at hp; cases hp
        | some fd =>
          rw [hf] at hp; simp at hp; subst hp
          obtain ⟨⟨i, hi⟩, _⟩ := hall fd (List.mem_of_getElem? hf)
          have hf' : F[f]? = some fd := by simpa using hf
          have hne : i.size ≠ 0 := by
            have := natLe_eq.1 hsz; simp [fieldRow, Program.cellsOf, hi] at this; omega
          simp only [fieldRow] at hv
          have hx := hv' x
          cases hax : ρ x <;> rw [hax] at hv hx <;> simp only [fieldPtr] at hv <;> first | (cases hv; done) | skip
          · rename_i i0 o0
            cases hv
            simp only [VR] at hx
            obtain ⟨b, hb, hxe⟩ := hx
            exact ⟨.pointer (some ⟨b, o0 + fd.offset, none⟩), by simp [execOp, ho, hxe, Instr.fieldAt, run_underlying hF, hf', Instr.sureAddr, fieldPlace, run_sizeOf' hi, hne, Addr.add_lit], by simp only [VR]; exact ⟨b, hb, rfl⟩⟩
          · rename_i cs
            cases hv
            simp only [VR] at hx
            obtain ⟨b, o0, hxe, hc⟩ := hx
            exact ⟨.pointer (some ⟨b, o0 + fd.offset, none⟩), by simp [execOp, ho, hxe, Instr.fieldAt, run_underlying hF, hf', Instr.sureAddr, fieldPlace, run_sizeOf' hi, hne, Addr.add_lit], by simp only [VR]; exact ⟨b, _, rfl, by rw [dropL_eq]; exact hc.drop _⟩⟩
      · exact hk.elim
    · exact hk.elim
  · exact hk.elim

theorem op_indexAddr (hS : SeatOK S) {t : TypeId} {x ix : Operand} (hk : opK S.flat S.Γ ρ h nid (.indexAddr t x ix) k) : OpSound S ρ h nid (.indexAddr t x ix) k := by
  simp only [opK] at hk
  split at hk
  · rename_i ti kn n hti hix
    have hT := hS.ty t ti hti
    split at hk
    · rename_i len e i0 o0 hkd hx
      obtain ⟨size, hs, hk⟩ := hk.elim
      unfold sizeT at hs
      split at hs
      · rename_i te hte
        cases hs
        have hTe := hS.ty e te hte
        refine .pure hk.go fun E w ρ' hv o ho => ?_
        have h1 := hv x; have h2 := hv ix
        rw [hx] at h1; rw [hix] at h2
        simp only [VR] at h1 h2
        obtain ⟨b, hb, h1⟩ := h1
        exact ⟨.pointer (some ⟨b, o0 + n.toNat * te.size, none⟩), by simp [execOp, ho, h1, h2, Instr.indexAt, asIntOf, run_underlying (hT.arr hkd), Instr.sureAddr, hk.pf, hTe.runSize, Addr.add_lit], by simp only [VR]; exact ⟨b, hb, rfl⟩⟩
      · cases hs
    · rename_i len e cs hkd hx
      obtain ⟨size, hs, hk⟩ := hk.elim
      unfold sizeT at hs
      split at hs
      · rename_i te hte
        cases hs
        have hTe := hS.ty e te hte
        refine .pure hk.go fun E w ρ' hv o ho => ?_
        have h1 := hv x; have h2 := hv ix
        rw [hx] at h1; rw [hix] at h2
        simp only [VR] at h1 h2
        obtain ⟨b, o0, h1, hc⟩ := h1
        exact ⟨.pointer (some ⟨b, o0 + n.toNat * te.size, none⟩), by simp [execOp, ho, h1, h2, Instr.indexAt, asIntOf, run_underlying (hT.arr hkd), Instr.sureAddr, hk.pf, hTe.runSize, Addr.add_lit], by simp only [VR]; exact ⟨b, _, rfl, by rw [dropL_eq]; exact hc.drop _⟩⟩
      · cases hs
    · rename_i e cs len g hkd hx
      obtain ⟨size, hs, hk⟩ := hk.elim
      unfold sizeT at hs
      split at hs
      · rename_i te hte
        cases hs
        have hTe := hS.ty e te hte
        have hpf := hk.pf
        obtain ⟨el, hel, hk⟩ := hk.go.elim
        split at hk
        · exact hk.elim
        · rename_i c r
          obtain ⟨e1, e2⟩ := sub_some hel
          refine .pure hk fun E w ρ' hv o ho => ?_
          have h1 := hv x; have h2 := hv ix
          rw [hx] at h1; rw [hix] at h2
          simp only [VR] at h1 h2
          obtain ⟨a, cap, h1, _, hc, _⟩ := h1
          rcases hc with hc | ⟨b, o0, rfl, hc⟩
          · rw [hc] at e1; simp at e1
          · exact ⟨.pointer (some ⟨b, o0 + n.toNat * te.size, none⟩), by simp [execOp, ho, h1, h2, Instr.indexAt, asIntOf, run_underlying (hT.slice hkd), hpf, hTe.runSize, Addr.add_lit], by simp only [VR]; exact ⟨b, _, rfl, by rw [e1]; exact (hc.drop _).take _⟩⟩
      · cases hs
    · rename_i e i0 o0 len cap hkd hx
      obtain ⟨size, hs, hk⟩ := hk.elim
      unfold sizeT at hs
      split at hs
      · rename_i te hte
        cases hs
        have hTe := hS.ty e te hte
        refine .pure hk.go fun E w ρ' hv o ho => ?_
        have h1 := hv x; have h2 := hv ix
        rw [hx] at h1; rw [hix] at h2
        simp only [VR] at h1 h2
        obtain ⟨b, hb, h1⟩ := h1
        exact ⟨.pointer (some ⟨b, o0 + n.toNat * te.size, none⟩), by simp [execOp, ho, h1, h2, Instr.indexAt, asIntOf, run_underlying (hT.slice hkd), hk.pf, hTe.runSize, Addr.add_lit], by simp only [VR]; exact ⟨b, hb, rfl⟩⟩
      · cases hs
    · exact hk.elim
  · exact hk.elim

theorem op_index (hS : SeatOK S) {t : TypeId} {x ix : Operand} (hk : opK S.flat S.Γ ρ h nid (.index t x ix) k) : OpSound S ρ h nid (.index t x ix) k := by
  simp only [opK] at hk
  split at hk
  · rename_i ti kn n hti hix
    have hT := hS.ty t ti hti
    split at hk
    · rename_i s hkd hx
      have hpf := hk.pf
      obtain ⟨c, hc, hk⟩ := hk.go.elim
      refine .pure hk fun E w ρ' hv o ho => ?_
      have h1 := hv x; have h2 := hv ix
      rw [hx] at h1; rw [hix] at h2
      simp only [VR] at h1 h2
      refine ⟨.int .u8 c.toNat, ?_, by simp only [VR]⟩
      have hg : (⟨s.toArray⟩ : ByteArray)[n.toNat]? = some c := by
        have hlt : n.toNat < s.length := by omega
        have hlt' : n.toNat < (⟨s.toArray⟩ : ByteArray).size := by simpa [ByteArray.size] using hlt
        rw [getElem?_pos (⟨s.toArray⟩ : ByteArray) n.toNat hlt']
        rw [List.getElem?_eq_getElem hlt] at hc
        cases hc
        rfl
      simp [execOp, ho, h1, h2, Instr.index, asIntOf, run_underlying (hT.str hkd), hpf.1, hg]
    · rename_i len e cs hkd hx
      obtain ⟨size, hs, hk⟩ := hk.elim
      unfold sizeT at hs
      split at hs
      · rename_i te hte
        cases hs
        have hTe := hS.ty e te hte
        have hpf := hk.pf
        obtain ⟨v, hv0, hk⟩ := hk.go.elim
        have hag : aggT S.Γ e = te.kind.agg := by simp [aggT, hte]
        rw [hag] at hv0
        refine .pure hk fun E w ρ' hv o ho => ?_
        have h1 := hv x; have h2 := hv ix
        rw [hx] at h1; rw [hix] at h2
        simp only [VR] at h1 h2
        obtain ⟨us, h1, hu⟩ := h1
        obtain ⟨i, hi, hi2, _⟩ := hTe.info'
        obtain ⟨u, hp1, hp2⟩ := run_part (P := S.P) (t := e) hTe.und hTe.aggP ⟨i, hi, hi2⟩ hu hv0 w
        exact ⟨u, by simp [execOp, ho, h1, h2, Instr.index, asIntOf, run_underlying (hT.arr hkd), hpf, hTe.runSize, hp1], hp2⟩
      · cases hs
    · exact hk.elim
  · exact hk.elim

theorem op_typeAssert (hS : SeatOK S) {x : Operand} {t a : TypeId} {ok : Bool} (hk : opK S.flat S.Γ ρ h nid (.typeAssert x t a ok) k) : OpSound S ρ h nid (.typeAssert x t a ok) k := by
  simp only [opK] at hk
  split at hk
  · rename_i t0 v ti hx hti
    have hT := hS.ty a ti hti
    obtain ⟨d, hd⟩ := hT.und
    split at hk
    · exact hk.elim
    · rename_i heq hni
      have heq := Nat.eq_of_beq_eq_true heq
      have hni := hT.notIface hni
      cases ok with
      | true =>
        refine .pure hk fun E w ρ' hv o ho => ?_
        have h1 := hv x; rw [hx] at h1; simp only [VR] at h1
        obtain ⟨u, h1, hu⟩ := h1
        refine ⟨.tuple #[u, .bool true], ?_, by simp only [VR]; exact ⟨[u, .bool true], rfl, VRL.cons hu (VRL.cons (by simp only [VR]) VRL.nil)⟩⟩
        simp only [execOp, ho, h1, Instr.typeAssert, Sem.run_bind, run_underlying hd, Result.andThen_ok]
        cases d <;> first | exact absurd hd (hni _) | simp [heq]
      | false =>
        refine .pure hk fun E w ρ' hv o ho => ?_
        have h1 := hv x; rw [hx] at h1; simp only [VR] at h1
        obtain ⟨u, h1, hu⟩ := h1
        refine ⟨u, ?_, hu⟩
        simp only [execOp, ho, h1, Instr.typeAssert, Sem.run_bind, run_underlying hd, Result.andThen_ok]
        cases d <;> first | exact absurd hd (hni _) | simp [heq]
    · rename_i heq hni
      have heq : t0 ≠ a := fun e => by subst e; simp at heq
      have hni := hT.notIface hni
      cases ok with
      | true =>
        refine .pure hk fun E w ρ' hv o ho => ?_
        have h1 := hv x; rw [hx] at h1; simp only [VR] at h1
        obtain ⟨u, h1, hu⟩ := h1
        refine ⟨.tuple #[ti.zero, .bool false], ?_, by simp only [VR]; exact ⟨[ti.zero, .bool false], rfl, VRL.cons (ofV_VR E _) (VRL.cons (by simp only [VR]) VRL.nil)⟩⟩
        simp only [execOp, ho, h1, Instr.typeAssert, Sem.run_bind, run_underlying hd, Result.andThen_ok]
        cases d <;> first | exact absurd hd (hni _) | simp [heq, hT.runZero]
      | false => exact hk.elim
  · exact hk.elim

end

end Go.Abs
