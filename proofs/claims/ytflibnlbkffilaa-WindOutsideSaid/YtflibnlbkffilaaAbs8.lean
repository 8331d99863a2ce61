/- Every operation that is no call is the machine's: the operations one by one. No condition: lemmas. -/
import Derived.Test.YtflibnlbkffilaaAbs7
set_option linter.unusedSimpArgs false
set_option linter.unusedVariables false
set_option linter.deprecated false
namespace Go.Abs
open Go.RowKit
variable {S : Seat}

section
variable {ρ : Operand → AV} {h : Heap} {nid : Nat} {k : OpK}

theorem op_move {x : Operand} (hk : opK S.flat S.Γ ρ h nid (.move x) k) : OpSound S ρ h nid (.move x) k := by
  simp only [opK, forceK_eq] at hk
  exact .pure hk fun E w ρ' hv o ho => ⟨ρ' x, by simp [execOp, ho], hv x⟩
theorem op_assign {x : Operand} (hk : opK S.flat S.Γ ρ h nid (.assign x) k) : OpSound S ρ h nid (.assign x) k := by
  simp only [opK, forceK_eq] at hk
  exact .pure hk fun E w ρ' hv o ho => ⟨ρ' x, by simp [execOp, ho], hv x⟩
theorem op_pick {c a b : Operand} (hk : opK S.flat S.Γ ρ h nid (.pick c a b) k) : OpSound S ρ h nid (.pick c a b) k := by
  simp only [opK, forceK_eq] at hk
  split at hk
  · rename_i x hx
    cases x with
    | true => exact .pure (hk.elim.1 rfl) fun E w ρ' hv o ho => ⟨ρ' a, by
        have := hv c; rw [hx] at this; simp only [VR] at this
        simp [execOp, ho, this, asBool], hv a⟩
    | false => exact .pure (hk.elim.2 rfl) fun E w ρ' hv o ho => ⟨ρ' b, by
        have := hv c; rw [hx] at this; simp only [VR] at this
        simp [execOp, ho, this, asBool], hv b⟩
  · exact hk.elim
theorem op_bin (hS : SeatOK S) {op : BinOp} {t yt : TypeId} {x y : Operand} (hk : opK S.flat S.Γ ρ h nid (.binOp op t x y yt) k) : OpSound S ρ h nid (.binOp op t x y yt) k := by
  simp only [opK] at hk
  obtain ⟨v, hkv, hall⟩ := binK_sound hS hk
  refine .pure hkv fun E w ρ' hv o ho => ?_
  obtain ⟨u, hg, hb, hr⟩ := hall E w (ρ' x) (ρ' y) x y (hv x) (hv y)
  exact ⟨u, by simp [execOp, ho, hg, hb], hr⟩
theorem op_un {op : UnOp} {t : TypeId} {x : Operand} (hk : opK S.flat S.Γ ρ h nid (.unOp op t x) k) : OpSound S ρ h nid (.unOp op t x) k := by
  simp only [opK] at hk
  obtain ⟨v, hv, hkv⟩ := (unopK_ld hk).elim
  refine .pure hkv fun E w ρ' hv' o ho => ?_
  obtain ⟨u, h1, h2⟩ := unK_run hv (hv' x) S.P w
  exact ⟨u, by simp [execOp, ho, h1], h2⟩
theorem op_conv (hS : SeatOK S) {s d : TypeId} {x : Operand} (hk : opK S.flat S.Γ ρ h nid (.convert s d x) k) : OpSound S ρ h nid (.convert s d x) k := by
  simp only [opK] at hk
  unfold convK at hk
  split at hk
  · rename_i ts td hs hd
    have hTs := hS.ty s ts hs
    have hTd := hS.ty d td hd
    split at hk
    · rename_i k1 k2 k3 n e1 e2 e3
      refine .pure hk.out fun E w ρ' hv o ho => ⟨.int k2 (k2.wrap n), ?_, by simp only [VR]⟩
      have := hv x; rw [e3] at this; simp only [VR] at this
      simp [execOp, ho, this, convert, run_underlying (hTs.int e1), run_underlying (hTd.int e2), Conv.intToInt]
    · rename_i s0 e1 e2 e3
      refine .pure hk fun E w ρ' hv o ho => ⟨.string ⟨s0.toArray⟩, ?_, by simp only [VR]⟩
      have := hv x; rw [e3] at this; simp only [VR] at this
      simp [execOp, ho, this, convert, run_underlying (hTs.str e1), run_underlying (hTd.str e2)]
    · rename_i k1 k3 n e1 e2 e3
      have hn := hk.pf
      refine .pure hk.go fun E w ρ' hv o ho => ⟨.string ⟨#[UInt8.ofNat n.toNat]⟩, ?_, by simp only [VR]⟩
      have := hv x; rw [e3] at this; simp only [VR] at this
      have hval : Utf8.valid n = true := by simp [Utf8.valid]; omega
      have hlt : n.toNat < 128 := by omega
      simp [execOp, ho, this, convert, run_underlying (hTs.int e1), run_underlying (hTd.str e2), Conv.intToString, Utf8.encode, hval, hlt]
    · exact hk.elim
  · exact hk.elim
theorem op_iface (hS : SeatOK S) {t : TypeId} {x : Operand} (hk : opK S.flat S.Γ ρ h nid (.makeInterface t x) k) : OpSound S ρ h nid (.makeInterface t x) k := by
  simp only [opK, forceK_eq] at hk
  split at hk
  · rename_i ti hti
    have hT := hS.ty t ti hti
    split at hk
    · exact hk.elim
    · rename_i hne
      refine .pure hk fun E w ρ' hv o ho => ⟨.iface t (ρ' x), ?_, by simp only [VR]; exact ⟨_, rfl, hv x⟩⟩
      obtain ⟨d, hd⟩ := hT.und
      have hni := hT.notIface hne
      simp only [execOp, ho, Instr.makeInterface, Sem.run_bind, run_underlying hd, Result.andThen_ok]
      cases d <;> first | rfl | exact absurd hd (hni _)
  · exact hk.elim
theorem op_func {fn : Fn} {a b : Array Operand} (hk : opK S.flat S.Γ ρ h nid (.makeFunc fn a b) k) : OpSound S ρ h nid (.makeFunc fn a b) k := by
  cases fn with
  | func f =>
    simp only [opK, mapF_eq] at hk
    refine .pure hk fun E w ρ' hv o ho => ⟨.func (.func f) (a.map ρ') (b.map ρ'), by simp [execOp, ho, Instr.makeFunc], ?_⟩
    simp only [VR]
    exact ⟨(a.map ρ').toList, (b.map ρ').toList, rfl, by rw [Array.toList_map]; exact mapF_run hv _, by rw [Array.toList_map]; exact mapF_run hv _⟩
  | _ => simp only [opK] at hk
theorem op_nilCheck {x : Operand} (hk : opK S.flat S.Γ ρ h nid (.nilCheck x) k) : OpSound S ρ h nid (.nilCheck x) k := by
  simp only [opK] at hk
  split at hk
  · rename_i i o' e
    refine .pure hk fun E w ρ' hv o ho => ⟨ρ' x, ?_, by have := hv x; rwa [e] at this⟩
    have := hv x; rw [e] at this; simp only [VR] at this
    obtain ⟨b, _, hb⟩ := this
    simp [execOp, ho, hb]
  · rename_i cs e
    refine .pure hk fun E w ρ' hv o ho => ⟨ρ' x, ?_, by have := hv x; rwa [e] at this⟩
    have := hv x; rw [e] at this; simp only [VR] at this
    obtain ⟨b, o', hb, _⟩ := this
    simp [execOp, ho, hb]
  · rename_i f a b e
    refine .pure hk fun E w ρ' hv o ho => ⟨ρ' x, ?_, by have := hv x; rwa [e] at this⟩
    have := hv x; rw [e] at this; simp only [VR] at this
    obtain ⟨us, ws, hb, _⟩ := this
    simp [execOp, ho, hb]
  · rename_i i e
    refine .pure hk fun E w ρ' hv o ho => ⟨ρ' x, ?_, by have := hv x; rwa [e] at this⟩
    have := hv x; rw [e] at this; simp only [VR] at this
    obtain ⟨_, f, a, b, hb, hm⟩ := this
    rw [hb]
    simp only [execOp, ho, hb]
    cases f <;> first | rfl | exact absurd rfl (hm _)
  · exact hk.elim
theorem op_extract {x : Operand} {i : Nat} (hk : opK S.flat S.Γ ρ h nid (.extract x i) k) : OpSound S ρ h nid (.extract x i) k := by
  simp only [opK, getO_eq] at hk
  split at hk
  · rename_i vs e
    obtain ⟨v, hv, hkv⟩ := hk.elim
    refine .pure hkv fun E w ρ' hv' o ho => ?_
    have := hv' x; rw [e] at this; simp only [VR] at this
    obtain ⟨us, hu, hl⟩ := this
    obtain ⟨u, h1, h2⟩ := hl.get i v hv
    exact ⟨u, by simp [execOp, ho, hu, Instr.extract, h1], h2⟩
  · exact hk.elim
theorem op_field (hS : SeatOK S) {t : TypeId} {x : Operand} {f : Nat} (hk : opK S.flat S.Γ ρ h nid (.field t x f) k) : OpSound S ρ h nid (.field t x f) k := by
  simp only [opK, getO_eq] at hk
  split at hk
  · rename_i ti cs hti e
    have hT := hS.ty t ti hti
    split at hk
    · rename_i fs hkd
      obtain ⟨p, hp, hk⟩ := hk.elim
      obtain ⟨v, hv, hkv⟩ := hk.elim
      obtain ⟨F, hF, hrow, hall⟩ := hT.struct hkd
      refine .pure hkv fun E w ρ' hv' o ho => ?_
      have := hv' x; rw [e] at this; simp only [VR] at this
      obtain ⟨us, hu, hl⟩ := this
      rw [← hrow, List.getElem?_map] at hp
      cases hf : F.toList[f]? with
      | none => rw [hf] at hp; cases hp
      | some fd =>
        rw [hf] at hp; simp at hp; subst hp
        have hmem : fd ∈ F.toList := List.mem_of_getElem? hf
        obtain ⟨⟨i, hi⟩, hd⟩ := hall fd hmem
        obtain ⟨u, h1, h2⟩ := run_part (P := S.P) (t := fd.type) hd rfl ⟨i, hi, by simp [fieldRow, Program.cellsOf, hi]⟩ hl hv w
        have hf' : F[f]? = some fd := by simpa using hf
        refine ⟨u, ?_, h2⟩
        simp only [fieldRow] at h1
        simp [execOp, ho, hu, Instr.field, run_underlying hF, hf', asAgg, h1]
    · exact hk.elim
  · exact hk.elim
theorem op_load (hS : SeatOK S) {t : TypeId} {a : Operand} (hk : opK S.flat S.Γ ρ h nid (.load t a) k) : OpSound S ρ h nid (.load t a) k := by
  simp only [opK, getO_eq] at hk
  split at hk
  · rename_i i o e
    obtain ⟨size, hs, hk⟩ := hk.elim
    unfold sizeT at hs
    split at hs
    · rename_i ti hti
      cases hs
      have hT := hS.ty t ti hti
      have hag : aggT S.Γ t = ti.kind.agg := by simp [aggT, hti]
      rw [hag] at hk
      split at hk
      · rename_i cs ct hi
        obtain ⟨v, hv, hkv⟩ := hk.elim
        refine ⟨v, [], [i], hkv, fun _ hp => (nomatch hp), fun h' hh => OpOK.pure fun E w ρ' hr hv' oo ho => ?_⟩
        have hi' : h'[i]? = some (.var cs ct) := by rw [hh i (by simp)]; exact hi
        have := hv' a; rw [e] at this; simp only [VR] at this
        obtain ⟨b, hb, hab⟩ := this
        obtain ⟨b', us, hb', hh2, hu, _⟩ := hr.r0.ch i _ hi'
        rw [hb] at hb'; cases hb'
        obtain ⟨u, h1, h2⟩ := run_loadVar' (w := w) (b := b) (off := 0) hT (fun j c hj => by
          obtain ⟨u, hu1, hu2⟩ := hu.get j c hj
          exact ⟨u, by rw [Nat.zero_add, cell_of_row w b j _ _ _ hh2]; simpa using hu1, hu2⟩) hv
        rw [Nat.zero_add] at h1
        exact ⟨u, by simp [execOp, ho, hab, Instr.loadAt, Instr.sureAddr, h1], h2⟩
      · rename_i cs hi
        obtain ⟨v, hv, hkv⟩ := hk.elim
        refine ⟨v, [], [i], hkv, fun _ hp => (nomatch hp), fun h' hh => OpOK.pure fun E w ρ' hr hv' oo ho => ?_⟩
        have hi' : h'[i]? = some (.ro cs) := by rw [hh i (by simp)]; exact hi
        have := hv' a; rw [e] at this; simp only [VR] at this
        obtain ⟨b, hb, hab⟩ := this
        obtain ⟨b', hb', hu⟩ := hr.r0.ch i _ hi'
        rw [hb] at hb'; cases hb'
        obtain ⟨u, h1, h2⟩ := run_loadVar' (w := w) (b := b) (off := 0) hT (fun j c hj => by
          obtain ⟨u, hu1, hu2⟩ := hu.get j c hj
          exact ⟨u, hr.r0.imm _ _ _ hu1, hu2⟩) hv
        rw [Nat.zero_add] at h1
        exact ⟨u, by simp [execOp, ho, hab, Instr.loadAt, Instr.sureAddr, h1], h2⟩
      · exact hk.elim
    · cases hs
  · rename_i cs e
    obtain ⟨size, hs, hk⟩ := hk.elim
    unfold sizeT at hs
    split at hs
    · rename_i ti hti
      cases hs
      have hT := hS.ty t ti hti
      have hag : aggT S.Γ t = ti.kind.agg := by simp [aggT, hti]
      rw [hag] at hk
      obtain ⟨v, hv, hkv⟩ := hk.elim
      refine ⟨v, [], [], hkv, fun _ hp => (nomatch hp), fun h' _ => OpOK.pure fun E w ρ' hr hv' oo ho => ?_⟩
      have := hv' a; rw [e] at this; simp only [VR] at this
      obtain ⟨b, off, hab, hu⟩ := this
      obtain ⟨u, h1, h2⟩ := run_loadVar' (w := w) (b := b) (off := off) hT (fun j c hj => by
        obtain ⟨u, hu1, hu2⟩ := hu.get j c hj
        exact ⟨u, hr.r0.imm _ _ _ hu1, hu2⟩) hv
      rw [Nat.add_zero] at h1
      exact ⟨u, by simp [execOp, ho, hab, Instr.loadAt, Instr.sureAddr, h1], h2⟩
    · cases hs
  · exact hk.elim
theorem op_alloc (hS : SeatOK S) {t : TypeId} (hk : opK S.flat S.Γ ρ h nid (.alloc t) k) : OpSound S ρ h nid (.alloc t) k := by
  simp only [opK] at hk
  split at hk
  · rename_i ti hti
    have hT := hS.ty t ti hti
    refine ⟨_, _, _, hk, fun p hp => .inl (by simp at hp; rw [hp]), fun h' _ E w ρ' hr hb htk _ hun hv o ho => ?_⟩
    have hz : VRL E (cellsOf (ofV ti.zero)) ti.zero.cells.toList := by
      cases hz : ti.zero with
      | agg cs => simpa [ofV, cellsOf, Value.cells] using ofCells_VRL E cs.toList
      | _ =>
        simp only [Value.cells]
        have h0 := ofV_VR E ti.zero
        rw [hz] at h0
        have : cellsOf (ofV ti.zero) = [ofV ti.zero] := by
          rw [hz]; simp only [ofV]
          first | rfl | (unfold ofCell; split <;> rfl)
        rw [hz] at this; rw [this]
        exact VRL.cons h0 VRL.nil
    have hn := hr.new (hb (by simp)) (htk (by simp)) hz t
    refine ⟨_, _, .pointer (some ⟨w.heap.size, 0, none⟩), .inl ?_, ?_, Ext.withBlk (hb (by simp)), rfl, hn, fun h => nomatch h⟩
    · simp [execOp, ho, Instr.alloc, hT.runZero, newVar, newRow]
    · simp only [VR]; exact ⟨w.heap.size, if_pos rfl, rfl⟩
  · exact hk.elim
theorem op_box {t : TypeId} {x : Operand} (hk : opK S.flat S.Γ ρ h nid (.box t x) k) : OpSound S ρ h nid (.box t x) k := by
  simp only [opK, forceK_eq] at hk
  split at hk
  · rename_i hs
    refine ⟨_, _, _, hk, fun p hp => .inl (by simp at hp; rw [hp]), fun h' _ E w ρ' hr hb htk _ hun hv o ho => ?_⟩
    have hn := hr.new (hb (by simp)) (htk (by simp)) (cellsOf_VRL (hv x) hs) t
    refine ⟨_, _, .pointer (some ⟨w.heap.size, 0, none⟩), .inl ?_, ?_, Ext.withBlk (hb (by simp)), rfl, hn, fun h => nomatch h⟩
    · simp [execOp, ho, Instr.box, newVar, newRow]
    · simp only [VR]; exact ⟨w.heap.size, if_pos rfl, rfl⟩
  · exact hk.elim
theorem op_store (hS : SeatOK S) {t : TypeId} {a x : Operand} (hk : opK S.flat S.Γ ρ h nid (.store t a x) k) : OpSound S ρ h nid (.store t a x) k := by
  simp only [opK, getO_eq, forceK_eq] at hk
  split at hk
  · rename_i i off e
    split at hk
    · rename_i ti cs ct hti hi
      have hT := hS.ty t ti hti
      split at hk
      · rename_i h1 h2 h3
        rw [spliceK_eq] at hk
        have hsol : solid (ρ x) = true := by
          cases hx : ρ x <;> rw [hx] at h3 <;> first | rfl | (simp [cellsOf, okCells, okCell] at h3)
        rw [lenN_eq] at h1 h2
        have h1 := Nat.eq_of_beq_eq_true h1
        have h2 := natLe_eq.1 h2
        rw [lenN_eq] at h2
        refine ⟨_, _, _, hk, fun p hp => .inr (by simp at hp; rw [hp]; simp), fun h' hh E w ρ' hr hb _ _ hun hv o ho => ?_⟩
        have hi' : h'[i]? = some (.var cs ct) := by rw [hh i (by simp)]; exact hi
        have hc := cellsOf_VRL (hv x) hsol
        obtain ⟨b, w', hb', hst, hr'⟩ := hr.store hi' hc (okCells_one h3 hc) h2
        have := hv a; rw [e] at this; simp only [VR] at this
        obtain ⟨b2, hb2, hab⟩ := this
        rw [hb'] at hb2; cases hb2
        refine ⟨E, w', undef, .inr ⟨?_, rfl⟩, by simp only [VR], Ext.refl E, rfl, hr', fun h => nomatch h⟩
        have hsz : (ρ' x).cells.size = ti.size := by
          exact Array.length_toList.symm.trans (hc.length.symm.trans h1)
        simp [execOp, ho, hab, Instr.storeAt, Instr.sureAddr, storeVar, hT.runSize, hsz, hst]
      · exact hk.elim
    · exact hk.elim
  · exact hk.elim
end

end Go.Abs
