/- Definitions and lemmas for the law, part 4. No condition beyond those in each statement. -/
import Derived.WideKeyArgs
import Derived.OpenShut
import Derived.KernelRfl
import Derived.LaidLaws
import Derived.RangeFuncNested
import Derived.Recover
import Derived.Scope
import Derived.Test.YteicdddheaajlaaDoorProg
import Derived.Test.YteicdddheaajlaaDoorT3
set_option linter.unusedSimpArgs false
set_option linter.unusedVariables false
set_option linter.deprecated false
namespace Go.Abs
open Go Go.RowKit Go.ChangeShapes
inductive CK where
  | int (k : IntKind)
  | bool
  | str
def ckFs (g : TypeId → Option (List CK)) : List Field → Nat → Option (List CK)
  | [], _ => some []
  | f :: r, off => if Nat.beq f.offset off = true then (match g f.type with | some a => (match ckFs g r (off + a.length) with | some b => some (a ++ b) | none => none) | none => none) else none
def ckRep : Nat → List CK → List CK
  | 0, _ => []
  | n + 1, a => a ++ ckRep n a
def ckOf (P : Program) : Nat → TypeId → Option (List CK)
  | 0, _ => none
  | d + 1, t =>
    match (match P.underlying t with
      | some (.int k) => some [CK.int k]
      | some .bool => some [CK.bool]
      | some .string => some [CK.str]
      | some (.struct fs) => ckFs (ckOf P d) fs.toList 0
      | some (.array n e) => (match ckOf P d e with | some a => some (ckRep n a) | none => none)
      | _ => none) with
    | some a => if Nat.beq a.length (P.cellsOf t) = true then some a else none
    | none => none
def cellOK : CK → Value → Prop
  | .int k, c => ∃ n, c = .int k n ∧ (Lit.int k n).wf = true
  | .bool, c => ∃ b, c = .bool b
  | .str, c => ∃ s : ByteArray, c = .string s ∧ s.size ≤ maxLen
def CellsOK : List CK → List Value → Prop
  | [], [] => True
  | k :: ks, c :: cs => cellOK k c ∧ CellsOK ks cs
  | _, _ => False
theorem CellsOK.length : ∀ {ks : List CK} {cs : List Value}, CellsOK ks cs → ks.length = cs.length
  | [], [], _ => rfl
  | k :: ks, c :: cs, h => by simp [CellsOK.length h.2]
  | [], _ :: _, h => h.elim
  | _ :: _, [], h => h.elim
theorem CellsOK.cons {k : CK} {ks : List CK} {cs : List Value} (h : CellsOK (k :: ks) cs) : ∃ c r, cs = c :: r ∧ cellOK k c ∧ CellsOK ks r := by
  cases cs with
  | nil => exact h.elim
  | cons c r => exact ⟨c, r, rfl, h.1, h.2⟩
theorem CellsOK.consI {k : IntKind} {ks : List CK} {cs : List Value} (h : CellsOK (.int k :: ks) cs) : ∃ n r, cs = .int k n :: r ∧ (Lit.int k n).wf = true ∧ CellsOK ks r := by
  obtain ⟨c, r, rfl, ⟨n, rfl, hn⟩, hr⟩ := h.cons
  exact ⟨n, r, rfl, hn, hr⟩
theorem CellsOK.nil {cs : List Value} (h : CellsOK [] cs) : cs = [] := by
  cases cs with
  | nil => rfl
  | cons c r => exact h.elim
theorem CellsOK.append : ∀ {a b : List CK} {cs ds : List Value}, CellsOK a cs → CellsOK b ds → CellsOK (a ++ b) (cs ++ ds)
  | [], b, [], ds, _, k => k
  | _ :: a, b, _ :: cs, ds, h, k => ⟨h.1, CellsOK.append h.2 k⟩
  | [], _, _ :: _, _, h, _ => h.elim
  | _ :: _, _, [], _, h, _ => h.elim
theorem ckOf_length {P : Program} {d : Nat} {t : TypeId} {ks : List CK} (h : ckOf P d t = some ks) : ks.length = P.cellsOf t := by
  cases d with
  | zero => simp [ckOf] at h
  | succ d =>
    unfold ckOf at h
    split at h
    · split at h
      · rename_i hb; cases h; exact Nat.eq_of_beq_eq_true hb
      · cases h
    · cases h
section
variable {H : Type} {enc : TypeId × Value → H} {P : Program} {w : World} {base : Nat} {sp : Nat → Bool} {held : Bool}
theorem ck_trod : ∀ (d : Nat) (t : TypeId) (ks : List CK), ckOf P d t = some ks → ∀ (n : Nat) (cs : List Value) (x : DataW H × List MemPlace), DataW.trod enc P w base sp held n t cs = some x → CellsOK ks cs
  | 0, t, ks, h, _, _, _, _ => by simp [ckOf] at h
  | d + 1, t, ks, h, n, cs, x, ht => by
    have hlen := ckOf_length h
    unfold ckOf at h
    split at h
    case h_2 => cases h
    rename_i a ha
    split at h
    case isFalse => cases h
    cases h
    split at ha
    · rename_i k hu
      cases ha
      obtain ⟨m, rfl, _, hw⟩ := DataW.trod_int hu ht
      exact ⟨⟨m, rfl, hw⟩, trivial⟩
    · rename_i hu
      cases ha
      obtain ⟨b, rfl, _⟩ := DataW.trod_bool hu ht
      exact ⟨⟨b, rfl⟩, trivial⟩
    · rename_i hu
      cases ha
      obtain ⟨s, rfl, _, hs⟩ := DataW.trod_string hu ht
      exact ⟨⟨s, rfl, hs⟩, trivial⟩
    · rename_i fs hu
      obtain ⟨xs, m, _, _, hcl, hxl, hf⟩ := DataW.trod_struct hu ht
      have key : ∀ (l : List Field) (off j : Nat) (b : List CK), fs.toList.drop j = l → ckFs (ckOf P d) l off = some b → off + b.length = cs.length → CellsOK b (cs.drop off) := by
        intro l
        induction l with
        | nil =>
          intro off j b hl hb hle
          simp only [ckFs, Option.some.injEq] at hb
          subst hb
          rw [List.drop_eq_nil_of_le (by simpa using Nat.le_of_eq hle.symm)]; trivial
        | cons f l ih =>
          intro off j b hl hb hle
          simp only [ckFs] at hb
          split at hb
          case isFalse => cases hb
          rename_i hoff
          have hoff := Nat.eq_of_beq_eq_true hoff
          split at hb
          case h_2 => cases hb
          rename_i a1 ha1
          split at hb
          case h_2 => cases hb
          rename_i b1 hb1
          cases hb
          have hgj : fs[j]? = some f := by
            have : fs.toList[j]? = some f := by rw [← List.head?_drop, hl]; rfl
            simpa using this
          have hjl : j < fs.size := (Array.getElem?_eq_some_iff.1 hgj).1
          have hd := hf j f hgj
          obtain ⟨y, hy⟩ : ∃ y, xs[j]? = some y := ⟨xs[j]'(by omega), List.getElem?_eq_getElem (by omega)⟩
          rw [hy, hoff] at hd
          have h1 := ck_trod d f.type a1 ha1 m _ y hd
          have hl1 := ckOf_length ha1
          have h2 := ih (off + a1.length) (j + 1) b1 (by rw [← List.tail_drop, hl]; rfl) hb1 (by simp at hle; omega)
          have e : cs.drop off = (cs.drop off).take (P.cellsOf f.type) ++ cs.drop (off + a1.length) := by
            rw [hl1, ← List.drop_drop, List.take_append_drop]
          rw [e]
          exact h1.append h2
      have := key fs.toList 0 0 _ rfl ha (by rw [hcl]; omega)
      simpa using this
    · rename_i m e hu
      split at ha
      case h_2 => cases ha
      rename_i a1 ha1
      cases ha
      obtain ⟨xs, q, _, _, hcl, hxl, hf⟩ := DataW.trod_array hu ht
      have hl1 := ckOf_length ha1
      have hrl : ∀ k, (ckRep k a1).length = k * a1.length := by
        intro k
        induction k with
        | zero => simp [ckRep]
        | succ k ih => simp [ckRep, ih, Nat.succ_mul, Nat.add_comm]
      have key : ∀ (k j : Nat), j + k = m → CellsOK (ckRep k a1) (cs.drop (j * a1.length)) := by
        intro k
        induction k with
        | zero =>
          intro j hj
          rw [List.drop_eq_nil_of_le]
          · trivial
          · rw [hcl, ← hlen, hrl, show j = m by omega]; exact Nat.le_refl _
        | succ k ih =>
          intro j hj
          have h2 := ih (j + 1) (by omega)
          have hd := hf j (by omega)
          obtain ⟨y, hy⟩ : ∃ y, xs[j]? = some y := ⟨xs[j]'(by omega), List.getElem?_eq_getElem (by omega)⟩
          rw [hy, ← hl1] at hd
          have h1 := ck_trod d e a1 ha1 q _ y hd
          have e0 : cs.drop (j * a1.length) = (cs.drop (j * a1.length)).take a1.length ++ cs.drop ((j + 1) * a1.length) := by
            rw [Nat.succ_mul, ← List.drop_drop, List.take_append_drop]
          rw [e0]
          exact h1.append h2
      simpa using key m 0 (by omega)
    · cases ha
def immAll (w : World) : Imm := fun b o => w.cell? ⟨b, o, none⟩
theorem immAll_ok (w : World) : immOK (immAll w) w := fun _ _ _ h => h
theorem mapM_opt {α β : Type} {f : α → Option β} : ∀ {l : List α} {r : List β}, l.mapM f = some r → r.length = l.length ∧ ∀ (i : Nat) (x : α), l[i]? = some x → f x = r[i]?
  | [], r, h => by
    simp at h; subst h
    exact ⟨rfl, fun i x hx => by simp at hx⟩
  | x :: l, r, h => by
    simp only [List.mapM_cons] at h
    cases hx : f x with
    | none => simp [hx] at h
    | some y =>
      cases hl : l.mapM f with
      | none => simp [hx, hl] at h
      | some r1 =>
        simp [hx, hl] at h
        subst h
        obtain ⟨h1, h2⟩ := mapM_opt hl
        refine ⟨by simp [h1], fun i z hz => ?_⟩
        cases i with
        | zero => simp at hz; subst hz; simpa using hx
        | succ i => simp at hz ⊢; exact h2 i z hz
theorem cells?_get {a : Addr} {n : Nat} {cs : List Value} (h : w.cells? base a n = some cs) : cs.length = n ∧ ∀ i, i < n → w.cell? (a.add i) = cs[i]? := by
  unfold World.cells? at h
  split at h
  · obtain ⟨h1, h2⟩ := mapM_opt h
    rw [List.length_range] at h1
    exact ⟨h1, fun i hi => h2 i i (List.getElem?_range hi)⟩
  · cases h
theorem slice_cells {t e : TypeId} {d : Nat} {ks : List CK} {n : Nat} {v : Value} {x : DataW H × List MemPlace} (hu : P.underlying t = some (.slice e)) (hk : ckOf P d e = some ks) (hpos : 0 < P.cellsOf e) (h : DataW.trod enc P w base sp held n t [v] = some x) :
    (v = .slice none 0 0) ∨ ∃ (a : Addr) (len cap : Nat), v = .slice (some a) len cap ∧ len ≤ cap ∧ cap ≤ maxLen ∧ (0 < len → a.spot = none) ∧ ∀ i, i < len → ∃ cs, CellsOK ks cs ∧ ∀ j, j < ks.length → w.cell? ⟨a.block, a.off + (i * ks.length + j), none⟩ = cs[j]? := by
  rcases DataW.trod_slice hu h with ⟨hcs, _⟩ | ⟨a, len, cap, elems, rest, m, _, hcs, _, _, hle, hcm, hel, hg, _⟩
  · exact .inl (by simpa using hcs)
  · have hl := ckOf_length hk
    refine .inr ⟨a, len, cap, by simpa using hcs, hle, hcm, fun h0 => ?_, fun i hi => ?_⟩
    · have := hg 0 h0
      obtain ⟨y, hy⟩ : ∃ y, elems[0]? = some y := ⟨elems[0]'(by omega), List.getElem?_eq_getElem (by omega)⟩
      rw [hy] at this
      simp only [Nat.zero_mul, Option.bind_eq_some_iff] at this
      obtain ⟨cs, hc, _⟩ := this
      obtain ⟨h1, h2⟩ := cells?_get hc
      have h3 := h2 0 hpos
      rw [List.getElem?_eq_getElem (by omega)] at h3
      simp only [Addr.add, if_true, World.cell?] at h3
      split at h3
      · split at h3
        · cases h3
        · rename_i hs; simpa using hs
      · cases h3
    · have := hg i hi
      obtain ⟨y, hy⟩ : ∃ y, elems[i]? = some y := ⟨elems[i]'(by omega), List.getElem?_eq_getElem (by omega)⟩
      rw [hy] at this
      simp only [Option.bind_eq_some_iff] at this
      obtain ⟨cs, hc, ht⟩ := this
      obtain ⟨h1, h2⟩ := cells?_get hc
      refine ⟨cs, ck_trod d e ks hk m cs y ht, fun j hj => ?_⟩
      have e1 : ∀ (u : Value), w.cell? ((a.add (i * P.cellsOf e)).add j) = some u → w.cell? ⟨a.block, a.off + (i * P.cellsOf e + j), none⟩ = some u := by
        intro u hu
        simp only [World.cell?, Addr.add] at hu ⊢
        by_cases hi0 : i * P.cellsOf e = 0
        · by_cases hj0 : j = 0
          · simp only [hi0, hj0, if_true, Nat.add_zero] at hu ⊢
            split at hu
            · split at hu
              · cases hu
              · simpa using hu
            · cases hu
          · simpa only [hi0, hj0, if_true, if_false, Nat.zero_add] using hu
        · by_cases hj0 : j = 0
          · simpa only [hi0, hj0, if_true, if_false, Nat.add_zero] using hu
          · simpa only [hi0, hj0, if_false, Nat.add_assoc] using hu
      have h4 := h2 j (by omega)
      rw [List.getElem?_eq_getElem (by omega)] at h4 ⊢
      rw [hl]; exact e1 _ h4
theorem sameAt_kept {W W' : World} (hk : Kept W W') {p : MemPlace} (hp : p.block < W.heap.size) : W.sameAt W' p := by
  cases p with
  | cell b off => exact World.cell?_of_block (hk.same b hp)
  | map b => exact hk.same b hp
theorem trodAll_kept (hl : laidOutB P = true) {W W' : World} (hk : Kept W W') {sp' : Nat → Bool} : ∀ {ts : List TypeId} {vs : List Value} {ds : List (DataW H)} {ps : List MemPlace}, (∀ t ∈ ts, P.readableRec t = true ∧ t < P.types.size) →
    DataW.TrodAll enc P W base (fun _ => true) true ts vs ds ps → (∀ p ∈ ps, p.block < W.heap.size) → (∀ p ∈ ps, sp' p.block = true) → DataW.TrodAll enc P W' base sp' true ts vs ds ps
  | [], vs, ds, ps, _, h, _, _ => by
    obtain ⟨rfl, rfl, rfl⟩ := trodAll_nil h
    exact trodAll_mk0
  | t :: ts, vs, ds, ps, ht, h, hlt, hsp => by
    obtain ⟨v, vs1, d, ds1, a, b, rfl, rfl, rfl, h1, h2⟩ := trodAll_cons h
    obtain ⟨r1, r2⟩ := ht t (by simp)
    exact trodAll_cons_mk (WideElems.Trod_stays hl r1 r2 h1 (fun p hp => sameAt_kept hk (hlt p (by simp [hp]))) (fun p hp => hsp p (by simp [hp])))
      (trodAll_kept hl hk (fun t ht' => ht t (by simp [ht'])) h2 (fun p hp => hlt p (by simp [hp])) (fun p hp => hsp p (by simp [hp])))
theorem law_post (hl : laidOutB P = true) {f : Func} {s : ChangeSpec} {W W' : World} {args : Array Value} {ds : List (DataW H)} {before : List MemPlace} {tb : TypeId} (hb : P.underlying tb = some .bool) (hr : f.resultTypes = #[tb]) (hv : s.vars = [])
    (hts : ∀ t ∈ f.params.toList, P.readableRec t = true ∧ t < P.types.size)
    (hs : (s.fn H ds).results = [.lit (.bool true)] ∧ (s.fn H ds).args = ds ∧ (s.fn H ds).vars = [])
    (hW : DataW.Whole enc P f.params.toList s.vars false W args.toList ds [] before) (hk : Kept W W') :
    s.post enc P f false true false false W args (.bool true) W' := by
  have hW' := hW
  obtain ⟨p, q, hA, hV, rfl, hfz, hnd⟩ := hW
  rw [hv] at hV
  obtain ⟨-, rfl⟩ := trodVars_none hV
  have hlt := hW'.lt
  refine post_of_kept (pa := p) (pv := []) hW' (fun b sp hd => ?_) (fun sp hsp => ?_) (fun sp _ => ?_) rfl hk
  · rw [List.append_nil, hs.1, hr]
    exact trodAll_cons_mk (shut_bool hb true) trodAll_mk0
  · rw [List.append_nil, hs.2.1]
    exact trodAll_kept hl hk hts hA (fun p hp => hlt p (by simpa using hp)) (fun p hp => hsp p (by simpa using hp))
  · rw [List.append_nil, hs.2.2, hv]
    rfl
structure Elem {α : Type} (f : α → List AV) (I : α → Prop) (ks : List CK) : Prop where
  len : ∀ a, (f a).length = ks.length
  of : ∀ cs, CellsOK ks cs → ∃ a, I a ∧ ∀ E, VRL E (f a) cs
theorem vri_list {α : Type} {f : α → List AV} {k : Nat} (hf : ∀ a, (f a).length = k) {E : Env} {b : Nat} : ∀ (l : List α) (off : Nat), (∀ (i : Nat) a, l[i]? = some a → VRI E (f a) b (off + i * k)) → VRI E (cs f l) b off
  | [], off, _ => by simp [cs, VRI]
  | a :: l, off, h => by
    have h0 := h 0 a rfl
    have hr := vri_list hf l (off + k) (fun i c hc => by
      have := h (i + 1) c (by simpa using hc)
      rwa [Nat.succ_mul, show off + (i * k + k) = off + k + i * k by omega] at this)
    have : VRI E (f a ++ cs f l) b off := VRI.append (by simpa using h0) (by rw [hf a]; exact hr)
    simpa [cs] using this
theorem open_list {α : Type} {f : α → List AV} {I : α → Prop} {ks : List CK} (he : Elem f I ks) (hks : 0 < ks.length) {r : Reach} {b0 : Nat} {t e : TypeId} {v : Value} {d : DataW H} {ps : List MemPlace} (hu : P.underlying t = some (.slice e)) (hk : ckOf P 9 e = some ks) (hval : Value.okWide P w r b0 t v) (hd : DataW.Trod enc P w base sp held t v d ps) :
    ∃ l : List α, (∀ a ∈ l, I a) ∧ l.length ≤ maxLen ∧ VR (Env.bare (immAll w) w) (.vec (cs f l) l.length none) v := by
  have hl := ckOf_length hk
  have h1 : v.cells.toList = [v] := by
    unfold Value.okWide at hval
    rw [hu] at hval
    simp only [] at hval
    cases v <;> first | rfl | (simp [Cell.okWide, Cell.ok, hu] at hval)
  obtain ⟨n, hn⟩ := hd
  rw [h1] at hn
  rcases slice_cells hu hk (by omega) hn with rfl | ⟨a, len, cap, rfl, hle, hcm, hsp, hc⟩
  · refine ⟨[], fun a h => absurd h (by simp), Nat.zero_le _, ?_⟩
    simp only [VR]
    exact ⟨none, 0, rfl, Nat.le_refl _, by simp [cs], fun i hi => nomatch hi⟩
  · have key : ∀ m, m ≤ len → ∃ l : List α, l.length = m ∧ ∀ (i : Nat) x, l[i]? = some x → I x ∧ VRI (Env.bare (immAll w) w) (f x) a.block (a.off + i * ks.length) := by
      intro m
      induction m with
      | zero => intro _; exact ⟨[], rfl, fun i x hx => by simp at hx⟩
      | succ m ih =>
        intro hm
        obtain ⟨l, h2, h3⟩ := ih (by omega)
        obtain ⟨cs, hcs, hcell⟩ := hc m (by omega)
        obtain ⟨x, hx, hxv⟩ := he.of cs hcs
        refine ⟨l ++ [x], by simp [h2], fun i y hy => ?_⟩
        rw [List.getElem?_append] at hy
        split at hy
        · exact h3 i y hy
        · rename_i hge
          have : i = m := by
            have := (List.getElem?_eq_some_iff.1 hy).1
            simp at this; omega
          subst this
          rw [h2, Nat.sub_self] at hy
          simp at hy; subst hy
          refine ⟨hx, VRI.of_get fun j c hj => ?_⟩
          obtain ⟨u, hu1, hu2⟩ := (hxv (Env.bare (immAll w) w)).get j c hj
          refine ⟨u, ?_, hu2⟩
          show w.cell? ⟨a.block, a.off + i * ks.length + j, none⟩ = some u
          have hjl : j < ks.length := by rw [← he.len x]; exact (List.getElem?_eq_some_iff.1 hj).1
          rw [Nat.add_assoc, hcell j hjl, hu1]
    obtain ⟨l, h2, h3⟩ := key len (Nat.le_refl _)
    refine ⟨l, fun x hx => ?_, by rw [h2]; exact Nat.le_trans hle hcm, ?_⟩
    · obtain ⟨i, hi⟩ := List.getElem?_of_mem hx
      exact (h3 i x hi).1
    · simp only [VR]
      refine ⟨_, _, by rw [h2], by rw [h2]; exact hle, ?_, fun i hi => nomatch hi⟩
      by_cases h0 : 0 < len
      · right
        refine ⟨a.block, a.off, ?_, vri_list he.len l a.off fun i x hx => (h3 i x hx).2⟩
        have := hsp h0
        cases a; simp_all
      · left
        have : l = [] := List.eq_nil_of_length_eq_zero (by omega)
        subst this; rfl
def Pt.i64 (p : Pt) : Prop := I64 p.x ∧ I64 p.y
def Ed.i64 (e : Ed) : Prop := e.p.i64 ∧ e.q.i64
theorem wf_I64 {n : Int} (h : (Lit.int .i64 n).wf = true) : I64 n := wf_i64 h
end
theorem vr_int (E : Env) (k : IntKind) (n : Int) : VR E (.int k n) (.int k n) := by simp only [VR]
end Go.Abs
namespace Go.Abs
open Go Go.RowKit Go.ChangeShapes
def litD : Lit → List Value
  | .bool b => [.bool b]
  | .int k n => [.int k n]
  | .string s => [.string ⟨s.toArray⟩]
  | _ => []
mutual
def flatD {H : Type} : DataW H → List Value
  | .lit l => litD l
  | .nil => []
  | .ptr _ => []
  | .slice _ _ => []
  | .agg ds => flatDs ds
  | .iface _ _ => []
  | .map _ => []
  | .held _ => []
def flatDs {H : Type} : List (DataW H) → List Value
  | [] => []
  | d :: ds => flatD d ++ flatDs ds
end
theorem flatDs_eq {H : Type} : ∀ l : List (DataW H), flatDs l = l.flatMap flatD
  | [] => by simp [flatDs]
  | d :: l => by simp [flatDs, flatDs_eq l]
section
variable {H : Type} {enc : TypeId × Value → H} {P : Program} {w : World} {base : Nat} {sp : Nat → Bool} {held : Bool}
theorem flat_trod : ∀ (d : Nat) (t : TypeId) (ks : List CK), ckOf P d t = some ks → ∀ (n : Nat) (cs : List Value) (x : DataW H × List MemPlace), DataW.trod enc P w base sp held n t cs = some x → cs = flatD x.1
  | 0, t, ks, h, _, _, _, _ => by simp [ckOf] at h
  | d + 1, t, ks, h, n, cs, x, ht => by
    have hlen := ckOf_length h
    unfold ckOf at h
    split at h
    case h_2 => cases h
    rename_i a ha
    split at h
    case isFalse => cases h
    cases h
    split at ha
    · rename_i k hu
      obtain ⟨m, rfl, rfl, hw⟩ := DataW.trod_int hu ht
      simp [flatD, litD]
    · rename_i hu
      obtain ⟨b, rfl, rfl⟩ := DataW.trod_bool hu ht
      simp [flatD, litD]
    · rename_i hu
      obtain ⟨s, rfl, rfl, hs⟩ := DataW.trod_string hu ht
      cases s; simp [flatD, litD]
    · rename_i fs hu
      obtain ⟨xs, m, _, rfl, hcl, hxl, hf⟩ := DataW.trod_struct hu ht
      have key : ∀ (l : List Field) (off j : Nat) (b : List CK), fs.toList.drop j = l → ckFs (ckOf P d) l off = some b → off + b.length = cs.length → cs.drop off = (xs.drop j).flatMap fun y => flatD y.1 := by
        intro l
        induction l with
        | nil =>
          intro off j b hl hb hle
          simp only [ckFs, Option.some.injEq] at hb
          subst hb
          have hj : fs.toList.length ≤ j := by simpa using hl
          rw [List.drop_eq_nil_of_le (by simpa using Nat.le_of_eq hle.symm), List.drop_eq_nil_of_le (by rw [hxl]; simpa using hj)]; rfl
        | cons f l ih =>
          intro off j b hl hb hle
          simp only [ckFs] at hb
          split at hb
          case isFalse => cases hb
          rename_i hoff
          have hoff := Nat.eq_of_beq_eq_true hoff
          split at hb
          case h_2 => cases hb
          rename_i a1 ha1
          split at hb
          case h_2 => cases hb
          rename_i b1 hb1
          cases hb
          have hgj : fs[j]? = some f := by
            have : fs.toList[j]? = some f := by rw [← List.head?_drop, hl]; rfl
            simpa using this
          have hjl : j < fs.size := (Array.getElem?_eq_some_iff.1 hgj).1
          have hd := hf j f hgj
          have hjx : j < xs.length := by omega
          have hy : xs[j]? = some xs[j] := List.getElem?_eq_getElem hjx
          rw [hy, hoff] at hd
          have h1 := flat_trod d f.type a1 ha1 m _ _ hd
          have hl1 := ckOf_length ha1
          have h2 := ih (off + a1.length) (j + 1) b1 (by rw [← List.tail_drop, hl]; rfl) hb1 (by simp at hle; omega)
          have e : cs.drop off = (cs.drop off).take (P.cellsOf f.type) ++ cs.drop (off + a1.length) := by
            rw [hl1, ← List.drop_drop, List.take_append_drop]
          refine e.trans ?_
          rw [h1, h2, List.drop_eq_getElem_cons hjx, List.flatMap_cons]
      have := key fs.toList 0 0 _ rfl ha (by rw [hcl]; omega)
      simp only [List.drop_zero] at this
      rw [this]
      simp [flatD, flatDs_eq, List.flatMap_map]
    · rename_i m e hu
      split at ha
      case h_2 => cases ha
      rename_i a1 ha1
      cases ha
      obtain ⟨xs, q, _, rfl, hcl, hxl, hf⟩ := DataW.trod_array hu ht
      have hl1 := ckOf_length ha1
      have hrl : ∀ k, (ckRep k a1).length = k * a1.length := by
        intro k
        induction k with
        | zero => simp [ckRep]
        | succ k ih => simp [ckRep, ih, Nat.succ_mul, Nat.add_comm]
      have key : ∀ (k j : Nat), j + k = m → cs.drop (j * a1.length) = (xs.drop j).flatMap fun y => flatD y.1 := by
        intro k
        induction k with
        | zero =>
          intro j hj
          rw [List.drop_eq_nil_of_le, List.drop_eq_nil_of_le (by omega)]
          · rfl
          · rw [hcl, ← hlen, hrl, show j = m by omega]; exact Nat.le_refl _
        | succ k ih =>
          intro j hj
          have h2 := ih (j + 1) (by omega)
          have hd := hf j (by omega)
          have hjx : j < xs.length := by omega
          have hy : xs[j]? = some xs[j] := List.getElem?_eq_getElem hjx
          rw [hy, ← hl1] at hd
          have h1 := flat_trod d e a1 ha1 q _ _ hd
          have e0 : cs.drop (j * a1.length) = (cs.drop (j * a1.length)).take a1.length ++ cs.drop ((j + 1) * a1.length) := by
            rw [Nat.succ_mul, ← List.drop_drop, List.take_append_drop]
          refine e0.trans ?_
          rw [h1, h2, List.drop_eq_getElem_cons hjx, List.flatMap_cons]
      have := key m 0 (by omega)
      simp only [Nat.zero_mul, List.drop_zero] at this
      rw [this]
      simp [flatD, flatDs_eq, List.flatMap_map]
    · cases ha
end
end Go.Abs
namespace Go.Abs
open Go Go.RowKit Go.ChangeShapes
theorem laid_vars {P : Program} {W : World} {name : String} {D : DataW Unit} {g t : Nat} {cells : List Value}
    (hg : P.globalNamed name = some g) (ht : (P.globals[g]?).map (·.type) = some t) (hk : (ckOf P 9 t).isSome = true) (hc : flatD D = cells) :
    ∀ (laid : List (String × DataW Unit)) (ps : List MemPlace), (name, D) ∈ laid → DataW.LaidVars P W laid ps → W.var? P name = some cells.toArray
  | [], _, h, _ => by cases h
  | (n', D') :: l, ps, h, hl => by
    obtain ⟨ks, hk'⟩ := Option.isSome_iff_exists.1 hk
    obtain ⟨g', t', cs, fuel, p, q, hg', ht', hvar, hd, hr, _⟩ := hl
    rcases List.mem_cons.1 h with h | h
    · cases h
      obtain rfl := Option.some.inj (hg.symm.trans hg')
      obtain rfl := Option.some.inj (ht.symm.trans ht')
      rw [hvar]
      have := flat_trod 9 _ ks hk' _ _ _ hd
      simp only at this
      rw [hc] at this
      rw [← this]
    · exact laid_vars hg ht hk hc l q h hr
theorem laid_at {P : Program} {laid : List (String × DataW Unit)} {W : World} {name : String} {D : DataW Unit} {g t : Nat} {cells : List Value} (h : laidMet P laid W) (hm : (name, D) ∈ laid)
    (hg : P.globalNamed name = some g) (ht : (P.globals[g]?).map (·.type) = some t) (hk : (ckOf P 9 t).isSome = true) (hc : flatD D = cells) : W.var? P name = some cells.toArray := by
  obtain ⟨ps, h, _⟩ := h
  exact laid_vars hg ht hk hc laid ps hm h
end Go.Abs
namespace Go.Abs
open Go.RowKit
variable {S : Seat}
end Go.Abs
namespace Go.Abs
open Go.RowKit
variable {S : Seat}
structure LExt (E E' : Env) : Prop where
  blk : ∀ i b, E.blk i = some b → E'.blk i = some b
  tok : ∀ i F v, E.tok i = some (F, v) → ∃ F' v', E'.tok i = some (F', v') ∧ (F < F' ∨ (F' = F ∧ v' = v))
  cbv : ∀ i v, E.cbv i = some v → E'.cbv i = some v ∧ E'.cbJ i = E.cbJ i
  imm : ∀ b o u, E.imm b o = some u → E'.imm b o = some u
theorem Ext.l {E E' : Env} (h : Ext E E') : LExt E E' := ⟨h.blk, h.tok, h.cbv, h.imm⟩
theorem LExt.refl (E : Env) : LExt E E := (Ext.refl E).l
theorem LExt.v {E E' : Env} (h : LExt E E') : VExt E E' := ⟨h.blk, h.tok, fun i v hv => (h.cbv i v hv).1, h.imm⟩
theorem LExt.trans {A B C : Env} (h : LExt A B) (k : LExt B C) : LExt A C where
  blk i b hb := k.blk i b (h.blk i b hb)
  tok i F v ht := by
    obtain ⟨F1, v1, h1, h2⟩ := h.tok i F v ht
    obtain ⟨F2, v2, h3, h4⟩ := k.tok i F1 v1 h1
    refine ⟨F2, v2, h3, ?_⟩
    rcases h2 with h2 | ⟨rfl, rfl⟩ <;> rcases h4 with h4 | ⟨rfl, rfl⟩
    · exact .inl (Nat.lt_trans h2 h4)
    · exact .inl h2
    · exact .inl h4
    · exact .inr ⟨rfl, rfl⟩
  cbv i v hv := by
    obtain ⟨h1, h2⟩ := h.cbv i v hv
    obtain ⟨h3, h4⟩ := k.cbv i v h1
    exact ⟨h3, h4.trans h2⟩
  imm b o u hu := k.imm b o u (h.imm b o u hu)
def Env.lone (E : Env) : Env := { E with rnd := none, marks := [] }
def ownsH (E : Env) (h : Heap) (b : Nat) : Prop := ∃ i c, h[i]? = some c ∧ ownsC E i c b
def Env.round (E : Env) (h : Heap) (w : World) (l : Nat) (M : List Nat) : Env := { E with keep := fun b => b < w.heap.size ∧ ¬ ownsH E h b ∧ b ∉ M, base := w, rnd := some l, marks := M }
theorem R0.lone {E : Env} {h : Heap} {w : World} (hr : R0 S E h w) : R0 S E.lone h w := by
  have oc : ∀ i c b, ownsC E.lone i c b ↔ ownsC E i c b := fun i c b => ownsC_same rfl rfl rfl i c b
  exact ⟨fun i c hi => CR.same (E := E) (E' := E.lone) rfl rfl rfl rfl rfl rfl hr.imm (hr.ch i c hi), fun g cs hg => VRI.mono (VExt.of_eq (E := E) (E' := E.lone) rfl rfl rfl rfl) _ _ _ (hr.glob g cs hg), hr.non, fun i c b hi ho => hr.lt i c b hi ((oc i c b).1 ho), fun i j c d b hi hj h1 h2 => hr.disj i j c d b hi hj ((oc i c b).1 h1) ((oc j d b).1 h2), hr.imm, fun l hl => (by cases hl), fun D hD => (by cases hD)⟩
theorem R0.round {E : Env} {h : Heap} {w : World} (hr : R0 S E h w) {l : Nat} {r : Loop} (hl : w.heap[l]? = some (.loop r)) (hno : ¬ ownsH E h l) {M : List Nat} (hM : ∀ D ∈ M, w.heap[D]? = some (.deferred (some [])) ∧ ¬ ownsH E h D) : R S (E.round h w l M) h w := by
  have oc : ∀ i c b, ownsC (E.round h w l M) i c b ↔ ownsC E i c b := fun i c b => ownsC_same rfl rfl rfl i c b
  refine ⟨⟨fun i c hi => CR.same (E := E) (E' := E.round h w l M) rfl rfl rfl rfl rfl rfl hr.imm (hr.ch i c hi), fun g cs hg => VRI.mono (VExt.of_eq (E := E) (E' := E.round h w l M) rfl rfl rfl rfl) _ _ _ (hr.glob g cs hg), hr.non, fun i c b hi ho => hr.lt i c b hi ((oc i c b).1 ho), fun i j c d b hi hj h1 h2 => hr.disj i j c d b hi hj ((oc i c b).1 h1) ((oc j d b).1 h2), hr.imm, fun l' hl' => ?_, fun D hD => ⟨(hM D hD).1, fun hk => hk.2.2 hD, fun i c hi ho => (hM D hD).2 ⟨i, c, hi, (oc i c D).1 ho⟩⟩⟩, ⟨fun _ _ => rfl, fun i c b hi ho hk => hk.2.1 ⟨i, c, hi, (oc i c b).1 ho⟩, Nat.le_refl _, fun b hk => hk.1, Same3.refl w⟩⟩
  have : l = l' := by cases hl'; rfl
  subst this
  exact ⟨⟨r, hl⟩, fun i c hi ho => hno ⟨i, c, hi, (oc i c l).1 ho⟩⟩
theorem cell_of_heap {w w' : World} {a : Addr} (h : w'.heap[a.block]? = w.heap[a.block]?) : w'.cell? a = w.cell? a := by
  unfold World.cell?; rw [h]
theorem immOK_put {imm : Imm} {w : World} (h : immOK imm w) {l : Nat} {r : Loop} (hl : w.heap[l]? = some (.loop r)) (r' : Loop) : immOK imm (w.putObj l (.loop r')) := by
  intro b o u hu
  have h1 := h b o u hu
  by_cases e : b = l
  · subst e
    exfalso
    simp [World.cell?, hl] at h1
  · rw [cell_of_heap (World.putObj_heap_other e)]; exact h1
theorem R0.putLoop {E : Env} {h : Heap} {w : World} (hr : R0 S E h w) (hrn : E.rnd = none) (hmk : E.marks = []) {l : Nat} {r : Loop} (hl : w.heap[l]? = some (.loop r)) (hno : ¬ ownsH E h l) (r' : Loop) : R0 S E h (w.putObj l (.loop r')) := by
  have hap : Apart E h w E.imm (w.putObj l (.loop r')) := ⟨fun i c b hi ho => World.putObj_heap_other (fun e => hno ⟨i, c, hi, e ▸ ho⟩), fun _ _ _ _ _ _ => rfl, fun _ _ _ h => h, immOK_put hr.imm hl r', by simp, ⟨rfl, rfl, rfl⟩, fun l hl => (by rw [hrn] at hl; cases hl), fun D hD => (by rw [hmk] at hD; cases hD)⟩
  exact hr.apart hap
def stopOf : AExit → Bool | .normal => false | _ => true
def jumpOf : AExit → Option Code | .exit i => some (.exit i) | .goto l => some (.goto l) | .ret => some .ret | _ => none
def loopRec (fn : FuncId) (tmps : Array Value) (ps : Array Tmp) (assign body : Code) (d : Nat) (e : AExit) : Loop :=
  { state := if stopOf e then .done else .ready, pending := jumpOf e, fn, tmps, params := ps, assign, body, defers := d }
def rangeJ (S : Seat) (E0 : Env) (l : Nat) (rc : AExit → Loop) (I : List (List AV) → AExit → Heap → Prop) : CbJ := fun seen st fp imm w =>
  ∃ E2 h2 e, I seen e h2 ∧ (∀ v, e ≠ .pan v) ∧ st = stopOf e ∧ R0 S E2 h2 w ∧ LExt E0 E2 ∧ E2.rnd = none ∧ E2.marks = [] ∧ E2.imm = imm ∧
    (∀ b, fp b ↔ ownsH E2 h2 b ∨ b = l) ∧ w.heap[l]? = some (.loop (rc e)) ∧ ¬ ownsH E2 h2 l
def setPs : List Nat → List AV → List AV → List AV
  | p :: ps, a :: as0, t => setPs ps as0 (t.set p a)
  | _, _, t => t
theorem setPs_run {E : Env} : ∀ (ps : List Nat) (as0 : List AV) (as0' : List Value) (t : List AV) (u : Array Value), VRL E as0 as0' → VRL E t u.toList → VRL E (setPs ps as0 t) ((ps.zip as0').foldl (fun tmps x => tmps.setIfInBounds x.1 x.2) u).toList
  | [], _, _, t, u, _, ht => by simpa [setPs] using ht
  | p :: ps, [], as0', t, u, ha, ht => by
    obtain rfl : as0' = [] := by simpa only [VRL] using ha
    simpa [setPs] using ht
  | p :: ps, a :: as0, as0', t, u, ha, ht => by
    obtain ⟨v, vs, rfl, hv, hvs⟩ := ha.uncons
    simp only [setPs, List.zip_cons_cons, List.foldl_cons]
    refine setPs_run ps as0 vs _ _ hvs ?_
    rw [Array.toList_setIfInBounds]
    exact ht.set p hv
end Go.Abs
namespace Go.Abs
open Go.RowKit
variable {S : Seat} {B : List Deferred}
theorem lext_round (E : Env) (h : Heap) (w : World) (l : Nat) (M : List Nat) : LExt E (E.round h w l M) := ⟨fun _ _ h => h, fun _ F v h => ⟨F, v, h, .inr ⟨rfl, rfl⟩⟩, fun _ _ h => ⟨h, rfl⟩, fun _ _ _ h => h⟩
theorem lext_lone (E : Env) : LExt E E.lone := ⟨fun _ _ h => h, fun _ F v h => ⟨F, v, h, .inr ⟨rfl, rfl⟩⟩, fun _ _ h => ⟨h, rfl⟩, fun _ _ _ h => h⟩
def RoundOK (S : Seat) (n : Nat) (ps : List Nat) (assign body : Code) (t : List AV) (acc : List (List AV) → List AV → Prop) (I : List (List AV) → AExit → Heap → Prop) : Prop :=
  ∀ seen args h1, acc seen args → I seen .normal h1 → args.length = ps.length ∧
    Sat S assign (setPs ps args t) h1 (fun x t1 h2 => x = .normal ∧ Sat S body t1 h2 (fun x _ h3 => (∀ v, x ≠ .pan v) ∧ I (seen ++ [args]) x (takeH n h3) ∧ IdsH (· < n) (takeH n h3)))
theorem ownsH_lone {E : Env} {h : Heap} {b : Nat} : ownsH E.lone h b ↔ ownsH E h b := by
  unfold ownsH; constructor <;> rintro ⟨i, c, hi, ho⟩ <;> exact ⟨i, c, hi, (ownsC_same (E := E) (E' := E.lone) rfl rfl rfl i c b).1 ho⟩
theorem round_after {E : Env} {h : Heap} {w : World} {l : Nat} {M : List Nat} {E' : Env} {h' : Heap} {w' : World} (hx : Ext (E.round h w l M) E') (hr : R S E' h' w') :
    (∀ b, b < w.heap.size → ¬ ownsH E h b → b ∉ M → w'.heap[b]? = w.heap[b]?) ∧ (∀ b, b < w.heap.size → ¬ ownsH E h b → b ∉ M → ∀ o, E'.imm b o = E.imm b o) ∧ (∀ b, ownsH E' h' b ∨ b ∈ E'.marks → (ownsH E h b ∨ b ∈ M) ∨ w.heap.size ≤ b) ∧ w.heap.size ≤ w'.heap.size ∧ Same3 w w' := by
  have key : ∀ b, ¬ E'.keep b → (ownsH E h b ∨ b ∈ M) ∨ w.heap.size ≤ b := fun b hk => by
    rw [hx.keep] at hk
    by_cases hlt : b < w.heap.size
    · left
      refine Classical.byContradiction fun hn => hk ⟨hlt, fun h => hn (.inl h), fun h => hn (.inr h)⟩
    · exact .inr (Nat.le_of_not_lt hlt)
  refine ⟨fun b hb hn hm => ?_, fun b hb hn hm o => hx.new b o ⟨hb, hn, hm⟩, fun b hb => key b ?_, ?_, ?_⟩
  · have := hr.kp.same b (by rw [hx.keep]; exact ⟨hb, hn, hm⟩); rw [hx.base] at this; exact this
  · rcases hb with ⟨i, c, hi, ho⟩ | hb
    · exact hr.kp.keep i c b hi ho
    · exact (hr.r0.mks b hb).2.1
  · have := hr.kp.size; rw [hx.base] at this; exact this
  · have := hr.kp.s3; rw [hx.base] at this; exact this
theorem LExt.forget {E E' : Env} (hx : LExt E E') {n : Nat} (hn : ∀ i, n ≤ i → E.blk i = none ∧ E.tok i = none ∧ E.cbv i = none) : LExt E (E'.forget n) where
  blk i b h := by
    have hi : i < n := Nat.lt_of_not_le fun hge => by rw [(hn i hge).1] at h; cases h
    exact (if_pos hi).trans (hx.blk i b h)
  tok i F v h := by
    have hi : i < n := Nat.lt_of_not_le fun hge => by rw [(hn i hge).2.1] at h; cases h
    obtain ⟨F', v', h1, h2⟩ := hx.tok i F v h
    exact ⟨F', v', (if_pos hi).trans h1, h2⟩
  cbv i v h := by
    have hi : i < n := Nat.lt_of_not_le fun hge => by rw [(hn i hge).2.2] at h; cases h
    exact ⟨(if_pos hi).trans (hx.cbv i v h).1, (hx.cbv i v h).2⟩
  imm := hx.imm
theorem ownsH_forget {E : Env} {h : Heap} {n b : Nat} (ho : ownsH (E.forget n).lone (takeH n h) b) : ownsH E h b := by
  obtain ⟨i, c, hi, ho⟩ := ho
  rw [takeH_eq, List.getElem?_take] at hi
  split at hi
  · rename_i hlt
    have hs := SameOn.forget E n
    exact ⟨i, c, hi, (ownsC_congr (hs.blk i hlt) (hs.tok i hlt) rfl c b).1 ((ownsC_same (E := E.forget n) (E' := (E.forget n).lone) rfl rfl rfl i c b).1 ho)⟩
  · cases hi
theorem rangeJ_ok (hG : GOK S) {n : Nat} {E0 : Env} (hn0 : ∀ i, n ≤ i → E0.blk i = none ∧ E0.tok i = none ∧ E0.cbv i = none) {l : Nat} {fn : FuncId} {tmps : Array Value} {ps : Array Tmp} {assign body : Code} {d : Nat} {t : List AV} {acc : List (List AV) → List AV → Prop} {I : List (List AV) → AExit → Heap → Prop}
    (ht : VRL E0 t tmps.toList) (hround : RoundOK S n ps.toList assign body t acc I) :
    CbOK S.P (.func (.yield l) #[] #[]) acc (rangeJ S E0 l (loopRec fn tmps ps assign body d) I) where
  isfn := ⟨_, _, _, rfl, fun n h => by cases h⟩
  own := by
    rintro seen st fp imm w ⟨E2, h2, e, hI, hp, hst, hr0, hx, hrn, hmk, hi, hfp, hl, hno⟩ b hb
    rcases (hfp b).1 hb with ⟨i, c, h1, h3⟩ | rfl
    · exact hr0.lt i c b h1 h3
    · exact (Array.getElem?_eq_some_iff.1 hl).1
  loc := by
    rintro seen st fp imm w imm' w' ⟨E2, h2, e, hI, hp, hst, hr0, hx, hrn, hmk, rfl, hfp, hl, hno⟩ hs hsI hm hok hsz hs3
    have hap : Apart E2 h2 w imm' w' := ⟨fun i c b hi ho => hs b ((hfp b).2 (.inl ⟨i, c, hi, ho⟩)), fun i c b hi ho o => hsI b ((hfp b).2 (.inl ⟨i, c, hi, ho⟩)) o, hm, hok, hsz, hs3, fun l hl => (by rw [hrn] at hl; cases hl), fun D hD => (by rw [hmk] at hD; cases hD)⟩
    have hoe : ∀ b, ownsH (E2.withImm imm') h2 b ↔ ownsH E2 h2 b := fun b => by
      unfold ownsH; constructor <;> rintro ⟨i, c, hi, ho⟩ <;> exact ⟨i, c, hi, by rwa [ownsC_withImm] at *⟩
    refine ⟨E2.withImm imm', h2, e, hI, hp, hst, hr0.apart hap, hx.trans ⟨fun _ _ h => h, fun _ F v h => ⟨F, v, h, .inr ⟨rfl, rfl⟩⟩, fun _ _ h => ⟨h, rfl⟩, hm⟩, hrn, hmk, rfl, fun b => by rw [hoe]; exact hfp b, ?_, by rw [hoe]; exact hno⟩
    rw [hs l ((hfp l).2 (.inr rfl))]; exact hl
  call := by
    rintro seen fp imm w args args' hacc ⟨E2, h2, e, hI, hp, hst, hr0, hx, hrn, hmk, rfl, hfp, hl, hno⟩ hok hargs
    have he : e = .normal := by cases e <;> simp [stopOf] at hst ⊢
    subst he
    obtain ⟨hlen, hsat⟩ := hround seen args h2 hacc hI
    have hargs2 : VRL E2 args args' := VRL.mono (E := closedEnv E2.imm) (E' := E2) ⟨fun _ _ h => (by cases h), fun _ _ _ h => (by cases h), fun _ _ h => (by cases h), fun _ _ _ h => h⟩ _ _ hargs
    have hal : args'.length = args.length := hargs2.length.symm
    have hlt : l < w.heap.size := (Array.getElem?_eq_some_iff.1 hl).1
    refine .inr ⟨l, fn, _, assign, body, rfl, run_yield hl (by simp [loopRec, hal, hlen]), ?_⟩
    refine roundIn_of_wpIn trivial ?_
    have hact : ActR [] (E2.round h2 w l []) (setPs ps.toList args t) { tmps := (ps.zip args'.toArray).foldl (fun tmps (x : Tmp × Value) => tmps.setIfInBounds x.1 x.2) tmps, defers := [] } := by
      refine ⟨?_, rfl, List.nodup_nil⟩
      have := setPs_run ps.toList args args' t tmps (hargs2.mono (lext_round E2 h2 w l []).v) (ht.mono (hx.trans (lext_round E2 h2 w l [])).v)
      rw [← Array.foldl_toList]
      simpa using this
    have hA := hsat.out [] (E2.round h2 w l []) w _ (hr0.round hl hno (fun D hD => (by cases hD))) hact
    refine wpIn_mono hA ?_
    rintro e a1 w1 ⟨Ea, t1, h3, x, hxa, hRa, hacta, hex, rfl, hbody⟩
    simp only [ExitR] at hex; subst hex
    obtain ⟨s1, s2, s3, s4, s5⟩ := round_after hxa hRa
    have hl1 : w1.heap[l]? = some (.loop (loopRec fn tmps ps assign body d .normal)) := by rw [s1 l hlt hno (by simp)]; exact hl
    have s3' : ∀ b, ownsH Ea h3 b ∨ b ∈ Ea.marks → ownsH E2 h2 b ∨ w.heap.size ≤ b := fun b hb => by
      rcases s3 b hb with (h | h) | h
      · exact .inl h
      · cases h
      · exact .inr h
    have hnoa : ¬ ownsH Ea h3 l := fun h => by
      rcases s3' l (.inl h) with h | h
      · exact hno h
      · omega
    have hlm : l ∉ Ea.marks := fun h => by
      rcases s3' l (.inr h) with h | h
      · exact hno h
      · omega
    have hlt1 : l < w1.heap.size := (Array.getElem?_eq_some_iff.1 hl1).1
    refine ⟨_, run_beginRound hl1 rfl, ?_⟩
    generalize hrb : ({ loopRec fn tmps ps assign body d .normal with state := .busy } : Loop) = rb
    have hl2 : (w1.putObj l (.loop rb)).heap[l]? = some (.loop rb) := World.putObj_heap_same hlt1
    have hr2 : R0 S Ea.lone h3 (w1.putObj l (.loop rb)) := hRa.r0.lone.putLoop rfl rfl hl1 (by rw [ownsH_lone]; exact hnoa) rb
    have hno2 : ¬ ownsH Ea.lone h3 l := by rw [ownsH_lone]; exact hnoa
    have hact2 : ActR [] (Ea.lone.round h3 (w1.putObj l (.loop rb)) l Ea.marks) t1 a1 := by
      exact ⟨hacta.1.mono ((lext_lone Ea).trans (lext_round _ _ _ _ _)).v, hacta.2.1, hacta.2.2⟩
    have hM : ∀ D ∈ Ea.marks, (w1.putObj l (.loop rb)).heap[D]? = some (.deferred (some [])) ∧ ¬ ownsH Ea.lone h3 D := fun D hD => by
      obtain ⟨m1, m2, m3⟩ := hRa.r0.mks D hD
      refine ⟨?_, ?_⟩
      · rw [World.putObj_heap_other (fun h => hlm (by rw [← h]; exact hD))]; exact m1
      · rw [ownsH_lone]; rintro ⟨i, c, hi, ho⟩; exact m3 i c hi ho
    have hB := hbody.out [] (Ea.lone.round h3 (w1.putObj l (.loop rb)) l Ea.marks) _ a1 (hr2.round hl2 hno2 hM) hact2
    refine wpIn_mono hB ?_
    rintro e a2 w3 ⟨Eb, t2, h4, x, hxb, hRb, hactb, hex, hpan, hI2, hids⟩
    obtain ⟨u1, u2, u3, u4, u5⟩ := round_after hxb hRb
    have hl3 : w3.heap[l]? = some (.loop rb) := by rw [u1 l (by simpa using hlt1) hno2 hlm]; exact hl2
    have hnob : ¬ ownsH Eb h4 l := fun h => by
      rcases u3 l (.inl h) with (h | h) | h
      · exact hno2 h
      · exact hlm h
      · simp at h; omega
    have hlt3 : l < w3.heap.size := (Array.getElem?_eq_some_iff.1 hl3).1
    have fin : ∀ jump, jump = jumpOf x → jump.isNone = !stopOf x → ∃ v w', (Instr.endRound l jump).run S.P w3 = .ok v w' ∧
        ∃ st fp2 imm2, Ending.returned v = .returned (.bool (!st)) ∧ rangeJ S E0 l (loopRec fn tmps ps assign body d) I (seen ++ [args]) st fp2 imm2 w' ∧ (∀ b o u, E2.imm b o = some u → imm2 b o = some u) ∧ immOK imm2 w' ∧
          (∀ b, b < w.heap.size → ¬ fp b → w'.heap[b]? = w.heap[b]?) ∧ (∀ b, b < w.heap.size → ¬ fp b → ∀ o, imm2 b o = E2.imm b o) ∧ (∀ b, fp2 b → fp b ∨ w.heap.size ≤ b) ∧ w.heap.size ≤ w'.heap.size ∧ Same3 w w' := by
      rintro jump hj hjn
      refine ⟨_, _, run_endRound jump hl3, stopOf x, fun b => ownsH (Eb.forget n).lone (takeH n h4) b ∨ b = l, Eb.imm, by rw [hjn], ?_, ?_, ?_, ?_, ?_, ?_, ?_, ?_⟩
      · have hrec : ({ rb with state := if jump.isNone then .ready else .done, pending := jump } : Loop) = loopRec fn tmps ps assign body d x := by
          subst hrb
          unfold loopRec
          simp only
          rw [hjn, hj]
          cases stopOf x <;> simp
        rw [hrec]
        refine ⟨(Eb.forget n).lone, takeH n h4, x, hI2, hpan, rfl, (hRb.forget hG n hids).r0.lone.putLoop rfl rfl hl3 (fun h => hnob (ownsH_forget h)) _, ?_, rfl, rfl, rfl, fun b => Iff.rfl, World.putObj_heap_same hlt3, fun h => hnob (ownsH_forget h)⟩
        exact ((hx.trans ((lext_round E2 h2 w l []).trans (hxa.l.trans ((lext_lone Ea).trans ((lext_round _ _ _ _ _).trans hxb.l))))).forget hn0).trans (lext_lone _)
      · intro b o u hu
        exact hxb.imm b o u (hxa.imm b o u hu)
      · exact immOK_put hRb.r0.imm hl3 _
      · intro b hb hn
        have hne : b ≠ l := fun h => hn ((hfp b).2 (.inr h))
        have ho : ¬ ownsH E2 h2 b := fun h => hn ((hfp b).2 (.inl h))
        have ho2 : ¬ ownsH Ea.lone h3 b := fun h => by
          rw [ownsH_lone] at h
          rcases s3' b (.inl h) with h | h
          · exact ho h
          · omega
        have hm2 : b ∉ Ea.marks := fun h => by
          rcases s3' b (.inr h) with h | h
          · exact ho h
          · omega
        rw [World.putObj_heap_other hne, u1 b (by simp; omega) ho2 hm2, World.putObj_heap_other hne, s1 b hb ho (by simp)]
      · intro b hb hn o
        have ho : ¬ ownsH E2 h2 b := fun h => hn ((hfp b).2 (.inl h))
        have ho2 : ¬ ownsH Ea.lone h3 b := fun h => by
          rw [ownsH_lone] at h
          rcases s3' b (.inl h) with h | h
          · exact ho h
          · omega
        have hm2 : b ∉ Ea.marks := fun h => by
          rcases s3' b (.inr h) with h | h
          · exact ho h
          · omega
        rw [u2 b (by simp; omega) ho2 hm2 o]
        exact s2 b hb ho (by simp) o
      · rintro b (h | rfl)
        · have h := ownsH_forget h
          have k : ownsH Ea h3 b ∨ b ∈ Ea.marks → fp b ∨ w.heap.size ≤ b := fun h => (s3' b h).imp (fun h => (hfp b).2 (.inl h)) id
          rcases u3 b (.inl h) with (h | h) | h
          · rw [ownsH_lone] at h
            exact k (.inl h)
          · exact k (.inr h)
          · simp at h; exact .inr (by omega)
        · exact .inl ((hfp b).2 (.inr rfl))
      · simp at u4 ⊢; omega
      · exact ⟨u5.os.trans s5.os, u5.tape.trans s5.tape, u5.output.trans s5.output⟩
    cases x with
    | normal => simp only [ExitR] at hex; subst hex; exact fin none rfl rfl
    | ret => simp only [ExitR] at hex; subst hex; exact fin (some .ret) rfl rfl
    | exit i => simp only [ExitR] at hex; subst hex; exact fin (some (.exit i)) rfl rfl
    | goto i => simp only [ExitR] at hex; subst hex; exact fin (some (.goto i)) rfl rfl
    | pan v => exact absurd rfl (hpan v)
end Go.Abs
namespace Go.Abs
open Go.RowKit
variable {S : Seat} {B : List Deferred}
theorem enter_run {E : Env} {h : Heap} {w : World} (hr : R S E h w) (gn : FuncId) (tmps : Array Value) (ps : Array Tmp) (assign body : Code) :
    ∃ (l : Nat) (mark : List Deferred) (w1 : World) (M : List Nat) (d : Nat), (Instr.enterLoop gn tmps ps assign body (fen E).round).run S.P w = .ok (l, mark) w1 ∧ w.heap.size ≤ w1.heap.size ∧ (∀ b, b < w.heap.size → w1.heap[b]? = w.heap[b]?) ∧
      w1.heap[l]? = some (.loop (loopRec gn tmps ps assign body d .normal)) ∧ mark = M.map markOf ∧ (∀ D ∈ M, w.heap.size ≤ D ∧ D ≠ l ∧ w1.heap[D]? = some (.deferred (some []))) ∧ M.Nodup ∧ Same3 w w1 ∧ w.heap.size ≤ l := by
  cases hrn : E.rnd with
  | none =>
    have hf : (fen E).round = none := by unfold fen; rw [hrn]; rfl
    rw [hf]
    have hs : (w.alloc (.deferred (some []))).heap.size = w.heap.size + 1 := World.size_alloc _ _
    refine ⟨_, _, _, [w.heap.size], w.heap.size, run_enterLoop_outer gn tmps ps assign body, by simp only [World.size_alloc]; omega, fun b hb => ?_, ?_, rfl, fun D hD => ?_, by simp, ⟨rfl, rfl, rfl⟩, by omega⟩
    · rw [Below.heap_alloc _ _ _ (by omega), Below.heap_alloc _ _ _ hb]
    · have := World.alloc_heap_new (w.alloc (.deferred (some []))) (.loop { state := .ready, pending := none, fn := gn, tmps, params := ps, assign, body, defers := w.heap.size })
      rw [hs] at this; exact this
    · simp only [List.mem_singleton] at hD; subst hD
      refine ⟨Nat.le_refl _, by omega, ?_⟩
      rw [Below.heap_alloc _ _ _ (by omega)]; exact World.alloc_heap_new w _
  | some l0 =>
    obtain ⟨⟨r0, hl0⟩, _⟩ := hr.r0.rnd l0 hrn
    have hf : (fen E).round = some l0 := by unfold fen; rw [hrn]; rfl
    rw [hf]
    refine ⟨_, _, _, [], r0.defers, run_enterLoop_inner hl0 gn tmps ps assign body, by simp only [World.size_alloc]; omega, fun b hb => Below.heap_alloc _ _ _ hb, World.alloc_heap_new w _, rfl, fun D hD => (by cases hD), List.nodup_nil, ⟨rfl, rfl, rfl⟩, Nat.le_refl _⟩
theorem CallOut.calls {P : Program} {f : FuncId} {args : Array Value} {w : World} {R : Ending → World → Prop} (h : CallOut P f args w R) (hen : (callFunc f args).run P w = .ok (.enter f args) w) : Calls P f args w R := by
  rcases h with ⟨_, h2⟩ | ⟨v, w', h1, _⟩
  · exact h2
  · rw [hen] at h1; cases h1
theorem Sat.range (hS : SeatOK S) (hG : GOK S) {g : Operand} {ps : Array Tmp} {assign body : Code} {t : List AV} {h : Heap} {k : ExK} {f : Nat} {first caps : List AV}
    (hg : ev S.G t g = .fn f first caps) (hcl1 : ClosedL first) (hcl2 : ClosedL caps) {fn : Func} {c : Code} (hf : S.P.funcs[f]? = some fn) (hb : fn.body = some c) (hn : (fn.name == "runtime.NumGoroutine") = false)
    (acc : List (List AV) → List AV → Prop) (I : List (List AV) → AExit → Heap → Prop) (Fin : List (List AV) → Bool → Prop)
    (hcall : ACalls S f (first ++ .cb 0 :: caps) [.cb acc [] false] (fun r h' => (∃ v, r = .ret v) ∧ ∃ seen st, h'[0]? = some (.cb acc seen st) ∧ Fin seen st))
    (hI : I [] .normal h) (hround : RoundOK S h.length ps.toList assign body t acc I) (hfin : ∀ seen e h1, Fin seen (stopOf e) → I seen e h1 → k e t h1) : Sat S (.rangeFunc g ps assign body) t h k := by
  refine ⟨fun B E w a hr ha => ?_⟩
  have hgv := ev_VR hr ha g
  rw [hg] at hgv; simp only [VR] at hgv
  obtain ⟨us, ws, hval, hus, hws⟩ := hgv
  refine wpIn_rangeFunc (fun gn _ => ?_)
  obtain ⟨l, mark, w1, M, d, hent, hsz, hold, hl, hmark, hM, hMn, hs3, hlge⟩ := enter_run hr gn a.tmps ps assign body
  have hlt : l < w1.heap.size := (Array.getElem?_eq_some_iff.1 hl).1
  have hap : Apart E h w E.imm w1 := ⟨fun i c b hi ho => hold b (hr.r0.lt i c b hi ho), fun _ _ _ _ _ _ => rfl, fun _ _ _ h => h, fun b o u hu => by
      have h1 := hr.r0.imm b o u hu
      have hb : b < w.heap.size := by
        apply Classical.byContradiction; intro hn
        have : w.heap[b]? = none := Array.getElem?_eq_none (Nat.le_of_not_lt hn)
        simp [World.cell?, this] at h1
      rw [cell_of_heap (hold b hb)]; exact h1, hsz, hs3, fun l hl => by
      obtain ⟨⟨r, h1⟩, _⟩ := hr.r0.rnd l hl
      exact hold l (Array.getElem?_eq_some_iff.1 h1).1, fun D hD => hold D (Array.getElem?_eq_some_iff.1 (hr.r0.mks D hD).1).1⟩
  have hr1 : R0 S E h w1 := hr.r0.apart hap
  have hown : ∀ b, ownsH E h b → b < w.heap.size := fun b ⟨i, c, hi, ho⟩ => hr.r0.lt i c b hi ho
  have hnol : ¬ ownsH E h l := fun h => by have := hown l h; omega
  let Ec : Env := { blk := fun _ => none, tok := fun _ => none, fp := fun _ b => ownsH E h b ∨ b = l, cbv := fun i => if i = 0 then some (.func (.yield l) #[] #[]) else none, cbJ := fun _ => rangeJ S E l (loopRec gn a.tmps ps assign body d) I, imm := E.imm, keep := fun b => b < w1.heap.size ∧ ¬ (ownsH E h b ∨ b = l), base := w1, rnd := none, marks := [] }
  have hle : ImmLe E Ec := fun _ _ _ h => h
  have hJ : rangeJ S E l (loopRec gn a.tmps ps assign body d) I [] false (fun b => ownsH E h b ∨ b = l) E.imm w1 :=
    ⟨E.lone, h, .normal, hI, (by intro v h; cases h), rfl, hr1.lone, lext_lone E, rfl, rfl, rfl, fun b => by rw [ownsH_lone], hl, by rw [ownsH_lone]; exact hnol⟩
  have hRc : R S Ec [.cb acc [] false] w1 := by
    have h0 : ∀ i c, ([.cb acc [] false] : Heap)[i]? = some c → i = 0 ∧ c = .cb acc [] false := fun i c hi => by
      cases i with
      | zero => simp at hi; exact ⟨rfl, hi.symm⟩
      | succ i => simp at hi
    have hfp : ∀ b, (ownsH E h b ∨ b = l) → b < w1.heap.size := fun b hb => by
      rcases hb with hb | rfl
      · have := hown b hb; omega
      · exact hlt
    refine ⟨⟨fun i c hi => ?_, fun g cs hg => Closed.VRI hle cs g 0 (hG.glob g cs hg) (hr1.glob g cs hg), fun i hi => ⟨rfl, rfl, ?_⟩, fun i c b hi ho => ?_, fun i j c d b hi hj _ _ => ?_, hr1.imm, fun l hl => (by cases hl), fun D hD => (by cases hD)⟩, ⟨fun _ _ => rfl, fun i c b hi ho hk => ?_, Nat.le_refl _, fun b hk => hk.1, Same3.refl w1⟩⟩
    · obtain ⟨rfl, rfl⟩ := h0 i c hi
      simp only [CR]
      exact ⟨_, rfl, rangeJ_ok hG (fun i hi => hr.r0.non i (List.getElem?_eq_none hi)) ha.1 hround, hJ⟩
    · cases i with
      | zero => simp at hi
      | succ i => rfl
    · obtain ⟨rfl, rfl⟩ := h0 i c hi
      exact hfp b ho
    · rw [(h0 i c hi).1, (h0 j d hj).1]
    · obtain ⟨rfl, rfl⟩ := h0 i c hi
      exact hk.2 ho
  have hargs : VRL Ec (first ++ .cb 0 :: caps) (us ++ .func (.yield l) #[] #[] :: ws) := by
    refine (Closed.VRL hle _ _ hcl1 hus).append (VRL.cons ?_ (Closed.VRL hle _ _ hcl2 hws))
    simp only [VR]
    exact ⟨rfl, _, _, _, rfl, fun n h => by cases h⟩
  have hen : ∀ args w', (callFunc f args).run S.P w' = .ok (.enter f args) w' := fun args w' => by
    unfold callFunc
    simp only [beq_eq_false_iff_ne, ne_eq] at hn
    simp [Sem.run_bind, go_sem, hf, hn, hb]
  have hC := hcall Ec w1 (us ++ .func (.yield l) #[] #[] :: ws) rfl rfl hRc hargs
  have hC2 := hC.calls (hen _ _)
  refine ⟨l, mark, w1, { target := .fn (.func f) ws.toArray, args := us.toArray ++ #[.func (.yield l) #[] #[]] }, w1, f, (us ++ .func (.yield l) #[] #[] :: ws).toArray, w1, hent, ?_, fun f' _ => fen_fn E f', ?_, fun hd => (by rw [fen_depth] at hd; cases hd), ?_⟩
  · have hy : a.eval (.const (.func (.yield l) #[] #[])) = .func (.yield l) #[] #[] := rfl
    simp [resolve, rangeCall, hval, hy, Deferred.ofValue]
  · simp only [invoke]
    rw [show us.toArray ++ #[Value.func (.yield l) #[] #[]] ++ ws.toArray = (us ++ .func (.yield l) #[] #[] :: ws).toArray by simp]
    exact hen _ _
  refine (callsIn_fen hC2).mono ?_
  rintro e w3 ⟨E', h', r, hx, hm', hr', he, ⟨v, rfl⟩, seen, st, hget, hFin⟩
  obtain ⟨u, rfl, _⟩ := he
  have hcr := hr'.r0.ch 0 _ hget
  simp only [CR] at hcr
  obtain ⟨fv, hcbv, _, hJ'⟩ := hcr
  rw [(hx.cbv 0 _ rfl).2] at hJ'
  obtain ⟨E2, h2, e, hI2, hpan, rfl, hr0, hxl, hrn2, hmk2, himm, hfp, hl2, hno⟩ := hJ'
  have hlt3 : l < w3.heap.size := (Array.getElem?_eq_some_iff.1 hl2).1
  have hkeepc : ∀ b, b < w1.heap.size → ¬ (ownsH E h b ∨ b = l) → w3.heap[b]? = w1.heap[b]? := fun b h1 h2 => by
    have := hr'.kp.same b (by rw [hx.keep]; exact ⟨h1, h2⟩)
    rw [hx.base] at this; exact this
  have hown2 : ∀ b, ownsH E2 h2 b → ownsH E h b ∨ w1.heap.size ≤ b := fun b hb => by
    have h1 := hr'.kp.keep 0 _ b hget ((hfp b).2 (.inl hb))
    rw [hx.keep] at h1
    by_cases hlt : b < w1.heap.size
    · left
      apply Classical.byContradiction; intro hn
      refine h1 ⟨hlt, fun h => ?_⟩
      rcases h with h | rfl
      · exact hn h
      · exact hno hb
    · exact .inr (Nat.le_of_not_lt hlt)
  have hsz3 : w1.heap.size ≤ w3.heap.size := by have := hr'.kp.size; rw [hx.base] at this; exact this
  have hs33 : Same3 w1 w3 := by have := hr'.kp.s3; rw [hx.base] at this; exact this
  generalize hrl : ({ loopRec gn a.tmps ps assign body d e with state := .exhausted } : Loop) = rl
  have hrun := run_endLoop (P := S.P) hl2 (by unfold loopRec; cases e <;> simp [stopOf])
  rw [hrl] at hrun
  have hq0 : R0 S E2 h2 (w3.putObj l (.loop rl)) := hr0.putLoop hrn2 hmk2 hl2 hno rl
  have hw4 : ∀ b, b < w.heap.size → ¬ ownsH E h b → (w3.putObj l (.loop rl)).heap[b]? = w.heap[b]? := fun b hb hn => by
    rw [World.putObj_heap_other (by omega), hkeepc b (by omega) (by rintro (h | rfl); exact hn h; omega), hold b hb]
  let Ef : Env := { E2 with keep := E.keep, base := E.base, rnd := E.rnd, marks := M ++ E.marks }
  have oc : ∀ i c b, ownsC Ef i c b ↔ ownsC E2 i c b := fun i c b => ownsC_same rfl rfl rfl i c b
  have hnotD : ∀ D, D ∈ M ++ E.marks → ¬ ownsH E h D ∧ D < w1.heap.size ∧ D ≠ l := fun D hD => by
    rcases List.mem_append.1 hD with hD | hD
    · obtain ⟨h1, h2, h3⟩ := hM D hD
      exact ⟨fun h => by have := hown D h; omega, (Array.getElem?_eq_some_iff.1 h3).1, h2⟩
    · obtain ⟨h1, h2, h3⟩ := hr.r0.mks D hD
      have : D < w.heap.size := (Array.getElem?_eq_some_iff.1 h1).1
      exact ⟨fun ⟨i, c, hi, ho⟩ => h3 i c hi ho, by omega, by omega⟩
  have hRf : R S Ef h2 (w3.putObj l (.loop rl)) := by
    refine ⟨⟨fun i c hi => CR.same (E := E2) (E' := Ef) rfl rfl rfl rfl rfl rfl hq0.imm (hq0.ch i c hi), fun g cs hg => VRI.mono (VExt.of_eq (E := E2) (E' := Ef) rfl rfl rfl rfl) _ _ _ (hq0.glob g cs hg), hq0.non, fun i c b hi ho => hq0.lt i c b hi ((oc i c b).1 ho), fun i j c d b hi hj h1 h2 => hq0.disj i j c d b hi hj ((oc i c b).1 h1) ((oc j d b).1 h2), hq0.imm, fun l0 hl0 => ?_, fun D hD => ?_⟩, ⟨fun b hb => ?_, fun i c b hi ho hk => ?_, ?_, hr.kp.klt, ?_⟩⟩
    · obtain ⟨⟨r, h1⟩, h3⟩ := hr.r0.rnd l0 hl0
      have hlt0 : l0 < w.heap.size := (Array.getElem?_eq_some_iff.1 h1).1
      have hno0 : ¬ ownsH E h l0 := fun ⟨i, c, hi, ho⟩ => h3 i c hi ho
      refine ⟨⟨r, by rw [hw4 l0 hlt0 hno0]; exact h1⟩, fun i c hi ho => ?_⟩
      rcases hown2 l0 ⟨i, c, hi, (oc i c l0).1 ho⟩ with h | h
      · exact hno0 h
      · omega
    · obtain ⟨n1, n2, n3⟩ := hnotD D hD
      refine ⟨?_, ?_, fun i c hi ho => ?_⟩
      · rw [World.putObj_heap_other n3, hkeepc D n2 (by rintro (h | h); exact n1 h; exact n3 h)]
        rcases List.mem_append.1 hD with hD | hD
        · exact (hM D hD).2.2
        · have h1 := (hr.r0.mks D hD).1
          rw [hold D (Array.getElem?_eq_some_iff.1 h1).1]; exact h1
      · rcases List.mem_append.1 hD with hD | hD
        · intro hk
          have := Nat.lt_of_lt_of_le (hr.kp.klt D hk) hr.kp.size
          have := (hM D hD).1
          omega
        · exact (hr.r0.mks D hD).2.1
      · rcases hown2 D ⟨i, c, hi, (oc i c D).1 ho⟩ with h | h
        · exact n1 h
        · omega
    · have h1 := Nat.lt_of_lt_of_le (hr.kp.klt b hb) hr.kp.size
      have h2 : ¬ ownsH E h b := fun ⟨i, c, hi, ho⟩ => hr.kp.keep i c b hi ho hb
      rw [hw4 b h1 h2]; exact hr.kp.same b hb
    · have h1 := Nat.lt_of_lt_of_le (hr.kp.klt b hk) hr.kp.size
      rcases hown2 b ⟨i, c, hi, (oc i c b).1 ho⟩ with ⟨j, c2, hj, ho2⟩ | h
      · exact hr.kp.keep j c2 b hj ho2 hk
      · omega
    · have := hr.kp.size
      show E.base.heap.size ≤ (w3.putObj l (.loop rl)).heap.size
      rw [World.putObj_size]; omega
    · exact hr.kp.s3.trans (hs3.trans ⟨hs33.os, hs33.tape, hs33.output⟩)
  have hxf : Ext E Ef := ⟨hxl.blk, hxl.tok, hxl.cbv, hxl.imm, fun b o hb => by
      show E2.imm b o = E.imm b o
      rw [himm]
      have h1 := Nat.lt_of_lt_of_le (hr.kp.klt b hb) hr.kp.size
      exact hx.new b o ⟨by omega, fun h => by
        rcases h with ⟨i, c, hi, ho⟩ | rfl
        · exact hr.kp.keep i c b hi ho hb
        · omega⟩, rfl, rfl, rfl⟩
  have hactf : ActR B Ef t { a with defers := mark ++ a.defers } := by
    refine ⟨ha.1.mono hxf.v, ?_, ?_⟩
    · show mark ++ a.defers = (M ++ E.marks).map markOf ++ B
      rw [List.map_append, hmark, ha.2.1, List.append_assoc]
    · show (M ++ E.marks).Nodup
      rw [List.nodup_append]
      refine ⟨hMn, ha.2.2, fun x hx y hy hxy => ?_⟩
      subst hxy
      have h1 := (hM x hx).1
      have h2 := (Array.getElem?_eq_some_iff.1 (hr.r0.mks x hy).1).1
      omega
  have hk := hfin seen e h2 hFin hI2
  have hfe : fen Ef = fen E := fen_ext hxf
  have post : ∀ e a w, PostR S B Ef k e a w → PostR S B E k e a w := fun e a w hp => by
    obtain ⟨E3, t3, h3, x3, p1, p2, p3, p4, p5⟩ := hp
    exact ⟨E3, t3, h3, x3, hxf.trans p1, p2, p3, p4, p5⟩
  refine ⟨jumpOf e, _, hrun, ?_⟩
  cases e with
  | normal => exact ⟨Ef, t, h2, .normal, hxf, hRf, hactf, rfl, hk⟩
  | ret =>
    have := (codeR_sound hS .ret t h2 k hk).out B Ef _ _ hRf hactf
    rw [hfe] at this
    exact wpIn_mono this post
  | exit i =>
    have := (codeR_sound hS (.exit i) t h2 k hk).out B Ef _ _ hRf hactf
    rw [hfe] at this
    exact wpIn_mono this post
  | goto i =>
    have := (codeR_sound hS (.goto i) t h2 k hk).out B Ef _ _ hRf hactf
    rw [hfe] at this
    exact wpIn_mono this post
  | pan v => exact absurd rfl (hpan v)
end Go.Abs
namespace Go.Abs
open Go.RowKit
variable {S : Seat}
def SealV (i : Nat) (cs : List AV) (v v' : AV) : Prop := ∀ E E' u, VExt E E' → (∀ p, VR E (.ptr i 0) p → VR E' (.iptr cs) p) → VR E v u → VR E' v' u
def SealL (i : Nat) (cs : List AV) : List AV → List AV → Prop
  | [], [] => True
  | v :: l, v' :: l' => SealV i cs v v' ∧ SealL i cs l l'
  | _, _ => False
theorem SealV.refl {i : Nat} {cs : List AV} (v : AV) : SealV i cs v v := fun _ _ u h _ hv => VR.mono h v u hv
theorem SealV.ptr {i : Nat} {cs : List AV} : SealV i cs (.ptr i 0) (.iptr cs) := fun _ _ u _ hp hv => hp u hv
theorem SealL.run {i : Nat} {cs : List AV} {E E' : Env} (h : VExt E E') (hp : ∀ p, VR E (.ptr i 0) p → VR E' (.iptr cs) p) : ∀ {l l' : List AV} {us : List Value}, SealL i cs l l' → VRL E l us → VRL E' l' us
  | [], [], us, _, hv => by simpa only [VRL] using hv
  | v :: l, v' :: l', us, hs, hv => by
    obtain ⟨u, us', rfl, h1, h2⟩ := hv.uncons
    exact VRL.cons (hs.1 E E' u h hp h1) (SealL.run h hp hs.2 h2)
  | [], _ :: _, _, hs, _ => hs.elim
  | _ :: _, [], _, hs, _ => hs.elim
theorem SealV.fn {i : Nat} {cs : List AV} {f : Nat} {a a' b b' : List AV} (ha : SealL i cs a a') (hb : SealL i cs b b') : SealV i cs (.fn f a b) (.fn f a' b') := fun E E' u h hp hv => by
  simp only [VR] at hv ⊢
  obtain ⟨us, ws, rfl, h1, h2⟩ := hv
  exact ⟨us, ws, rfl, ha.run h hp h1, hb.run h hp h2⟩
theorem SealL.refl {i : Nat} {cs : List AV} : ∀ l, SealL i cs l l
  | [] => trivial
  | v :: l => ⟨SealV.refl v, SealL.refl l⟩
theorem SealL.setAt {i : Nat} {cs : List AV} {v' : AV} : ∀ {l : List AV} (j : Nat) {v : AV}, l[j]? = some v → SealV i cs v v' → SealL i cs l (l.set j v')
  | [], j, v, h, _ => by simp at h
  | x :: l, 0, v, h, hs => by simp at h; subst h; exact ⟨hs, SealL.refl l⟩
  | x :: l, j + 1, v, h, hs => ⟨SealV.refl x, SealL.setAt j (by simpa using h) hs⟩
end Go.Abs
namespace Go.Abs
variable {S : Seat}
theorem DrawH.cut {id : Nat} {ops : List Oper} {t : List AV} {h : Heap} {k : ExK} (T : List AV) (H : Heap) (h1 : DrawH S id ops t h (fun e t' h' => e = .normal ∧ WeakL t' T ∧ h' = H)) (h2 : k .normal T H) : DrawH S id ops t h k := by
  refine ⟨⟨fun B E w a hr ha => ?_⟩⟩
  refine wpIn_mono (h1.out.out B E w a hr ha) ?_
  rintro e a' w' ⟨E', t', h', x, p1, p2, p3, p4, rfl, p6, rfl⟩
  exact ⟨E', T, _, .normal, p1, p2, ⟨p6.run p3.1, p3.2⟩, p4, h2⟩
end Go.Abs
namespace Go.Abs
variable {S : Seat}
def storeK (sz o : Nat) (cs new : List AV) (k : List AV → Prop) : Prop :=
  match Nat.beq (lenN new) sz, natLe (o + lenN new) (lenN cs), okCells new with
  | true, true, true => spliceK cs o new k
  | _, _, _ => False
theorem storeK.mk {sz o : Nat} {cs new : List AV} {k : List AV → Prop} (cs' : List AV) (he : splice cs o new = cs') (h1 : new.length = sz) (h2 : o + new.length ≤ cs.length) (h3 : okCells new = true) (hk : k cs') : storeK sz o cs new k := by
  subst he
  have e1 : Nat.beq (lenN new) sz = true := by rw [lenN_eq, h1]; exact Nat.beq_refl sz
  have e2 : natLe (o + lenN new) (lenN cs) = true := natLe_eq.2 (by rw [lenN_eq, lenN_eq]; exact h2)
  unfold storeK
  rw [e1, e2, h3]
  simp only [spliceK_eq]
  exact hk
end Go.Abs
namespace Go.Abs
open Go.RowKit
variable {S : Seat}
mutual
def ren (ρ : Nat → Nat) : AV → AV
  | .ptr i o => .ptr (ρ i) o
  | .row i o len cap => .row (ρ i) o len cap
  | .cb i => .cb (ρ i)
  | .mapp i => .mapp (ρ i)
  | .vec cs len g => .vec (renL ρ cs) len (match g with | some i => some (ρ i) | none => none)
  | .iptr cs => .iptr (renL ρ cs)
  | .fn f a b => .fn f (renL ρ a) (renL ρ b)
  | .ifc t v => .ifc t (ren ρ v)
  | .agg cs => .agg (renL ρ cs)
  | .tup cs => .tup (renL ρ cs)
  | .undef => .undef
  | .bool b => .bool b
  | .int k n => .int k n
  | .str s => .str s
  | .nilp => .nilp
  | .nils => .nils
  | .nilf => .nilf
  | .nili => .nili
  | .nilm => .nilm
def renL (ρ : Nat → Nat) : List AV → List AV
  | [] => []
  | c :: cs => ren ρ c :: renL ρ cs
end
mutual
theorem Closed.ren (ρ : Nat → Nat) : ∀ (a : AV), Closed a → Abs.ren ρ a = a
  | .undef, _ => by simp only [Abs.ren]
  | .bool _, _ => by simp only [Abs.ren]
  | .int _ _, _ => by simp only [Abs.ren]
  | .str _, _ => by simp only [Abs.ren]
  | .nilp, _ => by simp only [Abs.ren]
  | .ptr i o, h => by simp only [Closed] at h
  | .iptr cs, h => by simp only [Closed] at h; simp only [Abs.ren]; rw [ClosedL.ren ρ cs h]
  | .nils, _ => by simp only [Abs.ren]
  | .vec cs len g, h => by
    simp only [Closed] at h; obtain ⟨rfl, h⟩ := h; simp only [Abs.ren]; rw [ClosedL.ren ρ cs h]
  | .row i o len cap, h => by simp only [Closed] at h
  | .nilf, _ => by simp only [Abs.ren]
  | .fn f a b, h => by simp only [Closed] at h; simp only [Abs.ren]; rw [ClosedL.ren ρ a h.1, ClosedL.ren ρ b h.2]
  | .cb i, h => by simp only [Closed] at h
  | .nili, _ => by simp only [Abs.ren]
  | .ifc t v, h => by simp only [Closed] at h; simp only [Abs.ren]; rw [Closed.ren ρ v h]
  | .agg cs, h => by simp only [Closed] at h; simp only [Abs.ren]; rw [ClosedL.ren ρ cs h]
  | .tup cs, h => by simp only [Closed] at h; simp only [Abs.ren]; rw [ClosedL.ren ρ cs h]
  | .mapp i, h => by simp only [Closed] at h
  | .nilm, _ => by simp only [Abs.ren]
theorem ClosedL.ren (ρ : Nat → Nat) : ∀ (cs : List AV), ClosedL cs → renL ρ cs = cs
  | [], _ => by simp only [renL]
  | c :: cs, h => by simp only [ClosedL] at h; simp only [renL]; rw [Closed.ren ρ c h.1, ClosedL.ren ρ cs h.2]
end
structure RenE (ρ : Nat → Nat) (E E' : Env) : Prop where
  blk : ∀ j, E'.blk (ρ j) = E.blk j
  tok : ∀ j, E'.tok (ρ j) = E.tok j
  cbv : ∀ j, E'.cbv (ρ j) = E.cbv j
  cbJ : ∀ j, E'.cbJ (ρ j) = E.cbJ j
  fp : ∀ j, E'.fp (ρ j) = E.fp j
  imm : E'.imm = E.imm
theorem tokOK_ren {ρ : Nat → Nat} {E E' : Env} (h : RenE ρ E E') {g : Option Nat} {len : Nat} {v : Value} : tokOK E' (match g with | some i => some (ρ i) | none => none) len v ↔ tokOK E g len v := by
  cases g with
  | none => exact Iff.intro (fun _ i hi => nomatch hi) (fun _ i hi => nomatch hi)
  | some j =>
    constructor
    · intro k i hi
      cases hi
      obtain ⟨F, v0, h1, h2⟩ := k (ρ j) rfl
      exact ⟨F, v0, by rw [← h.tok j]; exact h1, h2⟩
    · intro k i hi
      cases hi
      obtain ⟨F, v0, h1, h2⟩ := k j rfl
      exact ⟨F, v0, by rw [h.tok j]; exact h1, h2⟩
mutual
theorem VR_ren {ρ : Nat → Nat} {E E' : Env} (h : RenE ρ E E') : ∀ (a : AV) (v : Value), VR E' (ren ρ a) v ↔ VR E a v
  | .undef, _ => by simp only [ren, VR]
  | .bool b, v => by simp only [ren, VR]
  | .int k n, v => by simp only [ren, VR]
  | .str s, v => by simp only [ren, VR]
  | .nilp, v => by simp only [ren, VR]
  | .ptr i o, v => by simp only [ren, VR, h.blk]
  | .iptr cs, v => by
    simp only [ren, VR]
    exact ⟨fun ⟨b, o, e, hi⟩ => ⟨b, o, e, (VRI_ren h cs b o).1 hi⟩, fun ⟨b, o, e, hi⟩ => ⟨b, o, e, (VRI_ren h cs b o).2 hi⟩⟩
  | .nils, v => by simp only [ren, VR]
  | .vec cs len g, v => by
    simp only [ren, VR]
    refine ⟨?_, ?_⟩
    · rintro ⟨a, cap, e, hc, hi, ht⟩
      refine ⟨a, cap, e, hc, ?_, (tokOK_ren h).1 ht⟩
      rcases hi with hi | ⟨b, o, ha, hi⟩
      · exact .inl (by cases cs with | nil => rfl | cons c cs => simp [renL] at hi)
      · exact .inr ⟨b, o, ha, (VRI_ren h cs b o).1 hi⟩
    · rintro ⟨a, cap, e, hc, hi, ht⟩
      refine ⟨a, cap, e, hc, ?_, (tokOK_ren h).2 ht⟩
      rcases hi with hi | ⟨b, o, ha, hi⟩
      · exact .inl (by rw [hi]; simp only [renL])
      · exact .inr ⟨b, o, ha, (VRI_ren h cs b o).2 hi⟩
  | .row i o len cap, v => by simp only [ren, VR, h.blk]
  | .nilf, v => by simp only [ren, VR]
  | .fn f first caps, v => by
    simp only [ren, VR]
    exact ⟨fun ⟨us, ws, e, h1, h2⟩ => ⟨us, ws, e, (VRL_ren h first us).1 h1, (VRL_ren h caps ws).1 h2⟩, fun ⟨us, ws, e, h1, h2⟩ => ⟨us, ws, e, (VRL_ren h first us).2 h1, (VRL_ren h caps ws).2 h2⟩⟩
  | .cb i, v => by simp only [ren, VR, h.cbv]
  | .nili, v => by simp only [ren, VR]
  | .ifc t x, v => by
    simp only [ren, VR]
    exact ⟨fun ⟨u, e, hu⟩ => ⟨u, e, (VR_ren h x u).1 hu⟩, fun ⟨u, e, hu⟩ => ⟨u, e, (VR_ren h x u).2 hu⟩⟩
  | .agg cs, v => by
    simp only [ren, VR]
    exact ⟨fun ⟨us, e, hu⟩ => ⟨us, e, (VRL_ren h cs us).1 hu⟩, fun ⟨us, e, hu⟩ => ⟨us, e, (VRL_ren h cs us).2 hu⟩⟩
  | .tup cs, v => by
    simp only [ren, VR]
    exact ⟨fun ⟨us, e, hu⟩ => ⟨us, e, (VRL_ren h cs us).1 hu⟩, fun ⟨us, e, hu⟩ => ⟨us, e, (VRL_ren h cs us).2 hu⟩⟩
  | .mapp i, v => by simp only [ren, VR, h.blk]
  | .nilm, v => by simp only [ren, VR]
theorem VRI_ren {ρ : Nat → Nat} {E E' : Env} (h : RenE ρ E E') : ∀ (cs : List AV) (b o : Nat), VRI E' (renL ρ cs) b o ↔ VRI E cs b o
  | [], b, o => by simp only [renL, VRI]
  | c :: cs, b, o => by
    simp only [renL, VRI, h.imm]
    exact ⟨fun ⟨⟨u, e, hu⟩, hr⟩ => ⟨⟨u, e, (VR_ren h c u).1 hu⟩, (VRI_ren h cs b (o + 1)).1 hr⟩, fun ⟨⟨u, e, hu⟩, hr⟩ => ⟨⟨u, e, (VR_ren h c u).2 hu⟩, (VRI_ren h cs b (o + 1)).2 hr⟩⟩
theorem VRL_ren {ρ : Nat → Nat} {E E' : Env} (h : RenE ρ E E') : ∀ (cs : List AV) (us : List Value), VRL E' (renL ρ cs) us ↔ VRL E cs us
  | [], us => by simp only [renL, VRL]
  | c :: cs, us => by
    simp only [renL, VRL]
    exact ⟨fun ⟨u, us', e, hu, hr⟩ => ⟨u, us', e, (VR_ren h c u).1 hu, (VRL_ren h cs us').1 hr⟩, fun ⟨u, us', e, hu, hr⟩ => ⟨u, us', e, (VR_ren h c u).2 hu, (VRL_ren h cs us').2 hr⟩⟩
end
def renC (ρ : Nat → Nat) : Chunk → Chunk
  | .var cs t => .var (renL ρ cs) t
  | .ro cs => .ro (renL ρ cs)
  | .tok F t sz => .tok F t sz
  | .cb acc seen st => .cb acc seen st
  | .dead => .dead
  | .unborn => .unborn
def renR (ρ : Nat → Nat) : AEnd → AEnd
  | .ret v => .ret (ren ρ v)
  | .pan v => .pan (ren ρ v)
def renH (ρ : Nat → Nat) : Heap → Heap
  | [] => []
  | c :: h => renC ρ c :: renH ρ h
theorem renH_get (ρ : Nat → Nat) : ∀ (h : Heap) (i : Nat), (renH ρ h)[i]? = (h[i]?).map (renC ρ)
  | [], i => by simp [renH]
  | c :: a, 0 => by simp [renH]
  | c :: a, i + 1 => by simp [renH, renH_get ρ a i]
theorem CR_ren {ρ : Nat → Nat} {E E' : Env} (h : RenE ρ E E') {P : Program} {w : World} {j : Nat} : ∀ (c : Chunk), CR P E' w (ρ j) (renC ρ c) ↔ CR P E w j c
  | .var cs t => by simp only [renC, CR, h.blk, h.tok, h.imm, VRL_ren h]
  | .ro cs => by simp only [renC, CR, h.blk, VRI_ren h]
  | .tok F t sz => by simp only [renC, CR, h.tok, h.imm]
  | .cb acc seen st => by simp only [renC, CR, h.cbv, h.cbJ, h.fp, h.imm]
  | .dead => by simp only [renC, CR]
  | .unborn => by simp only [renC, CR, h.blk, h.tok, h.cbv]
theorem ownsC_ren {ρ : Nat → Nat} {E E' : Env} (h : RenE ρ E E') {j b : Nat} : ∀ (c : Chunk), ownsC E' (ρ j) (renC ρ c) b ↔ ownsC E j c b
  | .var cs t => by simp only [renC, ownsC, h.blk]
  | .ro cs => by simp only [renC, ownsC]
  | .tok F t sz => by simp only [renC, ownsC, h.tok]
  | .cb acc seen st => by simp only [renC, ownsC, h.fp]
  | .dead => by simp only [renC, ownsC]
  | .unborn => by simp only [renC, ownsC]
def rho : List Nat → Nat → Nat → Nat
  | [], n, j => n + j
  | i :: _, _, 0 => i
  | _ :: L, n, j + 1 => rho L n j
theorem rho_lt : ∀ {L : List Nat} {n j i : Nat}, L[j]? = some i → rho L n j = i
  | i0 :: L, n, 0, i, h => by simp at h; simp [rho, h]
  | i0 :: L, n, j + 1, i, h => by simp at h; simp [rho, rho_lt h]
theorem rho_ge : ∀ {L : List Nat} {n j : Nat}, L.length ≤ j → rho L n j = n + (j - L.length)
  | [], n, j, h => by simp [rho]
  | i0 :: L, n, 0, h => by simp at h
  | i0 :: L, n, j + 1, h => by simp at h; simp [rho, rho_ge h]
theorem rho_inj {L : List Nat} {n : Nat} (hn : L.Nodup) (hlt : ∀ i ∈ L, i < n) {a b : Nat} (h : rho L n a = rho L n b) : a = b := by
  by_cases ha : a < L.length
  · by_cases hb : b < L.length
    · rw [rho_lt (List.getElem?_eq_getElem ha), rho_lt (List.getElem?_eq_getElem hb)] at h
      exact (List.getElem_inj hn).1 h
    · rw [rho_lt (List.getElem?_eq_getElem ha), rho_ge (Nat.le_of_not_lt hb)] at h
      have := hlt _ (List.getElem_mem ha); omega
  · by_cases hb : b < L.length
    · rw [rho_lt (List.getElem?_eq_getElem hb), rho_ge (Nat.le_of_not_lt ha)] at h
      have := hlt _ (List.getElem_mem hb); omega
    · rw [rho_ge (Nat.le_of_not_lt ha), rho_ge (Nat.le_of_not_lt hb)] at h; omega
def mergeH (ρ : Nat → Nat) : List Nat → Heap → Heap → Heap
  | [], h0, h => h ++ renH ρ h0
  | i :: L, c :: h0, h => mergeH ρ L h0 (put h i (renC ρ c))
  | _ :: _, [], h => h
theorem mergeH_get (ρ : Nat → Nat) : ∀ (L : List Nat) (h0 h : Heap), L.Nodup → (∀ i ∈ L, i < h.length) → L.length ≤ h0.length →
    (∀ (j i : Nat), L[j]? = some i → (mergeH ρ L h0 h)[i]? = (h0[j]?).map (renC ρ)) ∧ (∀ (i : Nat), i < h.length → i ∉ L → (mergeH ρ L h0 h)[i]? = h[i]?) ∧ (∀ (q : Nat), (mergeH ρ L h0 h)[h.length + q]? = (h0[L.length + q]?).map (renC ρ))
  | [], h0, h, _, _, _ => by
    refine ⟨fun j i hj => by simp at hj, fun i hi _ => ?_, fun q => ?_⟩
    · simp only [mergeH]; rw [List.getElem?_append_left hi]
    · simp only [mergeH]; rw [List.getElem?_append_right (by omega), renH_get]; simp
  | i0 :: L, [], h, _, _, hl => by simp at hl
  | i0 :: L, c :: h0, h, hn, hlt, hl => by
    have hp : put h i0 (renC ρ c) = h.set i0 (renC ρ c) := put_set h i0 _ (hlt i0 (by simp))
    have hlen : (put h i0 (renC ρ c)).length = h.length := by rw [hp]; simp
    obtain ⟨hn0, hn⟩ := List.nodup_cons.1 hn
    obtain ⟨a, b, d⟩ := mergeH_get ρ L h0 (put h i0 (renC ρ c)) hn (fun i hi => by rw [hlen]; exact hlt i (by simp [hi])) (by simpa using hl)
    simp only [mergeH]
    refine ⟨fun j i hj => ?_, fun i hi hni => ?_, fun q => ?_⟩
    · cases j with
      | zero =>
        simp at hj; subst hj
        rw [b i0 (by rw [hlen]; exact hlt i0 (by simp)) hn0, put_same]; simp
      | succ j => simp at hj; rw [a j i hj]; simp
    · rw [b i (by rw [hlen]; exact hi) (fun h => hni (by simp [h])), hp, List.getElem?_set_ne (fun e => hni (by simp [e]))]
    · have := d q
      rw [hlen] at this; rw [this]
      simp [Nat.add_right_comm]
theorem ACalls.mem (hG : GOK S) {f : Nat} {args args0 : List AV} {hc h : Heap} {Q k : AEnd → Heap → Prop} (L : List Nat) (hA : ACalls S f args hc Q) (hn : L.Nodup) (hlt : ∀ i ∈ L, i < h.length) (ha : args0 = renL (rho L h.length) args) (hh : L.map (fun i => h[i]?) = (renH (rho L h.length) hc).map some)
    (hq : ∀ r h0, Q r h0 → L.length ≤ h0.length ∧ k (renR (rho L h.length) r) (mergeH (rho L h.length) L h0 h)) : ACalls S f args0 h k := by
  intro E w args' hm hrn hr hargs
  subst ha
  generalize hρ : rho L h.length = ρ at *
  have hlenc : hc.length = L.length := by
    have := congrArg List.length hh
    simp at this
    have hl : ∀ l : Heap, (renH ρ l).length = l.length := fun l => by induction l with | nil => rfl | cons c l ih => simp [renH, ih]
    rw [hl] at this; exact this.symm
  have inj : ∀ a b, ρ a = ρ b → a = b := fun a b e => by subst hρ; exact rho_inj hn hlt e
  have hat : ∀ j c, hc[j]? = some c → ∃ i, L[j]? = some i ∧ ρ j = i ∧ h[i]? = some (renC ρ c) := fun j c hj => by
    have h1 := congrArg (fun l => l[j]?) hh
    simp only [List.getElem?_map, renH_get, hj] at h1
    have hjl : j < L.length := by rw [← hlenc]; exact (List.getElem?_eq_some_iff.1 hj).1
    rw [List.getElem?_eq_getElem hjl] at h1
    simp at h1
    exact ⟨L[j], List.getElem?_eq_getElem hjl, by subst hρ; exact rho_lt (List.getElem?_eq_getElem hjl), h1⟩
  have hge : ∀ j, L.length ≤ j → ρ j = h.length + (j - L.length) := fun j hj => by subst hρ; exact rho_ge hj
  let Ec : Env := { blk := fun j => E.blk (ρ j), tok := fun j => E.tok (ρ j), fp := fun j => E.fp (ρ j), cbv := fun j => E.cbv (ρ j), cbJ := fun j => E.cbJ (ρ j), imm := E.imm, keep := fun b => b < w.heap.size ∧ ¬ ∃ j c, hc[j]? = some c ∧ ownsC E (ρ j) (renC ρ c) b, base := w, rnd := none, marks := [] }
  have hE : RenE ρ Ec E := ⟨fun _ => rfl, fun _ => rfl, fun _ => rfl, fun _ => rfl, fun _ => rfl, rfl⟩
  have hR : R S Ec hc w := by
    refine ⟨⟨fun j c hj => ?_, fun g cs hg => Closed.VRI (E := E) (E' := Ec) (fun _ _ _ h => h) cs g 0 (hG.glob g cs hg) (hr.r0.glob g cs hg), fun j hj => ?_, fun j c b hj ho => ?_, fun i j c d b hi hj h1 h2 => ?_, hr.r0.imm, fun l hl => (by cases hl), fun D hD => (by cases hD)⟩, ⟨fun _ _ => rfl, fun j c b hj ho hk => ?_, Nat.le_refl _, fun b hk => hk.1, Same3.refl w⟩⟩
    · obtain ⟨i, _, e, hi⟩ := hat j c hj
      have := hr.r0.ch i _ hi
      rw [← e] at this
      exact (CR_ren hE c).1 this
    · have hjl : L.length ≤ j := by rw [← hlenc]; exact List.getElem?_eq_none_iff.1 hj
      have := hr.r0.non (ρ j) (List.getElem?_eq_none (by rw [hge j hjl]; omega))
      exact this
    · obtain ⟨i, _, e, hi⟩ := hat j c hj
      have := (ownsC_ren hE (j := j) (b := b) c).2 ho
      rw [e] at this
      exact hr.r0.lt i _ b hi this
    · obtain ⟨i', _, e, hi⟩ := hat i c hi
      obtain ⟨j', _, e', hj⟩ := hat j d hj
      have o1 := (ownsC_ren hE (j := i) (b := b) c).2 h1
      have o2 := (ownsC_ren hE (j := j) (b := b) d).2 h2
      rw [e] at o1; rw [e'] at o2
      have := hr.r0.disj i' j' _ _ b hi hj o1 o2
      exact inj _ _ (by rw [e, e', this])
    · exact hk.2 ⟨j, c, hj, (ownsC_ren hE c).2 ho⟩
  refine (hA Ec w args' rfl rfl hR ((VRL_ren hE args args').1 hargs)).mono ?_
  rintro e w' ⟨E0, h0, r, hx, hm0, hR0, he, hQ⟩
  obtain ⟨hl0, hk⟩ := hq r h0 hQ
  obtain ⟨m1, m2, m3⟩ := mergeH_get ρ L h0 h hn hlt hl0
  have hkeep : ∀ b, Ec.keep b → w'.heap[b]? = w.heap[b]? := fun b hb => by
    have := hR0.kp.same b (by rw [hx.keep]; exact hb)
    rw [hx.base] at this; exact this
  have hsz : w.heap.size ≤ w'.heap.size := by have := hR0.kp.size; rw [hx.base] at this; exact this
  have hs3 : Same3 w w' := by have := hR0.kp.s3; rw [hx.base] at this; exact this
  have hEk : ∀ b, E.keep b → Ec.keep b := fun b hb => ⟨Nat.lt_of_lt_of_le (hr.kp.klt b hb) hr.kp.size, fun ⟨j, c, hj, ho⟩ => by
    obtain ⟨i, _, e, hi⟩ := hat j c hj
    rw [e] at ho
    exact hr.kp.keep i _ b hi ho hb⟩
  have hother : ∀ i c b, (∀ j, ρ j ≠ i) → h[i]? = some c → ownsC E i c b → Ec.keep b := fun i c b hne hi ho => ⟨hr.r0.lt i c b hi ho, fun ⟨j, c', hj, ho'⟩ => by
    obtain ⟨i', _, e, hi'⟩ := hat j c' hj
    rw [e] at ho'
    exact hne j (by rw [e]; exact (hr.r0.disj i i' _ _ b hi hi' ho ho').symm)⟩
  have hdec : ∀ i, (∃ j, ρ j = i) ∨ ∀ j, ρ j ≠ i := fun i => (Classical.em (∃ j, ρ j = i)).imp id fun h j e => h ⟨j, e⟩
  let pick : {α : Sort 1} → (Nat → α) → (Nat → α) → Nat → α := fun F G i => @dite _ (∃ j, ρ j = i) (Classical.propDecidable _) (fun hj => F (Classical.choose hj)) (fun _ => G i)
  have pick1 : ∀ {α : Sort 1} (F G : Nat → α) (j : Nat), pick F G (ρ j) = F j := fun F G j => by
    have hj : ∃ j', ρ j' = ρ j := ⟨j, rfl⟩
    refine (@dif_pos _ (Classical.propDecidable _) hj _ _ _).trans ?_
    rw [inj _ _ (Classical.choose_spec hj)]
  have pick2 : ∀ {α : Sort 1} (F G : Nat → α) (i : Nat), (∀ j, ρ j ≠ i) → pick F G i = G i := fun F G i hi => by
    exact @dif_neg _ (Classical.propDecidable _) (fun ⟨j, e⟩ => hi j e) _ _ _
  let E' : Env := { blk := pick E0.blk E.blk, tok := pick E0.tok E.tok, fp := pick E0.fp E.fp, cbv := pick E0.cbv E.cbv, cbJ := pick E0.cbJ E.cbJ, imm := E0.imm, keep := E.keep, base := E.base, rnd := none, marks := [] }
  have hE' : RenE ρ E0 E' := ⟨fun j => pick1 _ _ j, fun j => pick1 _ _ j, fun j => pick1 _ _ j, fun j => pick1 _ _ j, fun j => pick1 _ _ j, rfl⟩
  have hext : Ext E E' := by
    refine ⟨fun i b hb => ?_, fun i F v hv => ?_, fun i v hv => ?_, hx.imm, fun b o hb => hx.new b o (hEk b hb), rfl, rfl, hrn.symm⟩
    · rcases hdec i with ⟨j, rfl⟩ | hi
      · rw [hE'.blk]; exact hx.blk j b hb
      · exact (pick2 _ _ i hi).trans hb
    · rcases hdec i with ⟨j, rfl⟩ | hi
      · rw [hE'.tok]; exact hx.tok j F v hv
      · exact ⟨F, v, (pick2 _ _ i hi).trans hv, .inr ⟨rfl, rfl⟩⟩
    · rcases hdec i with ⟨j, rfl⟩ | hi
      · rw [hE'.cbv, hE'.cbJ]; exact hx.cbv j v hv
      · exact ⟨(pick2 _ _ i hi).trans hv, pick2 _ _ i hi⟩
  have hnum : ∀ i c, (mergeH ρ L h0 h)[i]? = some c → (∃ j c0, ρ j = i ∧ h0[j]? = some c0 ∧ c = renC ρ c0) ∨ ((∀ j, ρ j ≠ i) ∧ h[i]? = some c) := fun i c hi => by
    by_cases hil : h.length ≤ i
    · have := m3 (i - h.length)
      rw [show h.length + (i - h.length) = i by omega, hi] at this
      cases hq : h0[L.length + (i - h.length)]? with
      | none => rw [hq] at this; simp at this
      | some c0 =>
        rw [hq] at this
        exact .inl ⟨L.length + (i - h.length), c0, by rw [hge _ (by omega)]; omega, hq, by simpa using this⟩
    · have hlt' : i < h.length := Nat.lt_of_not_le hil
      by_cases hin : i ∈ L
      · obtain ⟨j, hj, rfl⟩ := List.getElem_of_mem hin
        have hj' := List.getElem?_eq_getElem hj
        have := m1 j _ hj'
        rw [hi] at this
        cases hq : h0[j]? with
        | none => rw [hq] at this; simp at this
        | some c0 =>
          rw [hq] at this
          exact .inl ⟨j, c0, by subst hρ; exact rho_lt hj', hq, by simpa using this⟩
      · rw [m2 i hlt' hin] at hi
        refine .inr ⟨fun j e => ?_, hi⟩
        by_cases hj : j < L.length
        · have e2 : ρ j = L[j] := by subst hρ; exact rho_lt (List.getElem?_eq_getElem hj)
          exact hin (by rw [← e, e2]; exact List.getElem_mem hj)
        · rw [hge j (Nat.le_of_not_lt hj)] at e; omega
  have oc2 : ∀ i, (∀ j, ρ j ≠ i) → ∀ c b, ownsC E' i c b ↔ ownsC E i c b := fun i hi c b => ownsC_congr (pick2 _ _ i hi) (pick2 _ _ i hi) (pick2 _ _ i hi) c b
  have hnk : ∀ j c0 b, h0[j]? = some c0 → ownsC E0 j c0 b → ¬ Ec.keep b := fun j c0 b hj ho => by
    have := hR0.kp.keep j c0 b hj ho
    rw [hx.keep] at this; exact this
  refine ⟨E', mergeH ρ L h0 h, renR ρ r, hext, rfl, ⟨⟨fun i c hi => ?_, fun g cs hg => ?_, fun i hi => ?_, fun i c b hi ho => ?_, fun i i' c d b hi hi' h1 h2 => ?_, hR0.r0.imm, fun l hl => (by cases hl), fun D hD => (by cases hD)⟩, ⟨fun b hb => ?_, fun i c b hi ho hb => ?_, Nat.le_trans hr.kp.size hsz, hr.kp.klt, hr.kp.s3.trans hs3⟩⟩, ?_, hk⟩
  · rcases hnum i c hi with ⟨j, c0, rfl, hj, rfl⟩ | ⟨hne, hi⟩
    · exact (CR_ren hE' c0).2 (hR0.r0.ch j c0 hj)
    · exact (hr.r0.ch i c hi).move hext.v (pick2 _ _ i hne) (pick2 _ _ i hne) (pick2 _ _ i hne) (pick2 _ _ i hne) (pick2 _ _ i hne) (fun b ho => hkeep b (hother i c b hne hi ho)) (fun b ho o => hx.new b o (hother i c b hne hi ho)) hR0.r0.imm hsz hs3
  · exact Closed.VRI hext.imm cs g 0 (hG.glob g cs hg) (hr.r0.glob g cs hg)
  · have hil : h.length ≤ i := by
      apply Nat.le_of_not_lt; intro hlt'
      by_cases hin : i ∈ L
      · obtain ⟨j, hj, rfl⟩ := List.getElem_of_mem hin
        rw [m1 j _ (List.getElem?_eq_getElem hj), List.getElem?_eq_getElem (Nat.lt_of_lt_of_le hj hl0)] at hi
        simp at hi
      · rw [m2 i hlt' hin, List.getElem?_eq_getElem hlt'] at hi; cases hi
    have := m3 (i - h.length)
    rw [show h.length + (i - h.length) = i by omega, hi] at this
    have hq : h0[L.length + (i - h.length)]? = none := by
      cases hq : h0[L.length + (i - h.length)]? with
      | none => rfl
      | some c0 => rw [hq] at this; simp at this
    have e : ρ (L.length + (i - h.length)) = i := by rw [hge _ (by omega)]; omega
    have := hR0.r0.non _ hq
    refine ⟨?_, ?_, ?_⟩
    · have := this.1; rw [← hE'.blk, e] at this; exact this
    · have := this.2.1; rw [← hE'.tok, e] at this; exact this
    · have := this.2.2; rw [← hE'.cbv, e] at this; exact this
  · rcases hnum i c hi with ⟨j, c0, rfl, hj, rfl⟩ | ⟨hne, hi⟩
    · exact hR0.r0.lt j c0 b hj ((ownsC_ren hE' c0).1 ho)
    · exact Nat.lt_of_lt_of_le (hr.r0.lt i c b hi ((oc2 i hne c b).1 ho)) hsz
  · rcases hnum i c hi with ⟨j, c0, rfl, hj, rfl⟩ | ⟨hne, hi⟩ <;> rcases hnum i' d hi' with ⟨j', c0', rfl, hj', rfl⟩ | ⟨hne', hi'⟩
    · rw [hR0.r0.disj j j' _ _ b hj hj' ((ownsC_ren hE' c0).1 h1) ((ownsC_ren hE' c0').1 h2)]
    · exact (hnk j c0 b hj ((ownsC_ren hE' c0).1 h1) (hother i' d b hne' hi' ((oc2 i' hne' d b).1 h2))).elim
    · exact (hnk j' c0' b hj' ((ownsC_ren hE' c0').1 h2) (hother i c b hne hi ((oc2 i hne c b).1 h1))).elim
    · exact hr.r0.disj i i' c d b hi hi' ((oc2 i hne c b).1 h1) ((oc2 i' hne' d b).1 h2)
  · show w'.heap[b]? = E.base.heap[b]?
    rw [hkeep b (hEk b hb)]; exact hr.kp.same b hb
  · rcases hnum i c hi with ⟨j, c0, rfl, hj, rfl⟩ | ⟨hne, hi⟩
    · exact hnk j c0 b hj ((ownsC_ren hE' c0).1 ho) (hEk b hb)
    · exact hr.kp.keep i c b hi ((oc2 i hne c b).1 ho) hb
  · cases r with
    | ret v => obtain ⟨u, e1, e2⟩ := he; exact ⟨u, e1, (VR_ren hE' v u).2 e2⟩
    | pan v => obtain ⟨u, e1, e2⟩ := he; exact ⟨u, e1, (VR_ren hE' v u).2 e2⟩
theorem CallH.mem (hG : GOK S) {f : Nat} {args args0 : List AV} {hc h hc' h' : Heap} {v v' : AV} {k : AEnd → Heap → Prop} (L : List Nat) (hA : ACalls S f args hc (fun r h' => r = .ret v ∧ h' = hc')) (hn : L.Nodup) (hlt : ∀ i ∈ L, i < h.length) (ha : args0 = renL (rho L h.length) args) (hh : L.map (fun i => h[i]?) = (renH (rho L h.length) hc).map some)
    (hl : L.length ≤ hc'.length) (hv : ren (rho L h.length) v = v') (hm : mergeH (rho L h.length) L hc' h = h') (hk : k (.ret v') h') : CallH S f args0 h k :=
  ⟨ACalls.mem hG L hA hn hlt ha hh fun r h0 hQ => by
    obtain ⟨rfl, rfl⟩ := hQ
    refine ⟨hl, ?_⟩
    rw [hm]; simp only [renR, hv]; exact hk⟩
theorem ACalls.take (hG : GOK S) {f : Nat} {args : List AV} {hc hc' : Heap} {v : AV} (n : Nat) (hn : hc.length ≤ n) (hv : Ids (· < n) v) (hI : IdsH (· < n) hc') (hA : ACalls S f args hc (fun r h' => r = .ret v ∧ takeH n h' = hc')) : ACalls S f args hc (fun r h' => r = .ret v ∧ h' = hc') := by
  intro E w args' hm hrn hr ha
  refine (hA E w args' hm hrn hr ha).mono ?_
  rintro e w' ⟨E', h', r, hx, hm', hr', he, rfl, rfl⟩
  obtain ⟨u, rfl, hu⟩ := he
  exact ⟨E'.forget n, takeH n h', .ret v, hx.forget fun i hi => hr.r0.non i (List.getElem?_eq_none (Nat.le_trans hn hi)), hm', hr'.forget hG n hI, ⟨u, rfl, Ids.VR (SameOn.forget E' n) v u hv hu⟩, rfl, rfl⟩
theorem CallH.mem1 (hG : GOK S) {f : Nat} {args args0 : List AV} {cs cs' : List AV} {e e' : Nat} {h : Heap} {v : AV} {k : AEnd → Heap → Prop} (i : Nat) (hA : ACalls S f args [.var cs e] (fun r h' => r = .ret v ∧ h' = [.var cs' e'])) (hi : getO h i = some (.var cs e)) (hcs : ClosedL cs) (hcs' : ClosedL cs') (hv : Closed v)
    (ha : args0 = renL (rho [i] h.length) args) (hk : k (.ret v) (put h i (.var cs' e'))) : CallH S f args0 h k := by
  rw [getO_eq] at hi
  have hlt : i < h.length := (List.getElem?_eq_some_iff.1 hi).1
  refine CallH.mem hG [i] hA (by simp) (by simpa using hlt) ha ?_ (by simp) (Closed.ren _ _ hv) (h' := put h i (.var cs' e')) ?_ hk
  · simp [renH, renC, ClosedL.ren _ _ hcs, hi]
  · simp [mergeH, renH, renC, ClosedL.ren _ _ hcs']
end Go.Abs
namespace Go.Abs
open Go.RowKit
variable {S : Seat}
theorem R.weakVar {E : Env} {h : Heap} {w : World} (hr : R S E h w) {i : Nat} {cs cs' : List AV} {e : Nat} (hi : h[i]? = some (.var cs e)) (hw : ∀ us, VRL E cs us → VRL E cs' us) : R S E (put h i (.var cs' e)) w := by
  obtain ⟨b, us, h1, h2, h3, h4, h5⟩ := hr.r0.ch i _ hi
  refine hr.step {
    v := (Ext.refl E).v
    blk := fun _ _ => rfl
    tok := fun _ _ => rfl
    cbv := fun _ _ => rfl, cbJ := fun _ _ => rfl, fp := fun _ _ => rfl
    own := fun _ _ _ _ _ _ => rfl
    ownI := fun _ _ _ _ _ _ _ => rfl
    ok := hr.r0.imm
    cr := ⟨b, us, h1, h2, hw us h3, h4, h5⟩
    new := fun b' ho => ?_
    kp := fun _ _ => rfl
    size := Nat.le_refl _
    s3 := Same3.refl w
    hrnd := fun _ _ => rfl
    hmks := fun _ _ => rfl
    keep := rfl, base := rfl, rnd := rfl, marks := rfl }
  have ho' : ownsC E i (.var cs e) b' := ho
  exact ⟨hr.r0.lt i _ b' hi ho', hr.kp.keep i _ b' hi ho', fun j d hj hd hod => hj (hr.r0.disj j i d _ b' hd hi hod ho'), fun hl => (hr.r0.rnd b' hl).2 i _ hi ho', fun hD => (hr.r0.mks b' hD).2.2 i _ hi ho'⟩
theorem Sat.nilTokH {c : Code} {t : List AV} {h : Heap} {k : ExK} (i j e sz : Nat) {cs : List AV} {ct : Nat} (hi : getO h i = some (.var cs ct)) (hj : getT cs j = .nils)
    (hs : Sat S c t (put h i (.var (cs.set j (.vec [] 0 (some h.length))) ct) ++ [.tok 0 e sz]) k) : Sat S c t h k := by
  refine ⟨fun B E w a hr ha => ?_⟩
  rw [getO_eq] at hi
  have hlt : i < h.length := (List.getElem?_eq_some_iff.1 hi).1
  obtain ⟨E', hx, hm, hr', hv⟩ := hr.nilTok e sz
  have hw : ∀ us, VRL E' cs us → VRL E' (cs.set j (.vec [] 0 (some h.length))) us := fun us hu => by
    refine VRL.of_get (by rw [List.length_set]; exact hu.length) fun q c u hc hq => ?_
    rw [List.getElem?_set] at hc
    split at hc
    · rename_i e0; subst e0
      split at hc
      · cases hc
        rw [getT_eq] at hj
        obtain ⟨c0, hc0⟩ : ∃ c0, cs[j]? = some c0 := ⟨cs[j], List.getElem?_eq_getElem (by assumption)⟩
        rw [hc0] at hj; simp only [Option.getD_some] at hj; subst hj
        obtain ⟨u', hu', hvu⟩ := hu.get j _ hc0
        rw [hq] at hu'; cases hu'
        refine hv u ?_
        simp only [VR] at hvu ⊢; exact hvu
      · cases hc
    · obtain ⟨u', hu', hvu⟩ := hu.get q c hc
      rw [hq] at hu'; cases hu'
      exact hvu
  have hr2 := hr'.weakVar (i := i) (cs := cs) (e := ct) (by rw [List.getElem?_append_left hlt]; exact hi) hw
  have hpe : put (h ++ [.tok 0 e sz]) i (.var (cs.set j (.vec [] 0 (some h.length))) ct) = put h i (.var (cs.set j (.vec [] 0 (some h.length))) ct) ++ [.tok 0 e sz] := by
    rw [put_set _ _ _ (by simp; omega), put_set _ _ _ hlt, List.set_append_left _ _ hlt]
  rw [hpe] at hr2
  have := hs.out B E' w a hr2 ⟨ha.1.mono hx.v, by rw [hm]; exact ha.2⟩
  rw [fen_ext hx] at this
  exact wpIn_mono this fun _ _ _ h => h.ext hx
end Go.Abs
namespace Go.Abs
open Go.RowKit
variable {S : Seat}
end Go.Abs
namespace Go.Abs
open Go.RowKit
variable {S : Seat} {B : List Deferred}
def PostM (S : Seat) (B : List Deferred) (E : Env) (k : ExK) (e : Exit) (a : Act) (w : World) : Prop :=
  ∃ E' t h x, Ext E E' ∧ E'.marks = E.marks ∧ R S E' h w ∧ ActR B E' t a ∧ ExitR E' x e ∧ k x t h
theorem PostM.ext {E E' : Env} {k : ExK} {e : Exit} {a : Act} {w : World} (hx : Ext E E') (hm : E'.marks = E.marks) (h : PostM S B E' k e a w) : PostM S B E k e a w := by
  obtain ⟨E2, t, hp, x, h1, h2, h3⟩ := h
  exact ⟨E2, t, hp, x, hx.trans h1, h2.trans hm, h3⟩
theorem opsM_sound (hS : SeatOK S) (ops : Array Oper) {k : ExK} : ∀ (l : List Oper) (i : Nat), ops.toList.drop i = l → ∀ (t : List AV) (h : Heap), opsK S ops.toList l t h k →
    ∀ (E : Env) (w : World) (a : Act), R S E h w → ActR B E t a → wpOpsIn (fen E) 0 S.P ops (PostM S B E k) (List.range' i l.length) a w
  | [], i, _, t, h, hk, E, w, a, hr, ha => ⟨E, t, h, .normal, Ext.refl E, rfl, hr, ha, rfl, hk⟩
  | o :: r, i, hd, t, h, hk, E, w, a, hr, ha => by
    have hget : ops[i]? = some o := by
      have : ops.toList[i]? = some o := by rw [← List.head?_drop, hd]; rfl
      simpa using this
    have hd' : ops.toList.drop (i + 1) = r := by rw [← List.tail_drop, hd]; rfl
    simp only [List.length_cons, List.range'_succ, wpOpsIn, hget]
    have hgo : operK S o t h (fun e h' => match e with | .ret v => setD t o.dst v (fun t' => opsK S ops.toList r t' h' k) | .pan v => k (.pan v) t h') →
        o.wpIn (fen E) 0 S.P a w (wpOpsIn (fen E) 0 S.P ops (PostM S B E k) (List.range' (i + 1) r.length)) (PostM S B E k) := by
      intro hk
      refine operK_sound hS hk hr ha _ _ ?_ ?_
      · intro E' h' v u w' hx hm hr' hv hk'
        simp only [setD_eq] at hk'
        have := opsM_sound hS ops r (i + 1) hd' _ h' hk' E' w' _ hr' (ha.put hx hm hv o.dst)
        rw [fen_ext hx] at this
        exact wpOpsIn_mono (fun _ _ _ h => h.ext hx hm) _ _ _ this
      · intro E' h' v u w' hx hm hr' hv hk'
        exact ⟨E', t, h', .pan v, hx, hm, hr', ha.mono hx hm, ⟨u, rfl, hv⟩, hk'⟩
    have hskip : setD t o.dst (.tup []) (fun t' => opsK S ops.toList r t' h k) →
        (∀ f, o.about S.P w a.eval = some f → (fen E).fn f) ∧ wpOpsIn (fen E) 0 S.P ops (PostM S B E k) (List.range' (i + 1) r.length) (a.put o.dst undef) w := by
      intro hk
      rw [setD_eq] at hk
      exact ⟨fun f _ => fen_fn E f, opsM_sound hS ops r (i + 1) hd' _ h hk E w _ hr (ha.put (Ext.refl E) rfl (VR.dead E) o.dst)⟩
    unfold opsK at hk
    split at hk
    · rename_i hg
      simp only [Region.wanted, hg, if_true]
      exact hgo hk
    · rename_i j want hg
      split at hk
      · rename_i oj hoj
        rw [getO_eq] at hoj
        have hoj : ops[j]? = some oj := by simpa using hoj
        split at hk
        · rename_i d hdst
          have hb : ∀ b, getT t d = .bool b → yielded ops a.tmps j = some b := by
            intro b hb
            rw [getT_eq] at hb
            cases hi : t[d]? with
            | none => simp [hi] at hb
            | some c =>
              simp [hi] at hb
              obtain ⟨u, hu, hv⟩ := ha.1.get d c hi
              rw [hb] at hv; simp only [VR] at hv; subst hv
              have : a.tmps[d]? = some (.bool b) := by simpa using hu
              unfold yielded; rw [hoj]; simp [hdst, this]
          split at hk
          · rename_i b hbe
            have hyb := hb b hbe
            simp only [Region.wanted, hg, hyb]
            cases b with
            | true => simpa using hgo hk
            | false => simpa using hskip hk
          · rename_i b hbe
            have hyb := hb b hbe
            simp only [Region.wanted, hg, hyb]
            cases b with
            | true => simpa using hskip hk
            | false => simpa using hgo hk
          · rename_i hbe
            have hyb : yielded ops a.tmps j = none := by
              rw [getT_eq] at hbe
              cases hi : t[d]? with
              | none => simp [hi] at hbe
              | some c =>
                simp [hi] at hbe
                obtain ⟨u, hu, hv⟩ := ha.1.get d c hi
                rw [hbe] at hv
                have := hv.toDead; subst this
                have : a.tmps[d]? = some undef := by simpa using hu
                unfold yielded; rw [hoj]; simp [hdst, this, undef]
            simp only [Region.wanted, hg, hyb]
            simpa using hskip hk
          · exact hk.elim
        · exact hk.elim
      · exact hk.elim
def simpleC : Code → Bool
  | .skip => true
  | .region _ _ draw => !draw
  | .seq a b => simpleC a && simpleC b
  | .cond _ a b => simpleC a && simpleC b
  | .ret => true
  | _ => false
theorem codeM_sound (hS : SeatOK S) : ∀ (c : Code), simpleC c = true → ∀ (t : List AV) (h : Heap) (k : ExK), codeK S c t h k → ∀ (E : Env) (w : World) (a : Act), R S E h w → ActR B E t a → c.wpIn (fen E) 0 S.P (PostM S B E k) a w
  | .skip, _, t, h, k, hk, E, w, a, hr, ha => wpIn_skip ⟨E, t, h, .normal, Ext.refl E, rfl, hr, ha, rfl, hk⟩
  | .ret, _, t, h, k, hk, E, w, a, hr, ha => wpIn_ret ⟨E, t, h, .ret, Ext.refl E, rfl, hr, ha, rfl, hk⟩
  | .region id ops draw, hs, t, h, k, hk, E, w, a, hr, ha => by
    cases draw with
    | false =>
      refine wpIn_region ?_
      have := opsM_sound hS ops ops.toList 0 rfl t h hk E w a hr ha
      rwa [Array.length_toList, ← List.range_eq_range'] at this
    | true => cases hs
  | .seq x y, hs, t, h, k, hk, E, w, a, hr, ha => by
    simp only [simpleC, Bool.and_eq_true] at hs
    refine wpIn_seq (wpIn_mono (codeM_sound hS x hs.1 t h _ hk E w a hr ha) ?_)
    rintro e a' w' ⟨E', t', h', z, h1, h1', h2, h3, h4, h5⟩
    cases z with
    | normal =>
      simp only [ExitR] at h4; subst h4
      have := codeM_sound hS y hs.2 t' h' k h5 E' w' a' h2 h3
      rw [fen_ext h1] at this
      exact wpIn_mono this fun _ _ _ h => h.ext h1 h1'
    | exit i => simp only [ExitR] at h4; subst h4; exact ⟨E', t', h', .exit i, h1, h1', h2, h3, rfl, h5⟩
    | goto i => simp only [ExitR] at h4; subst h4; exact ⟨E', t', h', .goto i, h1, h1', h2, h3, rfl, h5⟩
    | ret => simp only [ExitR] at h4; subst h4; exact ⟨E', t', h', .ret, h1, h1', h2, h3, rfl, h5⟩
    | pan v => obtain ⟨u, rfl, hu⟩ := h4; exact ⟨E', t', h', .pan v, h1, h1', h2, h3, ⟨u, rfl, hu⟩, h5⟩
  | .cond c x y, hs, t, h, k, hk, E, w, a, hr, ha => by
    simp only [simpleC, Bool.and_eq_true] at hs
    unfold codeK at hk
    split at hk
    · rename_i b hc
      have hv := ev_VR hr ha c
      rw [hc] at hv; simp only [VR] at hv
      cases b with
      | true => exact wpIn_cond_true hv (codeM_sound hS x hs.1 t h k hk E w a hr ha)
      | false => exact wpIn_cond_false hv (codeM_sound hS y hs.2 t h k hk E w a hr ha)
    · exact hk.elim
def ModeR (E : Env) : Option AV → FrameMode → Prop
  | none, u => u = .returning
  | some v, u => ∃ p, u = .panicking [{ v := p, recovered := false }] ∧ VR E v p
def DCalls (S : Seat) (g : Nat) (caps : List AV) (h : Heap) (m : Option AV) (K : Option AV → Heap → Prop) : Prop :=
  ∀ (E : Env) (w : World) (caps' : List Value) (u : FrameMode), E.marks = [] → E.rnd = none → R S E h w → VRL E caps caps' → ModeR E m u →
    CallsDIn Fence.wide 0 S.P g caps'.toArray u w fun e u' w' => (∃ v, e = .returned v) ∧ ∃ E' h' m', Ext E E' ∧ E'.marks = [] ∧ R S E' h' w' ∧ ModeR E' m' (settle u') ∧ K m' h'
theorem callsDIn_of_wpS {P : Program} {f : FuncId} {fn : Func} {c : Code} {args : Array Value} {u : FrameMode} {w : World} {n : Nat} {R : Ending → FrameMode → World → Prop}
    (hf : P.funcs[f]? = some fn) (hb : fn.body = some c)
    (h : ∀ (c₀ : Frame) (cs : List Frame), c₀.mode = u →
      c.wpS P (bodyPostS P fn c₀ cs R) { tmps := args ++ Array.replicate (fn.ntmps - args.size) undef, defers := [] } (c₀ :: cs) w) :
    CallsDIn Fence.wide n P f args u w R := by
  refine ⟨trivial, fun c₀ cs hu _ => ?_⟩
  let b : Frame := { (default : Frame) with fn := f, kind := .deferred }
  have henter : Frame.enter P f args .deferred =
      b.at { tmps := args ++ Array.replicate (fn.ntmps - args.size) undef, defers := [] } [.code c] := by
    simp [Frame.enter, Frame.at, hf, hb, b]
  obtain ⟨e, a', cs', w', hq, harr⟩ := h c₀ cs hu b [] rfl rfl
  rw [← henter] at harr
  cases e with
  | normal =>
    obtain ⟨hd, u', rfl, v, hr, hR⟩ := hq
    exact ⟨.returned v, u', w', _, hR, comesIn_wide.2 (Steps.trans harr (.one step_end)), rfl, rfl, rfl, hd, fn, hf, hr⟩
  | ret =>
    obtain ⟨hd, u', rfl, v, hr, hR⟩ := hq
    obtain ⟨todo, hs⟩ := harr
    exact ⟨.returned v, u', w', _, hR, comesIn_wide.2 hs, rfl, rfl, rfl, hd, fn, hf, hr⟩
  | panic chain =>
    obtain ⟨hd, u', rfl, hR⟩ := hq
    obtain ⟨todo, hs⟩ := harr
    exact ⟨.panicked chain, u', w', _, hR, comesIn_wide.2 hs, rfl, rfl, rfl, hd, fn, hf⟩
  | exit id => exact hq.elim
  | goto l => exact hq.elim
  | outgrown =>
    obtain ⟨u', hR⟩ := hq
    exact ⟨.outgrown, u', w', b, hR, comesIn_wide.2 (harr.resolve_left (by simp [b])), rfl, rfl, trivial⟩
theorem leaves_ofD {fn : Func} {tmps : Array Value} {Rr : Ending → World → Prop} {u : FrameMode} {ds : List Deferred} (hu : u ≠ .run) {h : Heap} :
    ∀ (ms : List Nat) (E : Env) (w : World), E.marks = ms → E.marks.Nodup → R S E h w →
    (∀ w', R S { E with marks := [] } h w' → LeavesInM Fence.wide 0 S.P fn tmps Rr ds u w') → LeavesInM Fence.wide 0 S.P fn tmps Rr (ms.map markOf ++ ds) u w
  | [], E, w, hm, _, hr, hk => hk w (by
      have : E = { E with marks := [] } := by cases E; simp_all
      rw [← this]; exact hr)
  | D :: ms, E, w, hm, hnd, hr, hk => by
    obtain ⟨h1, h2⟩ := takeMark hr hm hnd
    refine ⟨hu, .inl ⟨D, _, rfl, h1, leaves_ofD hu ms { E with marks := ms } _ rfl (by rw [hm] at hnd; exact (List.nodup_cons.1 hnd).2) h2 hk⟩⟩
structure DCallH (S : Seat) (g : Nat) (caps : List AV) (h : Heap) (m : Option AV) (K : Option AV → Heap → Prop) : Prop where
  out : DCalls S g caps h m K
def leaveK (S : Seat) (fn : Func) (t : List AV) (Q : AEnd → Heap → Prop) (m : Option AV) (h : Heap) : Prop :=
  match m with
  | none => resK S t h fn.results.toList (fun vs => Q (.ret (retK vs)) h)
  | some v => Q (.pan v) h
theorem run_defer {mk df : Oper} {g d : Nat} {cps : Array Operand} {c : Call} (hmk : mk.op = .makeFunc (.func g) #[] cps) (hdo : df.op = .defer c) (hdc : c.callee = .value (.tmp d)) (hda : c.args = #[]) {P : Program} :
    (∀ (a : Act) (w : World), (execOp a.eval mk).run P w = .ok (.value (.func (.func g) #[] (cps.map a.eval))) w) ∧
    (∀ (a : Act) (w : World) (x : Array Value), a.eval (.tmp d) = .func (.func g) #[] x → (execOp a.eval df).run P w = .ok (.defer { target := .fn (.func g) x, args := #[] }) w) := by
  refine ⟨fun a w => ?_, fun a w x hx => ?_⟩
  · simp [execOp, hmk, Instr.makeFunc]
  · simp [execOp, hdo, resolve, hdc, hda, hx, Deferred.ofValue]
end Go.Abs
namespace Go.Abs
open Go.RowKit
variable {S : Seat}
section
variable {F : Fence} {n : Nat} {P : Program} {a : Act} {w : World} {Q : Exit → Act → World → Prop}
theorem stepR_scope {b : Frame} {k : List Item} {cs : List Frame} {c : Code} : step P (lone (b.atR a (.code (.scope c) :: k)) cs w) = .next (lone (b.atR a (.code c :: .inScope c :: k)) cs w) :=
  step_lone_go (by simp [stepG, stepG.exec, Frame.atR])
theorem stepR_inScope {b : Frame} {k : List Item} {cs : List Frame} {c : Code} : step P (lone (b.atR a (.inScope c :: k)) cs w) = .next (lone (b.atR a k) cs w) :=
  step_lone_go (by simp [stepG, stepG.exec, Frame.atR])
theorem wpIn_scope_straight {c : Code} (h : c.wpIn F n P (Exit.noGoto Q) a w) : (Code.scope c).wpIn F n P Q a w := by
  intro b k cs hro hb hr
  have h0 : (lone (b.atR a (.code (.scope c) :: k)) cs w).fenced P F := fenced_calm hb hr rfl
  obtain ⟨e, a₁, w₁, hq, harr⟩ := h b (.inScope c :: k) cs hro hb hr
  cases e with
  | normal => exact ⟨.normal, a₁, w₁, hq, .head h0 stepR_scope (StepsIn.trans harr (.one (fenced_calm hb hr rfl) stepR_inScope))⟩
  | exit id =>
    have hx : exitTo id (.inScope c :: k) = exitTo id k := by simp [exitTo]
    exact ⟨.exit id, a₁, w₁, hq, fun k' hk => .head h0 stepR_scope (harr.1 k' (by rw [hx]; exact hk)),
      fun hr' hk => let ⟨k₁, h1, h2⟩ := harr.2 hr' (by rw [hx]; exact hk); ⟨k₁, h1, .head h0 stepR_scope h2⟩⟩
  | goto l => exact hq.elim
  | ret => exact ⟨_, a₁, w₁, hq, .of_steps (.one h0 stepR_scope) harr⟩
  | panic ch => exact ⟨_, a₁, w₁, hq, .of_steps (.one h0 stepR_scope) harr⟩
  | outgrown => exact ⟨_, a₁, w₁, hq, .of_steps (.one h0 stepR_scope) harr⟩
end
theorem Sat.scope (hS : SeatOK S) {b : Code} {t : List AV} {h : Heap} {k : ExK} (hb : codeR S b t h (fun x t' h' => match x with
      | .normal => k .normal t' h'
      | .exit j => k (.exit j) t' h'
      | .goto _ => False
      | .ret => k .ret t' h'
      | .pan v => k (.pan v) t' h')) : Sat S (.scope b) t h k := by
  refine ⟨fun B E w a hr ha => wpIn_scope_straight (wpIn_mono ((codeR_sound hS b t h _ hb).out B E w a hr ha) ?_)⟩
  rintro e a' w' ⟨E', t', h', x, g1, g2, g3, g4, g5⟩
  cases x with
  | goto l => exact g5.elim
  | normal => cases e <;> first | exact ⟨E', t', h', _, g1, g2, g3, g4, g5⟩ | (simp [ExitR] at g4)
  | exit j => cases e <;> first | exact ⟨E', t', h', _, g1, g2, g3, g4, g5⟩ | (simp [ExitR] at g4)
  | ret => cases e <;> first | exact ⟨E', t', h', _, g1, g2, g3, g4, g5⟩ | (simp [ExitR] at g4)
  | pan v => cases e <;> first | exact ⟨E', t', h', _, g1, g2, g3, g4, g5⟩ | (simp [ExitR] at g4)
end Go.Abs
namespace Go.Abs
open Go.RowKit
variable {S : Seat}
theorem ACalls.bodyS (hS : SeatOK S) {f : Nat} {fn : Func} {c : Code} (hf : S.P.funcs[f]? = some fn) (hb : fn.body = some c) (hn : (fn.name == "runtime.NumGoroutine") = false) {args : List AV} {h : Heap} {Q : AEnd → Heap → Prop}
    (hk : Sat S c (appL args (undefs (fn.ntmps - lenN args))) h (fun x t h' => match x with
    | .normal => resK S t h' fn.results.toList (fun vs => Q (.ret (retK vs)) h')
    | .ret => resK S t h' fn.results.toList (fun vs => Q (.ret (retK vs)) h')
    | .pan v => Q (.pan v) h'
    | _ => False)) : ACalls S f args h Q := by
  intro E w args' hm hrn hr ha
  refine .inl ⟨?_, ?_⟩
  · unfold callFunc
    simp only [beq_eq_false_iff_ne, ne_eq] at hn
    simp [Sem.run_bind, go_sem, hf, hn, hb]
  · rw [← callsIn_wide (n := 0)]
    refine callsIn_of_wp_marks hf hb trivial ?_
    have hact : ActR [] E (appL args (undefs (fn.ntmps - lenN args))) { tmps := args'.toArray ++ Array.replicate (fn.ntmps - args'.toArray.size) undef, defers := [] } := by
      refine ⟨?_, by rw [hm]; exact ⟨rfl, List.nodup_nil⟩⟩
      rw [appL_eq, undefs_eq, lenN_eq, ha.length]
      simp only [Array.toList_append, Array.toList_replicate, List.size_toArray]
      exact ha.append (VRL.replicate_undef _ _ (by simp))
    have := hk.out [] E w _ hr hact
    have hfen : fen E = Fence.wide := by unfold fen; rw [hrn]
    rw [hfen] at this
    refine wpIn_mono this ?_
    rintro e a' w' ⟨E', t', h', x, h1, h2, h3, h4, h5⟩
    have hres : ∀ (w' : World), R S { E' with marks := [] } h' w' → resK S t' h' fn.results.toList (fun vs => Q (.ret (retK vs)) h') → LeavesIn Fence.wide 0 S.P fn a'.tmps (fun e w' => ∃ E' h' r, Ext E E' ∧ E'.marks = [] ∧ R S E' h' w' ∧ EndR E' r e ∧ Q r h') [] .returning w' := by
      intro w' hr' hk
      have ht : VRL { E' with marks := [] } t' a'.tmps.toList := VRL.mono (VExt.of_eq (E := E') (E' := { E' with marks := [] }) rfl rfl rfl rfl) _ _ h3.1
      obtain ⟨vs, us, hq, hvs, hrun⟩ := resK_run hS hr' ht _ _ hk
      have hrun2 : (results fn a'.tmps).run S.P w' = .ok (if h : us.toArray.size = 1 then us.toArray[0] else .tuple us.toArray) w' := by
        rw [results_eq, Sem.run_bind, Array.mapM_eq_mapM_toList, map_eq_pure_bind, Sem.run_bind, hrun]
        rfl
      refine ⟨_, hrun2, { E' with marks := [] }, h', .ret (retK vs), ⟨h1.blk, h1.tok, h1.cbv, h1.imm, h1.new, h1.keep, h1.base, h1.rnd⟩, rfl, hr', ⟨_, rfl, ?_⟩, hq⟩
      have hl := hvs.length
      match vs, us, hvs, hl with
      | [], [], hvs, _ => simpa [retK, VR] using hvs
      | [v], [u], hvs, _ => obtain ⟨_, _, e, h1, _⟩ := hvs.uncons; cases e; simpa [retK] using h1
      | v1 :: v2 :: vs, u1 :: u2 :: us, hvs, _ =>
        have : ¬ (u1 :: u2 :: us).toArray.size = 1 := by simp
        rw [dif_neg this]
        simp only [retK, VR]
        exact ⟨_, rfl, hvs⟩
    cases x with
    | normal =>
      simp only [ExitR] at h4; subst h4
      show LeavesInM _ _ _ _ _ _ _ _ _
      rw [h3.2.1, List.append_nil]
      exact leaves_of (by simp) E'.marks E' w' rfl h3.2.2 h2 fun w' hr' => hres w' hr' h5
    | ret =>
      simp only [ExitR] at h4; subst h4
      show LeavesInM _ _ _ _ _ _ _ _ _
      rw [h3.2.1, List.append_nil]
      exact leaves_of (by simp) E'.marks E' w' rfl h3.2.2 h2 fun w' hr' => hres w' hr' h5
    | pan v =>
      obtain ⟨u, rfl, hu⟩ := h4
      show LeavesInM _ _ _ _ _ _ _ _ _
      rw [h3.2.1, List.append_nil]
      exact leaves_of (by simp) E'.marks E' w' rfl h3.2.2 h2 fun w' hr' => ⟨{ E' with marks := [] }, h', .pan v, ⟨h1.blk, h1.tok, h1.cbv, h1.imm, h1.new, h1.keep, h1.base, h1.rnd⟩, rfl, hr', ⟨u, rfl, VR.mono (VExt.of_eq (E := E') (E' := { E' with marks := [] }) rfl rfl rfl rfl) _ _ hu⟩, h5⟩
    | exit i => exact h5.elim
    | goto i => exact h5.elim
def splitC : Nat → Code → Code × Code
  | 0, c => (.skip, c)
  | n + 1, .seq x y => (.seq x (splitC n y).1, (splitC n y).2)
  | _ + 1, c => (.skip, c)
theorem Sat.weakT {c : Code} {t t2 : List AV} {h : Heap} {k : ExK} (hw : WeakL t t2) (hs : Sat S c t2 h k) : Sat S c t h k :=
  ⟨fun B E w a hr ha => hs.out B E w a hr ⟨WeakL.run hw ha.1, ha.2⟩⟩
theorem Sat.seq {x y : Code} {t : List AV} {h : Heap} {k : ExK} (hx : Sat S x t h (fun e t' h' => match e with
      | .normal => Sat S y t' h' k
      | .exit i => k (.exit i) t' h'
      | .goto i => k (.goto i) t' h'
      | .ret => k .ret t' h'
      | .pan v => k (.pan v) t' h')) : Sat S (.seq x y) t h k := by
  refine ⟨fun B E w a hr ha => wpIn_seq (wpIn_mono (hx.out B E w a hr ha) ?_)⟩
  rintro e a' w' ⟨E', t', h', z, h1, h2, h3, h4, h5⟩
  cases z with
  | normal =>
    simp only [ExitR] at h4; subst h4
    have := h5.out B E' w' a' h2 h3
    rw [fen_ext h1] at this
    exact wpIn_mono this fun _ _ _ h => h.ext h1
  | exit i => simp only [ExitR] at h4; subst h4; exact ⟨E', t', h', .exit i, h1, h2, h3, rfl, h5⟩
  | goto i => simp only [ExitR] at h4; subst h4; exact ⟨E', t', h', .goto i, h1, h2, h3, rfl, h5⟩
  | ret => simp only [ExitR] at h4; subst h4; exact ⟨E', t', h', .ret, h1, h2, h3, rfl, h5⟩
  | pan v => obtain ⟨u, rfl, hu⟩ := h4; exact ⟨E', t', h', .pan v, h1, h2, h3, ⟨u, rfl, hu⟩, h5⟩
theorem Sat.splitAt (hS : SeatOK S) (P : List AV → Heap → Prop) {k : ExK} : ∀ (n : Nat) {c : Code} {t : List AV} {h : Heap}
    (h1 : codeR S (splitC n c).1 t h (fun x t' h' => match x with
      | .normal => ∃ t2, WeakL t' t2 ∧ P t2 h'
      | .exit i => k (.exit i) t' h'
      | .goto i => k (.goto i) t' h'
      | .ret => k .ret t' h'
      | .pan v => k (.pan v) t' h'))
    (h2 : ∀ t h, P t h → Sat S (splitC n c).2 t h k), Sat S c t h k
  | 0, c, t, h, h1, h2 => by
    obtain ⟨t2, hw, hp⟩ := h1
    exact (h2 t2 h hp).weakT hw
  | n + 1, c, t, h, h1, h2 => by
    cases c with
    | seq x y =>
      refine Sat.seq ((codeR_sound hS x t h _ h1).mono fun e t' h' he => ?_)
      cases e with
      | normal => exact Sat.splitAt hS P n he h2
      | exit i => exact he
      | goto i => exact he
      | ret => exact he
      | pan v => exact he
    | _ =>
      obtain ⟨t2, hw, hp⟩ := h1
      exact (h2 t2 h hp).weakT hw
end Go.Abs
namespace Go.Abs
open Go.RowKit
variable {S : Seat}
theorem DCalls.plain (hS : SeatOK S) {g : Nat} {fn : Func} {c : Code} (hf : S.P.funcs[g]? = some fn) (hb : fn.body = some c) (hsim : simpleC c = true) (hres : fn.results = #[])
    {caps : List AV} {h : Heap} {m : Option AV} {K : Option AV → Heap → Prop}
    (hk : codeR S c (appL caps (undefs (fn.ntmps - lenN caps))) h (fun x _ h2 => (x = .normal ∨ x = .ret) ∧ K m h2)) : DCalls S g caps h m K := by
  intro E w caps' u hm hrn hr hcaps hu
  refine callsDIn_of_wpS hf hb fun c₀ cs hc0 => ?_
  have hfen : fen E = Fence.wide := by unfold fen; rw [hrn]
  have hact : ActR [] E (appL caps (undefs (fn.ntmps - lenN caps))) { tmps := caps'.toArray ++ Array.replicate (fn.ntmps - caps'.toArray.size) undef, defers := [] } := by
    refine ⟨?_, by rw [hm]; exact ⟨rfl, List.nodup_nil⟩⟩
    rw [appL_eq, undefs_eq, lenN_eq, hcaps.length]
    simp only [Array.toList_append, Array.toList_replicate, List.size_toArray]
    exact hcaps.append (VRL.replicate_undef _ _ (by simp))
  rw [codeR_eq] at hk
  have h3 := codeM_sound hS c hsim _ h _ hk E w _ hr hact
  rw [hfen] at h3
  refine wpS_of_wp (wp_mono (wpIn_wide.1 h3) ?_)
  rintro e a3 w3 ⟨E2, t2, h2, x, hx2, hm2, hr2, ha3, hex, hxx, hK⟩
  have hmk : E2.marks = [] := hm2.trans hm
  have hdef : a3.defers = [] := by rw [ha3.2.1, hmk]; rfl
  have hresr : (results fn a3.tmps).run S.P w3 = .ok (.tuple #[]) w3 := by
    rw [results_eq, hres]; simp [go_sem]
  have hmode : ModeR E2 m (settle u) := by
    cases m with
    | none => have hu : u = .returning := hu; rw [hu]; rfl
    | some v => obtain ⟨p, rfl, hv⟩ := hu; exact ⟨p, by simp [settle], VR.mono hx2.v _ _ hv⟩
  have hcc : c₀ :: cs = { c₀ with mode := u } :: cs := by rw [← hc0]
  have fin : bodyPostS S.P fn c₀ cs (fun e u' w' => (∃ v, e = .returned v) ∧ ∃ E' h' m', Ext E E' ∧ E'.marks = [] ∧ R S E' h' w' ∧ ModeR E' m' (settle u') ∧ K m' h') .normal a3 (c₀ :: cs) w3 :=
    ⟨hdef, u, hcc, _, hresr, ⟨_, rfl⟩, E2, h2, m, hx2, hmk, hr2, hmode, hK⟩
  rcases hxx with rfl | rfl
  · simp only [ExitR] at hex; subst hex; exact fin
  · simp only [ExitR] at hex; subst hex; exact fin
end Go.Abs
namespace Go.Abs
open Go.RowKit
variable {S : Seat} {B : List Deferred}
theorem ACalls.bodyD2 (hS : SeatOK S) {f : Nat} {fn : Func} {c0 c1 rest : Code} {id d g : Nat} {fng : Func} {cg : Code} {mk df : Oper} {cps : Array Operand} {c : Call}
    (hf : S.P.funcs[f]? = some fn) (hb : fn.body = some (.seq c0 (.seq c1 (.seq (.region id #[mk, df] false) rest)))) (hn : (fn.name == "runtime.NumGoroutine") = false)
    (hmk : mk.op = .makeFunc (.func g) #[] cps) (hmd : mk.dst = some d) (hmg : mk.guard = none) (hdo : df.op = .defer c) (hdc : c.callee = .value (.tmp d)) (hda : c.args = #[]) (hdd : df.dst = none) (hdg : df.guard = none)
    (hfg : S.P.funcs[g]? = some fng) (hbg : fng.body = some cg) (hng : (fng.name == "runtime.NumGoroutine") = false) (hs0 : simpleC c0 = true) (hs1 : simpleC c1 = true)
    {args : List AV} {h : Heap} {Q : AEnd → Heap → Prop}
    (hk : codeR S c0 (appL args (undefs (fn.ntmps - lenN args))) h (fun x t0 h0 => x = .normal ∧ codeR S c1 t0 h0 (fun x t1 h1 => x = .normal ∧ d < t1.length ∧ codeR S rest (t1.set d (.fn g [] (cps.toList.map (ev S.G t1)))) h1 (fun x t2 h2 => match x with
      | .normal => DCallH S g (cps.toList.map (ev S.G t1)) h2 none (leaveK S fn t2 Q)
      | .ret => DCallH S g (cps.toList.map (ev S.G t1)) h2 none (leaveK S fn t2 Q)
      | .pan v => DCallH S g (cps.toList.map (ev S.G t1)) h2 (some v) (leaveK S fn t2 Q)
      | _ => False)))) : ACalls S f args h Q := by
  intro E w args' hm hrn hr ha
  refine .inl ⟨?_, ?_⟩
  · unfold callFunc
    simp only [beq_eq_false_iff_ne, ne_eq] at hn
    simp [Sem.run_bind, go_sem, hf, hn, hb]
  rw [← callsIn_wide (n := 0)]
  refine callsIn_of_wp_marks hf hb trivial ?_
  have hact : ActR [] E (appL args (undefs (fn.ntmps - lenN args))) { tmps := args'.toArray ++ Array.replicate (fn.ntmps - args'.toArray.size) undef, defers := [] } := by
    refine ⟨?_, by rw [hm]; exact ⟨rfl, List.nodup_nil⟩⟩
    rw [appL_eq, undefs_eq, lenN_eq, ha.length]
    simp only [Array.toList_append, Array.toList_replicate, List.size_toArray]
    exact ha.append (VRL.replicate_undef _ _ (by simp))
  have hfen : ∀ E', Ext E E' → fen E' = Fence.wide := fun E' hx => by unfold fen; rw [hx.rnd, hrn]
  rw [codeR_eq] at hk
  have h1 := codeM_sound hS c0 hs0 _ _ _ hk E w _ hr hact
  rw [hfen E (Ext.refl E)] at h1
  refine wpIn_seq (wpIn_mono h1 ?_)
  rintro e a0 w0 ⟨E0, t0, h0, x, hx0, hm0, hr0, ha0, hex, rfl, hk0⟩
  simp only [ExitR] at hex; subst hex
  rw [codeR_eq] at hk0
  have h1 := codeM_sound hS c1 hs1 _ _ _ hk0 E0 w0 _ hr0 ha0
  rw [hfen E0 hx0] at h1
  refine wpIn_seq (wpIn_mono h1 ?_)
  rintro e a1 w1 ⟨E1, t1, h1, x, hx01, hm01, hr1, ha1, hex, rfl, hlt, hk1⟩
  have hx1 : Ext E E1 := hx0.trans hx01
  have hm1 : E1.marks = E.marks := hm01.trans hm0
  have hm1 : E1.marks = [] := hm1.trans hm
  simp only [ExitR] at hex; subst hex
  obtain ⟨rmk, rdf⟩ := run_defer hmk hdo hdc hda (P := S.P)
  have hval := mapF_run (ev_VR hr1 ha1) cps.toList
  have htl : (cps.toList.map a1.eval).toArray = cps.map a1.eval := by cases cps; simp
  have hvf : VR E1 (.fn g [] (cps.toList.map (ev S.G t1))) (.func (.func g) #[] (cps.map a1.eval)) := by
    simp only [VR]
    exact ⟨[], _, by rw [← htl], VRL.nil, hval⟩
  have ha2 := ha1.put (Ext.refl E1) rfl hvf mk.dst
  rw [hmd] at ha2
  have hsz : d < a1.tmps.size := by have := ha1.1.length; simp at this; omega
  have hev : (a1.put (some d) (.func (.func g) #[] (cps.map a1.eval))).eval (.tmp d) = .func (.func g) #[] (cps.map a1.eval) := by
    simp [Act.eval, Act.put, hsz]
  show Code.wpIn Fence.wide 0 S.P (.seq (.region id #[mk, df] false) rest) _ a1 w1
  refine wpIn_seq (wpIn_region ?_)
  have hr2 : List.range (#[mk, df] : Array Oper).size = [0, 1] := rfl
  rw [hr2]
  have hw0 : ∀ y, Region.wanted mk y = true := fun y => by simp [Region.wanted, hmg]
  have hw1 : ∀ y, Region.wanted df y = true := fun y => by simp [Region.wanted, hdg]
  simp only [wpOpsIn, List.getElem?_toArray, List.getElem?_cons_zero, List.getElem?_cons_succ, hw0, hw1, if_true]
  refine ⟨fun _ _ => trivial, ?_⟩
  rw [show mk.semAt Fence.wide.round a1.eval = execOp a1.eval mk from Oper.semAt_eq _ _ _ (by rw [hmk]; intro c h; cases h), rmk, Oper.uponIn_value, hmd]
  refine ⟨fun _ _ => trivial, ?_⟩
  have hsd : (df.semAt Fence.wide.round (a1.put (some d) (.func (.func g) #[] (cps.map a1.eval))).eval) = execOp (a1.put (some d) (.func (.func g) #[] (cps.map a1.eval))).eval df := by
    unfold Oper.semAt; simp [Fence.wide, hdo]
  rw [hsd, rdf _ _ _ hev, Oper.uponIn_defer, hdd]
  generalize hdef : ({ target := .fn (.func g) (cps.map a1.eval), args := #[] } : Deferred) = dd
  have ha3 : ActR [dd] E1 (t1.set d (.fn g [] (cps.toList.map (ev S.G t1)))) (({ a1.put (some d) (.func (.func g) #[] (cps.map a1.eval)) with defers := dd :: (a1.put (some d) (.func (.func g) #[] (cps.map a1.eval))).defers } : Act).put none undef) := by
    refine ⟨ha2.1, ?_, by rw [hm1]; exact List.nodup_nil⟩
    have := ha2.2.1
    rw [hm1] at this ⊢
    show dd :: (a1.put (some d) (.func (.func g) #[] (cps.map a1.eval))).defers = _
    rw [this]; rfl
  have h2 := (codeR_sound hS rest _ _ _ hk1).out [dd] E1 w1 _ hr1 ha3
  rw [hfen E1 hx1] at h2
  refine wpIn_mono h2 ?_
  rintro e a2 w2 ⟨E2, t2, h2, x, hx2, hr2, ha2', hex, hx⟩
  have go : ∀ (m : Option AV) (u : FrameMode), u ≠ .run → (∀ E', Ext E2 E' → ModeR E' m u) → DCalls S g (cps.toList.map (ev S.G t1)) h2 m (leaveK S fn t2 Q) →
      LeavesInM Fence.wide 0 S.P fn a2.tmps (fun e w' => ∃ E' h' r, Ext E E' ∧ E'.marks = [] ∧ R S E' h' w' ∧ EndR E' r e ∧ Q r h') a2.defers u w2 := by
    intro m u hu hmode hD
    rw [ha2'.2.1]
    refine leaves_ofD hu E2.marks E2 w2 rfl ha2'.2.2 hr2 fun w3 hr3 => ?_
    have hxm : Ext E2 { E2 with marks := [] } := ⟨fun _ _ h => h, fun _ F v h => ⟨F, v, h, .inr ⟨rfl, rfl⟩⟩, fun _ _ h => ⟨h, rfl⟩, fun _ _ _ h => h, fun _ _ _ => rfl, rfl, rfl, rfl⟩
    have hcaps : VRL { E2 with marks := [] } (cps.toList.map (ev S.G t1)) (cps.toList.map a1.eval) := VRL.mono (hx2.trans hxm).v _ _ hval
    have hinv : (invoke (.fn (.func g) (cps.map a1.eval)) #[]).run S.P w3 = .ok (.enter g (cps.map a1.eval)) w3 := by
      have h1 : (callFunc g (cps.map a1.eval)).run S.P w3 = .ok (.enter g (cps.map a1.eval)) w3 := by
        unfold callFunc
        simp only [beq_eq_false_iff_ne, ne_eq] at hng
        simp [Sem.run_bind, go_sem, hfg, hng, hbg]
      rw [← h1]
      simp [invoke]
    have hC := hD { E2 with marks := [] } w3 (cps.toList.map a1.eval) u rfl (by show E2.rnd = none; rw [hx2.rnd, hx1.rnd, hrn]) hr3 hcaps (hmode _ hxm)
    rw [htl] at hC
    subst hdef
    refine ⟨hu, .inr ⟨fun h => (by cases h), _, _, _, _, rfl, hinv, fun _ _ => trivial, hC.mono ?_⟩⟩
    rintro e u' w4 ⟨⟨v, rfl⟩, E3, h3, m', hx3, hm3, hr4, hmode', hK⟩
    have hxE : Ext E E3 := hx1.trans (hx2.trans (hxm.trans hx3))
    show LeavesIn Fence.wide 0 S.P fn a2.tmps _ [] (settle u') w4
    cases m' with
    | none =>
      have hs : settle u' = .returning := hmode'
      rw [hs]
      have ht : VRL E3 t2 a2.tmps.toList := VRL.mono (hxm.trans hx3).v _ _ ha2'.1
      obtain ⟨vs, us, hq, hvs, hrun⟩ := resK_run hS hr4 ht _ _ hK
      have hrun2 : (results fn a2.tmps).run S.P w4 = .ok (if h : us.toArray.size = 1 then us.toArray[0] else .tuple us.toArray) w4 := by
        rw [results_eq, Sem.run_bind, Array.mapM_eq_mapM_toList, map_eq_pure_bind, Sem.run_bind, hrun]
        rfl
      refine ⟨_, hrun2, E3, h3, .ret (retK vs), hxE, hm3, hr4, ⟨_, rfl, ?_⟩, hq⟩
      have hl := hvs.length
      match vs, us, hvs, hl with
      | [], [], hvs, _ => simpa [retK, VR] using hvs
      | [v], [u], hvs, _ => obtain ⟨_, _, e, h1, _⟩ := hvs.uncons; cases e; simpa [retK] using h1
      | v1 :: v2 :: vs, u1 :: u2 :: us, hvs, _ =>
        have : ¬ (u1 :: u2 :: us).toArray.size = 1 := by simp
        rw [dif_neg this]
        simp only [retK, VR]
        exact ⟨_, rfl, hvs⟩
    | some v =>
      obtain ⟨p, hp, hv⟩ := hmode'
      rw [hp]
      exact ⟨E3, h3, .pan v, hxE, hm3, hr4, ⟨p, rfl, hv⟩, hK⟩
  cases x with
  | normal => simp only [ExitR] at hex; subst hex; exact go none .returning (by simp) (fun _ _ => rfl) hx.out
  | ret => simp only [ExitR] at hex; subst hex; exact go none .returning (by simp) (fun _ _ => rfl) hx.out
  | pan v =>
    obtain ⟨p, rfl, hv⟩ := hex
    exact go (some v) _ (by simp) (fun E' hxx => ⟨p, rfl, VR.mono hxx.v _ _ hv⟩) hx.out
  | exit i => exact hx.elim
  | goto i => exact hx.elim
end Go.Abs
namespace Go.Abs
open Go.RowKit
variable {S : Seat} {B : List Deferred}
theorem WeakL.vri {E : Env} : ∀ {cs cs' : List AV} {b o : Nat}, WeakL cs cs' → VRI E cs b o → VRI E cs' b o
  | [], [], _, _, _, _ => by simp only [VRI]
  | c :: cs, c' :: cs', b, o, hw, h => by
    simp only [VRI] at h ⊢
    obtain ⟨⟨u, hu, hv⟩, hr⟩ := h
    exact ⟨⟨u, hu, hw.1 E u hv⟩, WeakL.vri hw.2 hr⟩
  | [], _ :: _, _, _, hw, _ => hw.elim
  | _ :: _, [], _, _, hw, _ => hw.elim
theorem Weak.vec {cs cs' : List AV} {n : Nat} {g : Option Nat} (h : WeakL cs cs') : Weak (.vec cs n g) (.vec cs' n g) := fun E u hv => by
  simp only [VR] at hv ⊢
  obtain ⟨a, cap, h1, h2, h3, h4⟩ := hv
  refine ⟨a, cap, h1, h2, ?_, h4⟩
  rcases h3 with rfl | ⟨b, o, h5, h6⟩
  · cases cs' with
    | nil => exact .inl rfl
    | cons c l => exact h.elim
  · exact .inr ⟨b, o, h5, WeakL.vri h h6⟩
theorem WeakL.set : ∀ {l : List AV} (i : Nat) {a b : AV}, Weak a b → WeakL (l.set i a) (l.set i b)
  | [], _, _, _, _ => trivial
  | _ :: l, 0, _, _, h => ⟨h, WeakL.refl l⟩
  | _ :: _, i + 1, _, _, h => ⟨Weak.refl _, WeakL.set i h⟩
end Go.Abs
namespace Go.Abs
variable {S : Seat}
mutual
theorem ren_id {ρ : Nat → Nat} {p : Nat → Prop} (h : ∀ i, p i → ρ i = i) : ∀ (a : AV), Ids p a → Abs.ren ρ a = a
  | .undef, _ => by simp only [Abs.ren]
  | .bool _, _ => by simp only [Abs.ren]
  | .int _ _, _ => by simp only [Abs.ren]
  | .str _, _ => by simp only [Abs.ren]
  | .nilp, _ => by simp only [Abs.ren]
  | .ptr i o, k => by simp only [Ids] at k; simp only [Abs.ren]; rw [h i k]
  | .iptr cs, k => by simp only [Ids] at k; simp only [Abs.ren]; rw [ren_idL h cs k]
  | .nils, _ => by simp only [Abs.ren]
  | .vec cs len none, k => by simp only [Ids] at k; simp only [Abs.ren]; rw [ren_idL h cs k.2]
  | .vec cs len (some i), k => by simp only [Ids] at k; simp only [Abs.ren]; rw [ren_idL h cs k.2, h i (k.1 i rfl)]
  | .row i o len cap, k => by simp only [Ids] at k; simp only [Abs.ren]; rw [h i k]
  | .nilf, _ => by simp only [Abs.ren]
  | .fn f a b, k => by simp only [Ids] at k; simp only [Abs.ren]; rw [ren_idL h a k.1, ren_idL h b k.2]
  | .cb i, k => by simp only [Ids] at k; simp only [Abs.ren]; rw [h i k]
  | .nili, _ => by simp only [Abs.ren]
  | .ifc t v, k => by simp only [Ids] at k; simp only [Abs.ren]; rw [ren_id h v k]
  | .agg cs, k => by simp only [Ids] at k; simp only [Abs.ren]; rw [ren_idL h cs k]
  | .tup cs, k => by simp only [Ids] at k; simp only [Abs.ren]; rw [ren_idL h cs k]
  | .mapp i, k => by simp only [Ids] at k; simp only [Abs.ren]; rw [h i k]
  | .nilm, _ => by simp only [Abs.ren]
theorem ren_idL {ρ : Nat → Nat} {p : Nat → Prop} (h : ∀ i, p i → ρ i = i) : ∀ (cs : List AV), IdsL p cs → renL ρ cs = cs
  | [], _ => by simp only [renL]
  | c :: cs, k => by simp only [IdsL] at k; simp only [renL]; rw [ren_id h c k.1, ren_idL h cs k.2]
end
theorem renC_id {ρ : Nat → Nat} {p : Nat → Prop} (h : ∀ i, p i → ρ i = i) : ∀ (c : Chunk), IdsC p c → renC ρ c = c
  | .var cs t, k => by simp only [IdsC] at k; simp only [renC]; rw [ren_idL h cs k]
  | .ro cs, k => by simp only [IdsC] at k; simp only [renC]; rw [ren_idL h cs k]
  | .tok F t sz, _ => rfl
  | .cb acc seen st, _ => rfl
  | .dead, _ => rfl
  | .unborn, _ => rfl
theorem rho01 (n i : Nat) (h : i < 2) : rho [0, 1] n i = i := by
  match i, h with
  | 0, _ => rfl
  | 1, _ => rfl
theorem CallH.mem01 (hG : GOK S) {f : Nat} {args : List AV} {c0 c1 c0' c1' : Chunk} {rest : Heap} {v : AV} {k : AEnd → Heap → Prop} (hA : ACalls S f args [c0, c1] (fun r h' => r = .ret v ∧ h' = [c0', c1']))
    (h1 : IdsL (· < 2) args) (h2 : IdsH (· < 2) [c0, c1]) (h3 : IdsH (· < 2) [c0', c1']) (h4 : Ids (· < 2) v) (hk : k (.ret v) (c0' :: c1' :: rest)) : CallH S f args (c0 :: c1 :: rest) k := by
  have hr : ∀ i, i < 2 → rho [0, 1] (c0 :: c1 :: rest).length i = i := fun i h => rho01 _ i h
  have e0 := renC_id hr c0 h2.1
  have e1 := renC_id hr c1 h2.2.1
  have e2 := renC_id hr c0' h3.1
  have e3 := renC_id hr c1' h3.2.1
  refine CallH.mem hG [0, 1] hA (by simp) (by simp) (ren_idL hr args h1).symm ?_ (by simp) (ren_id hr v h4) (h' := c0' :: c1' :: rest) ?_ hk
  · simp only [renH, e0, e1]; rfl
  · simp only [mergeH, renH, e2, e3, List.append_nil]; rfl
end Go.Abs
namespace Go.Proofs.YteicdddheaajlaaDoor
open Go.Abs
def tbl : List (Option TI) := [
  some ⟨.other, 1, 0, (Value.tuple #[])⟩,
  some ⟨.func, 1, 8, Value.nilFunc⟩,
  some ⟨.int .i64, 1, 8, (Value.int IntKind.i64 0)⟩,
  some ⟨.int .i64, 1, 8, (Value.int IntKind.i64 0)⟩,
  some ⟨.bool, 1, 1, (Value.bool false)⟩,
  some ⟨.int .u8, 1, 1, (Value.int IntKind.u8 0)⟩,
  some ⟨.int .u8, 1, 1, (Value.int IntKind.u8 0)⟩,
  some ⟨.struct [(0, 1, false), (1, 1, false), (2, 1, false), (3, 1, false)], 4, 24, (Value.agg #[Value.int IntKind.i64 0, Value.int IntKind.i64 0, Value.bool false, Value.int IntKind.u8 0])⟩,
  some ⟨.struct [(0, 1, false), (1, 1, false), (2, 1, false), (3, 1, false)], 4, 24, (Value.agg #[Value.int IntKind.i64 0, Value.int IntKind.i64 0, Value.bool false, Value.int IntKind.u8 0])⟩,
  some ⟨.str, 1, 16, (Value.string { data := #[] })⟩,
  some ⟨.str, 1, 16, (Value.string { data := #[] })⟩,
  some ⟨.str, 1, 16, (Value.string { data := #[] })⟩,
  some ⟨.int .u64, 1, 8, (Value.int IntKind.u64 0)⟩,
  some ⟨.struct [(0, 1, false), (1, 1, false)], 2, 24, (Value.agg #[Value.string { data := #[] }, Value.int IntKind.u64 0])⟩,
  some ⟨.struct [(0, 1, false), (1, 1, false)], 2, 24, (Value.agg #[Value.string { data := #[] }, Value.int IntKind.u64 0])⟩,
  some ⟨.ptr, 1, 8, (Value.pointer none)⟩,
  some ⟨.ptr, 1, 8, (Value.pointer none)⟩,
  some ⟨.ptr, 1, 8, (Value.pointer none)⟩,
  some ⟨.struct [(0, 1, false)], 1, 8, (Value.agg #[Value.pointer none])⟩,
  some ⟨.struct [(0, 1, false)], 1, 8, (Value.agg #[Value.pointer none])⟩,
  some ⟨.iface, 1, 16, Value.nilIface⟩,
  some ⟨.int .i32, 1, 4, (Value.int IntKind.i32 0)⟩,
  some ⟨.func, 1, 8, Value.nilFunc⟩,
  some ⟨.slice 43, 1, 24, (Value.slice none 0 0)⟩,
  some ⟨.int .i64, 1, 8, (Value.int IntKind.i64 0)⟩,
  some ⟨.other, 1, 0, (Value.tuple #[Value.slice none 0 0, Value.int IntKind.i64 0, Value.int IntKind.i64 0])⟩,
  some ⟨.func, 1, 8, Value.nilFunc⟩,
  some ⟨.struct [(0, 1, false), (1, 1, false), (2, 1, false)], 3, 40, (Value.agg #[Value.slice none 0 0, Value.int IntKind.i64 0, Value.int IntKind.i64 0])⟩,
  some ⟨.struct [(0, 1, false), (1, 1, false), (2, 1, false)], 3, 40, (Value.agg #[Value.slice none 0 0, Value.int IntKind.i64 0, Value.int IntKind.i64 0])⟩,
  some ⟨.func, 1, 8, Value.nilFunc⟩,
  some ⟨.func, 1, 8, Value.nilFunc⟩,
  some ⟨.func, 1, 8, Value.nilFunc⟩,
  some ⟨.slice 37, 1, 24, (Value.slice none 0 0)⟩,
  some ⟨.arr 2 21, 2, 8, (Value.agg #[Value.int IntKind.i32 0, Value.int IntKind.i32 0])⟩,
  some ⟨.func, 1, 8, Value.nilFunc⟩,
  some ⟨.slice 2, 1, 24, (Value.slice none 0 0)⟩,
  some ⟨.struct [(0, 1, false), (1, 1, false)], 2, 32, (Value.agg #[Value.int IntKind.u8 0, Value.slice none 0 0])⟩,
  some ⟨.struct [(0, 1, false), (1, 1, false)], 2, 32, (Value.agg #[Value.int IntKind.u8 0, Value.slice none 0 0])⟩,
  some ⟨.func, 1, 8, Value.nilFunc⟩,
  some ⟨.func, 1, 8, Value.nilFunc⟩,
  some ⟨.struct [(0, 1, false), (1, 1, false)], 2, 16, (Value.agg #[Value.int IntKind.i64 0, Value.int IntKind.i64 0])⟩,
  some ⟨.struct [(0, 1, false), (1, 1, false)], 2, 16, (Value.agg #[Value.int IntKind.i64 0, Value.int IntKind.i64 0])⟩,
  some ⟨.struct [(0, 1, false), (1, 2, true), (3, 2, true), (5, 2, true), (7, 1, false), (8, 1, false), (9, 1, false), (10, 1, false), (11, 1, false)], 12, 88, (Value.agg #[Value.int IntKind.i64 0, Value.int IntKind.i64 0, Value.int IntKind.i64 0, Value.int IntKind.i64 0, Value.int IntKind.i64 0, Value.int IntKind.i64 0, Value.int IntKind.i64 0, Value.int IntKind.i64 0, Value.int IntKind.i64 0, Value.int IntKind.i64 0, Value.bool false, Value.bool false])⟩,
  some ⟨.struct [(0, 1, false), (1, 2, true), (3, 2, true), (5, 2, true), (7, 1, false), (8, 1, false), (9, 1, false), (10, 1, false), (11, 1, false)], 12, 88, (Value.agg #[Value.int IntKind.i64 0, Value.int IntKind.i64 0, Value.int IntKind.i64 0, Value.int IntKind.i64 0, Value.int IntKind.i64 0, Value.int IntKind.i64 0, Value.int IntKind.i64 0, Value.int IntKind.i64 0, Value.int IntKind.i64 0, Value.int IntKind.i64 0, Value.bool false, Value.bool false])⟩,
  some ⟨.func, 1, 8, Value.nilFunc⟩,
  some ⟨.func, 1, 8, Value.nilFunc⟩,
  some ⟨.func, 1, 8, Value.nilFunc⟩,
  some ⟨.func, 1, 8, Value.nilFunc⟩,
  some ⟨.func, 1, 8, Value.nilFunc⟩,
  some ⟨.func, 1, 8, Value.nilFunc⟩,
  some ⟨.other, 1, 0, (Value.tuple #[Value.slice none 0 0, Value.int IntKind.i64 0, Value.int IntKind.i64 0])⟩,
  some ⟨.func, 1, 8, Value.nilFunc⟩,
  some ⟨.func, 1, 8, Value.nilFunc⟩,
  some ⟨.struct [(0, 1, false), (1, 1, false), (2, 1, false)], 3, 40, (Value.agg #[Value.slice none 0 0, Value.int IntKind.i64 0, Value.int IntKind.i64 0])⟩,
  some ⟨.struct [(0, 1, false), (1, 1, false), (2, 1, false)], 3, 40, (Value.agg #[Value.slice none 0 0, Value.int IntKind.i64 0, Value.int IntKind.i64 0])⟩,
  some ⟨.func, 1, 8, Value.nilFunc⟩,
  some ⟨.other, 1, 0, (Value.tuple #[Value.slice none 0 0, Value.int IntKind.i64 0])⟩,
  some ⟨.func, 1, 8, Value.nilFunc⟩,
  some ⟨.func, 1, 8, Value.nilFunc⟩,
  some ⟨.func, 1, 8, Value.nilFunc⟩,
  some ⟨.func, 1, 8, Value.nilFunc⟩,
  some ⟨.func, 1, 8, Value.nilFunc⟩,
  some ⟨.func, 1, 8, Value.nilFunc⟩,
  some ⟨.func, 1, 8, Value.nilFunc⟩,
  some ⟨.int .u64, 1, 8, (Value.int IntKind.u64 0)⟩,
  some ⟨.other, 1, 0, (Value.tuple #[Value.int IntKind.i64 0, Value.int IntKind.i64 0])⟩,
  some ⟨.func, 1, 8, Value.nilFunc⟩,
  some ⟨.struct [(0, 2, true), (2, 2, true), (4, 1, false), (5, 1, false), (6, 2, true), (8, 1, false), (9, 1, false)], 10, 88, (Value.agg #[Value.int IntKind.i64 0, Value.int IntKind.i64 0, Value.int IntKind.i64 0, Value.int IntKind.i64 0, Value.bool false, Value.int IntKind.u8 0, Value.int IntKind.i64 0, Value.int IntKind.i64 0, Value.slice none 0 0, Value.bool false])⟩,
  some ⟨.struct [(0, 2, true), (2, 2, true), (4, 1, false), (5, 1, false), (6, 2, true), (8, 1, false), (9, 1, false)], 10, 88, (Value.agg #[Value.int IntKind.i64 0, Value.int IntKind.i64 0, Value.int IntKind.i64 0, Value.int IntKind.i64 0, Value.bool false, Value.int IntKind.u8 0, Value.int IntKind.i64 0, Value.int IntKind.i64 0, Value.slice none 0 0, Value.bool false])⟩,
  some ⟨.func, 1, 8, Value.nilFunc⟩,
  some ⟨.func, 1, 8, Value.nilFunc⟩,
  some ⟨.struct [(0, 1, false), (1, 1, false), (2, 1, false)], 3, 24, (Value.agg #[Value.int IntKind.i64 0, Value.int IntKind.i64 0, Value.int IntKind.i64 0])⟩,
  some ⟨.struct [(0, 1, false), (1, 1, false), (2, 1, false)], 3, 24, (Value.agg #[Value.int IntKind.i64 0, Value.int IntKind.i64 0, Value.int IntKind.i64 0])⟩,
  some ⟨.func, 1, 8, Value.nilFunc⟩,
  some ⟨.func, 1, 8, Value.nilFunc⟩,
  some ⟨.func, 1, 8, Value.nilFunc⟩,
  some ⟨.func, 1, 8, Value.nilFunc⟩,
  some ⟨.struct [(0, 1, false), (1, 1, false)], 2, 24, (Value.agg #[Value.int IntKind.u8 0, Value.string { data := #[] }])⟩,
  some ⟨.struct [(0, 1, false), (1, 1, false)], 2, 24, (Value.agg #[Value.int IntKind.u8 0, Value.string { data := #[] }])⟩,
  some ⟨.other, 1, 0, (Value.tuple #[Value.agg #[Value.int IntKind.u8 0, Value.string { data := #[] }], Value.bool false])⟩,
  some ⟨.func, 1, 8, Value.nilFunc⟩,
  some ⟨.func, 1, 8, Value.nilFunc⟩,
  some ⟨.ptr, 1, 8, (Value.pointer none)⟩,
  some ⟨.func, 1, 8, Value.nilFunc⟩,
  some ⟨.func, 1, 8, Value.nilFunc⟩,
  some ⟨.other, 1, 0, (Value.tuple #[Value.int IntKind.u8 0, Value.bool false])⟩,
  some ⟨.func, 1, 8, Value.nilFunc⟩,
  some ⟨.other, 1, 0, (Value.tuple #[Value.slice none 0 0, Value.int IntKind.i64 0])⟩,
  some ⟨.func, 1, 8, Value.nilFunc⟩,
  some ⟨.func, 1, 8, Value.nilFunc⟩,
  some ⟨.ptr, 1, 8, (Value.pointer none)⟩,
  some ⟨.func, 1, 8, Value.nilFunc⟩,
  some ⟨.func, 1, 8, Value.nilFunc⟩,
  some ⟨.struct [(0, 1, false), (1, 1, false)], 2, 16, (Value.agg #[Value.int IntKind.u8 0, Value.nilFunc])⟩,
  some ⟨.struct [(0, 1, false), (1, 1, false)], 2, 16, (Value.agg #[Value.int IntKind.u8 0, Value.nilFunc])⟩,
  some ⟨.arr 10 94, 20, 160, (Value.agg #[Value.int IntKind.u8 0, Value.nilFunc, Value.int IntKind.u8 0, Value.nilFunc, Value.int IntKind.u8 0, Value.nilFunc, Value.int IntKind.u8 0, Value.nilFunc, Value.int IntKind.u8 0, Value.nilFunc, Value.int IntKind.u8 0, Value.nilFunc, Value.int IntKind.u8 0, Value.nilFunc, Value.int IntKind.u8 0, Value.nilFunc, Value.int IntKind.u8 0, Value.nilFunc, Value.int IntKind.u8 0, Value.nilFunc])⟩,
  some ⟨.func, 1, 8, Value.nilFunc⟩,
  some ⟨.func, 1, 8, Value.nilFunc⟩,
  some ⟨.func, 1, 8, Value.nilFunc⟩,
  some ⟨.func, 1, 8, Value.nilFunc⟩,
  some ⟨.func, 1, 8, Value.nilFunc⟩,
  some ⟨.func, 1, 8, Value.nilFunc⟩,
  some ⟨.func, 1, 8, Value.nilFunc⟩,
  some ⟨.slice 78, 1, 24, (Value.slice none 0 0)⟩,
  some ⟨.arr 10 78, 20, 240, (Value.agg #[Value.int IntKind.u8 0, Value.string { data := #[] }, Value.int IntKind.u8 0, Value.string { data := #[] }, Value.int IntKind.u8 0, Value.string { data := #[] }, Value.int IntKind.u8 0, Value.string { data := #[] }, Value.int IntKind.u8 0, Value.string { data := #[] }, Value.int IntKind.u8 0, Value.string { data := #[] }, Value.int IntKind.u8 0, Value.string { data := #[] }, Value.int IntKind.u8 0, Value.string { data := #[] }, Value.int IntKind.u8 0, Value.string { data := #[] }, Value.int IntKind.u8 0, Value.string { data := #[] }])⟩,
  some ⟨.func, 1, 8, Value.nilFunc⟩,
  some ⟨.struct [(0, 1, false), (1, 1, false)], 2, 24, (Value.agg #[Value.string { data := #[] }, Value.int IntKind.i64 0])⟩,
  some ⟨.struct [(0, 1, false), (1, 1, false)], 2, 24, (Value.agg #[Value.string { data := #[] }, Value.int IntKind.i64 0])⟩,
  some ⟨.arr 33 3, 33, 264, (Value.agg #[Value.int IntKind.i64 0, Value.int IntKind.i64 0, Value.int IntKind.i64 0, Value.int IntKind.i64 0, Value.int IntKind.i64 0, Value.int IntKind.i64 0, Value.int IntKind.i64 0, Value.int IntKind.i64 0, Value.int IntKind.i64 0, Value.int IntKind.i64 0, Value.int IntKind.i64 0, Value.int IntKind.i64 0, Value.int IntKind.i64 0, Value.int IntKind.i64 0, Value.int IntKind.i64 0, Value.int IntKind.i64 0, Value.int IntKind.i64 0, Value.int IntKind.i64 0, Value.int IntKind.i64 0, Value.int IntKind.i64 0, Value.int IntKind.i64 0, Value.int IntKind.i64 0, Value.int IntKind.i64 0, Value.int IntKind.i64 0, Value.int IntKind.i64 0, Value.int IntKind.i64 0, Value.int IntKind.i64 0, Value.int IntKind.i64 0, Value.int IntKind.i64 0, Value.int IntKind.i64 0, Value.int IntKind.i64 0, Value.int IntKind.i64 0, Value.int IntKind.i64 0])⟩,
  some ⟨.other, 1, 0, (Value.tuple #[Value.int IntKind.i64 0, Value.int IntKind.i64 0])⟩,
  some ⟨.func, 1, 8, Value.nilFunc⟩,
  some ⟨.func, 1, 8, Value.nilFunc⟩,
  some ⟨.func, 1, 8, Value.nilFunc⟩,
  some ⟨.other, 1, 0, (Value.tuple #[Value.int IntKind.i64 0, Value.bool false])⟩,
  some ⟨.func, 1, 8, Value.nilFunc⟩,
  some ⟨.other, 1, 0, (Value.tuple #[Value.int IntKind.i64 0, Value.int IntKind.i64 0])⟩,
  some ⟨.func, 1, 8, Value.nilFunc⟩,
  some ⟨.func, 1, 8, Value.nilFunc⟩,
  some ⟨.func, 1, 8, Value.nilFunc⟩,
  some ⟨.func, 1, 8, Value.nilFunc⟩,
  some ⟨.func, 1, 8, Value.nilFunc⟩,
  some ⟨.slice 3, 1, 24, (Value.slice none 0 0)⟩,
  some ⟨.struct [(0, 1, false), (1, 1, false)], 2, 32, (Value.agg #[Value.bool false, Value.slice none 0 0])⟩,
  some ⟨.struct [(0, 1, false), (1, 1, false)], 2, 32, (Value.agg #[Value.bool false, Value.slice none 0 0])⟩,
  some ⟨.struct [(0, 1, false), (1, 2, true), (3, 1, false)], 4, 48, (Value.agg #[Value.bool false, Value.bool false, Value.slice none 0 0, Value.int IntKind.i64 0])⟩,
  some ⟨.struct [(0, 1, false), (1, 2, true), (3, 1, false)], 4, 48, (Value.agg #[Value.bool false, Value.bool false, Value.slice none 0 0, Value.int IntKind.i64 0])⟩,
  some ⟨.func, 1, 8, Value.nilFunc⟩,
  some ⟨.func, 1, 8, Value.nilFunc⟩,
  some ⟨.func, 1, 8, Value.nilFunc⟩,
  some ⟨.other, 1, 0, (Value.tuple #[Value.int IntKind.i64 0, Value.bool false])⟩,
  some ⟨.func, 1, 8, Value.nilFunc⟩,
  some ⟨.func, 1, 8, Value.nilFunc⟩,
  some ⟨.func, 1, 8, Value.nilFunc⟩,
  some ⟨.func, 1, 8, Value.nilFunc⟩,
  some ⟨.func, 1, 8, Value.nilFunc⟩,
  some ⟨.func, 1, 8, Value.nilFunc⟩,
  some ⟨.arr 4 3, 4, 32, (Value.agg #[Value.int IntKind.i64 0, Value.int IntKind.i64 0, Value.int IntKind.i64 0, Value.int IntKind.i64 0])⟩,
  some ⟨.arr 9 136, 36, 288, (Value.agg #[Value.int IntKind.i64 0, Value.int IntKind.i64 0, Value.int IntKind.i64 0, Value.int IntKind.i64 0, Value.int IntKind.i64 0, Value.int IntKind.i64 0, Value.int IntKind.i64 0, Value.int IntKind.i64 0, Value.int IntKind.i64 0, Value.int IntKind.i64 0, Value.int IntKind.i64 0, Value.int IntKind.i64 0, Value.int IntKind.i64 0, Value.int IntKind.i64 0, Value.int IntKind.i64 0, Value.int IntKind.i64 0, Value.int IntKind.i64 0, Value.int IntKind.i64 0, Value.int IntKind.i64 0, Value.int IntKind.i64 0, Value.int IntKind.i64 0, Value.int IntKind.i64 0, Value.int IntKind.i64 0, Value.int IntKind.i64 0, Value.int IntKind.i64 0, Value.int IntKind.i64 0, Value.int IntKind.i64 0, Value.int IntKind.i64 0, Value.int IntKind.i64 0, Value.int IntKind.i64 0, Value.int IntKind.i64 0, Value.int IntKind.i64 0, Value.int IntKind.i64 0, Value.int IntKind.i64 0, Value.int IntKind.i64 0, Value.int IntKind.i64 0])⟩,
  some ⟨.arr 9 3, 9, 72, (Value.agg #[Value.int IntKind.i64 0, Value.int IntKind.i64 0, Value.int IntKind.i64 0, Value.int IntKind.i64 0, Value.int IntKind.i64 0, Value.int IntKind.i64 0, Value.int IntKind.i64 0, Value.int IntKind.i64 0, Value.int IntKind.i64 0])⟩,
  some ⟨.slice 5, 1, 24, (Value.slice none 0 0)⟩,
  some ⟨.struct [(0, 1, false), (1, 1, false), (2, 1, false)], 3, 40, (Value.agg #[Value.bool false, Value.slice none 0 0, Value.int IntKind.i64 0])⟩,
  some ⟨.struct [(0, 1, false), (1, 1, false), (2, 1, false)], 3, 40, (Value.agg #[Value.bool false, Value.slice none 0 0, Value.int IntKind.i64 0])⟩,
  some ⟨.func, 1, 8, Value.nilFunc⟩,
  some ⟨.int .u64, 1, 8, (Value.int IntKind.u64 0)⟩,
  some ⟨.func, 1, 8, Value.nilFunc⟩,
  some ⟨.other, 1, 0, (Value.tuple #[Value.int IntKind.u64 0, Value.int IntKind.u64 0])⟩,
  some ⟨.func, 1, 8, Value.nilFunc⟩,
  some ⟨.func, 1, 8, Value.nilFunc⟩,
  some ⟨.func, 1, 8, Value.nilFunc⟩,
  some ⟨.other, 1, 0, (Value.tuple #[Value.slice none 0 0, Value.int IntKind.i64 0])⟩,
  some ⟨.func, 1, 8, Value.nilFunc⟩,
  some ⟨.iface, 1, 16, Value.nilIface⟩,
  some ⟨.iface, 1, 16, Value.nilIface⟩,
  some ⟨.func, 1, 8, Value.nilFunc⟩,
  some ⟨.ptr, 1, 8, (Value.pointer none)⟩,
  some ⟨.func, 1, 8, Value.nilFunc⟩,
  some ⟨.struct [(0, 1, false), (1, 1, false), (2, 1, false), (3, 1, false)], 4, 40, (Value.agg #[Value.pointer none, Value.pointer none, Value.pointer none, Value.string { data := #[] }])⟩,
  some ⟨.struct [(0, 1, false), (1, 1, false), (2, 1, false), (3, 1, false)], 4, 40, (Value.agg #[Value.pointer none, Value.pointer none, Value.pointer none, Value.string { data := #[] }])⟩,
  some ⟨.arr 0 16, 0, 0, (Value.agg #[])⟩,
  some ⟨.struct [(0, 0, true)], 0, 0, (Value.agg #[])⟩,
  some ⟨.struct [(0, 0, true)], 0, 0, (Value.agg #[])⟩,
  some ⟨.int .u32, 1, 4, (Value.int IntKind.u32 0)⟩,
  some ⟨.int .u8, 1, 1, (Value.int IntKind.u8 0)⟩,
  some ⟨.int .u8, 1, 1, (Value.int IntKind.u8 0)⟩,
  some ⟨.func, 1, 8, Value.nilFunc⟩,
  some ⟨.ptr, 1, 8, (Value.pointer none)⟩,
  some ⟨.int .i32, 1, 4, (Value.int IntKind.i32 0)⟩,
  some ⟨.int .i32, 1, 4, (Value.int IntKind.i32 0)⟩,
  some ⟨.struct [(0, 1, false), (1, 1, false), (2, 1, false), (3, 1, false), (4, 1, false), (5, 1, false), (6, 1, false), (7, 1, false), (8, 1, false), (9, 1, false), (10, 1, false)], 11, 48, (Value.agg #[Value.int IntKind.u64 0, Value.int IntKind.u64 0, Value.int IntKind.u32 0, Value.int IntKind.u8 0, Value.int IntKind.u8 0, Value.int IntKind.u8 0, Value.int IntKind.u8 0, Value.nilFunc, Value.pointer none, Value.int IntKind.i32 0, Value.int IntKind.i32 0])⟩,
  some ⟨.struct [(0, 1, false), (1, 1, false), (2, 1, false), (3, 1, false), (4, 1, false), (5, 1, false), (6, 1, false), (7, 1, false), (8, 1, false), (9, 1, false), (10, 1, false)], 11, 48, (Value.agg #[Value.int IntKind.u64 0, Value.int IntKind.u64 0, Value.int IntKind.u32 0, Value.int IntKind.u8 0, Value.int IntKind.u8 0, Value.int IntKind.u8 0, Value.int IntKind.u8 0, Value.nilFunc, Value.pointer none, Value.int IntKind.i32 0, Value.int IntKind.i32 0])⟩,
  some ⟨.struct [(0, 1, false)], 1, 16, (Value.agg #[Value.string { data := #[] }])⟩,
  some ⟨.struct [(0, 1, false)], 1, 16, (Value.agg #[Value.string { data := #[] }])⟩,
  none]
def globs : List (Option (List AV)) := [some [.int .u8 77, .str [110, 110], .int .u8 76, .str [110, 110], .int .u8 72, .str [110], .int .u8 86, .str [110], .int .u8 67, .str [110, 110, 110, 110, 110, 110], .int .u8 83, .str [110, 110, 110, 110], .int .u8 81, .str [110, 110, 110, 110], .int .u8 84, .str [110, 110], .int .u8 65, .str [117, 117, 110, 103, 102, 110, 110], .int .u8 90, .str []], some [.int .i64 0, .int .i64 0, .int .i64 0, .int .i64 0, .int .i64 0, .int .i64 0, .int .i64 0, .int .i64 0, .int .i64 0, .int .i64 1, .int .i64 1, .int .i64 0, .int .i64 0, .int .i64 1, .int .i64 0, .int .i64 0, .int .i64 0, .int .i64 0, .int .i64 0, .int .i64 0, .int .i64 0, .int .i64 0, .int .i64 0, .int .i64 0, .int .i64 0, .int .i64 0, .int .i64 0, .int .i64 0, .int .i64 0, .int .i64 0, .int .i64 0, .int .i64 0, .int .i64 1], some [.int .i64 2, .int .i64 3, .int .i64 0, .int .i64 1, .int .i64 2, .int .i64 3, .int .i64 0, .int .i64 0, .int .i64 2, .int .i64 4, .int .i64 6, .int .i64 0, .int .i64 5, .int .i64 0, .int .i64 0, .int .i64 0, .int .i64 5, .int .i64 0, .int .i64 6, .int .i64 0, .int .i64 5, .int .i64 0, .int .i64 6, .int .i64 0, .int .i64 8, .int .i64 0, .int .i64 0, .int .i64 7, .int .i64 8, .int .i64 0, .int .i64 0, .int .i64 0, .int .i64 8, .int .i64 0, .int .i64 0, .int .i64 0], some [.int .i64 0, .int .i64 0, .int .i64 1, .int .i64 0, .int .i64 1, .int .i64 1, .int .i64 0, .int .i64 0, .int .i64 1]]
def flats (t : Nat) : Option (List Nat) := if Nat.beq t 41 = true then some [0, 0] else if Nat.beq t 43 = true then some [0, 0, 0, 0, 0, 0, 0, 0, 0, 0, 1, 1] else none
theorem flat_spec (t : Nat) (ks : List Nat) (h : flats t = some ks) : FlatOK Tryd.prog t ks := by
  unfold flats at h
  split at h
  · rename_i e; have e := Nat.eq_of_beq_eq_true e; subst e; cases h; exact flat_ok (by kernel_rfl) (by kernel_rfl)
  split at h
  · rename_i e; have e := Nat.eq_of_beq_eq_true e; subst e; cases h; exact flat_ok (by kernel_rfl) (by kernel_rfl)
  · cases h
noncomputable def seat : Seat := { P := Tryd.prog, Γ := fun t => (match getO tbl t with | some o => o | none => none), G := fun g => (match getO globs g with | some o => o | none => none), flat := flats }
theorem tbl_kind : (tbl.zipIdx.all fun p => match p.1 with | some ti => kindOKB Tryd.prog p.2 ti.kind && (ti.zero.cells.size == ti.size) | none => true) = true := by kernel_rfl
noncomputable def infoOf (p : Option TI × Nat) : Option (Nat × Nat × Option Value) := match p.1 with | some _ => (Tryd.prog.info? p.2).map (fun i => (i.size, i.bytes, i.zero)) | none => none
theorem tbl_info : tbl.zipIdx.map infoOf = tbl.map fun o => o.map fun ti => (ti.size, ti.bytes, some ti.zero) := by kernel_rfl
theorem seat_ok : SeatOK seat where
  ty t ti h := by
    have hg : tbl[t]? = some (some ti) := by
      have : (match getO tbl t with | some o => o | none => none) = some ti := h
      rw [getO_eq] at this
      cases ho : tbl[t]? with
      | none => rw [ho] at this; cases this
      | some o => rw [ho] at this; simp only at this; rw [this]
    have hz : tbl.zipIdx[t]? = some (some ti, t) := by simp [List.getElem?_zipIdx, hg]
    have hk := List.all_eq_true.1 tbl_kind _ (List.mem_of_getElem? hz)
    simp only [Bool.and_eq_true, beq_iff_eq] at hk
    have hi := congrArg (fun l => l[t]?) tbl_info
    simp only [List.getElem?_map, hz, hg, Option.map_some, infoOf] at hi
    exact ⟨hk.1, Option.some.inj hi, hk.2⟩
  mixed := by kernel_rfl
  flat t ks h := flat_spec t ks h
theorem seat_g : GOK seat := ⟨fun g cs h => by
  have : (match getO globs g with | some o => o | none => none) = some cs := h
  rw [getO_eq] at this
  have hc : ∀ o ∈ globs, ∀ cs, o = some cs → ClosedL cs := by simp [globs, ClosedL, Closed]
  cases ho : globs[g]? with
  | none => rw [ho] at this; cases this
  | some o => rw [ho] at this; exact hc o (List.mem_of_getElem? ho) cs this⟩
end Go.Proofs.YteicdddheaajlaaDoor
namespace Go.Proofs.YteicdddheaajlaaDoor
open Go.Abs
structure Sg where
  kind : Int
  to : Pt
  c1 : Pt
  c2 : Pt
  rx : Int
  ry : Int
  turn : Int
  large : Bool
  sweep : Bool
def sgC (s : Sg) : List AV := [.int .i64 s.kind, .int .i64 s.to.x, .int .i64 s.to.y, .int .i64 s.c1.x, .int .i64 s.c1.y, .int .i64 s.c2.x, .int .i64 s.c2.y, .int .i64 s.rx, .int .i64 s.ry, .int .i64 s.turn, .bool s.large, .bool s.sweep]
theorem sgC_len (s : Sg) : (sgC s).length = 12 := rfl
theorem sg_snoc (L : List Sg) (x : Sg) : cs sgC (L ++ [x]) = cs sgC L ++ sgC x := by simp [cs]
theorem sg_length (L : List Sg) : (cs sgC L).length = L.length * 12 := cs_length sgC_len L
theorem sg_closed (L : List Sg) : ClosedL (cs sgC L) := cs_closed (fun s => by simp [sgC, ClosedL, Closed]) L
instance {L : List Sg} : Cw (cs sgC L) := ⟨sg_closed L⟩
theorem sg_ids (p : Nat → Prop) (L : List Sg) : IdsL p (cs sgC L) := ClosedL.ids _ (sg_closed L)
def sgV (L : List Sg) : AV := .vec (cs sgC L) L.length none
def p0 : Pt := ⟨0, 0⟩
structure St where
  pos : Pt
  bg : Pt
  opn : Bool
  was : Int
  ct : Pt
  out : List Sg
  bad : Bool
def st0 : St := ⟨p0, p0, false, 0, p0, [], false⟩
def stC (s : St) : List AV := [.int .i64 s.pos.x, .int .i64 s.pos.y, .int .i64 s.bg.x, .int .i64 s.bg.y, .bool s.opn, .int .u8 s.was, .int .i64 s.ct.x, .int .i64 s.ct.y, .vec (cs sgC s.out) s.out.length (some 1), .bool s.bad]
def IB (a : Int) : Prop := -4294967296 < a ∧ a < 4294967296
instance (a : Int) : Decidable (IB a) := by unfold IB; infer_instance
def inP (p : Pt) : Prop := IB p.x ∧ IB p.y
instance (p : Pt) : Decidable (inP p) := by unfold inP; infer_instance
def adP (a : Pt) (x y : Int) : Pt := ⟨a.x + x, a.y + y⟩
def tell (s : St) (p : Pt) : St := { s with bad := s.bad || !decide (inP p) }
def putS (s : St) (x : Sg) : St := { s with out := s.out ++ [x], pos := x.to }
def lnS (k : Int) (p : Pt) : Sg := ⟨k, p, p0, p0, 0, 0, 0, false, false⟩
def mirP (s : St) (a b : Int) : Pt := if s.was = a ∨ s.was = b then adP s.pos (s.pos.x - s.ct.x) (s.pos.y - s.ct.y) else s.pos
def mirS (s : St) (a b : Int) : St := if s.was = a ∨ s.was = b then tell s (mirP s a b) else s
def mvS (s : St) (f : Pt) (a b : Int) : St := { putS (tell s (adP f a b)) (lnS 1 (adP f a b)) with bg := adP f a b, opn := true }
def liS (s : St) (f : Pt) (a b : Int) : St := putS (tell s (adP f a b)) (lnS 2 (adP f a b))
def cuS (s : St) (f : Pt) (a b c d e g : Int) : St := putS { tell (tell (tell s (adP f c d)) (adP f a b)) (adP f e g) with ct := adP f c d } ⟨3, adP f e g, adP f a b, adP f c d, 0, 0, 0, false, false⟩
def smS (s : St) (f : Pt) (a b c d : Int) : St := putS { tell (tell (mirS s 67 83) (adP f a b)) (adP f c d) with ct := adP f a b } ⟨3, adP f c d, mirP s 67 83, adP f a b, 0, 0, 0, false, false⟩
def quS (s : St) (f : Pt) (a b c d : Int) : St := putS { tell (tell s (adP f a b)) (adP f c d) with ct := adP f a b } ⟨4, adP f c d, adP f a b, p0, 0, 0, 0, false, false⟩
def agS (s : St) (f : Pt) (a b : Int) : St := putS { tell (mirS s 81 84) (adP f a b) with ct := mirP s 81 84 } ⟨4, adP f a b, mirP s 81 84, p0, 0, 0, 0, false, false⟩
def arS (s : St) (f : Pt) (a b c d e g h : Int) : St := putS (tell s (adP f g h)) ⟨5, adP f g h, p0, p0, a, b, c, d == 1, e == 1⟩
def enS (s : St) : St := { putS s (lnS 6 s.bg) with opn := false }
def actS (c : Int) (f : Pt) (n : List Int) (s : St) : St :=
  if c = 77 then mvS s f (n.getD 0 0) (n.getD 1 0)
  else if c = 76 then liS s f (n.getD 0 0) (n.getD 1 0)
  else if c = 72 then liS s ⟨f.x, s.pos.y⟩ (n.getD 0 0) 0
  else if c = 86 then liS s ⟨s.pos.x, f.y⟩ 0 (n.getD 0 0)
  else if c = 67 then cuS s f (n.getD 0 0) (n.getD 1 0) (n.getD 2 0) (n.getD 3 0) (n.getD 4 0) (n.getD 5 0)
  else if c = 83 then smS s f (n.getD 0 0) (n.getD 1 0) (n.getD 2 0) (n.getD 3 0)
  else if c = 81 then quS s f (n.getD 0 0) (n.getD 1 0) (n.getD 2 0) (n.getD 3 0)
  else if c = 84 then agS s f (n.getD 0 0) (n.getD 1 0)
  else if c = 65 then arS s f (n.getD 0 0) (n.getD 1 0) (n.getD 2 0) (n.getD 3 0) (n.getD 4 0) (n.getD 5 0) (n.getD 6 0)
  else enS s
def opS (c : Int) (s : St) : St := if c ≠ 77 ∧ s.opn = false then { putS s (lnS 1 s.pos) with opn := true } else s
def bigI (c : Int) : Int := if 97 ≤ c then c - 32 else c
def frS (c : Int) (s : St) : Pt := if 97 ≤ c then s.pos else p0
def doS (s : St) (c : Int) (n : List Int) : St := { actS (bigI c) (frS c s) n (opS (bigI c) s) with was := bigI c }
def walkN : List (UInt8 × List Int) → Nat → St → List Sg × Option Nat
  | [], _, s => (s.out, none)
  | x :: l, i, s => if (doS s x.1.toNat x.2).bad = true then (s.out, some i) else walkN l (i + 1) (doS s x.1.toNat x.2)
structure StOk (s : St) : Prop where
  pos : inP s.pos
  bg : inP s.bg
  ct : inP s.ct
  bad : s.bad = false
theorem st0_ok : StOk st0 := ⟨by decide, by decide, by decide, rfl⟩
end Go.Proofs.YteicdddheaajlaaDoor
