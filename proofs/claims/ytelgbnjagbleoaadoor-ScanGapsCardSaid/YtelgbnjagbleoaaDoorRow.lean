/- From the reading of a row's arguments to abstract values, and back. No condition: definitions and lemmas. -/
import Derived.Test.YtelgbnjagbleoaaDoorGeo
import Derived.Test.YtelgbnjagbleoaaDoorAbsB
import Derived.WideKeyArgs
import Derived.OpenShut
import Derived.KernelRfl
set_option linter.unusedSimpArgs false
set_option linter.unusedVariables false
set_option linter.deprecated false
namespace Go.Abs
open Go Go.RowKit Go.ChangeShapes

inductive CK where
  | int (k : IntKind)
  | bool
  | str

def ckFs (g : TypeId → Option (List CK)) : List Field → Nat → Option (List CK)
  | [], _ => some []
  | f :: r, off => if Nat.beq f.offset off = true then (match g f.type with | some a => (match ckFs g r (off + a.length) with | some b => some (a ++ b) | none => none) | none => none) else none
def ckRep : Nat → List CK → List CK
  | 0, _ => []
  | n + 1, a => a ++ ckRep n a
/-- the kinds of a type's cells, of types without references -/
def ckOf (P : Program) : Nat → TypeId → Option (List CK)
  | 0, _ => none
  | d + 1, t =>
    match (match P.underlying t with
      | some (.int k) => some [CK.int k]
      | some .bool => some [CK.bool]
      | some .string => some [CK.str]
      | some (.struct fs) => ckFs (ckOf P d) fs.toList 0
      | some (.array n e) => (match ckOf P d e with | some a => some (ckRep n a) | none => none)
      | _ => none) with
    | some a => if Nat.beq a.length (P.cellsOf t) = true then some a else none
    | none => none

def cellOK : CK → Value → Prop
  | .int k, c => ∃ n, c = .int k n ∧ (Lit.int k n).wf = true
  | .bool, c => ∃ b, c = .bool b
  | .str, c => ∃ s : ByteArray, c = .string s ∧ s.size ≤ maxLen
def CellsOK : List CK → List Value → Prop
  | [], [] => True
  | k :: ks, c :: cs => cellOK k c ∧ CellsOK ks cs
  | _, _ => False
theorem CellsOK.length : ∀ {ks : List CK} {cs : List Value}, CellsOK ks cs → ks.length = cs.length
  | [], [], _ => rfl
  | k :: ks, c :: cs, h => by simp [CellsOK.length h.2]
  | [], _ :: _, h => h.elim
  | _ :: _, [], h => h.elim
theorem CellsOK.cons {k : CK} {ks : List CK} {cs : List Value} (h : CellsOK (k :: ks) cs) : ∃ c r, cs = c :: r ∧ cellOK k c ∧ CellsOK ks r := by
  cases cs with
  | nil => exact h.elim
  | cons c r => exact ⟨c, r, rfl, h.1, h.2⟩
theorem CellsOK.consI {k : IntKind} {ks : List CK} {cs : List Value} (h : CellsOK (.int k :: ks) cs) : ∃ n r, cs = .int k n :: r ∧ (Lit.int k n).wf = true ∧ CellsOK ks r := by
  obtain ⟨c, r, rfl, ⟨n, rfl, hn⟩, hr⟩ := h.cons
  exact ⟨n, r, rfl, hn, hr⟩
theorem CellsOK.nil {cs : List Value} (h : CellsOK [] cs) : cs = [] := by
  cases cs with
  | nil => rfl
  | cons c r => exact h.elim
theorem CellsOK.append : ∀ {a b : List CK} {cs ds : List Value}, CellsOK a cs → CellsOK b ds → CellsOK (a ++ b) (cs ++ ds)
  | [], b, [], ds, _, k => k
  | _ :: a, b, _ :: cs, ds, h, k => ⟨h.1, CellsOK.append h.2 k⟩
  | [], _, _ :: _, _, h, _ => h.elim
  | _ :: _, _, [], _, h, _ => h.elim

theorem ckOf_length {P : Program} {d : Nat} {t : TypeId} {ks : List CK} (h : ckOf P d t = some ks) : ks.length = P.cellsOf t := by
  cases d with
  | zero => simp [ckOf] at h
  | succ d =>
    unfold ckOf at h
    split at h
    · split at h
      · rename_i hb; cases h; exact Nat.eq_of_beq_eq_true hb
      · cases h
    · cases h

section
variable {H : Type} {enc : TypeId × Value → H} {P : Program} {w : World} {base : Nat} {sp : Nat → Bool} {held : Bool}
theorem ck_trod : ∀ (d : Nat) (t : TypeId) (ks : List CK), ckOf P d t = some ks → ∀ (n : Nat) (cs : List Value) (x : DataW H × List MemPlace), DataW.trod enc P w base sp held n t cs = some x → CellsOK ks cs
  | 0, t, ks, h, _, _, _, _ => by simp [ckOf] at h
  | d + 1, t, ks, h, n, cs, x, ht => by
    have hlen := ckOf_length h
    unfold ckOf at h
    split at h
    case h_2 => cases h
    rename_i a ha
    split at h
    case isFalse => cases h
    cases h
    split at ha
    · rename_i k hu
      cases ha
      obtain ⟨m, rfl, _, hw⟩ := DataW.trod_int hu ht
      exact ⟨⟨m, rfl, hw⟩, trivial⟩
    · rename_i hu
      cases ha
      obtain ⟨b, rfl, _⟩ := DataW.trod_bool hu ht
      exact ⟨⟨b, rfl⟩, trivial⟩
    · rename_i hu
      cases ha
      obtain ⟨s, rfl, _, hs⟩ := DataW.trod_string hu ht
      exact ⟨⟨s, rfl, hs⟩, trivial⟩
    · rename_i fs hu
      obtain ⟨xs, m, _, _, hcl, hxl, hf⟩ := DataW.trod_struct hu ht
      have key : ∀ (l : List Field) (off j : Nat) (b : List CK), fs.toList.drop j = l → ckFs (ckOf P d) l off = some b → off + b.length = cs.length → CellsOK b (cs.drop off) := by
        intro l
        induction l with
        | nil =>
          intro off j b hl hb hle
          simp only [ckFs, Option.some.injEq] at hb
          subst hb
          rw [List.drop_eq_nil_of_le (by simpa using Nat.le_of_eq hle.symm)]; trivial
        | cons f l ih =>
          intro off j b hl hb hle
          simp only [ckFs] at hb
          split at hb
          case isFalse => cases hb
          rename_i hoff
          have hoff := Nat.eq_of_beq_eq_true hoff
          split at hb
          case h_2 => cases hb
          rename_i a1 ha1
          split at hb
          case h_2 => cases hb
          rename_i b1 hb1
          cases hb
          have hgj : fs[j]? = some f := by
            have : fs.toList[j]? = some f := by rw [← List.head?_drop, hl]; rfl
            simpa using this
          have hjl : j < fs.size := (Array.getElem?_eq_some_iff.1 hgj).1
          have hd := hf j f hgj
          obtain ⟨y, hy⟩ : ∃ y, xs[j]? = some y := ⟨xs[j]'(by omega), List.getElem?_eq_getElem (by omega)⟩
          rw [hy, hoff] at hd
          have h1 := ck_trod d f.type a1 ha1 m _ y hd
          have hl1 := ckOf_length ha1
          have h2 := ih (off + a1.length) (j + 1) b1 (by rw [← List.tail_drop, hl]; rfl) hb1 (by simp at hle; omega)
          have e : cs.drop off = (cs.drop off).take (P.cellsOf f.type) ++ cs.drop (off + a1.length) := by
            rw [hl1, ← List.drop_drop, List.take_append_drop]
          rw [e]
          exact h1.append h2
      have := key fs.toList 0 0 _ rfl ha (by rw [hcl]; omega)
      simpa using this
    · rename_i m e hu
      split at ha
      case h_2 => cases ha
      rename_i a1 ha1
      cases ha
      obtain ⟨xs, q, _, _, hcl, hxl, hf⟩ := DataW.trod_array hu ht
      have hl1 := ckOf_length ha1
      have hrl : ∀ k, (ckRep k a1).length = k * a1.length := by
        intro k
        induction k with
        | zero => simp [ckRep]
        | succ k ih => simp [ckRep, ih, Nat.succ_mul, Nat.add_comm]
      have key : ∀ (k j : Nat), j + k = m → CellsOK (ckRep k a1) (cs.drop (j * a1.length)) := by
        intro k
        induction k with
        | zero =>
          intro j hj
          rw [List.drop_eq_nil_of_le]
          · trivial
          · rw [hcl, ← hlen, hrl, show j = m by omega]; exact Nat.le_refl _
        | succ k ih =>
          intro j hj
          have h2 := ih (j + 1) (by omega)
          have hd := hf j (by omega)
          obtain ⟨y, hy⟩ : ∃ y, xs[j]? = some y := ⟨xs[j]'(by omega), List.getElem?_eq_getElem (by omega)⟩
          rw [hy, ← hl1] at hd
          have h1 := ck_trod d e a1 ha1 q _ y hd
          have e0 : cs.drop (j * a1.length) = (cs.drop (j * a1.length)).take a1.length ++ cs.drop ((j + 1) * a1.length) := by
            rw [Nat.succ_mul, ← List.drop_drop, List.take_append_drop]
          rw [e0]
          exact h1.append h2
      simpa using key m 0 (by omega)
    · cases ha

/-- all cells of a world -/
def immAll (w : World) : Imm := fun b o => w.cell? ⟨b, o, none⟩
theorem immAll_ok (w : World) : immOK (immAll w) w := fun _ _ _ h => h

theorem mapM_opt {α β : Type} {f : α → Option β} : ∀ {l : List α} {r : List β}, l.mapM f = some r → r.length = l.length ∧ ∀ (i : Nat) (x : α), l[i]? = some x → f x = r[i]?
  | [], r, h => by
    simp at h; subst h
    exact ⟨rfl, fun i x hx => by simp at hx⟩
  | x :: l, r, h => by
    simp only [List.mapM_cons] at h
    cases hx : f x with
    | none => simp [hx] at h
    | some y =>
      cases hl : l.mapM f with
      | none => simp [hx, hl] at h
      | some r1 =>
        simp [hx, hl] at h
        subst h
        obtain ⟨h1, h2⟩ := mapM_opt hl
        refine ⟨by simp [h1], fun i z hz => ?_⟩
        cases i with
        | zero => simp at hz; subst hz; simpa using hx
        | succ i => simp at hz ⊢; exact h2 i z hz
theorem cells?_get {a : Addr} {n : Nat} {cs : List Value} (h : w.cells? base a n = some cs) : cs.length = n ∧ ∀ i, i < n → w.cell? (a.add i) = cs[i]? := by
  unfold World.cells? at h
  split at h
  · obtain ⟨h1, h2⟩ := mapM_opt h
    rw [List.length_range] at h1
    exact ⟨h1, fun i hi => h2 i i (List.getElem?_range hi)⟩
  · cases h

/-- a slice of a type without references: its cells -/
theorem slice_cells {t e : TypeId} {d : Nat} {ks : List CK} {n : Nat} {v : Value} {x : DataW H × List MemPlace} (hu : P.underlying t = some (.slice e)) (hk : ckOf P d e = some ks) (hpos : 0 < P.cellsOf e) (h : DataW.trod enc P w base sp held n t [v] = some x) :
    (v = .slice none 0 0) ∨ ∃ (a : Addr) (len cap : Nat), v = .slice (some a) len cap ∧ len ≤ cap ∧ cap ≤ maxLen ∧ (0 < len → a.spot = none) ∧ ∀ i, i < len → ∃ cs, CellsOK ks cs ∧ ∀ j, j < ks.length → w.cell? ⟨a.block, a.off + (i * ks.length + j), none⟩ = cs[j]? := by
  rcases DataW.trod_slice hu h with ⟨hcs, _⟩ | ⟨a, len, cap, elems, rest, m, _, hcs, _, _, hle, hcm, hel, hg, _⟩
  · exact .inl (by simpa using hcs)
  · have hl := ckOf_length hk
    refine .inr ⟨a, len, cap, by simpa using hcs, hle, hcm, fun h0 => ?_, fun i hi => ?_⟩
    · have := hg 0 h0
      obtain ⟨y, hy⟩ : ∃ y, elems[0]? = some y := ⟨elems[0]'(by omega), List.getElem?_eq_getElem (by omega)⟩
      rw [hy] at this
      simp only [Nat.zero_mul, Option.bind_eq_some_iff] at this
      obtain ⟨cs, hc, _⟩ := this
      obtain ⟨h1, h2⟩ := cells?_get hc
      have h3 := h2 0 hpos
      rw [List.getElem?_eq_getElem (by omega)] at h3
      simp only [Addr.add, if_true, World.cell?] at h3
      split at h3
      · split at h3
        · cases h3
        · rename_i hs; simpa using hs
      · cases h3
    · have := hg i hi
      obtain ⟨y, hy⟩ : ∃ y, elems[i]? = some y := ⟨elems[i]'(by omega), List.getElem?_eq_getElem (by omega)⟩
      rw [hy] at this
      simp only [Option.bind_eq_some_iff] at this
      obtain ⟨cs, hc, ht⟩ := this
      obtain ⟨h1, h2⟩ := cells?_get hc
      refine ⟨cs, ck_trod d e ks hk m cs y ht, fun j hj => ?_⟩
      have e1 : ∀ (u : Value), w.cell? ((a.add (i * P.cellsOf e)).add j) = some u → w.cell? ⟨a.block, a.off + (i * P.cellsOf e + j), none⟩ = some u := by
        intro u hu
        simp only [World.cell?, Addr.add] at hu ⊢
        by_cases hi0 : i * P.cellsOf e = 0
        · by_cases hj0 : j = 0
          · simp only [hi0, hj0, if_true, Nat.add_zero] at hu ⊢
            split at hu
            · split at hu
              · cases hu
              · simpa using hu
            · cases hu
          · simpa only [hi0, hj0, if_true, if_false, Nat.zero_add] using hu
        · by_cases hj0 : j = 0
          · simpa only [hi0, hj0, if_true, if_false, Nat.add_zero] using hu
          · simpa only [hi0, hj0, if_false, Nat.add_assoc] using hu
      have h4 := h2 j (by omega)
      rw [List.getElem?_eq_getElem (by omega)] at h4 ⊢
      rw [hl]; exact e1 _ h4

/-- the arguments read the same behind a run that leaves what there was -/
theorem sameAt_kept {W W' : World} (hk : Kept W W') {p : MemPlace} (hp : p.block < W.heap.size) : W.sameAt W' p := by
  cases p with
  | cell b off => exact World.cell?_of_block (hk.same b hp)
  | map b => exact hk.same b hp
theorem trodAll_kept (hl : laidOutB P = true) {W W' : World} (hk : Kept W W') {sp' : Nat → Bool} : ∀ {ts : List TypeId} {vs : List Value} {ds : List (DataW H)} {ps : List MemPlace}, (∀ t ∈ ts, P.readableRec t = true ∧ t < P.types.size) →
    DataW.TrodAll enc P W base (fun _ => true) true ts vs ds ps → (∀ p ∈ ps, p.block < W.heap.size) → (∀ p ∈ ps, sp' p.block = true) → DataW.TrodAll enc P W' base sp' true ts vs ds ps
  | [], vs, ds, ps, _, h, _, _ => by
    obtain ⟨rfl, rfl, rfl⟩ := trodAll_nil h
    exact trodAll_mk0
  | t :: ts, vs, ds, ps, ht, h, hlt, hsp => by
    obtain ⟨v, vs1, d, ds1, a, b, rfl, rfl, rfl, h1, h2⟩ := trodAll_cons h
    obtain ⟨r1, r2⟩ := ht t (by simp)
    exact trodAll_cons_mk (WideElems.Trod_stays hl r1 r2 h1 (fun p hp => sameAt_kept hk (hlt p (by simp [hp]))) (fun p hp => hsp p (by simp [hp])))
      (trodAll_kept hl hk (fun t ht' => ht t (by simp [ht'])) h2 (fun p hp => hlt p (by simp [hp])) (fun p hp => hsp p (by simp [hp])))

/-- A law's row: it returns true; all that was there is as it was. -/
theorem law_post (hl : laidOutB P = true) {f : Func} {s : ChangeSpec} {W W' : World} {args : Array Value} {ds : List (DataW H)} {before : List MemPlace} {tb : TypeId} (hb : P.underlying tb = some .bool) (hr : f.resultTypes = #[tb]) (hv : s.vars = [])
    (hts : ∀ t ∈ f.params.toList, P.readableRec t = true ∧ t < P.types.size)
    (hs : (s.fn H ds).results = [.lit (.bool true)] ∧ (s.fn H ds).args = ds ∧ (s.fn H ds).vars = [])
    (hW : DataW.Whole enc P f.params.toList s.vars false W args.toList ds [] before) (hk : Kept W W') :
    s.post enc P f false true false false W args (.bool true) W' := by
  have hW' := hW
  obtain ⟨p, q, hA, hV, rfl, hfz, hnd⟩ := hW
  rw [hv] at hV
  obtain ⟨-, rfl⟩ := trodVars_none hV
  have hlt := hW'.lt
  refine post_of_kept (pa := p) (pv := []) hW' (fun b sp hd => ?_) (fun sp hsp => ?_) (fun sp _ => ?_) rfl hk
  · rw [List.append_nil, hs.1, hr]
    exact trodAll_cons_mk (shut_bool hb true) trodAll_mk0
  · rw [List.append_nil, hs.2.1]
    exact trodAll_kept hl hk hts hA (fun p hp => hlt p (by simpa using hp)) (fun p hp => hsp p (by simpa using hp))
  · rw [List.append_nil, hs.2.2, hv]
    rfl

/-! ### Arguments, opened -/
theorem open_flat {r : Reach} {b0 : Nat} {t : TypeId} {ks : List CK} {v : Value} {d : DataW H} {ps : List MemPlace} (hk : ckOf P 9 t = some ks) (ha : aggP P t = true) (hval : Value.okWide P w r b0 t v) (hd : DataW.Trod enc P w base sp held t v d ps) :
    ∃ cs : Array Value, v = .agg cs ∧ CellsOK ks cs.toList := by
  unfold aggP at ha
  have hv : ∃ cs : Array Value, v = .agg cs := by
    unfold Value.okWide at hval
    split at hval
    · obtain ⟨cs, h, _⟩ := hval; exact ⟨cs, h⟩
    · obtain ⟨cs, h, _⟩ := hval; exact ⟨cs, h⟩
    · rename_i h1 h2
      split at ha
      · rename_i fs h; exact absurd h (h1 fs)
      · rename_i n e h; exact absurd h (h2 n e)
      · cases ha
  obtain ⟨cs, rfl⟩ := hv
  obtain ⟨n, hn⟩ := hd
  exact ⟨cs, rfl, ck_trod 9 t ks hk n _ _ hn⟩

/-- what an element of a list is made of -/
structure Elem {α : Type} (f : α → List AV) (I : α → Prop) (ks : List CK) : Prop where
  len : ∀ a, (f a).length = ks.length
  of : ∀ cs, CellsOK ks cs → ∃ a, I a ∧ ∀ E, VRL E (f a) cs

theorem vri_list {α : Type} {f : α → List AV} {k : Nat} (hf : ∀ a, (f a).length = k) {E : Env} {b : Nat} : ∀ (l : List α) (off : Nat), (∀ (i : Nat) a, l[i]? = some a → VRI E (f a) b (off + i * k)) → VRI E (cs f l) b off
  | [], off, _ => by simp [cs, VRI]
  | a :: l, off, h => by
    have h0 := h 0 a rfl
    have hr := vri_list hf l (off + k) (fun i c hc => by
      have := h (i + 1) c (by simpa using hc)
      rwa [Nat.succ_mul, show off + (i * k + k) = off + k + i * k by omega] at this)
    have : VRI E (f a ++ cs f l) b off := VRI.append (by simpa using h0) (by rw [hf a]; exact hr)
    simpa [cs] using this

theorem open_list {α : Type} {f : α → List AV} {I : α → Prop} {ks : List CK} (he : Elem f I ks) (hks : 0 < ks.length) {r : Reach} {b0 : Nat} {t e : TypeId} {v : Value} {d : DataW H} {ps : List MemPlace} (hu : P.underlying t = some (.slice e)) (hk : ckOf P 9 e = some ks) (hval : Value.okWide P w r b0 t v) (hd : DataW.Trod enc P w base sp held t v d ps) :
    ∃ l : List α, (∀ a ∈ l, I a) ∧ l.length ≤ maxLen ∧ VR (Env.bare (immAll w) w) (.vec (cs f l) l.length none) v := by
  have hl := ckOf_length hk
  have h1 : v.cells.toList = [v] := by
    unfold Value.okWide at hval
    rw [hu] at hval
    simp only [] at hval
    cases v <;> first | rfl | (simp [Cell.okWide, Cell.ok, hu] at hval)
  obtain ⟨n, hn⟩ := hd
  rw [h1] at hn
  rcases slice_cells hu hk (by omega) hn with rfl | ⟨a, len, cap, rfl, hle, hcm, hsp, hc⟩
  · refine ⟨[], fun a h => absurd h (by simp), Nat.zero_le _, ?_⟩
    simp only [VR]
    exact ⟨none, 0, rfl, Nat.le_refl _, by simp [cs], fun i hi => nomatch hi⟩
  · have key : ∀ m, m ≤ len → ∃ l : List α, l.length = m ∧ ∀ (i : Nat) x, l[i]? = some x → I x ∧ VRI (Env.bare (immAll w) w) (f x) a.block (a.off + i * ks.length) := by
      intro m
      induction m with
      | zero => intro _; exact ⟨[], rfl, fun i x hx => by simp at hx⟩
      | succ m ih =>
        intro hm
        obtain ⟨l, h2, h3⟩ := ih (by omega)
        obtain ⟨cs, hcs, hcell⟩ := hc m (by omega)
        obtain ⟨x, hx, hxv⟩ := he.of cs hcs
        refine ⟨l ++ [x], by simp [h2], fun i y hy => ?_⟩
        rw [List.getElem?_append] at hy
        split at hy
        · exact h3 i y hy
        · rename_i hge
          have : i = m := by
            have := (List.getElem?_eq_some_iff.1 hy).1
            simp at this; omega
          subst this
          rw [h2, Nat.sub_self] at hy
          simp at hy; subst hy
          refine ⟨hx, VRI.of_get fun j c hj => ?_⟩
          obtain ⟨u, hu1, hu2⟩ := (hxv (Env.bare (immAll w) w)).get j c hj
          refine ⟨u, ?_, hu2⟩
          show w.cell? ⟨a.block, a.off + i * ks.length + j, none⟩ = some u
          have hjl : j < ks.length := by rw [← he.len x]; exact (List.getElem?_eq_some_iff.1 hj).1
          rw [Nat.add_assoc, hcell j hjl, hu1]
    obtain ⟨l, h2, h3⟩ := key len (Nat.le_refl _)
    refine ⟨l, fun x hx => ?_, by rw [h2]; exact Nat.le_trans hle hcm, ?_⟩
    · obtain ⟨i, hi⟩ := List.getElem?_of_mem hx
      exact (h3 i x hi).1
    · simp only [VR]
      refine ⟨_, _, by rw [h2], by rw [h2]; exact hle, ?_, fun i hi => nomatch hi⟩
      by_cases h0 : 0 < len
      · right
        refine ⟨a.block, a.off, ?_, vri_list he.len l a.off fun i x hx => (h3 i x hx).2⟩
        have := hsp h0
        cases a; simp_all
      · left
        have : l = [] := List.eq_nil_of_length_eq_zero (by omega)
        subst this; rfl

theorem int_cell {k : IntKind} {c : Value} (h : cellOK (.int k) c) : ∃ n, c = .int k n ∧ (Lit.int k n).wf = true := h
def Pt.i64 (p : Pt) : Prop := I64 p.x ∧ I64 p.y
def Ed.i64 (e : Ed) : Prop := e.p.i64 ∧ e.q.i64
theorem wf_I64 {n : Int} (h : (Lit.int .i64 n).wf = true) : I64 n := wf_i64 h
theorem pt_elem : Elem Pt.c Pt.i64 [.int .i64, .int .i64] where
  len _ := rfl
  of cs h := by
    obtain ⟨a, _, rfl, w1, h⟩ := h.consI
    obtain ⟨b, _, rfl, w2, h⟩ := h.consI
    obtain rfl := h.nil
    exact ⟨⟨a, b⟩, ⟨wf_I64 w1, wf_I64 w2⟩, fun E => by simp [Pt.c, VRL, VR]⟩
theorem ed_elem : Elem Ed.c Ed.i64 [.int .i64, .int .i64, .int .i64, .int .i64] where
  len _ := rfl
  of cs h := by
    obtain ⟨a, _, rfl, w1, h⟩ := h.consI
    obtain ⟨b, _, rfl, w2, h⟩ := h.consI
    obtain ⟨c, _, rfl, w3, h⟩ := h.consI
    obtain ⟨d, _, rfl, w4, h⟩ := h.consI
    obtain rfl := h.nil
    exact ⟨⟨⟨a, b⟩, ⟨c, d⟩⟩, ⟨⟨wf_I64 w1, wf_I64 w2⟩, ⟨wf_I64 w3, wf_I64 w4⟩⟩, fun E => by simp [Ed.c, VRL, VR]⟩
/-- a struct that is handed over -/
theorem open_elem {α : Type} {f : α → List AV} {I : α → Prop} {ks : List CK} (he : Elem f I ks) {r : Reach} {b0 : Nat} {t : TypeId} {v : Value} {d : DataW H} {ps : List MemPlace} (hk : ckOf P 9 t = some ks) (ha : aggP P t = true) (hval : Value.okWide P w r b0 t v) (hd : DataW.Trod enc P w base sp held t v d ps) :
    ∃ a : α, I a ∧ ∀ E, VR E (.agg (f a)) v := by
  obtain ⟨cs, rfl, hc⟩ := open_flat hk ha hval hd
  obtain ⟨a, h1, h2⟩ := he.of _ hc
  exact ⟨a, h1, fun E => by simp only [VR]; exact ⟨cs.toList, by simp, h2 E⟩⟩
end
theorem vr_int (E : Env) (k : IntKind) (n : Int) : VR E (.int k n) (.int k n) := by simp only [VR]
theorem vr_bool (E : Env) (b : Bool) : VR E (.bool b) (.bool b) := by simp only [VR]
end Go.Abs
