/- A row that is a variable becomes a list of its own. No condition: lemmas. -/
import Derived.Test.YtflibnlbkffilaaAbs27
set_option linter.unusedSimpArgs false
set_option linter.unusedVariables false
set_option linter.deprecated false
namespace Go.Abs
open Go.RowKit
variable {S : Seat}

theorem R.freeze {E : Env} {h : Heap} {w : World} (hr : R S E h w) {i : Nat} {cs : List AV} {e : Nat} (hi : h[i]? = some (.var cs e)) {len cap sz : Nat} (hcap : cap * sz = cs.length) (hle : len ≤ cap) (hmax : cap ≤ maxLen) :
    ∃ E', Ext E E' ∧ E'.marks = E.marks ∧ R S E' (put h i (.tok len e sz)) w ∧ ∀ v, VR E (.row i 0 len cap) v → VR E' (.vec (cs.take (len * sz)) len (some i)) v := by
  obtain ⟨b, us, hb, hh, hu, himm, htk⟩ := hr.r0.ch i _ hi
  have hlen := hu.length
  have hown : ownsC E i (.var cs e) b := hb
  have hI : ∀ b' o u, E.imm b' o = some u → immRow E.imm b (us.take (len * sz)) b' o = some u := fun b' o u hu' => by
    unfold immRow; rw [if_neg (fun e0 => by subst e0; rw [himm] at hu'; cases hu')]; exact hu'
  have hk : ∀ b' o, E.keep b' → immRow E.imm b (us.take (len * sz)) b' o = E.imm b' o := fun b' o hk' => by
    unfold immRow; rw [if_neg (fun e0 => by subst e0; exact hr.kp.keep i _ _ hi hown hk')]
  have hext : Ext E (E.withTok i len (.slice (some ⟨b, 0, none⟩) len cap) (immRow E.imm b (us.take (len * sz)))) := Ext.withTok htk hI hk
  have hll : len * sz ≤ us.length := by rw [← hlen, ← hcap]; exact Nat.mul_le_mul_right _ hle
  refine ⟨_, hext, rfl, hr.step {
    v := hext.v
    blk := fun _ _ => rfl
    tok := fun j hj => if_neg hj
    cbv := fun _ _ => rfl, cbJ := fun _ _ => rfl, fp := fun _ _ => rfl
    own := fun _ _ _ _ _ _ => rfl
    ownI := fun j d b' hj hd ho o => by
      show immRow E.imm b _ b' o = E.imm b' o
      unfold immRow; rw [if_neg (fun e0 => by subst e0; exact hj (hr.r0.disj j i d _ _ hd hi ho hown))]
    ok := fun b' o u hu' => ?_
    cr := ⟨_, us.take (len * sz), if_pos rfl, ⟨by rw [List.length_take]; omega, .inr ⟨b, cap, us.toArray, rfl, Nat.zero_le _, hh, hle, hmax, by simp; omega, by simp⟩⟩, fun b' hb' o u hu' => ?_⟩
    new := fun b' ho => ?_
    kp := fun _ _ => rfl
    size := Nat.le_refl _
    s3 := Same3.refl w
    hrnd := fun _ _ => rfl
    hmks := fun _ _ => rfl
    keep := rfl, base := rfl, rnd := rfl, marks := rfl }, fun v hv => ?_⟩
  · have hu2 : immRow E.imm b (us.take (len * sz)) b' o = some u := hu'
    unfold immRow at hu2
    split at hu2
    · rename_i e0; subst e0
      rw [cell_of_row w b' o _ _ _ hh]
      rw [List.getElem?_take] at hu2
      split at hu2
      · simpa using hu2
      · cases hu2
    · exact hr.r0.imm b' o u hu2
  · simp [Value.ownBlock] at hb'
    subst hb'
    have hu2 : immRow E.imm b (us.take (len * sz)) b o = some u := hu'
    unfold immRow at hu2; rwa [if_pos rfl] at hu2
  · obtain ⟨F, v, e0, hob⟩ := ho
    have e0 : (if i = i then some (len, Value.slice (some ⟨b, 0, none⟩) len cap) else E.tok i) = some (F, v) := e0
    rw [if_pos rfl] at e0; cases e0
    simp [Value.ownBlock] at hob
    subst hob
    exact ⟨hr.r0.lt i _ b hi hown, hr.kp.keep i _ b hi hown, fun j d hj hd ho' => hj (hr.r0.disj j i d _ b hd hi ho' hown), fun e => (hr.r0.rnd _ e).2 i _ hi hown, fun hm => (hr.r0.mks _ hm).2.2 i _ hi hown⟩
  · simp only [VR] at hv ⊢
    obtain ⟨b2, hb2, rfl⟩ := hv
    rw [hb] at hb2; cases hb2
    refine ⟨_, _, rfl, hle, .inr ⟨b, 0, rfl, VRI.of_get fun j c hj => ?_⟩, fun j hj => ?_⟩
    · rw [List.getElem?_take] at hj
      split at hj
      · rename_i hlt
        obtain ⟨u, hu1, hu2⟩ := (hu.mono hext.v).get j c hj
        refine ⟨u, ?_, hu2⟩
        show immRow E.imm b (us.take (len * sz)) b (0 + j) = some u
        unfold immRow; rw [if_pos rfl, Nat.zero_add, List.getElem?_take, if_pos hlt]; exact hu1
      · cases hj
    · cases hj
      exact ⟨len, _, if_pos rfl, Nat.le_refl _, fun _ => rfl⟩

/-- in a temporary -/
theorem Sat.freeze {c : Code} {t : List AV} {h : Heap} {k : ExK} (d i : Nat) {len cap e : Nat} {cs : List AV} (sz : Nat) (ht : getT t d = .row i 0 len cap) (hi : getO h i = some (.var cs e)) (hcap : cap * sz = cs.length ∧ len ≤ cap ∧ cap ≤ 9223372036854775807)
    (hs : Sat S c (t.set d (.vec (cs.take (len * sz)) len (some i))) (put h i (.tok len e sz)) k) : Sat S c t h k := by
  refine ⟨fun E w a hr ha => ?_⟩
  rw [getO_eq] at hi
  obtain ⟨E', hx, hm, hr', hv⟩ := hr.freeze hi (len := len) hcap.1 hcap.2.1 hcap.2.2
  have ha' : ActR E' (t.set d (.vec (cs.take (len * sz)) len (some i))) a := by
    refine ⟨VRL.of_get (by rw [List.length_set]; exact ha.1.length) fun j c u hc hu => ?_, by rw [hm]; exact ha.2⟩
    rw [List.getElem?_set] at hc
    split at hc
    · rename_i e0; subst e0
      split at hc
      · cases hc
        rw [getT_eq] at ht
        obtain ⟨c0, hc0⟩ : ∃ c0, t[d]? = some c0 := ⟨t[d], List.getElem?_eq_getElem (by assumption)⟩
        rw [hc0] at ht; simp only [Option.getD_some] at ht; subst ht
        obtain ⟨u', hu', hvu⟩ := ha.1.get d _ hc0
        rw [hu] at hu'; cases hu'
        exact hv u hvu
      · cases hc
    · obtain ⟨u', hu', hvu⟩ := ha.1.get j c hc
      rw [hu] at hu'; cases hu'
      exact hvu.mono hx.v
  have := hs.out E' w a hr' ha'
  rw [fen_ext hx] at this
  exact wpIn_mono this fun _ _ _ h => h.ext hx

/-- among a call's arguments -/
theorem CallH.freeze {f : Nat} {t : List AV} {h : Heap} {k : AEnd → Heap → Prop} (d i : Nat) {len cap e : Nat} {cs : List AV} (sz : Nat) (ht : getT t d = .row i 0 len cap) (hi : getO h i = some (.var cs e)) (hcap : cap * sz = cs.length ∧ len ≤ cap ∧ cap ≤ 9223372036854775807)
    (hs : CallH S f (t.set d (.vec (cs.take (len * sz)) len (some i))) (put h i (.tok len e sz)) k) : CallH S f t h k := by
  refine ⟨fun E w us hmk hrn hr ha => ?_⟩
  rw [getO_eq] at hi
  obtain ⟨E', hx, hm, hr', hv⟩ := hr.freeze hi (len := len) hcap.1 hcap.2.1 hcap.2.2
  have ha' : VRL E' (t.set d (.vec (cs.take (len * sz)) len (some i))) us := by
    refine VRL.of_get (by rw [List.length_set]; exact ha.length) fun j c u hc hu => ?_
    rw [List.getElem?_set] at hc
    split at hc
    · rename_i e0; subst e0
      split at hc
      · cases hc
        rw [getT_eq] at ht
        obtain ⟨c0, hc0⟩ : ∃ c0, t[d]? = some c0 := ⟨t[d], List.getElem?_eq_getElem (by assumption)⟩
        rw [hc0] at ht; simp only [Option.getD_some] at ht; subst ht
        obtain ⟨u', hu', hvu⟩ := ha.get d _ hc0
        rw [hu] at hu'; cases hu'
        exact hv u hvu
      · cases hc
    · obtain ⟨u', hu', hvu⟩ := ha.get j c hc
      rw [hu] at hu'; cases hu'
      exact hvu.mono hx.v
  refine (hs.out E' w us (hm.trans hmk) (hx.rnd.trans hrn) hr' ha').mono ?_
  rintro e w' ⟨E2, h2, r, g1, g2, g3, g4, g5⟩
  exact ⟨E2, h2, r, hx.trans g1, g2, g3, g4, g5⟩

/-- an empty list becomes a list of its own -/
theorem R.nilTok {E : Env} {h : Heap} {w : World} (hr : R S E h w) (e sz : Nat) :
    ∃ E', Ext E E' ∧ E'.marks = E.marks ∧ R S E' (h ++ [.tok 0 e sz]) w ∧ ∀ v, VR E .nils v → VR E' (.vec [] 0 (some h.length)) v := by
  obtain ⟨n1, n2, n3⟩ := hr.r0.non h.length (by simp)
  have hext : Ext E (E.withTok h.length 0 (.slice none 0 0) E.imm) := Ext.withTok n2 (fun _ _ _ h => h) fun _ _ _ => rfl
  have := hr.grow (i := h.length) (F := 0) (v := .slice none 0 0) (xs := []) hext (World.ownsRow_nil w 0 e sz) (fun b hb => by simp [Value.ownBlock] at hb) hr.r0.imm (Nat.le_refl _) (Same3.refl w) (fun _ _ _ => rfl) (fun _ _ _ _ => rfl) (fun b hb => by simp [Value.ownBlock] at hb)
  rw [put_append] at this
  refine ⟨_, hext, rfl, this, fun v hv => ?_⟩
  simp only [VR] at hv ⊢
  subst hv
  exact ⟨none, 0, rfl, Nat.le_refl _, by simp, fun i hi => by cases hi; exact ⟨0, _, if_pos rfl, Nat.le_refl _, fun _ => rfl⟩⟩
theorem Sat.nilTok {c : Code} {t : List AV} {h : Heap} {k : ExK} (d e sz : Nat) (ht : getT t d = .nils)
    (hs : Sat S c (t.set d (.vec [] 0 (some h.length))) (h ++ [.tok 0 e sz]) k) : Sat S c t h k := by
  refine ⟨fun E w a hr ha => ?_⟩
  obtain ⟨E', hx, hm, hr', hv⟩ := hr.nilTok e sz
  have ha' : ActR E' (t.set d (.vec [] 0 (some h.length))) a := by
    refine ⟨VRL.of_get (by rw [List.length_set]; exact ha.1.length) fun j c u hc hu => ?_, by rw [hm]; exact ha.2⟩
    rw [List.getElem?_set] at hc
    split at hc
    · rename_i e0; subst e0
      split at hc
      · cases hc
        rw [getT_eq] at ht
        obtain ⟨c0, hc0⟩ : ∃ c0, t[d]? = some c0 := ⟨t[d], List.getElem?_eq_getElem (by assumption)⟩
        rw [hc0] at ht; simp only [Option.getD_some] at ht; subst ht
        obtain ⟨u', hu', hvu⟩ := ha.1.get d _ hc0
        rw [hu] at hu'; cases hu'
        exact hv u hvu
      · cases hc
    · obtain ⟨u', hu', hvu⟩ := ha.1.get j c hc
      rw [hu] at hu'; cases hu'
      exact hvu.mono hx.v
  have := hs.out E' w a hr' ha'
  rw [fen_ext hx] at this
  exact wpIn_mono this fun _ _ _ h => h.ext hx

end Go.Abs
