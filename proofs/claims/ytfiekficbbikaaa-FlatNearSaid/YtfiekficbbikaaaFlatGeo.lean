/- Pieces join; they are flat; they keep to the box of the curve's points; their chords. No condition: definitions and lemmas. -/
import Derived.Test.YtfiekficbbikaaaRefCh
set_option linter.unusedSimpArgs false
set_option linter.unusedVariables false
set_option linter.deprecated false
namespace Go.Proofs.Ytfiekficbbikaaa
open Go.Abs
def chain : Pt → List Cv → Pt → Prop
  | p, [], s => p = s
  | p, x :: L, s => x.p = p ∧ chain x.s L s
theorem chain_append : ∀ {A B : List Cv} {p m s : Pt}, chain p A m → chain m B s → chain p (A ++ B) s
  | [], B, p, m, s, h, k => by have h : p = m := h; subst h; exact k
  | x :: A, B, p, m, s, h, k => ⟨h.1, chain_append h.2 k⟩
theorem pieces_chain : ∀ (n : Nat) (c : Cv), chain c.p (pieces n c) c.s
  | 0, c => ⟨rfl, rfl⟩
  | n + 1, c => by
    unfold pieces; split
    · exact ⟨rfl, rfl⟩
    · exact chain_append (pieces_chain n c.cut1) (pieces_chain n c.cut2)
def endOf (p : Pt) (L : List Cv) : Pt := L.foldl (fun _ x => x.s) p
theorem endOf_snoc (p : Pt) (L : List Cv) (x : Cv) : endOf p (L ++ [x]) = x.s := by simp [endOf]
theorem chain_at : ∀ {L R : List Cv} {x : Cv} {p s : Pt}, chain p (L ++ x :: R) s → x.p = endOf p L
  | [], R, x, p, s, h => h.1
  | y :: L, R, x, p, s, h => chain_at (L := L) h.2
theorem chain_end : ∀ {L : List Cv} {p s : Pt}, chain p L s → endOf p L = s
  | [], p, s, h => h
  | y :: L, p, s, h => chain_end (L := L) h.2
theorem chords_eq : ∀ {L : List Cv} {p s : Pt} (es : List Ed), chain p L s → (L.foldl chordStep (es, p)).1 = es ++ refCh L
  | [], p, s, es, h => by simp [refCh]
  | x :: L, p, s, es, h => by
    obtain ⟨rfl, h⟩ := h
    have e : refCh (x :: L) = (if x.p = x.s then [] else [⟨x.p, x.s⟩]) ++ refCh L := by simp [refCh]
    rw [List.foldl_cons, e]
    unfold chordStep
    by_cases g : x.s = x.p
    · rw [if_pos g, if_pos g.symm]
      rw [g] at h
      exact chords_eq es h
    · rw [if_neg g, if_neg (fun h => g h.symm)]
      rw [← List.append_assoc]
      exact chords_eq _ h
theorem chordsOf_ref (n : Nat) (c : Cv) : (chordsOf c.p (pieces n c)).1 = refCh (pieces n c) := by
  have := chords_eq [] (pieces_chain n c)
  simpa [chordsOf] using this

/-- how far a curve is bent, at most -/
def bendZ (p q r k : Int) : Prop := -k ≤ p - 2 * q + r ∧ p - 2 * q + r ≤ k
theorem bend_cut {p q r s k : Int} (h1 : bendZ p q r (4 * k - 12)) (h2 : bendZ q r s (4 * k - 12)) :
    (bendZ p (midZ p q) (midZ (midZ p q) (midZ q r)) k ∧ bendZ (midZ p q) (midZ (midZ p q) (midZ q r)) (midZ (midZ (midZ p q) (midZ q r)) (midZ (midZ q r) (midZ r s))) k) ∧
    bendZ (midZ (midZ (midZ p q) (midZ q r)) (midZ (midZ q r) (midZ r s))) (midZ (midZ q r) (midZ r s)) (midZ r s) k ∧ bendZ (midZ (midZ q r) (midZ r s)) (midZ r s) s k := by
  have m : ∀ a b, 2 * midZ a b ≤ a + b + 1 ∧ a + b ≤ 2 * midZ a b := fun a b => by unfold midZ; omega
  have ha := m p q
  have hb := m q r
  have hx := m r s
  generalize midZ p q = a at *
  generalize midZ q r = b at *
  generalize midZ r s = x at *
  have hd := m a b
  have he := m b x
  generalize midZ a b = d at *
  generalize midZ b x = e at *
  have hf := m d e
  generalize midZ d e = f at *
  unfold bendZ at *
  omega
def Cv.bend (c : Cv) (k : Int) : Prop := (bendZ c.p.x c.q.x c.r.x k ∧ bendZ c.p.y c.q.y c.r.y k) ∧ bendZ c.q.x c.r.x c.s.x k ∧ bendZ c.q.y c.r.y c.s.y k
theorem Cv.bend_cut {c : Cv} {k : Int} (h : c.bend (4 * k - 12)) : c.cut1.bend k ∧ c.cut2.bend k := by
  obtain ⟨⟨h1, h2⟩, h3, h4⟩ := h
  obtain ⟨⟨a1, a2⟩, a3, a4⟩ := Go.Proofs.Ytfiekficbbikaaa.bend_cut h1 h3
  obtain ⟨⟨b1, b2⟩, b3, b4⟩ := Go.Proofs.Ytfiekficbbikaaa.bend_cut h2 h4
  exact ⟨⟨⟨a1, b1⟩, a2, b2⟩, ⟨a3, b3⟩, a4, b4⟩
theorem Cv.bend_flat {c : Cv} (h : c.bend 512) : c.flat := by
  obtain ⟨⟨h1, h2⟩, h3, h4⟩ := h
  unfold Cv.flat bentZ
  unfold bendZ at *
  omega
theorem pieces_flat : ∀ (n : Nat) (c : Cv), c.bend (508 * 4 ^ n + 4) → ∀ x ∈ pieces n c, x.flat
  | 0, c, h, x, hx => by
    simp [pieces] at hx; subst hx; exact Cv.bend_flat (by simpa using h)
  | n + 1, c, h, x, hx => by
    have e : (508 : Int) * 4 ^ (n + 1) + 4 = 4 * (508 * 4 ^ n + 4) - 12 := by rw [Int.pow_succ]; omega
    rw [e] at h
    obtain ⟨h1, h2⟩ := Cv.bend_cut h
    unfold pieces at hx; split at hx
    · simp at hx; subst hx; assumption
    · rcases List.mem_append.1 hx with hx | hx
      · exact pieces_flat n c.cut1 h1 x hx
      · exact pieces_flat n c.cut2 h2 x hx
theorem Cv.in_bend {c : Cv} {m : Int} (h : c.in m) : c.bend (4 * m) := by
  obtain ⟨⟨h1, h2⟩, h3, h4⟩ := h
  unfold Pt.in at *
  unfold Cv.bend bendZ
  omega
theorem pieces20_flat {c : Cv} (h : c.in 8589934592) : ∀ x ∈ pieces 20 c, x.flat :=
  pieces_flat 20 c (by
    obtain ⟨⟨h1, h2⟩, h3, h4⟩ := Cv.in_bend h
    unfold Cv.bend bendZ at *
    omega)
theorem Cv.in_mono {c : Cv} {m k : Int} (h : c.in m) (hm : m ≤ k) : c.in k := by
  obtain ⟨⟨h1, h2⟩, h3, h4⟩ := h
  unfold Cv.in Pt.in at *
  omega

/-- all points within a box -/
def ptBox (p : Pt) (l h u o : Int) : Prop := (l ≤ p.x ∧ p.x ≤ h) ∧ u ≤ p.y ∧ p.y ≤ o
def Cv.box (c : Cv) (l h u o : Int) : Prop := (ptBox c.p l h u o ∧ ptBox c.q l h u o) ∧ ptBox c.r l h u o ∧ ptBox c.s l h u o
theorem mid_box {a b : Pt} {l h u o : Int} (ha : ptBox a l h u o) (hb : ptBox b l h u o) : ptBox (Pt.mid a b) l h u o := by
  unfold ptBox at *; unfold Pt.mid midZ; simp only; omega
theorem Cv.cut_box {c : Cv} {l h u o : Int} (hc : c.box l h u o) : c.cut1.box l h u o ∧ c.cut2.box l h u o := by
  obtain ⟨⟨hp, hq⟩, hr, hs⟩ := hc
  have i1 := mid_box hp hq
  have i2 := mid_box hq hr
  have i4 := mid_box hr hs
  exact ⟨⟨⟨hp, i1⟩, mid_box i1 i2, mid_box (mid_box i1 i2) (mid_box i2 i4)⟩, ⟨mid_box (mid_box i1 i2) (mid_box i2 i4), mid_box i2 i4⟩, i4, hs⟩
theorem pieces_box {l h u o : Int} : ∀ (n : Nat) (c : Cv), c.box l h u o → ∀ x ∈ pieces n c, x.box l h u o
  | 0, c, hc, x, hx => by simp [pieces] at hx; subst hx; exact hc
  | n + 1, c, hc, x, hx => by
    unfold pieces at hx; split at hx
    · simp at hx; subst hx; exact hc
    · rcases List.mem_append.1 hx with hx | hx
      · exact pieces_box n _ (Cv.cut_box hc).1 x hx
      · exact pieces_box n _ (Cv.cut_box hc).2 x hx
end Go.Proofs.Ytfiekficbbikaaa
