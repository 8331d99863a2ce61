/- The chords of a curve, the program's. Conditions: the curve's numbers within the bound, less than 4096 pieces. -/
import Derived.Test.YtfiekficbbikaaaCount
set_option linter.unusedSimpArgs false
set_option linter.unusedVariables false
set_option linter.deprecated false
namespace Go.Proofs.Ytfiekficbbikaaa
open Go.Abs

instance : DecidableEq Pt := fun a b => by
  cases a; cases b; simp only [Pt.mk.injEq]; infer_instance
/-- what the chords are, and where they got to -/
def chordStep (s : List Ed × Pt) (x : Cv) : List Ed × Pt := if x.s = s.2 then s else (s.1 ++ [⟨s.2, x.s⟩], x.s)
def chordsOf (p : Pt) (L : List Cv) : List Ed × Pt := L.foldl chordStep ([], p)
theorem chordsOf_snoc (p : Pt) (L : List Cv) (x : Cv) : chordsOf p (L ++ [x]) = chordStep (chordsOf p L) x := by simp [chordsOf]
theorem chordsOf_len (p : Pt) : ∀ (L : List Cv) (s : List Ed × Pt), (L.foldl chordStep s).1.length ≤ s.1.length + L.length
  | [], s => by simp
  | x :: L, s => by
    have := chordsOf_len p L (chordStep s x)
    have h2 : (chordStep s x).1.length ≤ s.1.length + 1 := by unfold chordStep; split <;> simp
    simp only [List.foldl_cons, List.length_cons]; omega
def chordH (c : Cv) (s : List Ed × Pt) : Heap := [.var c.c 25, .var [.vec (cs Ed.c s.1) s.1.length (some 3)] 44, .var s.2.c 23, .tok s.1.length 66 4]
def chordI (c : Cv) (P : List Cv) (seen : List (List AV)) (e : AExit) (h : Heap) : Prop := e = .normal ∧ ∃ L R : List Cv, P = L ++ R ∧ seen = toldS L ∧ h = chordH c (chordsOf c.p L)
theorem chordH_ids (c : Cv) (s : List Ed × Pt) : IdsH (· < 4) (chordH c s) := by simp [chordH, IdsH, IdsC, IdsL, Ids, edcs_ids, Cv.c, Pt.c]
set_option maxRecDepth 20000 in
theorem c_chords (c : Cv) (hc : c.in 4398046511104) (hl : (pieces 20 c).length ≤ 4096) : ACalls seat 19 [c.a] [] (fun x _ => x = .ret (elv (chordsOf c.p (pieces 20 c)).1)) := by
  refine ACalls.weakR ?_
  refine ACalls.body seat_ok Try.func19 rfl rfl ?_
  have c1 := c_points c
  have c2 := c_tellS c hc
  generalize pieces 20 c = P at *
  conv => whnf
  refine CallH.lift seat_g c1 ⟨Cv.closed c, trivial⟩ (by simp [Closed, ClosedL, Cv.c]) ?_
  conv => whnf
  refine Sat.nilTokH 1 0 66 4 rfl rfl ?_
  refine Sat.range seat_ok seat_g (f := 32) (first := []) (caps := [.iptr c.c]) rfl trivial (by simp [Closed, ClosedL, Cv.c]) rfl rfl rfl (accS P)
    (chordI c P) (finS P) c2 ⟨rfl, [], P, rfl, rfl, rfl⟩ ?_ ?_
  · rintro seen args h1 ⟨L0, x, R, hP, hs0, rfl⟩ ⟨-, L, R0, hP0, rfl, rfl⟩
    obtain rfl := toldS_inj hP hP0 hs0.symm
    refine ⟨rfl, codeR_sound seat_ok _ _ _ _ ?_⟩
    have hs := toldS_snoc L0 x
    have hP1 : P = (L0 ++ [x]) ++ R := by rw [hP]; simp
    have hle : (chordsOf c.p L0).1.length ≤ 4096 := by
      have := chordsOf_len c.p L0 ([], c.p)
      have h2 : L0.length ≤ P.length := by rw [hP]; simp
      simp only [List.length_nil, Nat.zero_add] at this
      show (L0.foldl chordStep ([], c.p)).1.length ≤ 4096
      omega
    have hsn := chordsOf_snoc c.p L0 x
    generalize hst : chordsOf c.p L0 = st at *
    obtain ⟨es, at'⟩ := st
    have hlen := cs_length Ed.c_len es
    dsimp only at hle
    have hfin : ∀ H, H = chordH c (chordStep (es, at') x) → chordI c P (toldS L0 ++ [[x.s.a]]) .normal H := fun H hH => ⟨rfl, L0 ++ [x], R, hP1, hs, by rw [hsn]; exact hH⟩
    by_cases g : x.s = at'
    · have hcs : chordStep (es, at') x = (es, at') := if_pos g
      rw [hcs] at hfin
      have hb : (x.s.x == at'.x && (x.s.y == at'.y && true)) = true := by simp [g]
      conv => whnf
      refine ⟨rfl, codeR_sound seat_ok _ _ _ _ ?_⟩
      conv => whnf
      refine brNot (brT hb ?_)
      conv => whnf
      exact roundEnd (chordH c (es, at')) rfl (hfin _ rfl) (chordH_ids _ _)
    · have hcs : chordStep (es, at') x = (es ++ [⟨at', x.s⟩], x.s) := if_neg g
      rw [hcs] at hfin
      have hb : (x.s.x == at'.x && (x.s.y == at'.y && true)) = false := by
        apply Bool.eq_false_iff.2; intro h; apply g
        simp at h; cases hx : x.s; cases at'; simp [hx] at h ⊢; exact h
      conv => whnf
      refine ⟨rfl, codeR_sound seat_ok _ _ _ _ ?_⟩
      conv => whnf
      refine brNot (brF hb ?_)
      conv => whnf
      refine Req.mk ⟨rfl, rfl, rfl, hlen, rfl, by simp [okCell], by dsimp only; omega, by dsimp only; omega, by decide⟩ ?_
      conv => whnf
      refine roundEnd (chordH c (es ++ [⟨at', x.s⟩], x.s)) ?_ (hfin _ rfl) (chordH_ids _ _)
      unfold chordH; rw [← cs_append, show (es ++ [(⟨at', x.s⟩ : Ed)]).length = es.length + 1 by simp]; rfl
  · rintro seen e h1 ⟨L0, R, hP, hs0, hst⟩ ⟨rfl, L, R0, hP0, hs, rfl⟩
    obtain rfl := toldS_inj hP hP0 (hs0.symm.trans hs)
    obtain rfl := hst rfl
    rw [List.append_nil] at hP; subst hP
    conv => whnf
    exact .inl ⟨_, _, rfl, Weak.tok, rfl⟩
end Go.Proofs.Ytfiekficbbikaaa
