/- The pieces of a curve, told one by one by the program. Conditions: the curve's numbers within the bound. -/
import Derived.Test.YtfiekficbbikaaaStack
import Derived.Test.YtfiekficbbikaaaCurve4
import Derived.Test.YtfiekficbbikaaaCurve6
set_option linter.unusedSimpArgs false
set_option linter.unusedVariables false
set_option linter.deprecated false
namespace Go.Proofs.Ytfiekficbbikaaa
open Go.Abs

def toldC (L : List Cv) : List (List AV) := L.map fun x => [x.a]
theorem toldC_snoc (L : List Cv) (x : Cv) : toldC L ++ [[x.a]] = toldC (L ++ [x]) := by simp [toldC]
/-- the pieces are told in their order -/
def accC (P : List Cv) (seen : List (List AV)) (args : List AV) : Prop := ∃ L x R, P = L ++ x :: R ∧ seen = toldC L ∧ args = [x.a]
/-- all were told, or it was stopped -/
def finC (P : List Cv) (seen : List (List AV)) (st : Bool) : Prop := ∃ L R, P = L ++ R ∧ seen = toldC L ∧ (st = false → R = [])
theorem c_pieces (c : Cv) : ACalls seat 9 [c.a] [] (fun x _ => x = .ret (.fn 21 [] [.iptr c.c])) := by
  have h : ACalls seat 9 [c.a] [] (fun x h' => x = .ret (.fn 21 [] [.ptr 0 0]) ∧ h' = [.var c.c 25]) := by
    refine ACalls.body seat_ok Try.func9 rfl rfl ?_
    conv => whnf
    exact ⟨rfl, rfl⟩
  exact (h.seal 0 rfl (SealV.fn (SealL.refl []) (SealL.setAt 0 rfl SealV.ptr))).mono fun _ _ h => h.1
set_option maxRecDepth 20000 in
theorem stack0 : StackOK (ofCells (List.replicate 199 (Go.Value.int .i64 0))) [] := by
  refine ⟨rfl, rfl, ?_, trivial⟩
  simp [ofCells, ofCell, ClosedL, Closed, List.replicate]
set_option maxRecDepth 20000 in
theorem c_tell (c : Cv) (hc : c.in 4398046511104) : ACalls seat 21 [.cb 0, .iptr c.c] [.cb (accC (pieces 20 c)) [] false] (fun r h' => (∃ v, r = .ret v) ∧ ∃ seen st, h'[0]? = some (.cb (accC (pieces 20 c)) seen st) ∧ finC (pieces 20 c) seen st) := by
  refine ACalls.body seat_ok Try.func21 rfl rfl ?_
  obtain ⟨cs0, k0, h0⟩ := c_push' _ c 0 20 [] stack0 (by simp) (by simp)
  have hP0 : pieces 20 c = [] ++ waiting [(c, 20)] := by simp [waiting]
  generalize pieces 20 c = P at *
  conv => whnf
  refine CallH.mem1 seat_g 1 h0 rfl stack0.cl k0.cl (by simp [Closed, ClosedL]) rfl ?_
  conv => whnf
  refine Sat.cut (fun x t h => (x = .exit 0 ∨ x = .ret) ∧ ∃ seen st rest, h = .cb (accC P) seen st :: rest ∧ finC P seen st) ?_ ?_
  · refine Sat.invP seat_ok seat_g (maskOf 42 [0, 3]) 2 (fun μ t h => ∃ L l cs, μ = steps l ∧ t = (.cb 0 :: AV.undef :: AV.undef :: .ptr 1 0 :: AV.undef :: AV.undef :: AV.undef :: AV.undef :: AV.undef :: AV.undef :: AV.undef :: AV.undef :: AV.undef :: AV.undef :: AV.undef :: AV.undef :: AV.undef :: AV.undef :: AV.undef :: AV.undef :: AV.undef :: AV.undef :: AV.undef :: AV.undef :: AV.undef :: AV.undef :: AV.undef :: AV.undef :: AV.undef :: AV.undef :: AV.undef :: AV.undef :: AV.undef :: AV.undef :: AV.undef :: AV.undef :: AV.undef :: AV.undef :: AV.undef :: AV.undef :: AV.undef :: AV.undef :: []) ∧ h = [.cb (accC P) (toldC L) false, .var cs 51] ∧
      StackOK cs l ∧ deepOK l ∧ P = L ++ waiting l ∧ ∀ x ∈ l, x.1.in 4398046511104) ?_ ⟨_, _, WeakL.of_eq rfl, [], [(c, 20)], cs0, rfl, rfl, rfl, k0, ⟨by simp, trivial⟩, hP0, by simpa using hc⟩ ?_
    · rintro _ _ _ ⟨L, l, cs, -, rfl, rfl, hs, -⟩
      exact ⟨rfl, by simp [IdsL, Ids], ⟨trivial, ClosedL.ids _ hs.cl, trivial⟩⟩
    rintro _ _ _ ⟨L, l, cs, rfl, rfl, rfl, hs, hd, hP, hin⟩
    have hn := hs.n
    cases l with
    | nil =>
      rw [List.length_nil] at hn
      conv => whnf
      refine ldI _ (show partK false cs 198 1 = _ from part_one hn) ?_
      conv => whnf
      repeat' (first | (refine WrapH.quo (by omega) (by omega) (by omega) ?_; conv => whnf) | (refine NumH.rem (by omega) ?_; conv => whnf) | (refine WrapH.is _ (wrap_i64 (by omega) (by omega)) ?_; conv => whnf) | (refine WrapH.is _ (wrap_u64 (by omega) (by omega)) ?_; conv => whnf) | (refine WrapH.is _ wrap_u64m ?_; conv => whnf) | (refine Req.mk (by omega) ?_; conv => whnf) | (refine Req.mk (by dsimp only; omega) ?_; conv => whnf) | (refine Req.mk ⟨rfl, rfl, rfl, by simp [ci_length, *], rfl, by simp [okCell], by dsimp only; omega, by omega, by decide⟩ ?_; conv => whnf) | (refine Req.mk (show pendP _ _ by repeat' constructor) ?_; conv => whnf) | ((with_reducible refine brT ?_ ?_); (next => assumption); (conv => whnf)) | ((with_reducible refine brF ?_ ?_); (next => assumption); (conv => whnf)) | ((with_reducible refine brDT ?_ ?_); (next => omega); (conv => whnf)) | ((with_reducible refine brDF ?_ ?_); (next => omega); (conv => whnf)) | ((with_reducible refine brET ?_ ?_); (next => omega); (conv => whnf)) | ((with_reducible refine brEF ?_ ?_); (next => omega); (conv => whnf)) | ((with_reducible refine brNET ?_ ?_); (next => omega); (conv => whnf)) | ((with_reducible refine brNEF ?_ ?_); (next => omega); (conv => whnf)) | (with_reducible refine brNot ?_))
      exact ⟨_, WeakL.refl _, .inl rfl, _, _, _, rfl, L, [], hP, rfl, fun _ => rfl⟩
    | cons x l =>
      obtain ⟨y, n⟩ := x
      have hll : l.length ≤ 20 := by have := hd.1; omega
      obtain ⟨cs1, s1, p1⟩ := c_pop' cs (y, n) l hs (by omega)
      have hy : y.in 4398046511104 := hin (y, n) (by simp)
      have hpos : (0 : Int) < ((((y, n) :: l).length : Nat) : Int) := by simp
      have hn20 : n ≤ 20 := by have := hd.1; omega
      have tell : (n = 0 ∨ y.flat) → accC P (toldC L) [y.a] ∧ (P = (L ++ [y]) ++ waiting l) := fun h => by
        have := waiting_tell (l := l) h
        rw [this] at hP
        exact ⟨⟨L, y, waiting l, hP, rfl, rfl⟩, by rw [hP]; simp⟩
      have hl1 : ∀ x ∈ l, x.1.in 4398046511104 := fun x hx => hin x (by simp [hx])
      have hst := steps_pop (y, n) l
      have hd1 := hd.2
      have f1 := c_flat y hy
      by_cases h0 : n = 0
      · subst h0
        obtain ⟨ha, hP1⟩ := tell (.inl rfl)
        generalize ((y, 0) :: l).length = len at hn hpos
        conv => whnf
        refine ldI _ (show partK false cs 198 1 = _ from part_one hn) ?_
        conv => whnf
        repeat' (first | (refine WrapH.quo (by omega) (by omega) (by omega) ?_; conv => whnf) | (refine NumH.rem (by omega) ?_; conv => whnf) | (refine WrapH.is _ (wrap_i64 (by omega) (by omega)) ?_; conv => whnf) | (refine WrapH.is _ (wrap_u64 (by omega) (by omega)) ?_; conv => whnf) | (refine WrapH.is _ wrap_u64m ?_; conv => whnf) | (refine Req.mk (by omega) ?_; conv => whnf) | (refine Req.mk (by dsimp only; omega) ?_; conv => whnf) | (refine Req.mk ⟨rfl, rfl, rfl, by simp [ci_length, *], rfl, by simp [okCell], by dsimp only; omega, by omega, by decide⟩ ?_; conv => whnf) | (refine Req.mk (show pendP _ _ by repeat' constructor) ?_; conv => whnf) | ((with_reducible refine brT ?_ ?_); (next => assumption); (conv => whnf)) | ((with_reducible refine brF ?_ ?_); (next => assumption); (conv => whnf)) | ((with_reducible refine brDT ?_ ?_); (next => omega); (conv => whnf)) | ((with_reducible refine brDF ?_ ?_); (next => omega); (conv => whnf)) | ((with_reducible refine brET ?_ ?_); (next => omega); (conv => whnf)) | ((with_reducible refine brEF ?_ ?_); (next => omega); (conv => whnf)) | ((with_reducible refine brNET ?_ ?_); (next => omega); (conv => whnf)) | ((with_reducible refine brNEF ?_ ?_); (next => omega); (conv => whnf)) | (with_reducible refine brNot ?_))
        refine CallH.mem1 seat_g 1 p1 rfl hs.cl s1.cl (by simp [Closed, partC_closed]) rfl ?_
        conv => whnf
        repeat' (first | (refine WrapH.quo (by omega) (by omega) (by omega) ?_; conv => whnf) | (refine NumH.rem (by omega) ?_; conv => whnf) | (refine WrapH.is _ (wrap_i64 (by omega) (by omega)) ?_; conv => whnf) | (refine WrapH.is _ (wrap_u64 (by omega) (by omega)) ?_; conv => whnf) | (refine WrapH.is _ wrap_u64m ?_; conv => whnf) | (refine Req.mk (by omega) ?_; conv => whnf) | (refine Req.mk (by dsimp only; omega) ?_; conv => whnf) | (refine Req.mk ⟨rfl, rfl, rfl, by simp [ci_length, *], rfl, by simp [okCell], by dsimp only; omega, by omega, by decide⟩ ?_; conv => whnf) | (refine Req.mk (show pendP _ _ by repeat' constructor) ?_; conv => whnf) | ((with_reducible refine brT ?_ ?_); (next => assumption); (conv => whnf)) | ((with_reducible refine brF ?_ ?_); (next => assumption); (conv => whnf)) | ((with_reducible refine brDT ?_ ?_); (next => omega); (conv => whnf)) | ((with_reducible refine brDF ?_ ?_); (next => omega); (conv => whnf)) | ((with_reducible refine brET ?_ ?_); (next => omega); (conv => whnf)) | ((with_reducible refine brEF ?_ ?_); (next => omega); (conv => whnf)) | ((with_reducible refine brNET ?_ ?_); (next => omega); (conv => whnf)) | ((with_reducible refine brNEF ?_ ?_); (next => omega); (conv => whnf)) | (with_reducible refine brNot ?_))
        refine CbH.told rfl ha ⟨Cv.closed y, trivial⟩ ?_ ?_
        · conv => whnf
          exact ⟨_, _, hst, WeakL.of_eq rfl, L ++ [y], l, cs1, rfl, rfl, by rw [← toldC_snoc]; rfl, s1, hd1, hP1, hl1⟩
        · conv => whnf
          exact ⟨_, WeakL.refl _, .inr rfl, _, _, _, rfl, L ++ [y], waiting l, hP1, toldC_snoc L y, fun h => by cases h⟩
      by_cases hf : y.flat
      · obtain ⟨ha, hP1⟩ := tell (.inr hf)
        rw [decide_eq_true hf] at f1
        generalize ((y, n) :: l).length = len at hn hpos
        conv => whnf
        refine ldI _ (show partK false cs 198 1 = _ from part_one hn) ?_
        conv => whnf
        repeat' (first | (refine WrapH.quo (by omega) (by omega) (by omega) ?_; conv => whnf) | (refine NumH.rem (by omega) ?_; conv => whnf) | (refine WrapH.is _ (wrap_i64 (by omega) (by omega)) ?_; conv => whnf) | (refine WrapH.is _ (wrap_u64 (by omega) (by omega)) ?_; conv => whnf) | (refine WrapH.is _ wrap_u64m ?_; conv => whnf) | (refine Req.mk (by omega) ?_; conv => whnf) | (refine Req.mk (by dsimp only; omega) ?_; conv => whnf) | (refine Req.mk ⟨rfl, rfl, rfl, by simp [ci_length, *], rfl, by simp [okCell], by dsimp only; omega, by omega, by decide⟩ ?_; conv => whnf) | (refine Req.mk (show pendP _ _ by repeat' constructor) ?_; conv => whnf) | ((with_reducible refine brT ?_ ?_); (next => assumption); (conv => whnf)) | ((with_reducible refine brF ?_ ?_); (next => assumption); (conv => whnf)) | ((with_reducible refine brDT ?_ ?_); (next => omega); (conv => whnf)) | ((with_reducible refine brDF ?_ ?_); (next => omega); (conv => whnf)) | ((with_reducible refine brET ?_ ?_); (next => omega); (conv => whnf)) | ((with_reducible refine brEF ?_ ?_); (next => omega); (conv => whnf)) | ((with_reducible refine brNET ?_ ?_); (next => omega); (conv => whnf)) | ((with_reducible refine brNEF ?_ ?_); (next => omega); (conv => whnf)) | (with_reducible refine brNot ?_))
        refine CallH.mem1 seat_g 1 p1 rfl hs.cl s1.cl (by simp [Closed, partC_closed]) rfl ?_
        conv => whnf
        repeat' (first | (refine WrapH.quo (by omega) (by omega) (by omega) ?_; conv => whnf) | (refine NumH.rem (by omega) ?_; conv => whnf) | (refine WrapH.is _ (wrap_i64 (by omega) (by omega)) ?_; conv => whnf) | (refine WrapH.is _ (wrap_u64 (by omega) (by omega)) ?_; conv => whnf) | (refine WrapH.is _ wrap_u64m ?_; conv => whnf) | (refine Req.mk (by omega) ?_; conv => whnf) | (refine Req.mk (by dsimp only; omega) ?_; conv => whnf) | (refine Req.mk ⟨rfl, rfl, rfl, by simp [ci_length, *], rfl, by simp [okCell], by dsimp only; omega, by omega, by decide⟩ ?_; conv => whnf) | (refine Req.mk (show pendP _ _ by repeat' constructor) ?_; conv => whnf) | ((with_reducible refine brT ?_ ?_); (next => assumption); (conv => whnf)) | ((with_reducible refine brF ?_ ?_); (next => assumption); (conv => whnf)) | ((with_reducible refine brDT ?_ ?_); (next => omega); (conv => whnf)) | ((with_reducible refine brDF ?_ ?_); (next => omega); (conv => whnf)) | ((with_reducible refine brET ?_ ?_); (next => omega); (conv => whnf)) | ((with_reducible refine brEF ?_ ?_); (next => omega); (conv => whnf)) | ((with_reducible refine brNET ?_ ?_); (next => omega); (conv => whnf)) | ((with_reducible refine brNEF ?_ ?_); (next => omega); (conv => whnf)) | (with_reducible refine brNot ?_))
        refine CallH.lift seat_g f1 ⟨Cv.closed _, trivial⟩ (by simp [Closed]) ?_
        conv => whnf
        repeat' (first | (refine WrapH.quo (by omega) (by omega) (by omega) ?_; conv => whnf) | (refine NumH.rem (by omega) ?_; conv => whnf) | (refine WrapH.is _ (wrap_i64 (by omega) (by omega)) ?_; conv => whnf) | (refine WrapH.is _ (wrap_u64 (by omega) (by omega)) ?_; conv => whnf) | (refine WrapH.is _ wrap_u64m ?_; conv => whnf) | (refine Req.mk (by omega) ?_; conv => whnf) | (refine Req.mk (by dsimp only; omega) ?_; conv => whnf) | (refine Req.mk ⟨rfl, rfl, rfl, by simp [ci_length, *], rfl, by simp [okCell], by dsimp only; omega, by omega, by decide⟩ ?_; conv => whnf) | (refine Req.mk (show pendP _ _ by repeat' constructor) ?_; conv => whnf) | ((with_reducible refine brT ?_ ?_); (next => assumption); (conv => whnf)) | ((with_reducible refine brF ?_ ?_); (next => assumption); (conv => whnf)) | ((with_reducible refine brDT ?_ ?_); (next => omega); (conv => whnf)) | ((with_reducible refine brDF ?_ ?_); (next => omega); (conv => whnf)) | ((with_reducible refine brET ?_ ?_); (next => omega); (conv => whnf)) | ((with_reducible refine brEF ?_ ?_); (next => omega); (conv => whnf)) | ((with_reducible refine brNET ?_ ?_); (next => omega); (conv => whnf)) | ((with_reducible refine brNEF ?_ ?_); (next => omega); (conv => whnf)) | (with_reducible refine brNot ?_))
        refine CbH.told rfl ha ⟨Cv.closed y, trivial⟩ ?_ ?_
        · conv => whnf
          exact ⟨_, _, hst, WeakL.of_eq rfl, L ++ [y], l, cs1, rfl, rfl, by rw [← toldC_snoc]; rfl, s1, hd1, hP1, hl1⟩
        · conv => whnf
          exact ⟨_, WeakL.refl _, .inr rfl, _, _, _, rfl, L ++ [y], waiting l, hP1, toldC_snoc L y, fun h => by cases h⟩
      · obtain ⟨m, rfl⟩ : ∃ m, n = m + 1 := ⟨n - 1, by omega⟩
        rw [decide_eq_false hf] at f1
        have hP1 := waiting_cut (n := m) (l := l) hf
        have hst2 := steps_cut y y.cut1 y.cut2 m l
        have hd2 := hd.cut y.cut1 y.cut2
        have cc := c_cut y hy
        obtain ⟨cs2, s2, p2⟩ := c_push' cs1 y.cut2 (20 - ((m + 1 : Nat) : Int) + 1) m l s1 (by omega) (by omega)
        obtain ⟨cs3, s3, p3⟩ := c_push' cs2 y.cut1 (20 - ((m + 1 : Nat) : Int) + 1) m _ s2 (by simp; omega) (by omega)
        have i1 := Cv.cut1_in hy
        have i2 := Cv.cut2_in hy
        generalize ((y, m + 1) :: l).length = len at hn hpos
        generalize y.cut1 = a at *
        generalize y.cut2 = b at *
        conv => whnf
        refine ldI _ (show partK false cs 198 1 = _ from part_one hn) ?_
        conv => whnf
        repeat' (first | (refine WrapH.quo (by omega) (by omega) (by omega) ?_; conv => whnf) | (refine NumH.rem (by omega) ?_; conv => whnf) | (refine WrapH.is _ (wrap_i64 (by omega) (by omega)) ?_; conv => whnf) | (refine WrapH.is _ (wrap_u64 (by omega) (by omega)) ?_; conv => whnf) | (refine WrapH.is _ wrap_u64m ?_; conv => whnf) | (refine Req.mk (by omega) ?_; conv => whnf) | (refine Req.mk (by dsimp only; omega) ?_; conv => whnf) | (refine Req.mk ⟨rfl, rfl, rfl, by simp [ci_length, *], rfl, by simp [okCell], by dsimp only; omega, by omega, by decide⟩ ?_; conv => whnf) | (refine Req.mk (show pendP _ _ by repeat' constructor) ?_; conv => whnf) | ((with_reducible refine brT ?_ ?_); (next => assumption); (conv => whnf)) | ((with_reducible refine brF ?_ ?_); (next => assumption); (conv => whnf)) | ((with_reducible refine brDT ?_ ?_); (next => omega); (conv => whnf)) | ((with_reducible refine brDF ?_ ?_); (next => omega); (conv => whnf)) | ((with_reducible refine brET ?_ ?_); (next => omega); (conv => whnf)) | ((with_reducible refine brEF ?_ ?_); (next => omega); (conv => whnf)) | ((with_reducible refine brNET ?_ ?_); (next => omega); (conv => whnf)) | ((with_reducible refine brNEF ?_ ?_); (next => omega); (conv => whnf)) | (with_reducible refine brNot ?_))
        refine CallH.mem1 seat_g 1 p1 rfl hs.cl s1.cl (by simp [Closed, partC_closed]) rfl ?_
        conv => whnf
        repeat' (first | (refine WrapH.quo (by omega) (by omega) (by omega) ?_; conv => whnf) | (refine NumH.rem (by omega) ?_; conv => whnf) | (refine WrapH.is _ (wrap_i64 (by omega) (by omega)) ?_; conv => whnf) | (refine WrapH.is _ (wrap_u64 (by omega) (by omega)) ?_; conv => whnf) | (refine WrapH.is _ wrap_u64m ?_; conv => whnf) | (refine Req.mk (by omega) ?_; conv => whnf) | (refine Req.mk (by dsimp only; omega) ?_; conv => whnf) | (refine Req.mk ⟨rfl, rfl, rfl, by simp [ci_length, *], rfl, by simp [okCell], by dsimp only; omega, by omega, by decide⟩ ?_; conv => whnf) | (refine Req.mk (show pendP _ _ by repeat' constructor) ?_; conv => whnf) | ((with_reducible refine brT ?_ ?_); (next => assumption); (conv => whnf)) | ((with_reducible refine brF ?_ ?_); (next => assumption); (conv => whnf)) | ((with_reducible refine brDT ?_ ?_); (next => omega); (conv => whnf)) | ((with_reducible refine brDF ?_ ?_); (next => omega); (conv => whnf)) | ((with_reducible refine brET ?_ ?_); (next => omega); (conv => whnf)) | ((with_reducible refine brEF ?_ ?_); (next => omega); (conv => whnf)) | ((with_reducible refine brNET ?_ ?_); (next => omega); (conv => whnf)) | ((with_reducible refine brNEF ?_ ?_); (next => omega); (conv => whnf)) | (with_reducible refine brNot ?_))
        refine CallH.lift seat_g f1 ⟨Cv.closed _, trivial⟩ (by simp [Closed]) ?_
        conv => whnf
        repeat' (first | (refine WrapH.quo (by omega) (by omega) (by omega) ?_; conv => whnf) | (refine NumH.rem (by omega) ?_; conv => whnf) | (refine WrapH.is _ (wrap_i64 (by omega) (by omega)) ?_; conv => whnf) | (refine WrapH.is _ (wrap_u64 (by omega) (by omega)) ?_; conv => whnf) | (refine WrapH.is _ wrap_u64m ?_; conv => whnf) | (refine Req.mk (by omega) ?_; conv => whnf) | (refine Req.mk (by dsimp only; omega) ?_; conv => whnf) | (refine Req.mk ⟨rfl, rfl, rfl, by simp [ci_length, *], rfl, by simp [okCell], by dsimp only; omega, by omega, by decide⟩ ?_; conv => whnf) | (refine Req.mk (show pendP _ _ by repeat' constructor) ?_; conv => whnf) | ((with_reducible refine brT ?_ ?_); (next => assumption); (conv => whnf)) | ((with_reducible refine brF ?_ ?_); (next => assumption); (conv => whnf)) | ((with_reducible refine brDT ?_ ?_); (next => omega); (conv => whnf)) | ((with_reducible refine brDF ?_ ?_); (next => omega); (conv => whnf)) | ((with_reducible refine brET ?_ ?_); (next => omega); (conv => whnf)) | ((with_reducible refine brEF ?_ ?_); (next => omega); (conv => whnf)) | ((with_reducible refine brNET ?_ ?_); (next => omega); (conv => whnf)) | ((with_reducible refine brNEF ?_ ?_); (next => omega); (conv => whnf)) | (with_reducible refine brNot ?_))
        refine CallH.lift seat_g cc ⟨Cv.closed _, trivial⟩ ⟨Cv.closed _, Cv.closed _, trivial⟩ ?_
        conv => whnf
        repeat' (first | (refine WrapH.quo (by omega) (by omega) (by omega) ?_; conv => whnf) | (refine NumH.rem (by omega) ?_; conv => whnf) | (refine WrapH.is _ (wrap_i64 (by omega) (by omega)) ?_; conv => whnf) | (refine WrapH.is _ (wrap_u64 (by omega) (by omega)) ?_; conv => whnf) | (refine WrapH.is _ wrap_u64m ?_; conv => whnf) | (refine Req.mk (by omega) ?_; conv => whnf) | (refine Req.mk (by dsimp only; omega) ?_; conv => whnf) | (refine Req.mk ⟨rfl, rfl, rfl, by simp [ci_length, *], rfl, by simp [okCell], by dsimp only; omega, by omega, by decide⟩ ?_; conv => whnf) | (refine Req.mk (show pendP _ _ by repeat' constructor) ?_; conv => whnf) | ((with_reducible refine brT ?_ ?_); (next => assumption); (conv => whnf)) | ((with_reducible refine brF ?_ ?_); (next => assumption); (conv => whnf)) | ((with_reducible refine brDT ?_ ?_); (next => omega); (conv => whnf)) | ((with_reducible refine brDF ?_ ?_); (next => omega); (conv => whnf)) | ((with_reducible refine brET ?_ ?_); (next => omega); (conv => whnf)) | ((with_reducible refine brEF ?_ ?_); (next => omega); (conv => whnf)) | ((with_reducible refine brNET ?_ ?_); (next => omega); (conv => whnf)) | ((with_reducible refine brNEF ?_ ?_); (next => omega); (conv => whnf)) | (with_reducible refine brNot ?_))
        refine CallH.mem1 seat_g 1 p2 rfl s1.cl s2.cl (by simp [Closed, ClosedL]) rfl ?_
        conv => whnf
        repeat' (first | (refine WrapH.quo (by omega) (by omega) (by omega) ?_; conv => whnf) | (refine NumH.rem (by omega) ?_; conv => whnf) | (refine WrapH.is _ (wrap_i64 (by omega) (by omega)) ?_; conv => whnf) | (refine WrapH.is _ (wrap_u64 (by omega) (by omega)) ?_; conv => whnf) | (refine WrapH.is _ wrap_u64m ?_; conv => whnf) | (refine Req.mk (by omega) ?_; conv => whnf) | (refine Req.mk (by dsimp only; omega) ?_; conv => whnf) | (refine Req.mk ⟨rfl, rfl, rfl, by simp [ci_length, *], rfl, by simp [okCell], by dsimp only; omega, by omega, by decide⟩ ?_; conv => whnf) | (refine Req.mk (show pendP _ _ by repeat' constructor) ?_; conv => whnf) | ((with_reducible refine brT ?_ ?_); (next => assumption); (conv => whnf)) | ((with_reducible refine brF ?_ ?_); (next => assumption); (conv => whnf)) | ((with_reducible refine brDT ?_ ?_); (next => omega); (conv => whnf)) | ((with_reducible refine brDF ?_ ?_); (next => omega); (conv => whnf)) | ((with_reducible refine brET ?_ ?_); (next => omega); (conv => whnf)) | ((with_reducible refine brEF ?_ ?_); (next => omega); (conv => whnf)) | ((with_reducible refine brNET ?_ ?_); (next => omega); (conv => whnf)) | ((with_reducible refine brNEF ?_ ?_); (next => omega); (conv => whnf)) | (with_reducible refine brNot ?_))
        refine CallH.mem1 seat_g 1 p3 rfl s2.cl s3.cl (by simp [Closed, ClosedL]) rfl ?_
        conv => whnf
        refine ⟨_, _, hst2, WeakL.of_eq rfl, L, _, cs3, rfl, rfl, rfl, s3, hd2, hP.trans (congrArg _ hP1), ?_⟩
        intro x hx
        rcases List.mem_cons.1 hx with rfl | hx
        · exact i1
        rcases List.mem_cons.1 hx with rfl | hx
        · exact i2
        · exact hl1 x hx
  · rintro x t h ⟨hx, seen, st, rest, rfl, hf⟩
    rcases hx with rfl | rfl
    · conv => whnf
      exact ⟨⟨_, rfl⟩, seen, st, rfl, hf⟩
    · conv => whnf
      exact ⟨⟨_, rfl⟩, seen, st, rfl, hf⟩
end Go.Proofs.Ytfiekficbbikaaa
