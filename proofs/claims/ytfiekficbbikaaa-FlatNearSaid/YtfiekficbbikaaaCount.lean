/- How many pieces a curve has, and their ends, told one by one. Conditions: the curve's numbers within the bound. -/
import Derived.Test.YtfiekficbbikaaaTold
set_option linter.unusedSimpArgs false
set_option linter.unusedVariables false
set_option linter.deprecated false
namespace Go.Proofs.Ytfiekficbbikaaa
open Go.Abs

def countH (c : Cv) (n : Nat) : Heap := [.var c.c 25, .var [.int .i64 n] 3]
def countI (c : Cv) (seen : List (List AV)) (e : AExit) (h : Heap) : Prop := ∃ L : List Cv, h = countH c L.length ∧ seen = toldC L ∧ ((e = .normal ∧ L.length < 4096) ∨ (e = .exit 0 ∧ L.length = 4096))
theorem countH_ids (c : Cv) (n : Nat) : IdsH (· < 2) (countH c n) := by simp [countH, IdsH, IdsC, IdsL, Ids, Cv.c]
set_option maxRecDepth 20000 in
theorem c_count (c : Cv) (hc : c.in 4398046511104) : ACalls seat 17 [c.a] [] (fun x _ => x = .ret (.int .i64 (min (pieces 20 c).length 4096 : Nat))) := by
  refine ACalls.body seat_ok Try.func17 rfl rfl ?_
  have c1 := c_pieces c
  have c2 := c_tell c hc
  generalize pieces 20 c = P at *
  conv => whnf
  refine CallH.lift seat_g c1 ⟨Cv.closed c, trivial⟩ (by simp [Closed, ClosedL, Cv.c]) ?_
  conv => whnf
  refine Sat.range seat_ok seat_g (f := 21) (first := []) (caps := [.iptr c.c]) rfl trivial (by simp [Closed, ClosedL, Cv.c]) rfl rfl rfl (accC P)
    (countI c) (finC P) c2 ⟨[], rfl, rfl, .inl ⟨rfl, by simp⟩⟩ ?_ ?_
  · rintro seen args h1 ⟨L0, x, R, hP, hs0, rfl⟩ ⟨L, rfl, rfl, ⟨-, hL⟩ | ⟨he, -⟩⟩
    rotate_left
    · cases he
    obtain rfl := toldC_inj hs0
    refine ⟨rfl, codeR_sound seat_ok _ _ _ _ ?_⟩
    have hs := toldC_snoc L x
    have hl : (L ++ [x]).length = L.length + 1 := by simp
    by_cases g : L.length + 1 = 4096
    · conv => whnf
      refine ⟨rfl, codeR_sound seat_ok _ _ _ _ ?_⟩
      conv => whnf
      repeat' (first | (refine WrapH.quo (by omega) (by omega) (by omega) ?_; conv => whnf) | (refine NumH.rem (by omega) ?_; conv => whnf) | (refine WrapH.is _ (wrap_i64 (by omega) (by omega)) ?_; conv => whnf) | (refine WrapH.is _ (wrap_u64 (by omega) (by omega)) ?_; conv => whnf) | (refine WrapH.is _ wrap_u64m ?_; conv => whnf) | (refine Req.mk (by omega) ?_; conv => whnf) | (refine Req.mk (by dsimp only; omega) ?_; conv => whnf) | (refine Req.mk ⟨rfl, rfl, rfl, by simp [ci_length, *], rfl, by simp [okCell], by dsimp only; omega, by omega, by decide⟩ ?_; conv => whnf) | (refine Req.mk (show pendP _ _ by repeat' constructor) ?_; conv => whnf) | ((with_reducible refine brT ?_ ?_); (next => assumption); (conv => whnf)) | ((with_reducible refine brF ?_ ?_); (next => assumption); (conv => whnf)) | ((with_reducible refine brDT ?_ ?_); (next => omega); (conv => whnf)) | ((with_reducible refine brDF ?_ ?_); (next => omega); (conv => whnf)) | ((with_reducible refine brET ?_ ?_); (next => omega); (conv => whnf)) | ((with_reducible refine brEF ?_ ?_); (next => omega); (conv => whnf)) | ((with_reducible refine brNET ?_ ?_); (next => omega); (conv => whnf)) | ((with_reducible refine brNEF ?_ ?_); (next => omega); (conv => whnf)) | (with_reducible refine brNot ?_))
      exact roundEnd (countH c (L ++ [x]).length) (by rw [hl]; rfl) ⟨L ++ [x], rfl, hs, .inr ⟨rfl, by rw [hl]; exact g⟩⟩ (countH_ids _ _)
    · conv => whnf
      refine ⟨rfl, codeR_sound seat_ok _ _ _ _ ?_⟩
      conv => whnf
      repeat' (first | (refine WrapH.quo (by omega) (by omega) (by omega) ?_; conv => whnf) | (refine NumH.rem (by omega) ?_; conv => whnf) | (refine WrapH.is _ (wrap_i64 (by omega) (by omega)) ?_; conv => whnf) | (refine WrapH.is _ (wrap_u64 (by omega) (by omega)) ?_; conv => whnf) | (refine WrapH.is _ wrap_u64m ?_; conv => whnf) | (refine Req.mk (by omega) ?_; conv => whnf) | (refine Req.mk (by dsimp only; omega) ?_; conv => whnf) | (refine Req.mk ⟨rfl, rfl, rfl, by simp [ci_length, *], rfl, by simp [okCell], by dsimp only; omega, by omega, by decide⟩ ?_; conv => whnf) | (refine Req.mk (show pendP _ _ by repeat' constructor) ?_; conv => whnf) | ((with_reducible refine brT ?_ ?_); (next => assumption); (conv => whnf)) | ((with_reducible refine brF ?_ ?_); (next => assumption); (conv => whnf)) | ((with_reducible refine brDT ?_ ?_); (next => omega); (conv => whnf)) | ((with_reducible refine brDF ?_ ?_); (next => omega); (conv => whnf)) | ((with_reducible refine brET ?_ ?_); (next => omega); (conv => whnf)) | ((with_reducible refine brEF ?_ ?_); (next => omega); (conv => whnf)) | ((with_reducible refine brNET ?_ ?_); (next => omega); (conv => whnf)) | ((with_reducible refine brNEF ?_ ?_); (next => omega); (conv => whnf)) | (with_reducible refine brNot ?_))
      exact roundEnd (countH c (L ++ [x]).length) (by rw [hl]; rfl) ⟨L ++ [x], rfl, hs, .inl ⟨rfl, by rw [hl]; omega⟩⟩ (countH_ids _ _)
  · rintro seen e h1 ⟨L0, R, hP, hs0, hst⟩ ⟨L, rfl, hs, h⟩
    obtain rfl := toldC_inj (hs0.symm.trans hs)
    rcases h with ⟨rfl, hl⟩ | ⟨rfl, hl⟩
    · obtain rfl := hst rfl
      rw [List.append_nil] at hP; subst hP
      rw [Nat.min_eq_left (by omega)]
      conv => whnf
      rfl
    · have : min P.length 4096 = L0.length := by rw [hP, List.length_append]; omega
      rw [this]
      conv => whnf
      rfl

def toldS (L : List Cv) : List (List AV) := L.map fun x => [x.s.a]
theorem toldS_snoc (L : List Cv) (x : Cv) : toldS L ++ [[x.s.a]] = toldS (L ++ [x]) := by simp [toldS]
def accS (P : List Cv) (seen : List (List AV)) (args : List AV) : Prop := ∃ L x R, P = L ++ x :: R ∧ seen = toldS L ∧ args = [x.s.a]
def finS (P : List Cv) (seen : List (List AV)) (st : Bool) : Prop := ∃ L R, P = L ++ R ∧ seen = toldS L ∧ (st = false → R = [])
/-- two beginnings of one list that tell the same ends -/
theorem toldS_inj {P L M R Q : List Cv} (h1 : P = L ++ R) (h2 : P = M ++ Q) (h : toldS L = toldS M) : L = M := by
  have hl : L.length = M.length := by have := congrArg List.length h; simpa [toldS] using this
  subst h1
  exact (List.append_inj h2 hl).1
theorem c_points (c : Cv) : ACalls seat 16 [c.a] [] (fun x _ => x = .ret (.fn 32 [] [.iptr c.c])) := by
  have h : ACalls seat 16 [c.a] [] (fun x h' => x = .ret (.fn 32 [] [.ptr 0 0]) ∧ h' = [.var c.c 25]) := by
    refine ACalls.body seat_ok Try.func16 rfl rfl ?_
    conv => whnf
    exact ⟨rfl, rfl⟩
  exact (h.seal 0 rfl (SealV.fn (SealL.refl []) (SealL.setAt 0 rfl SealV.ptr))).mono fun _ _ h => h.1
def tellH (P L : List Cv) (st : Bool) : Heap := [.cb (accS P) (toldS L) st, .var [.cb 0] 64]
def tellI (P : List Cv) (seen : List (List AV)) (e : AExit) (h : Heap) : Prop := ∃ L R : List Cv, P = L ++ R ∧ seen = toldC L ∧ ((e = .normal ∧ h = tellH P L false) ∨ (e = .ret ∧ h = tellH P L true))
theorem tellH_ids (P L : List Cv) (st : Bool) : IdsH (· < 2) (tellH P L st) := by simp [tellH, IdsH, IdsC, IdsL, Ids]
set_option maxRecDepth 20000 in
theorem c_tellS (c : Cv) (hc : c.in 4398046511104) : ACalls seat 32 [.cb 0, .iptr c.c] [.cb (accS (pieces 20 c)) [] false] (fun r h' => (∃ v, r = .ret v) ∧ ∃ seen st, h'[0]? = some (.cb (accS (pieces 20 c)) seen st) ∧ finS (pieces 20 c) seen st) := by
  refine ACalls.body seat_ok Try.func32 rfl rfl ?_
  have c1 := c_pieces c
  have c2 := c_tell c hc
  generalize pieces 20 c = P at *
  conv => whnf
  refine CallH.lift seat_g c1 ⟨Cv.closed c, trivial⟩ (by simp [Closed, ClosedL, Cv.c]) ?_
  conv => whnf
  refine Sat.range seat_ok seat_g (f := 21) (first := []) (caps := [.iptr c.c]) rfl trivial (by simp [Closed, ClosedL, Cv.c]) rfl rfl rfl (accC P)
    (tellI P) (finC P) c2 ⟨[], P, rfl, rfl, .inl ⟨rfl, rfl⟩⟩ ?_ ?_
  · rintro seen args h1 ⟨L0, x, R, hP, hs0, rfl⟩ ⟨L, R0, hP0, rfl, ⟨-, rfl⟩ | ⟨he, -⟩⟩
    rotate_left
    · cases he
    obtain rfl := toldC_inj hs0
    refine ⟨rfl, codeR_sound seat_ok _ _ _ _ ?_⟩
    have hs := toldC_snoc L x
    have hs2 := toldS_snoc L x
    have hP1 : P = (L ++ [x]) ++ R := by rw [hP]; simp
    conv => whnf
    refine ⟨rfl, codeR_sound seat_ok _ _ _ _ ?_⟩
    conv => whnf
    refine CbH.told rfl ⟨L, x, R, hP, rfl, rfl⟩ ⟨by simp [Closed, ClosedL], trivial⟩ ?_ ?_
    · conv => whnf
      exact roundEnd (tellH P (L ++ [x]) false) (by unfold tellH; rw [← hs2]; rfl) ⟨L ++ [x], R, hP1, hs, .inl ⟨rfl, rfl⟩⟩ (tellH_ids _ _ _)
    · conv => whnf
      exact roundEnd (tellH P (L ++ [x]) true) (by unfold tellH; rw [← hs2]; rfl) ⟨L ++ [x], R, hP1, hs, .inr ⟨rfl, rfl⟩⟩ (tellH_ids _ _ _)
  · rintro seen e h1 ⟨L0, R, hP, hs0, hst⟩ ⟨L, R0, hP0, hs, h⟩
    obtain rfl := toldC_inj (hs0.symm.trans hs)
    rcases h with ⟨rfl, rfl⟩ | ⟨rfl, rfl⟩
    · have hR := hst rfl
      conv => whnf
      exact ⟨⟨_, rfl⟩, _, _, rfl, L0, R, hP, rfl, fun _ => hR⟩
    · conv => whnf
      exact ⟨⟨_, rfl⟩, _, _, rfl, L0, R, hP, rfl, fun h => by cases h⟩
end Go.Proofs.Ytfiekficbbikaaa
