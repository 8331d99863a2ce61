/- The program's Apply. No condition. -/
import Derived.Test.YteiedieeebjklaaDoorAff
set_option linter.unusedSimpArgs false
set_option linter.unusedVariables false
set_option linter.deprecated false
namespace Go.Proofs.YteiedieeebjklaaDoor
open Go.Abs
theorem c_caughtN (x : Int) : ACalls seat 20 [.ptr 0 0, .nili] [.var [.int .i64 x] 27] (fun r h' => r = .ret (.tup []) ∧ h' = [.var [.int .i64 x] 27]) := by
  refine ACalls.body seat_ok Tryd.func20 rfl rfl ?_
  conv => whnf
  exact ⟨rfl, rfl⟩
theorem c_caughtE (x n : Int) : ACalls seat 20 [.ptr 0 0, errA n] [.var [.int .i64 x] 27] (fun r h' => r = .ret (.tup []) ∧ h' = [.var [.int .i64 n] 27]) := by
  refine ACalls.body seat_ok Tryd.func20 rfl rfl ?_
  conv => whnf
  exact ⟨rfl, rfl⟩
def applyV (m : Mx) (p : Pt) : AV := if m.ok ∧ ptOK p then (if ptOK (m.at' p) then .tup [(m.at' p).a, .int .i64 0] else .tup [Pt.a ⟨0, 0⟩, .int .i64 2]) else .tup [Pt.a ⟨0, 0⟩, .int .i64 1]
theorem applyV1 {m : Mx} {p : Pt} (h : ¬ (m.ok ∧ ptOK p)) : applyV m p = .tup [Pt.a ⟨0, 0⟩, .int .i64 1] := if_neg h
theorem applyV2 {m : Mx} {p : Pt} (h : m.ok ∧ ptOK p) (h2 : ¬ ptOK (m.at' p)) : applyV m p = .tup [Pt.a ⟨0, 0⟩, .int .i64 2] := (if_pos h).trans (if_neg h2)
theorem applyV0 {m : Mx} {p : Pt} (h : m.ok ∧ ptOK p) (h2 : ptOK (m.at' p)) : applyV m p = .tup [(m.at' p).a, .int .i64 0] := (if_pos h).trans (if_pos h2)
theorem applyV_closed (m : Mx) (p : Pt) : Closed (applyV m p) := by unfold applyV; split <;> (try split) <;> simp [Closed, ClosedL, Pt.a, Pt.c]
set_option maxRecDepth 20000 in
theorem c_apply (m : Mx) (p : Pt) : ACalls seat 9 [m.av, p.a] [] (fun x _ => x = .ret (applyV m p)) := by
  have cm := c_moved m p
  by_cases g1 : m.ok ∧ ptOK p
  · by_cases g2 : ptOK (m.at' p)
    · rw [movedR0 g1 g2] at cm
      rw [applyV0 g1 g2]
      generalize m.at' p = q at *
      refine ACalls.bodyD seat_ok Tryd.func9 rfl rfl rfl rfl rfl rfl rfl rfl rfl rfl Tryd.func19 rfl rfl rfl ?_
      conv => whnf
      refine ⟨rfl, Nat.le_of_ble_eq_true rfl, ?_⟩
      conv => whnf
      refine CallH.lift seat_g cm ⟨Mx.closed _, Pt.closed _, trivial⟩ (Pt.closed _) ?_
      conv => whnf
      refine ⟨DCalls.recover0 seat_ok Tryd.func19 rfl (fun _ _ => rfl) rfl rfl rfl rfl rfl Tryd.func20 rfl rfl rfl ?_⟩
      rintro v0 (⟨-, rfl⟩ | h)
      rotate_left
      · cases h
      conv => whnf
      refine CallH.mem1 seat_g 3 (c_caughtN 0) rfl (by simp [Closed, ClosedL]) (by simp [Closed, ClosedL]) (by simp [Closed, ClosedL]) rfl ?_
      conv => whnf
      refine ⟨rfl, ?_⟩
      conv => whnf
      rfl
    · rw [movedR2 g1 g2] at cm
      rw [applyV2 g1 g2]
      refine ACalls.bodyD seat_ok Tryd.func9 rfl rfl rfl rfl rfl rfl rfl rfl rfl rfl Tryd.func19 rfl rfl rfl ?_
      conv => whnf
      refine ⟨rfl, Nat.le_of_ble_eq_true rfl, ?_⟩
      conv => whnf
      refine CallH.liftP seat_g cm ⟨Mx.closed _, Pt.closed _, trivial⟩ (errA_closed _) ?_
      conv => whnf
      refine ⟨DCalls.recover0 seat_ok Tryd.func19 rfl (fun _ _ => rfl) rfl rfl rfl rfl rfl Tryd.func20 rfl rfl rfl ?_⟩
      rintro v0 (⟨h, -⟩ | h)
      · cases h
      cases h
      conv => whnf
      refine CallH.mem1 seat_g 3 (c_caughtE 0 2) rfl (by simp [Closed, ClosedL]) (by simp [Closed, ClosedL]) (by simp [Closed, ClosedL]) rfl ?_
      conv => whnf
      refine ⟨rfl, ?_⟩
      conv => whnf
      rfl
  · rw [movedR1 g1] at cm
    rw [applyV1 g1]
    refine ACalls.bodyD seat_ok Tryd.func9 rfl rfl rfl rfl rfl rfl rfl rfl rfl rfl Tryd.func19 rfl rfl rfl ?_
    conv => whnf
    refine ⟨rfl, Nat.le_of_ble_eq_true rfl, ?_⟩
    conv => whnf
    refine CallH.liftP seat_g cm ⟨Mx.closed _, Pt.closed _, trivial⟩ (errA_closed _) ?_
    conv => whnf
    refine ⟨DCalls.recover0 seat_ok Tryd.func19 rfl (fun _ _ => rfl) rfl rfl rfl rfl rfl Tryd.func20 rfl rfl rfl ?_⟩
    rintro v0 (⟨h, -⟩ | h)
    · cases h
    cases h
    conv => whnf
    refine CallH.mem1 seat_g 3 (c_caughtE 0 1) rfl (by simp [Closed, ClosedL]) (by simp [Closed, ClosedL]) (by simp [Closed, ClosedL]) rfl ?_
    conv => whnf
    refine ⟨rfl, ?_⟩
    conv => whnf
    rfl
end Go.Proofs.YteiedieeebjklaaDoor
