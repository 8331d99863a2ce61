/- The given statement 'AffineThen' and its card, from the law's contract. No condition. -/
import Derived.Test.YteiedieeebjklaaDoorRows
import Derived.Test.YteiedieeebjklaaDoorCards
import Derived.Test.YteiedieeebjklaaDoorTie
import Derived.WalkKit
import Derived.ProofKit
import Derived.OpenShut
import Derived.ChangeSame
import Derived.ChangeVars
import Derived.JoinedOf
import Derived.LaidLaws
import Derived.LaidHandle
import Derived.Stop.Joined
import Derived.ShutString
import Derived.SevenTiedAt
import Derived.Test.YteiedieeebjklaaDoorLaid
import Derived.Test.YteiedieeebjklaaDoorLaw08d
import Derived.Test.YteiedieeebjklaaDoorArgs08
set_option linter.unusedSimpArgs false
set_option linter.unusedVariables false
set_option linter.deprecated false
namespace Go.Proofs.YteiedieeebjklaaDoor.affineThen
open Go.Proofs.YteiedieeebjklaaDoor
open Go.ChangeShapes Go.WideShapes Go.ChangeAt Go.RowKit
theorem own : ownKnob Tryd.prog.godebug = none := by kernel_rfl
theorem laidOut : laidOutB Tryd.prog = true := by kernel_rfl
theorem gN0 : Tryd.prog.globalNamed "pointillist/wide.nought" = some 0 := by kernel_rfl
theorem gT0 : (Tryd.prog.globals[0]?).map (·.type) = some 69 := by kernel_rfl
def cells0 : List Value := [.int .u64 0, .int .u64 0]
theorem readable : ∀ t ∈ Tryd.f6.params.toList, Tryd.prog.readableRec t = true ∧ t < Tryd.prog.types.size := by
  intro t ht
  rw [Tryd.params6] at ht
  simp only [List.mem_cons, List.not_mem_nil, or_false] at ht
  rcases ht with rfl | rfl
  · exact ⟨by kernel_rfl, of_decide_eq_true (by kernel_rfl)⟩
  · exact ⟨by kernel_rfl, of_decide_eq_true (by kernel_rfl)⟩
theorem cells_of_laid {W : World} (h : laidMetH Tryd.prog Rows.affineThenRow.laid W) : W.var? Tryd.prog "pointillist/wide.nought" = some cells0.toArray :=
  Go.Abs.laid_var h gN0 gT0 (by kernel_rfl) rfl

noncomputable def laidWorld (os : Os) : World :=
  { World.holding Tryd.prog os ⟨#[], #[], []⟩ with heap := (World.holding Tryd.prog os ⟨#[], #[], []⟩).heap.modify 0 fun
      | .cells _ t frozen => .cells cells0.toArray t frozen
      | o => o }
theorem laid_met (os : Os) (args : Array Value) : laidMetH Tryd.prog Rows.affineThenRow.laid ((laidWorld os).forCall (fun _ _ => 0) ⟨#[], args, []⟩).memory :=
  laidMet_of_run (ps := [.cell 0 0, .cell 0 1]) 8 (by kernel_rfl) (by kernel_rfl) (by kernel_rfl)
theorem globs_ok {w : World} (hvar : w.var? Tryd.prog "pointillist/wide.nought" = some cells0.toArray) : ∀ g cs, seat.G g = some cs → Go.Abs.VRI (Go.Abs.Env.bare (Go.Abs.immAll w) w) cs g 0 := by
  intro g cs h
  match g, h with
  | 0, h =>
    cases h
    have k0 : w.cell? ⟨0, 0, none⟩ = some (.int .u64 0) := by simpa [cells0] using World.var?_cell gN0 hvar 0
    have k1 : w.cell? ⟨0, 1, none⟩ = some (.int .u64 0) := by simpa [cells0] using World.var?_cell gN0 hvar 1
    simp only [Go.Abs.VRI, Go.Abs.VR]
    exact ⟨⟨_, k0, rfl⟩, ⟨_, k1, rfl⟩, trivial⟩
  | g + 1, h => cases g <;> cases h

set_option maxRecDepth 100000 in
theorem lifted (os : Os) (started : os.Started) (H : Type) (enc : TypeId × Value → H) :
    ReturnsInHanded {} Tryd.checked os 6 .any (fun w args => (Rows.affineThenSpec.pre enc Tryd.prog Tryd.f6 [] false w args ∧ laidMetH Tryd.prog Rows.affineThenRow.laid w) ∧ sizedMet enc Tryd.prog Tryd.f6 (OpenSpec.ofChange Rows.affineThenSpec) false w args)
      (Rows.affineThenSpec.post enc Tryd.prog Tryd.f6 false true false false) := by
  refine returnsInHanded_of_change_and (C := Tryd.checked) (X := fun w _ => laidMetH Tryd.prog Rows.affineThenRow.laid w) (fun _ _ _ hh h => h.of_heap hh) own started (by kernel_rfl) Tryd.func6
    (ChangeSpec.witness_at (enc := enc) (C := Tryd.checked) (os := os) (X := fun w _ => laidMetH Tryd.prog Rows.affineThenRow.laid w) false (laidWorld os) #[.agg #[.int .i64 0, .int .i64 0, .int .i64 0, .int .i64 0, .int .i64 0, .int .i64 0], .agg #[.int .i64 0, .int .i64 0, .int .i64 0, .int .i64 0, .int .i64 0, .int .i64 0]] 8 rfl (by kernel_rfl) (by kernel_rfl) (by kernel_rfl) (by kernel_rfl) (by kernel_rfl) (laid_met os _)) ?_
  intro W base args ds gs before hval0 hW _ _ hL _
  have hval : ∀ (j : Nat) t v, Tryd.f6.params[j]? = some t → args[j]? = some v → Value.okWide Tryd.prog W .any base t v := hval0
  have hW' := hW
  obtain ⟨p, q, hA0, hV, rfl, hfz, hnd⟩ := hW
  have hA : DataW.TrodAll enc Tryd.prog W 0 (fun _ => true) true Tryd.f6.params.toList args.toList ds p := hA0
  rw [Tryd.params6] at hA hval
  obtain ⟨v0, vs0, d0, ds0, p0, q0, hargs, rfl, rfl, h0, r0⟩ := trodAll_cons hA
  obtain ⟨v1, vs1, d1, ds1, p1, q1, rfl, rfl, rfl, h1, r1⟩ := trodAll_cons r0
  obtain ⟨rfl, rfl, rfl⟩ := trodAll_nil r1
  obtain rfl : args = #[v0, v1] := by cases args; simp_all
  obtain ⟨rfl, rfl⟩ := trodVars_none hV
  obtain ⟨x0, k0, q0⟩ := Go.Abs.open_elem mx_elem (by kernel_rfl) (by kernel_rfl) (hval 0 23 v0 rfl rfl) h0
  obtain ⟨x1, k1, q1⟩ := Go.Abs.open_elem mx_elem (by kernel_rfl) (by kernel_rfl) (hval 1 23 v1 rfl rfl) h1
  have hc := Go.Abs.ACalls.top (S := seat) (v := .bool true) (u := .bool true) ((l_affineThen x0 x1)) (fun _ _ h => by simpa only [Go.Abs.VR] using h) Tryd.func6 rfl rfl (imm := Go.Abs.immAll W) (w := W)
    (Go.Abs.immAll_ok W) (globs_ok (cells_of_laid hL)) (Go.Abs.VRL.cons (q0 _) (Go.Abs.VRL.cons (q1 _) (Go.Abs.VRL.nil)))
  refine hc.mono fun e W' ⟨he, hg⟩ => ?_
  subst he
  exact ⟨_, rfl, Go.Abs.law_post laidOut Tryd.underlying4 rfl rfl readable ⟨rfl, rfl, rfl⟩ hW' hg⟩

theorem over : Rows.AffineThenSaid :=
  OpenClaim.holds_of_wide 6 Tryd.f6 rfl rfl rfl rfl rfl rfl rfl ⟨rfl, rfl, rfl, rfl, rfl⟩ rfl rfl rfl rfl rfl (by kernel_rfl) Tryd.func6 (by kernel_rfl)
    (of_decide_eq_true (by kernel_rfl)) (by unfold Func.isWrapper; first | (rw [if_pos (by decide +kernel)]; kernel_rfl) | (rw [if_neg (by decide +kernel)]; exact ⟨rfl, rfl⟩))
    (fun os started H enc _ => lifted os started H enc)

/-- THE CARD. -/
theorem proved : Rows.AffineThenCardSaid :=
  Claim7.holds_tied_plain_at .later [] [.data] true (true, "0fa006a278c56c431f774ead5f5f82fabf10850824c98a1f5a14cd52982934ae") true
    over (fun _ h => by cases h) (by kernel_rfl) (fun _ h => by cases h) affineThen_row_tie rfl ⟨rfl, rfl⟩ (by kernel_rfl) rfl
    (fun f fn hf hfn => by
      obtain rfl : f = 6 := Option.some.inj ((show Tryd.prog.funcNamed "pointillist/pointillistlaw08.AffineThen" = some 6 by kernel_rfl).symm.trans hf) |>.symm
      obtain rfl : fn = Tryd.f6 := (Option.some.inj (Tryd.func6.symm.trans hfn)).symm
      exact ⟨by kernel_rfl, fun j t ht => by
        rw [Tryd.params6] at ht
        have hmem : t ∈ [23, 23] := by simpa using Array.mem_of_getElem? ht
        simp only [List.mem_cons, List.not_mem_nil, or_false] at hmem
        rcases hmem with rfl | rfl
        · exact (show Tryd.prog.wantsStandIn 23 = false by kernel_rfl)
        · exact (show Tryd.prog.wantsStandIn 23 = false by kernel_rfl)
      ⟩)
    (by kernel_rfl)
#print axioms proved
end Go.Proofs.YteiedieeebjklaaDoor.affineThen
