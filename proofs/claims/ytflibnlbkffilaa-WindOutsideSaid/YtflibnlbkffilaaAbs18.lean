/- Rules of use: unrolling, requirements, calls. No condition: definitions and lemmas. -/
import Derived.Test.YtflibnlbkffilaaAbs17
set_option linter.unusedSimpArgs false
set_option linter.unusedVariables false
set_option linter.deprecated false
namespace Go.Abs
open Go.RowKit
variable {S : Seat}

def unrollP (S : Seat) (b : Code) (k : ExK) (n : Nat) : List AV → Heap → Prop :=
  @Nat.rec (fun _ => List AV → Heap → Prop) (fun _ _ => False) (fun _ ih t h => codeR S b t h (fun x t' h' => match x with
    | .normal => ih t' h'
    | .exit i => k (.exit i) t' h'
    | .goto i => k (.goto i) t' h'
    | .ret => k .ret t' h'
    | .pan v => k (.pan v) t' h')) n

theorem Sat.unroll (hS : SeatOK S) {b : Code} {k : ExK} (n : Nat) {t : List AV} {h : Heap} (hu : unrollP S b k n t h) : Sat S (.loop b) t h k :=
  Sat.loop (ι := Nat) (fun n t h => unrollP S b k n t h) id n hu fun i t h hi => by
    cases i with
    | zero => exact hi.elim
    | succ i =>
      refine (codeR_sound hS b t h _ hi).mono fun x t' h' hx => ?_
      cases x with
      | normal => exact ⟨i, by simp, hx⟩
      | exit _ => exact hx
      | goto _ => exact hx
      | ret => exact hx
      | pan _ => exact hx

/-- A loop with a condition held; the body is evaluated. -/
theorem Sat.inv (hS : SeatOK S) {b : Code} {t : List AV} {h : Heap} {k : ExK} {ι : Type} (T : ι → List AV) (H : ι → Heap) (C : ι → Prop) (μ : ι → Nat) (i0 : ι) (h0 : C i0) (ht : t = T i0) (hh : h = H i0)
    (round : ∀ i, C i → codeR S b (T i) (H i) (fun x t' h' => match x with
      | .normal => ∃ i', C i' ∧ μ i' < μ i ∧ t' = T i' ∧ h' = H i'
      | .exit j => k (.exit j) t' h'
      | .goto j => k (.goto j) t' h'
      | .ret => k .ret t' h'
      | .pan v => k (.pan v) t' h')) : Sat S (.loop b) t h k :=
  Sat.loop (ι := ι) (fun i t h => C i ∧ t = T i ∧ h = H i) μ i0 ⟨h0, ht, hh⟩ fun i t h hi => by
    obtain ⟨hc, rfl, rfl⟩ := hi
    refine (codeR_sound hS b _ _ _ (round i hc)).mono fun x t' h' hx => ?_
    cases x with
    | normal => obtain ⟨i', h1, h2, h3, h4⟩ := hx; exact ⟨i', h2, h1, h3, h4⟩
    | exit _ => exact hx
    | goto _ => exact hx
    | ret => exact hx
    | pan _ => exact hx

/-- A contract with something that is told. -/
theorem CallH.liftE {α : Type} (hG : GOK S) {f : Nat} {args : List AV} {r : α → AV} {p : α → Prop} (hc : ACalls S f args [] (fun x _ => ∃ a, x = .ret (r a) ∧ p a)) (hcl : ClosedL args) (hcr : ∀ a, Closed (r a)) {h : Heap} {k : AEnd → Heap → Prop} (hk : ∀ a, p a → k (.ret (r a)) h) : CallH S f args h k :=
  ⟨hc.lift hG hcl fun _ _ ⟨a, hx, hp⟩ => .inl ⟨r a, hx, hcr a, hk a hp⟩⟩

/-- A contract whose result is given a name. -/
theorem CallH.liftG {α : Type} (r : α → AV) {a0 : α} (hG : GOK S) {f : Nat} {args : List AV} (hc : ACalls S f args [] (fun x _ => x = .ret (r a0))) (hcl : ClosedL args) (hcr : ∀ a, Closed (r a)) {h : Heap} {k : AEnd → Heap → Prop} (hk : ∀ a, a = a0 → k (.ret (r a)) h) : CallH S f args h k :=
  CallH.lift hG hc hcl (hcr a0) (hk a0 rfl)

/-- Temporaries forgotten. -/
def Weak (v v' : AV) : Prop := ∀ E u, VR E v u → VR E v' u
theorem Weak.refl (v : AV) : Weak v v := fun _ _ h => h
theorem Weak.undef (v : AV) : Weak v .undef := fun _ _ _ => by simp only [VR]
theorem Weak.tok {cs : List AV} {n : Nat} {g : Option Nat} : Weak (.vec cs n g) (.vec cs n none) := fun _ _ h => by
  simp only [VR] at h ⊢
  obtain ⟨a, cap, e, h1, h2, _⟩ := h
  exact ⟨a, cap, e, h1, h2, fun i hi => nomatch hi⟩
def WeakL : List AV → List AV → Prop
  | [], [] => True
  | v :: l, v' :: l' => Weak v v' ∧ WeakL l l'
  | _, _ => False
theorem WeakL.run {E : Env} : ∀ {l l' : List AV} {us : List Value}, WeakL l l' → VRL E l us → VRL E l' us
  | [], [], _, _, h => h
  | v :: l, v' :: l', us, hw, h => by
    obtain ⟨u, us', rfl, h1, h2⟩ := h.uncons
    exact VRL.cons (hw.1 _ _ h1) (WeakL.run hw.2 h2)
  | [], _ :: _, _, hw, _ => hw.elim
  | _ :: _, [], _, hw, _ => hw.elim
theorem Sat.weak {c : Code} {t t' : List AV} {h : Heap} {k : ExK} (hw : WeakL t t') (hs : Sat S c t' h k) : Sat S c t h k :=
  ⟨fun E w a hr ha => hs.out E w a hr ⟨WeakL.run hw ha.1, ha.2⟩⟩

/-- these temporaries alone are kept -/
def keepT : List Bool → List AV → List AV
  | true :: m, v :: l => v :: keepT m l
  | _ :: m, _ :: l => .undef :: keepT m l
  | [], l => l
  | _, [] => []
theorem keepT_weak : ∀ (m : List Bool) (l : List AV), WeakL l (keepT m l)
  | true :: m, v :: l => ⟨Weak.refl v, keepT_weak m l⟩
  | false :: m, v :: l => ⟨Weak.undef v, keepT_weak m l⟩
  | [], [] => trivial
  | [], v :: l => ⟨Weak.refl v, keepT_weak [] l⟩
  | true :: _, [] => trivial
  | false :: _, [] => trivial
/-- the places kept, by their numbers -/
def maskOf (n : Nat) (live : List Nat) : List Bool := (List.range n).map fun i => live.contains i

/-- A loop with a condition held, what is not named forgotten. -/
theorem Sat.invK (hS : SeatOK S) {b : Code} {t : List AV} {h : Heap} {k : ExK} {ι : Type} (m : List Bool) (T : ι → List AV) (H : ι → Heap) (C : ι → Prop) (μ : ι → Nat) (i0 : ι) (h0 : C i0) (ht : keepT m t = T i0) (hh : h = H i0)
    (round : ∀ i, C i → codeR S b (T i) (H i) (fun x t' h' => match x with
      | .normal => ∃ i', C i' ∧ μ i' < μ i ∧ keepT m t' = T i' ∧ h' = H i'
      | .exit j => k (.exit j) t' h'
      | .goto j => k (.goto j) t' h'
      | .ret => k .ret t' h'
      | .pan v => k (.pan v) t' h')) : Sat S (.loop b) t h k := by
  refine Sat.weak (keepT_weak m t) ?_
  refine Sat.loop (ι := ι) (fun i t h => C i ∧ t = T i ∧ h = H i) μ i0 ⟨h0, ht, hh⟩ fun i t h hi => ?_
  obtain ⟨hc, rfl, rfl⟩ := hi
  have := (codeR_sound hS b _ _ _ (round i hc))
  refine ⟨fun E w a hr ha => wpIn_mono (this.out E w a hr ha) ?_⟩
  rintro e a' w' ⟨E', t', h', z, h1, h2, h3, h4, h5⟩
  cases z with
  | normal =>
    obtain ⟨i', g1, g2, g3, g4⟩ := h5
    exact ⟨E', keepT m t', h', .normal, h1, h2, ⟨WeakL.run (keepT_weak m t') h3.1, h3.2⟩, h4, i', g2, g1, g3, g4⟩
  | exit _ => exact ⟨E', t', h', _, h1, h2, h3, h4, h5⟩
  | goto _ => exact ⟨E', t', h', _, h1, h2, h3, h4, h5⟩
  | ret => exact ⟨E', t', h', _, h1, h2, h3, h4, h5⟩
  | pan _ => exact ⟨E', t', h', _, h1, h2, h3, h4, h5⟩

/-- the and of a number with 2^n - 1 -/
theorem and_low (n : Nat) (hn : n < 64) (a m : Int) (M : Int) (hm : m = ((2 ^ n - 1 : Nat) : Int)) (hM : M = ((2 ^ n : Nat) : Int)) : ((BitVec.ofInt 64 a &&& BitVec.ofInt 64 m).toNat : Int) = a % M := by
  subst hm hM
  have hp : (2 : Nat) ^ n < 2 ^ 64 := Nat.pow_lt_pow_right (by omega) hn
  have hlt : 2 ^ n - 1 < 2 ^ 64 := by omega
  rw [BitVec.ofInt_natCast, BitVec.toNat_and, BitVec.toNat_ofNat, Nat.mod_eq_of_lt hlt, Nat.and_two_pow_sub_one_eq_mod, BitVec.toNat_ofInt]
  have h2 : (0 : Int) ≤ a % ((2 ^ 64 : Nat) : Int) := Int.emod_nonneg _ (by decide)
  rw [Int.natCast_emod, Int.toNat_of_nonneg h2]
  refine Int.emod_emod_of_dvd a ?_
  rw [Int.natCast_dvd_natCast]
  exact Nat.pow_dvd_pow 2 (by omega)

end Go.Abs
