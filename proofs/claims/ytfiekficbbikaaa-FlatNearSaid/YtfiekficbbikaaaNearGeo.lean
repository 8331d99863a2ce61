/- Points of a flat curve lie near its chord: plain arithmetic. No condition: definitions and lemmas. -/
import Derived.Test.YtfiekficbbikaaaFlatGeo
set_option linter.unusedSimpArgs false
set_option linter.unusedVariables false
set_option linter.deprecated false
namespace Go.Proofs.Ytfiekficbbikaaa
open Go.Abs
/-- a sixteenth's way, nearest -/
def lerpZ (a b t : Int) : Int := a + ((b - a) * t + 8) / 16
def at3 (p q r s t : Int) : Int := lerpZ (lerpZ (lerpZ p q t) (lerpZ q r t) t) (lerpZ (lerpZ q r t) (lerpZ r s t) t) t
def lerp (a b : Pt) (t : Int) : Pt := ⟨lerpZ a.x b.x t, lerpZ a.y b.y t⟩
def atP (c : Cv) (t : Int) : Pt := lerp (lerp (lerp c.p c.q t) (lerp c.q c.r t) t) (lerp (lerp c.q c.r t) (lerp c.r c.s t) t) t
theorem lerpZ_b (a b t : Int) : 16 * lerpZ a b t ≤ 16 * a + (b - a) * t + 8 ∧ 16 * a + (b - a) * t - 7 ≤ 16 * lerpZ a b t := by
  unfold lerpZ
  generalize (b - a) * t = m
  omega
theorem lerpZ_in {a b t m : Int} (ha : -m ≤ a ∧ a ≤ m) (hb : -m ≤ b ∧ b ≤ m) (ht : 0 ≤ t ∧ t ≤ 16) : -m ≤ lerpZ a b t ∧ lerpZ a b t ≤ m := by
  have h := lerpZ_b a b t
  by_cases g : a ≤ b
  · have h1 := Int.mul_le_mul_of_nonneg_left ht.2 (show 0 ≤ b - a by omega)
    have h2 := Int.mul_nonneg (show 0 ≤ b - a by omega) ht.1
    omega
  · have h1 := Int.mul_le_mul_of_nonneg_left ht.2 (show 0 ≤ a - b by omega)
    have h2 := Int.mul_nonneg (show 0 ≤ a - b by omega) ht.1
    have e : (b - a) * t = -((a - b) * t) := by rw [← Int.neg_mul]; congr 1; omega
    rw [e] at h
    omega
theorem lerp_in {a b : Pt} {t m : Int} (ha : a.in m) (hb : b.in m) (ht : 0 ≤ t ∧ t ≤ 16) : (lerp a b t).in m := ⟨lerpZ_in ha.1 hb.1 ht, lerpZ_in ha.2 hb.2 ht⟩
theorem atP_in {c : Cv} {t m : Int} (h : c.in m) (ht : 0 ≤ t ∧ t ≤ 16) : (atP c t).in m := by
  obtain ⟨⟨hp, hq⟩, hr, hs⟩ := h
  have a := lerp_in hp hq ht
  have b := lerp_in hq hr ht
  have d := lerp_in hr hs ht
  exact lerp_in (lerp_in a b ht) (lerp_in b d ht) ht
theorem at_err {p q r s t : Int} (h1 : bentZ p q r) (h2 : bentZ q r s) (ht : 1 ≤ t ∧ t ≤ 15) : -6176 ≤ 16 * (at3 p q r s t - p) - t * (s - p) ∧ 16 * (at3 p q r s t - p) - t * (s - p) ≤ 6176 := by
  unfold at3
  have a1 := lerpZ_b p q t
  have a2 := lerpZ_b q r t
  have a3 := lerpZ_b r s t
  generalize lerpZ p q t = a at *
  generalize lerpZ q r t = b at *
  generalize lerpZ r s t = d at *
  have b1 := lerpZ_b a b t
  have b2 := lerpZ_b b d t
  generalize lerpZ a b t = e at *
  generalize lerpZ b d t = f at *
  have c1 := lerpZ_b e f t
  generalize lerpZ e f t = g at *
  unfold bentZ at *
  obtain h | h | h | h | h | h | h | h | h | h | h | h | h | h | h : t = 1 ∨ t = 2 ∨ t = 3 ∨ t = 4 ∨ t = 5 ∨ t = 6 ∨ t = 7 ∨ t = 8 ∨ t = 9 ∨ t = 10 ∨ t = 11 ∨ t = 12 ∨ t = 13 ∨ t = 14 ∨ t = 15 := by omega
  all_goals (subst h; omega)
theorem mulB {x e X M : Int} (hx : -X ≤ x ∧ x ≤ X) (he : -M ≤ e ∧ e ≤ M) : -(X * M) ≤ x * e ∧ x * e ≤ X * M := by
  have hX : 0 ≤ X := by omega
  have h1 := Int.mul_nonneg (show 0 ≤ X - x by omega) (show 0 ≤ M + e by omega)
  have h2 := Int.mul_nonneg (show 0 ≤ X + x by omega) (show 0 ≤ M - e by omega)
  have h3 := Int.mul_nonneg (show 0 ≤ X + x by omega) (show 0 ≤ M + e by omega)
  have h4 := Int.mul_nonneg (show 0 ≤ X - x by omega) (show 0 ≤ M - e by omega)
  simp only [Int.sub_mul, Int.mul_sub, Int.add_mul, Int.mul_add] at h1 h2 h3 h4
  omega
/-- what the law asks, by the root of the chord's square -/
def nearOK (dx dy px py r : Int) : Prop :=
  if r = 0 then (px ≤ 1024 ∧ -1024 ≤ px) ∧ py ≤ 1024 ∧ -1024 ≤ py
  else ((dx * py - dy * px ≤ 1024 * (r + 1) ∧ -1024 * (r + 1) ≤ dx * py - dy * px) ∧ -1024 * (r + 1) ≤ dx * px + dy * py) ∧ dx * px + dy * py ≤ (r + 1025) * (r + 1)
theorem near_geo {dx dy px py r t : Int} (hr : 0 ≤ r) (h1 : r * r ≤ dx * dx + dy * dy) (h2 : dx * dx + dy * dy < (r + 1) * (r + 1)) (ht : 1 ≤ t ∧ t ≤ 15)
    (ex : -6176 ≤ 16 * px - t * dx ∧ 16 * px - t * dx ≤ 6176) (ey : -6176 ≤ 16 * py - t * dy ∧ 16 * py - t * dy ≤ 6176) : nearOK dx dy px py r := by
  have sq : ∀ x : Int, 0 ≤ x * x := fun x => by
    by_cases h : 0 ≤ x
    · exact Int.mul_nonneg h h
    · have := Int.mul_nonneg (show 0 ≤ -x by omega) (show 0 ≤ -x by omega); rw [Int.neg_mul_neg] at this; exact this
  have low : ∀ x : Int, x * x < (r + 1) * (r + 1) → -r ≤ x ∧ x ≤ r := fun x h => by
    constructor
    · refine Int.not_lt.1 fun g => ?_
      have h3 := Int.mul_le_mul (show r + 1 ≤ -x by omega) (show r + 1 ≤ -x by omega) (by omega) (by omega)
      rw [Int.neg_mul_neg] at h3; omega
    · refine Int.not_lt.1 fun g => ?_
      have h3 := Int.mul_le_mul (show r + 1 ≤ x by omega) (show r + 1 ≤ x by omega) (by omega) (by omega)
      omega
  have hx := low dx (by have := sq dy; omega)
  have hy := low dy (by have := sq dx; omega)
  unfold nearOK
  split
  · rename_i h0
    subst h0
    obtain rfl : dx = 0 := by omega
    obtain rfl : dy = 0 := by omega
    simp only [Int.mul_zero] at ex ey
    omega
  · obtain ⟨u, hu⟩ : ∃ u, 16 * px - t * dx = u := ⟨_, rfl⟩
    obtain ⟨v, hv⟩ : ∃ v, 16 * py - t * dy = v := ⟨_, rfl⟩
    rw [hu] at ex
    rw [hv] at ey
    have k1 := mulB hx ey
    have k2 := mulB hy ex
    have k3 := mulB hx ex
    have k4 := mulB hy ey
    have e1 : 16 * (dx * py - dy * px) = dx * v - dy * u := by
      rw [← hu, ← hv]; simp only [Int.mul_sub, Int.mul_add]
      rw [Int.mul_left_comm dx 16, Int.mul_left_comm dy 16, Int.mul_left_comm dx t dy, Int.mul_left_comm dy t dx, Int.mul_comm dx dy]; omega
    have e2 : 16 * (dx * px + dy * py) = t * (dx * dx + dy * dy) + (dx * u + dy * v) := by
      rw [← hu, ← hv]; simp only [Int.mul_sub, Int.mul_add]
      rw [Int.mul_left_comm dx 16, Int.mul_left_comm dy 16, Int.mul_left_comm dx t dx, Int.mul_left_comm dy t dy]; omega
    have n0 : 0 ≤ dx * dx + dy * dy := by have := sq dx; have := sq dy; omega
    have n1 := Int.mul_le_mul_of_nonneg_right ht.2 n0
    have n2 := Int.mul_nonneg (show 0 ≤ t by omega) n0
    have e3 : (r + 1025) * (r + 1) = (r + 1) * (r + 1) + 1024 * (r + 1) := by rw [show r + 1025 = (r + 1) + 1024 by omega, Int.add_mul]
    rw [e3]
    generalize t * (dx * dx + dy * dy) = T at *
    generalize dx * dx + dy * dy = N at *
    generalize (r + 1) * (r + 1) = Q at *
    generalize dx * v = a1 at *
    generalize dy * u = a2 at *
    generalize dx * u = a3 at *
    generalize dy * v = a4 at *
    generalize dx * py - dy * px = cr at *
    generalize dx * px + dy * py = al at *
    omega
theorem near_flat {c : Cv} {t r : Int} (hf : c.flat) (ht : 1 ≤ t ∧ t ≤ 15) (hr : 0 ≤ r) (h1 : r * r ≤ (c.s.x - c.p.x) * (c.s.x - c.p.x) + (c.s.y - c.p.y) * (c.s.y - c.p.y)) (h2 : (c.s.x - c.p.x) * (c.s.x - c.p.x) + (c.s.y - c.p.y) * (c.s.y - c.p.y) < (r + 1) * (r + 1)) :
    nearOK (c.s.x - c.p.x) (c.s.y - c.p.y) ((atP c t).x - c.p.x) ((atP c t).y - c.p.y) r := by
  obtain ⟨⟨⟨f1, f2⟩, f3⟩, f4⟩ := hf
  exact near_geo hr h1 h2 ht (at_err f1 f3 ht) (at_err f2 f4 ht)
end Go.Proofs.Ytfiekficbbikaaa
