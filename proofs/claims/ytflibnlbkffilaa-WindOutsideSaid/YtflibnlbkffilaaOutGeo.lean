/- Winding numbers of rings: outside their box, and moved. No condition: definitions and lemmas. -/
import Derived.Test.YtflibnlbkffilaaGeo
set_option linter.unusedSimpArgs false
set_option linter.unusedVariables false
set_option linter.deprecated false
namespace Go.Abs

theorem rightZ_eq (a b p : Pt) : rightZ a b p = (p.x - a.x) * (b.y - p.y) + (p.y - a.y) * (p.x - b.x) := by unfold rightZ; grind
def Pt.box (q lo hi : Pt) : Prop := (lo.x ≤ q.x ∧ q.x ≤ hi.x) ∧ lo.y ≤ q.y ∧ q.y ≤ hi.y
theorem rightZ_le {a b p : Pt} (h1 : p.x ≤ a.x) (h2 : p.x ≤ b.x) (h3 : a.y ≤ p.y) (h4 : p.y < b.y) : ¬ 0 < rightZ a b p := by
  rw [rightZ_eq]
  have u := Int.mul_nonneg (show 0 ≤ a.x - p.x by omega) (show 0 ≤ b.y - p.y by omega)
  have v := Int.mul_nonneg (show 0 ≤ p.y - a.y by omega) (show 0 ≤ b.x - p.x by omega)
  have e1 : (p.x - a.x) * (b.y - p.y) = -((a.x - p.x) * (b.y - p.y)) := by grind
  have e2 : (p.y - a.y) * (p.x - b.x) = -((p.y - a.y) * (b.x - p.x)) := by grind
  omega
theorem rightZ_pos {a b p : Pt} (h1 : a.x < p.x) (h2 : b.x < p.x) (h3 : a.y ≤ p.y) (h4 : p.y < b.y) : 0 < rightZ a b p := by
  rw [rightZ_eq]
  have u := Int.mul_pos (show 0 < p.x - a.x by omega) (show 0 < b.y - p.y by omega)
  have v := Int.mul_nonneg (show 0 ≤ p.y - a.y by omega) (show 0 ≤ p.x - b.x by omega)
  omega
theorem passN_out {e : Ed} {p lo hi : Pt} (ha : e.p.box lo hi) (hb : e.q.box lo hi) (h : p.x ≤ lo.x ∨ p.y < lo.y ∨ hi.y ≤ p.y) : passN e p = 0 := by
  obtain ⟨⟨a1, a2⟩, a3, a4⟩ := ha
  obtain ⟨⟨b1, b2⟩, b3, b4⟩ := hb
  unfold passN
  split
  · rename_i g
    rcases h with h | h | h
    · exact absurd g.2 (rightZ_le (by omega) (by omega) g.1.1 g.1.2)
    · omega
    · omega
  · split
    · rename_i g
      rcases h with h | h | h
      · exact absurd g.2 (rightZ_le (by omega) (by omega) g.1.1 g.1.2)
      · omega
      · omega
    · rfl
def belowI (p q : Pt) : Int := if q.y ≤ p.y then 1 else 0
theorem passN_right {e : Ed} {p lo hi : Pt} (ha : e.p.box lo hi) (hb : e.q.box lo hi) (h : hi.x < p.x) : passN e p = belowI p e.p - belowI p e.q := by
  obtain ⟨⟨a1, a2⟩, a3, a4⟩ := ha
  obtain ⟨⟨b1, b2⟩, b3, b4⟩ := hb
  unfold passN belowI
  by_cases g1 : e.p.y ≤ p.y <;> by_cases g2 : e.q.y ≤ p.y
  · rw [if_neg (by omega), if_neg (by omega), if_pos g1, if_pos g2]; rfl
  · rw [if_pos ⟨⟨g1, by omega⟩, rightZ_pos (by omega) (by omega) g1 (by omega)⟩, if_pos g1, if_neg g2]; rfl
  · rw [if_neg (by omega), if_pos ⟨⟨g2, by omega⟩, rightZ_pos (by omega) (by omega) g2 (by omega)⟩, if_neg g1, if_pos g2]; rfl
  · rw [if_neg (by omega), if_neg (by omega), if_neg g1, if_neg g2]; rfl
theorem numN_zero {p : Pt} : ∀ {l : List Ed}, (∀ e ∈ l, passN e p = 0) → numN p l = 0
  | [], _ => rfl
  | e :: l, h => by rw [numN, h e (by simp), numN_zero fun x hx => h x (by simp [hx])]; rfl
theorem ringE_get {l : List Pt} {i : Nat} (h : i < l.length) : (ringE l)[i]? = some (ringF l i) := by simp [ringE, h]
theorem getD_mem {l : List Pt} {i : Nat} (h : i < l.length) : l[i]?.getD default ∈ l := by rw [List.getElem?_eq_getElem h]; exact List.getElem_mem h
theorem ringF_mem {l : List Pt} {i : Nat} (h : i < l.length) : (ringF l i).p ∈ l ∧ (ringF l i).q ∈ l :=
  ⟨getD_mem h, getD_mem (Nat.mod_lt _ (by omega))⟩
theorem ringE_mem {l : List Pt} {e : Ed} (h : e ∈ ringE l) : e.p ∈ l ∧ e.q ∈ l := by
  simp only [ringE, List.mem_map, List.mem_range] at h
  obtain ⟨i, hi, rfl⟩ := h
  exact ringF_mem hi
theorem ring_zero (p : Pt) (l : List Pt) (w : Pt → Int) (h : ∀ e ∈ ringE l, passN e p = w e.p - w e.q) : numN p (ringE l) = 0 := by
  cases hn : l.length with
  | zero => rw [List.length_eq_zero_iff.1 hn]; rfl
  | succ n =>
    have key : ∀ m, m ≤ n → numN p ((ringE l).take m) = w (l[0]?.getD default) - w (l[m]?.getD default) := by
      intro m
      induction m with
      | zero => intro _; simp [numN]
      | succ m ih =>
        intro hm
        have hg := ringE_get (l := l) (i := m) (by omega)
        rw [numN_take_succ p hg, ih (by omega), h _ (List.mem_of_getElem? hg)]
        simp only [ringF, Nat.mod_eq_of_lt (show m + 1 < l.length by omega)]
        omega
    have hg := ringE_get (l := l) (i := n) (by omega)
    have := numN_take_succ p hg
    rw [List.take_of_length_le (by rw [ringE_length]; omega), key n (Nat.le_refl _), h _ (List.mem_of_getElem? hg)] at this
    rw [this]
    simp only [ringF]
    rw [show (n + 1) % l.length = 0 by rw [hn, Nat.mod_self]]
    omega
theorem outside (p lo hi : Pt) (l : List Pt) (hb : ∀ q ∈ l, q.box lo hi) (h : p.x ≤ lo.x ∨ hi.x < p.x ∨ p.y < lo.y ∨ hi.y ≤ p.y) : numN p (ringE l) = 0 := by
  by_cases g : hi.x < p.x
  · exact ring_zero p l (belowI p) fun e he => passN_right (hb _ (ringE_mem he).1) (hb _ (ringE_mem he).2) g
  · exact numN_zero fun e he => passN_out (hb _ (ringE_mem he).1) (hb _ (ringE_mem he).2) (by omega)

def Pt.mv (q : Pt) (dx dy : Int) : Pt := ⟨q.x + dx, q.y + dy⟩
def Ed.mv (e : Ed) (dx dy : Int) : Ed := ⟨e.p.mv dx dy, e.q.mv dx dy⟩
theorem rightZ_mv (a b p : Pt) (dx dy : Int) : rightZ (a.mv dx dy) (b.mv dx dy) (p.mv dx dy) = rightZ a b p := by
  unfold rightZ Pt.mv
  simp only [show ∀ u v d : Int, u + d - (v + d) = u - v by intros; omega]
theorem passN_mv (e : Ed) (p : Pt) (dx dy : Int) : passN (e.mv dx dy) (p.mv dx dy) = passN e p := by
  unfold passN Ed.mv
  simp only [rightZ_mv]
  simp only [Pt.mv]
  repeat' split
  all_goals omega
theorem numN_mv (p : Pt) (dx dy : Int) : ∀ l : List Ed, numN (p.mv dx dy) (l.map fun e => e.mv dx dy) = numN p l
  | [] => rfl
  | e :: l => by rw [List.map_cons, numN, numN, numN_mv p dx dy l, passN_mv]
theorem box_step {l : List Pt} {i : Nat} {q lo hi : Pt} (h : ∀ x ∈ l.take i, x.box lo hi) (hq : l[i]? = some q) :
    ∀ x ∈ l.take (i + 1), x.box ⟨if q.x < lo.x then q.x else lo.x, if q.y < lo.y then q.y else lo.y⟩ ⟨if q.x > hi.x then q.x else hi.x, if q.y > hi.y then q.y else hi.y⟩ := by
  intro x hx
  rw [List.take_add_one, hq, Option.toList_some, List.mem_append, List.mem_singleton] at hx
  have key : x.box lo hi ∨ x = q := hx.imp (h x) id
  simp only [Pt.box] at key ⊢
  rcases key with ⟨⟨a, b⟩, c, d⟩ | rfl
  · refine ⟨⟨?_, ?_⟩, ?_, ?_⟩ <;> split <;> omega
  · refine ⟨⟨?_, ?_⟩, ?_, ?_⟩ <;> split <;> omega
theorem mv_take {l : List Ed} {i : Nat} {e : Ed} (dx dy : Int) (h : l[i]? = some e) : (l.take (i + 1)).map (fun e => e.mv dx dy) = (l.take i).map (fun e => e.mv dx dy) ++ [e.mv dx dy] := by
  rw [List.take_add_one, h, Option.toList_some, List.map_append]; rfl
end Go.Abs
