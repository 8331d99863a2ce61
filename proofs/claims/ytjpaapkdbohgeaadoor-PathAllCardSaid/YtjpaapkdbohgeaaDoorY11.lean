/- Definitions and lemmas for the law, part 11. No condition beyond those in each statement. -/
import Derived.Test.YtjpaapkdbohgeaaDoorY10
set_option linter.unusedSimpArgs false
set_option linter.unusedVariables false
set_option linter.deprecated false
namespace Go.Proofs.YtjpaapkdbohgeaaDoor
open Go.Abs
theorem begR_cut {s : List UInt8} {p k : Nat} {sg : Bool} (h : p < k) : begR (s.take k) p sg = begR s p sg := by
  unfold begR; rw [List.getElem?_take, if_pos h]
theorem isC_at {s : List UInt8} {p k : Nat} (h : p < k) : isC ((s.take k).drop p) = isC (s.drop p) := by
  rw [List.drop_take]; exact isC_cut (by omega)
theorem more_cut {s : List UInt8} {p k : Nat} {sg : Bool} (hp : p ≤ k) (hk : k ≤ s.length) :
    (moreR (s.take k) sg p = moreR s sg p ∧ p + blk (s.drop p) < k ∧ (moreR s sg p).2 ≤ k) ∨ (moreR (s.take k) sg p = (true, k) ∧ p + blk (s.drop p) < k ∧ k < (moreR s sg p).2) ∨ (moreR (s.take k) sg p = (false, k) ∧ k ≤ p + blk (s.drop p)) := by
  have hb := blk_at (s := s) hp
  unfold moreR
  rw [hb]
  by_cases g : p + blk (s.drop p) < k
  · rw [Nat.min_eq_right (Nat.le_of_lt g), isC_at g, begR_cut g]
    by_cases hc : isC (s.drop (p + blk (s.drop p))) = true
    · rw [if_pos hc, if_pos hc, blk_at (s := s) (p := p + blk (s.drop p) + 1) g]
      by_cases h2 : p + blk (s.drop p) + 1 + blk (s.drop (p + blk (s.drop p) + 1)) ≤ k
      · rw [Nat.min_eq_right h2]; exact .inl ⟨rfl, g, h2⟩
      · rw [Nat.min_eq_left (by omega)]; exact .inr (.inl ⟨rfl, g, by dsimp only; omega⟩)
    · rw [if_neg hc, if_neg hc]; exact .inl ⟨rfl, g, Nat.le_of_lt g⟩
  · have hlt : (s.take k).length = k := by rw [List.length_take]; omega
    rw [Nat.min_eq_left (by omega), if_neg (fun h => by have := isC_lt h; omega), begR_none (by omega)]
    exact .inr (.inr ⟨rfl, by omega⟩)
theorem more_blk (s : List UInt8) (sg : Bool) (p : Nat) : p + blk (s.drop p) ≤ (moreR s sg p).2 := by
  unfold moreR; split
  · dsimp only; omega
  · exact Nat.le_refl _
theorem runR_cut0 {s : List UInt8} {k : Nat} (hl : s.length ≤ 400) (hk : k ≤ s.length) (args : List UInt8) (ha : args ≠ []) : ∀ (n n' : Nat) (c : UInt8) (p : Nat), p ≤ k → k - p < n' → s.length - p < n →
    (runR s args n c p).2.1 = 0 → (runR s args n c p).2.2 ≤ k → runR (s.take k) args n' c p = runR s args n c p
  | 0, _, _, _, _, _, h, _, _ => absurd h (Nat.not_lt_zero _)
  | n + 1, 0, _, _, _, h, _, _, _ => absurd h (Nat.not_lt_zero _)
  | n + 1, n' + 1, c, p, hp, hn', hn, he, hq => by
    have ih := fun c p => runR_cut0 hl hk args ha n n' c p
    have hg := grpR_bd s hl args 0 p [] (Nat.le_trans hp hk)
    have hcut := grpR_cut hl hk args 0 p [] hp
    rw [runR] at he hq ⊢
    rw [runR]
    dsimp only at he hq ⊢
    by_cases g : (grpR s args 0 p []).2.1 ≠ 0
    · rw [if_pos g] at he; exact absurd he g
    · rw [if_neg g] at he hq ⊢
      have hpos := hg.2 ha (Classical.not_not.1 g)
      have hm := more_bd s (args.head? == some 110) _ hg.1.2
      have hmb := more_blk s (args.head? == some 110) (grpR s args 0 p []).2.2
      by_cases gm : (moreR s (args.head? == some 110) (grpR s args 0 p []).2.2).1 = true
      · rw [if_pos gm] at he hq ⊢
        dsimp only at he hq
        have hr := runR_pos s hl args ha n (nextC c) _ hm.2
        rw [hcut (by omega) (by omega), if_neg g]
        rcases more_cut (sg := args.head? == some 110) (p := (grpR s args 0 p []).2.2) (k := k) (s := s) (by omega) hk with ⟨h1, h2, h3⟩ | ⟨h1, h2, h3⟩ | ⟨h1, h2⟩
        · rw [h1, if_pos gm, ih _ _ h3 (by omega) (by omega) he hq]
        · omega
        · rw [h1, if_neg Bool.false_ne_true]
          have e1 : (moreR s (args.head? == some 110) (grpR s args 0 p []).2.2).2 = k := by omega
          rw [e1] at hr he hq ⊢
          have e2 : (runR s args n (nextC c) k).1 = [] := List.eq_nil_of_length_eq_zero (by omega)
          have e3 : (runR s args n (nextC c) k).2.2 = k := by omega
          rw [e2, he, e3]
      · rw [if_neg gm] at he hq ⊢
        dsimp only at he hq
        rw [hcut (by omega) (by omega), if_neg g]
        rcases more_cut (sg := args.head? == some 110) (p := (grpR s args 0 p []).2.2) (k := k) (s := s) (by omega) hk with ⟨h1, h2, h3⟩ | ⟨h1, h2, h3⟩ | ⟨h1, h2⟩
        · rw [h1, if_neg gm]
        · omega
        · have e1 : (moreR s (args.head? == some 110) (grpR s args 0 p []).2.2).2 = k := by omega
          rw [h1, if_neg Bool.false_ne_true, e1]
theorem runR_cut3 {s : List UInt8} {k : Nat} (hl : s.length ≤ 400) (hk : k ≤ s.length) (args : List UInt8) (ha : args ≠ []) : ∀ (n n' : Nat) (c : UInt8) (p : Nat), p ≤ k → k - p < n' →
    (runR s args n c p).2.1 = 3 → (runR s args n c p).2.2 = k → ((runR (s.take k) args n' c p).2.1 = 0 ∨ (runR (s.take k) args n' c p).2.1 = 3) ∧ (runR (s.take k) args n' c p).2.2 = k
  | 0, _, _, _, _, _, h, _ => absurd h (show ¬ ((0 : Int) = 3) by decide)
  | n + 1, 0, _, _, _, h, _, _ => absurd h (Nat.not_lt_zero _)
  | n + 1, n' + 1, c, p, hp, hn', he, hq => by
    have ih := fun c p => runR_cut3 hl hk args ha n n' c p
    have hg := grpR_bd s hl args 0 p [] (Nat.le_trans hp hk)
    have hcut := grpR_cut hl hk args 0 p [] hp
    rw [runR] at he hq
    rw [runR]
    dsimp only at he hq ⊢
    by_cases g : (grpR s args 0 p []).2.1 ≠ 0
    · rw [if_pos g] at he hq
      dsimp only at he hq
      rw [hcut (by omega) (by omega), if_pos g]
      exact ⟨.inr he, hq⟩
    · rw [if_neg g] at he hq
      have hpos := hg.2 ha (Classical.not_not.1 g)
      have hm := more_bd s (args.head? == some 110) _ hg.1.2
      have hmb := more_blk s (args.head? == some 110) (grpR s args 0 p []).2.2
      by_cases gm : (moreR s (args.head? == some 110) (grpR s args 0 p []).2.2).1 = true
      · rw [if_pos gm] at he hq
        dsimp only at he hq
        have hr := runR_pos s hl args ha n (nextC c) _ hm.2
        rw [hcut (by omega) (by omega), if_neg g]
        rcases more_cut (sg := args.head? == some 110) (p := (grpR s args 0 p []).2.2) (k := k) (s := s) (by omega) hk with ⟨h1, h2, h3⟩ | ⟨h1, h2, h3⟩ | ⟨h1, h2⟩
        · rw [h1, if_pos gm]
          exact ih _ _ h3 (by omega) he hq
        · omega
        · rw [h1, if_neg Bool.false_ne_true]
          exact ⟨.inl rfl, rfl⟩
      · rw [if_neg gm] at he; cases he
theorem runR_cut1 {s : List UInt8} {k : Nat} (hl : s.length ≤ 400) (hk : k ≤ s.length) (args : List UInt8) (ha : args ≠ []) : ∀ (n n' : Nat) (c : UInt8) (p : Nat), p ≤ k → k - p < n' → s.length - p < n →
    (runR (s.take k) args n' c p).2.1 = 0 → ((runR (s.take k) args n' c p).2.2 < k ∧ runR (s.take k) args n' c p = runR s args n c p) ∨ ((runR (s.take k) args n' c p).2.2 = k ∧ (runR (s.take k) args n' c p).1.dropLast <+: (runR s args n c p).1)
  | 0, _, _, _, _, _, h, _ => absurd h (Nat.not_lt_zero _)
  | n + 1, 0, _, _, _, h, _, _ => absurd h (Nat.not_lt_zero _)
  | n + 1, n' + 1, c, p, hp, hn', hn, he => by
    have ih := fun c p => runR_cut1 hl hk args ha n n' c p
    have hlt : (s.take k).length = k := by rw [List.length_take]; omega
    have hg := grpR_bd (s.take k) (by omega) args 0 p [] (by omega)
    have hcut := grpR_cut2 hl hk args 0 p [] hp
    rw [runR] at he ⊢
    rw [runR]
    dsimp only at he ⊢
    by_cases g : (grpR (s.take k) args 0 p []).2.1 ≠ 0
    · rw [if_pos g] at he; exact absurd he g
    · rw [if_neg g] at he ⊢
      have hpos := hg.2 ha (Classical.not_not.1 g)
      by_cases gq : (grpR (s.take k) args 0 p []).2.2 < k
      · have hc := hcut (Classical.not_not.1 g) gq
        rw [← hc, if_neg g]
        obtain ⟨q, hqe⟩ : ∃ q, (grpR (s.take k) args 0 p []).2.2 = q := ⟨_, rfl⟩
        rw [hqe] at he gq hpos hg ⊢
        rcases more_cut (sg := args.head? == some 110) (p := q) (k := k) (s := s) (by omega) hk with ⟨h1, h2, h3⟩ | ⟨h1, h2, h3⟩ | ⟨h1, h2⟩
        · rw [h1] at he ⊢
          have hm := more_bd s (args.head? == some 110) q (by omega)
          by_cases gm : (moreR s (args.head? == some 110) q).1 = true
          · rw [if_pos gm] at he
            rw [if_pos gm, if_pos gm]
            dsimp only at he
            rcases ih (nextC c) _ h3 (by omega) (by omega) he with ⟨h4, h5⟩ | ⟨h4, h5⟩
            · exact .inl ⟨h4, by rw [h5]⟩
            · refine .inr ⟨h4, ?_⟩
              dsimp only
              cases hR : (runR (s.take k) args n' (nextC c) (moreR s (args.head? == some 110) q).2).1 with
              | nil => exact List.nil_prefix
              | cons x R => rw [hR] at h5; exact (List.prefix_cons_inj _).2 h5
          · rw [if_neg gm, if_neg gm]
            by_cases g6 : (moreR s (args.head? == some 110) q).2 < k
            · exact .inl ⟨g6, rfl⟩
            · exact .inr ⟨by dsimp only; omega, List.nil_prefix⟩
        · rw [h1, if_pos rfl] at he
          dsimp only at he
          exfalso
          have hg2 := grpR_bd (s.take k) (by omega) args 0 k [] (by omega)
          cases n' with
          | zero => omega
          | succ m =>
            rw [runR] at he
            dsimp only at he
            by_cases g2 : (grpR (s.take k) args 0 k []).2.1 ≠ 0
            · rw [if_pos g2] at he; exact g2 he
            · have := hg2.2 ha (Classical.not_not.1 g2); omega
        · rw [h1, if_neg Bool.false_ne_true]
          exact .inr ⟨rfl, List.nil_prefix⟩
      · have e1 : (grpR (s.take k) args 0 p []).2.2 = k := by omega
        have e2 : moreR (s.take k) (args.head? == some 110) k = (false, k) := by
          have := more_cut (sg := args.head? == some 110) (p := k) (k := k) (s := s) (Nat.le_refl _) hk
          rcases this with ⟨h1, h2, h3⟩ | ⟨h1, h2, h3⟩ | ⟨h1, h2⟩
          · omega
          · omega
          · exact h1
        rw [e1, e2, if_neg Bool.false_ne_true]
        exact .inr ⟨rfl, List.nil_prefix⟩
theorem runR_end {s : List UInt8} (hl : s.length ≤ 400) (args : List UInt8) (ha : args ≠ []) (n : Nat) (c : UInt8) : (runR s args (n + 1) c s.length).2.1 ≠ 0 := by
  have hg := grpR_bd s hl args 0 s.length [] (Nat.le_refl _)
  rw [runR]
  dsimp only
  by_cases g : (grpR s args 0 s.length []).2.1 ≠ 0
  · rw [if_pos g]; exact g
  · have := hg.2 ha (Classical.not_not.1 g); omega
theorem walkR_ge (s : List UInt8) (hl : s.length ≤ 400) : ∀ (n : Nat) (f : Bool) (p : Nat), p ≤ s.length → (walkR s n f p).2.1 ≠ 0 → p ≤ (walkR s n f p).2.2 ∧ (walkR s n f p).2.2 ≤ s.length
  | 0, _, _, _, h => absurd rfl h
  | n + 1, f, p, hp, h => by
    have ih := fun f p => walkR_ge s hl n f p
    rw [walkR] at h ⊢
    cases hc : s[p]? with
    | none => rw [hc] at h; exact absurd rfl h
    | some c =>
      rw [hc] at h
      have hps : p < s.length := (List.getElem?_eq_some_iff.1 hc).1
      have hb := blk_in s (p + 1) (by omega)
      simp only at h ⊢
      cases ho : ofN c.toNat with
      | none => simp only; omega
      | some y =>
        rw [ho] at h
        simp only at h ⊢
        split at h
        · rename_i h1; rw [if_pos h1]; simp only; omega
        · rename_i h1
          rw [if_neg h1]
          split at h
          · rename_i h2
            rw [if_pos h2]
            have := ih false _ hb h
            simp only; omega
          · rename_i h2
            rw [if_neg h2]
            have hr := runR_pos s hl y.2 h2 (s.length + 1) c _ hb
            split at h
            · rename_i h3; rw [if_pos h3]; simp only; omega
            · rename_i h3
              rw [if_neg h3]
              have := ih false _ hr.2 h
              simp only; omega
theorem walkR_end {s : List UInt8} (n : Nat) (f : Bool) : walkR s n f s.length = ([], 0, s.length) := by
  cases n with
  | zero => rfl
  | succ n => rw [walkR, List.getElem?_eq_none (Nat.le_refl _)]
theorem walkR_cut3 {s : List UInt8} {k : Nat} (hl : s.length ≤ 400) (hk : k ≤ s.length) : ∀ (n n' : Nat) (f : Bool) (p : Nat), p ≤ k → k - p < n' →
    (walkR s n f p).2.1 = 3 → (walkR s n f p).2.2 = k → (walkR (s.take k) n' f p).2.1 = 0 ∨ ((walkR (s.take k) n' f p).2.1 = 3 ∧ (walkR (s.take k) n' f p).2.2 = k)
  | 0, _, _, _, _, _, h, _ => absurd h (show ¬ ((0 : Int) = 3) by decide)
  | n + 1, 0, _, _, _, h, _, _ => absurd h (Nat.not_lt_zero _)
  | n + 1, n' + 1, f, p, hp, hn', he, hq => by
    have ih := fun f p => walkR_cut3 hl hk n n' f p
    have hlt : (s.take k).length = k := by rw [List.length_take]; omega
    by_cases gp : p < k
    · rw [walkR] at he hq
      rw [walkR, List.getElem?_take, if_pos gp]
      cases hc : s[p]? with
      | none => rw [hc] at he; cases he
      | some c =>
        rw [hc] at he hq
        have hb := blk_in s (p + 1) (by omega)
        have hba := blk_at (s := s) (p := p + 1) gp
        simp only at he hq ⊢
        cases ho : ofN c.toNat with
        | none => rw [ho] at hq; exact .inr ⟨rfl, hq⟩
        | some y =>
          rw [ho] at he hq
          simp only at he hq ⊢
          by_cases h1 : f = true ∧ y.1 ≠ 77
          · rw [if_pos h1] at hq ⊢; exact .inr ⟨rfl, hq⟩
          · rw [if_neg h1] at he hq ⊢
            rw [hba]
            by_cases h2 : y.2 = []
            · rw [if_pos h2] at he hq ⊢
              simp only at he hq ⊢
              have hg := walkR_ge s hl n false _ hb (by rw [he]; decide)
              rw [Nat.min_eq_right (by omega)]
              exact ih false _ (by omega) (by omega) he hq
            · rw [if_neg h2] at he hq ⊢
              have hr := runR_pos s hl y.2 h2 (s.length + 1) c _ hb
              rw [hlt]
              by_cases h3 : (runR s y.2 (s.length + 1) c (p + 1 + blk (s.drop (p + 1)))).2.1 ≠ 0
              · rw [if_pos h3] at he hq
                simp only at he hq
                rw [Nat.min_eq_right (by omega)]
                obtain ⟨h4, h5⟩ := runR_cut3 hl hk y.2 h2 (s.length + 1) (k + 1) c _ (show p + 1 + blk (s.drop (p + 1)) ≤ k by omega) (by omega) he hq
                rcases h4 with h4 | h4
                · rw [if_neg (by rw [h4]; decide), h5]
                  have := walkR_end (s := s.take k) n' false
                  rw [hlt] at this
                  rw [this]; exact .inl rfl
                · rw [if_pos (by rw [h4]; decide)]
                  exact .inr ⟨h4, h5⟩
              · rw [if_neg h3] at he hq
                simp only at he hq
                have hg := walkR_ge s hl n false _ hr.2 (by rw [he]; decide)
                rw [Nat.min_eq_right (by omega)]
                rw [runR_cut0 hl hk y.2 h2 (s.length + 1) (k + 1) c _ (show p + 1 + blk (s.drop (p + 1)) ≤ k by omega) (by omega) (by omega) (Classical.not_not.1 h3) (by omega), if_neg h3]
                simp only
                exact ih false _ (by omega) (by omega) he hq
    · obtain rfl : p = k := by omega
      have := walkR_end (s := s.take p) (n' + 1) f
      rw [hlt] at this
      rw [this]; exact .inl rfl
theorem pre_app {α : Type} {A W W' : List α} (h : W'.dropLast <+: W) : (A ++ W').dropLast <+: A ++ W := by
  cases W' with
  | nil => rw [List.append_nil]; exact (List.dropLast_prefix A).trans (List.prefix_append A W)
  | cons x l => rw [List.dropLast_append_of_ne_nil (by simp)]; exact (List.prefix_append_right_inj A).2 h
theorem walkR_cut1 {s : List UInt8} {k : Nat} (hl : s.length ≤ 400) (hk : k ≤ s.length) : ∀ (n n' : Nat) (f : Bool) (p : Nat), p ≤ k → k - p < n' → s.length - p < n →
    (walkR (s.take k) n' f p).2.1 = 0 → (walkR (s.take k) n' f p).1.dropLast <+: (walkR s n f p).1
  | 0, _, _, _, _, _, h, _ => absurd h (Nat.not_lt_zero _)
  | n + 1, 0, _, _, _, h, _, _ => absurd h (Nat.not_lt_zero _)
  | n + 1, n' + 1, f, p, hp, hn', hn, he => by
    have ih := fun f p => walkR_cut1 hl hk n n' f p
    have hlt : (s.take k).length = k := by rw [List.length_take]; omega
    have hend : ∀ m f, walkR (s.take k) m f k = ([], 0, k) := fun m f => by
      have := walkR_end (s := s.take k) m f
      rw [hlt] at this; exact this
    by_cases gp : p < k
    · rw [walkR, List.getElem?_take, if_pos gp] at he ⊢
      rw [walkR]
      cases hc : s[p]? with
      | none => exact List.nil_prefix
      | some c =>
        rw [hc] at he
        have hb := blk_in s (p + 1) (by omega)
        have hba := blk_at (s := s) (p := p + 1) gp
        simp only at he ⊢
        cases ho : ofN c.toNat with
        | none => exact List.nil_prefix
        | some y =>
          rw [ho] at he
          simp only at he ⊢
          by_cases h1 : f = true ∧ y.1 ≠ 77
          · rw [if_pos h1] at he; cases he
          · rw [if_neg h1] at he
            rw [if_neg h1, if_neg h1]
            rw [hba] at he ⊢
            by_cases h2 : y.2 = []
            · rw [if_pos h2] at he
              rw [if_pos h2, if_pos h2]
              simp only at he ⊢
              by_cases g3 : p + 1 + blk (s.drop (p + 1)) ≤ k
              · rw [Nat.min_eq_right g3] at he ⊢
                exact pre_app (A := [(c, [])]) (ih false _ g3 (by omega) (by omega) he)
              · rw [Nat.min_eq_left (by omega), hend]; exact List.nil_prefix
            · rw [if_neg h2] at he
              rw [if_neg h2, if_neg h2]
              rw [hlt] at he ⊢
              by_cases g3 : p + 1 + blk (s.drop (p + 1)) ≤ k
              · rw [Nat.min_eq_right g3] at he ⊢
                have hrt := runR_pos (s.take k) (by omega) y.2 h2 (k + 1) c (p + 1 + blk (s.drop (p + 1))) (by omega)
                by_cases h3 : (runR (s.take k) y.2 (k + 1) c (p + 1 + blk (s.drop (p + 1)))).2.1 ≠ 0
                · rw [if_pos h3] at he; exact absurd he h3
                · rw [if_neg h3] at he ⊢
                  simp only at he ⊢
                  rcases runR_cut1 hl hk y.2 h2 (s.length + 1) (k + 1) c _ g3 (by omega) (by omega) (Classical.not_not.1 h3) with ⟨h4, h5⟩ | ⟨h4, h5⟩
                  · rw [← h5, if_neg h3]
                    simp only
                    exact pre_app (ih false _ (by omega) (by omega) (by omega) he)
                  · rw [h4, hend]
                    simp only [List.append_nil]
                    split
                    · exact h5
                    · exact h5.trans (List.prefix_append _ _)
              · rw [Nat.min_eq_left (by omega)] at he
                exfalso
                have := runR_end (s := s.take k) (by omega) y.2 h2 k c
                rw [hlt] at this
                rw [if_pos this] at he
                exact this he
    · obtain rfl : p = k := by omega
      rw [hend]; exact List.nil_prefix
theorem pathR_cut1 {s : List UInt8} {k : Nat} (hl : s.length ≤ 400) (hk : k ≤ s.length) (he : (pathR (s.take k)).2.1 = 0) : (pathR (s.take k)).1.dropLast <+: (pathR s).1 := by
  have hlt : (s.take k).length = k := by rw [List.length_take]; omega
  unfold pathR at he ⊢
  rw [hlt, blk_cut] at he ⊢
  by_cases g : blk s ≤ k
  · rw [Nat.min_eq_right g] at he ⊢
    exact walkR_cut1 hl hk _ _ true _ g (by omega) (by omega) he
  · rw [Nat.min_eq_left (by omega)]
    have := walkR_end (s := s.take k) (k + 1) true
    rw [hlt] at this
    rw [this]; exact List.nil_prefix
theorem pathR_cut3 {s : List UInt8} {q : Nat} {G : List (UInt8 × List Int)} (hl : s.length ≤ 400) (h : pathR s = (G, 3, q)) : q ≤ s.length ∧ ((pathR (s.take q)).2.1 = 0 ∨ ((pathR (s.take q)).2.1 = 3 ∧ (pathR (s.take q)).2.2 = q)) := by
  unfold pathR at h
  have h1 := blk_in s 0 (by omega)
  rw [Nat.zero_add, List.drop_zero] at h1
  have hg := walkR_ge s hl (s.length + 1) true (blk s) h1 (by rw [h]; exact (by decide : (3 : Int) ≠ 0))
  rw [h] at hg
  simp only at hg
  refine ⟨hg.2, ?_⟩
  have hlt : (s.take q).length = q := by rw [List.length_take]; omega
  unfold pathR
  rw [hlt, blk_cut, Nat.min_eq_right hg.1]
  exact walkR_cut3 hl hg.2 (s.length + 1) _ true _ hg.1 (by omega) (by rw [h]) (by rw [h])
end Go.Proofs.YtjpaapkdbohgeaaDoor
namespace Go.Proofs.YtjpaapkdbohgeaaDoor
open Go.Abs
theorem cs_take {α : Type} {f : α → List AV} {sz : Nat} (hf : ∀ a, (f a).length = sz) : ∀ (l : List α) (i : Nat), (cs f l).take (i * sz) = cs f (l.take i)
  | l, 0 => by simp [cs]
  | [], i + 1 => by simp [cs]
  | a :: l, i + 1 => by
    have := cs_take hf l i
    simp only [cs, List.flatMap_cons, List.take_succ_cons] at this ⊢
    rw [← this, Nat.succ_mul, Nat.add_comm, ← hf a, List.take_length_add_append]
theorem cmd_first (G : List (UInt8 × List Int)) (z : Int) (n : Nat) (hz : z = n) (hn : n ≤ G.length) : AV.vec (((cs cmdC G).drop ((0 : Int).toNat * 2)).take ((z.toNat - (0 : Int).toNat) * 2)) (z.toNat - (0 : Int).toNat) none = cmdV (G.take n) := by
  subst hz
  unfold cmdV
  rw [Int.toNat_natCast, show (0 : Int).toNat = 0 from rfl, Nat.zero_mul, List.drop_zero, Nat.sub_zero, cs_take cmdC_len, List.length_take, Nat.min_eq_left hn]
theorem first_closed (G : List (UInt8 × List Int)) (a b n : Nat) : Closed (.vec (((cs cmdC G).drop a).take b) n none) := by
  simp only [Closed]
  exact ⟨trivial, ClosedL_iff.2 fun c hc => ClosedL_iff.1 (cmd_closed G) c (List.mem_of_mem_drop (List.mem_of_mem_take hc))⟩
set_option maxRecDepth 20000 in
theorem l_pathAll (s : List UInt8) (stop : Nat) (hs : stop < 256) : ACalls seat 5 [.str s, .int .u8 stop] [] (fun x _ => x = .ret (.bool true)) := by
  refine ACalls.body seat_ok Tryd.func5 rfl rfl ?_
  by_cases g : s.length ≤ 100
  · have g1 : ¬ ((s.length : Int) > 100) := by omega
    obtain ⟨⟨G, e, q⟩, hG⟩ : ∃ R, pathR s = R := ⟨_, rfl⟩
    have hb := pathR_len s g
    have hp := pathR_pos s (by omega)
    rw [hG] at hb hp
    simp only at hb hp
    have hm : (if (G.length : Int) < (stop : Int) then (G.length : Int) else (stop : Int)) = ((min stop G.length : Nat) : Int) := by split <;> omega
    have c1 := rparse_ex (by omega) hG
    have c2 := c_told s (by omega) G e q hG 999 (by decide)
    have c3 := c_told s (by omega) G e q hG (min stop G.length) (by omega)
    have c4 := c_same G hb.1 hb.2
    rw [List.take_of_length_le (by omega)] at c2
    have e5 := cmd_first G _ _ hm (Nat.min_le_right _ _)
    have c5 := c_same (G.take (min stop G.length)) (by rw [List.length_take]; omega) (fun x hx => hb.2 x (List.mem_of_mem_take hx))
    have c6 : ACalls seat 13 [cmdV (G.take (min stop G.length)), AV.vec (((cs cmdC G).drop ((0 : Int).toNat * 2)).take (((if (G.length : Int) < (stop : Int) then (G.length : Int) else (stop : Int)).toNat - (0 : Int).toNat) * 2)) ((if (G.length : Int) < (stop : Int) then (G.length : Int) else (stop : Int)).toNat - (0 : Int).toNat) none] [] (fun x _ => x = .ret (.bool true)) := by
      rw [e5]; exact c5
    rw [← hm] at c3
    have hz : 0 ≤ (if (G.length : Int) < (stop : Int) then (G.length : Int) else (stop : Int)) ∧ (if (G.length : Int) < (stop : Int) then (G.length : Int) else (stop : Int)) ≤ G.length := by rw [hm]; omega
    clear hG e5 c5 hm
    unfold cmdV at *
    conv => whnf
    refine CallH.lift seat_g c_wakes trivial (by simp [Closed]) ?_
    conv => whnf
    repeat' ((first | refine zq1 (by omega) ?_ | refine zq2 (by omega) ?_ | refine NumH.rem (by omega) ?_ | refine zq4 (by omega) ?_ | refine zq5 (by omega) ?_ | refine zq6 ?_ | refine Req.mk (by omega) ?_ | refine Req.mk (by dsimp only; omega) ?_ | refine Req.mk (show pendP _ _ by repeat' constructor) ?_ | (with_reducible first | refine brT (by assumption) ?_ | refine brF (by assumption) ?_ | refine brDT (by omega) ?_ | refine brDF (by omega) ?_ | refine brET (by omega) ?_ | refine brEF (by omega) ?_ | refine brNET (by omega) ?_ | refine brNEF (by omega) ?_ | refine brNot ?_)); conv => whnf)
    refine CallH.lift seat_g c1 (by simp [Closed, ClosedL]) (by simp [Closed, ClosedL, cmd_closed]) ?_
    conv => whnf
    repeat' ((first | refine zq1 (by omega) ?_ | refine zq2 (by omega) ?_ | refine NumH.rem (by omega) ?_ | refine zq4 (by omega) ?_ | refine zq5 (by omega) ?_ | refine zq6 ?_ | refine Req.mk (by omega) ?_ | refine Req.mk (by dsimp only; omega) ?_ | refine Req.mk (show pendP _ _ by repeat' constructor) ?_ | (with_reducible first | refine brT (by assumption) ?_ | refine brF (by assumption) ?_ | refine brDT (by omega) ?_ | refine brDF (by omega) ?_ | refine brET (by omega) ?_ | refine brEF (by omega) ?_ | refine brNET (by omega) ?_ | refine brNEF (by omega) ?_ | refine brNot ?_)); conv => whnf)
    refine DrawH.plan seat_ok (.take 0 (.take 2 (.perform 1 none (.perform 3 none (.take 4 (.take 5 (.take 6 (.take 8 (.take 9 (.take 10 (.perform 7 none (.perform 11 none (.take 12 (.take 13 Plan.done)))))))))))))) 0 (by kernel_rfl) ?_
    conv => whnf
    repeat' (first | exact rfl | (refine CallH.lift seat_g c2 (by simp [Closed, ClosedL]) (by simp [Closed, ClosedL, cmd_closed]) ?_; conv => whnf) | (refine CallH.lift seat_g c3 (by simp [Closed, ClosedL]) (by simp [Closed, ClosedL, cmd_closed]) ?_; conv => whnf) | (refine CallH.lift seat_g c4 (by simp [Closed, ClosedL, cmd_closed]) (by simp [Closed]) ?_; conv => whnf) | (refine CallH.lift seat_g c6 ⟨by simp [Closed, cmd_closed], first_closed _ _ _ _, trivial⟩ (by simp [Closed]) ?_; conv => whnf) | (refine Req.mk ⟨by decide, hz.1, hz.2, by omega⟩ ?_; conv => whnf) | ((first | refine zq1 (by omega) ?_ | refine zq2 (by omega) ?_ | refine NumH.rem (by omega) ?_ | refine zq4 (by omega) ?_ | refine zq5 (by omega) ?_ | refine zq6 ?_ | refine Req.mk (by omega) ?_ | refine Req.mk (by dsimp only; omega) ?_ | refine Req.mk (show pendP _ _ by repeat' constructor) ?_ | (with_reducible first | refine brT (by assumption) ?_ | refine brF (by assumption) ?_ | refine brDT (by omega) ?_ | refine brDF (by omega) ?_ | refine brET (by omega) ?_ | refine brEF (by omega) ?_ | refine brNET (by omega) ?_ | refine brNEF (by omega) ?_ | refine brNot ?_)); conv => whnf))
  · have g1 : (s.length : Int) > 100 := by omega
    conv => whnf
    refine CallH.lift seat_g c_wakes trivial (by simp [Closed]) ?_
    conv => whnf
    repeat' ((first | refine zq1 (by omega) ?_ | refine zq2 (by omega) ?_ | refine NumH.rem (by omega) ?_ | refine zq4 (by omega) ?_ | refine zq5 (by omega) ?_ | refine zq6 ?_ | refine Req.mk (by omega) ?_ | refine Req.mk (by dsimp only; omega) ?_ | refine Req.mk (show pendP _ _ by repeat' constructor) ?_ | (with_reducible first | refine brT (by assumption) ?_ | refine brF (by assumption) ?_ | refine brDT (by omega) ?_ | refine brDF (by omega) ?_ | refine brET (by omega) ?_ | refine brEF (by omega) ?_ | refine brNET (by omega) ?_ | refine brNEF (by omega) ?_ | refine brNot ?_)); conv => whnf)
    rfl
theorem u8_wf {n : Int} (h : (Lit.int .u8 n).wf = true) : ∃ m : Nat, n = m ∧ m < 256 := by
  have h2 : 0 ≤ n ∧ n ≤ 255 := by simpa [Lit.wf, IntKind.min, IntKind.max, IntKind.signed, IntKind.bits] using h
  exact ⟨n.toNat, by omega, by omega⟩
theorem l_pathAll' (s : List UInt8) (n : Int) (h : (Lit.int .u8 n).wf = true) : ACalls seat 5 [.str s, .int .u8 n] [] (fun x _ => x = .ret (.bool true)) := by
  obtain ⟨m, rfl, hm⟩ := u8_wf h
  exact l_pathAll s m hm
end Go.Proofs.YtjpaapkdbohgeaaDoor
namespace Go.Proofs.YtjpaapkdbohgeaaDoor
open Go.Abs
theorem cut_ex {s : List UInt8} {k : Nat} {z : Int} {G e q} (hz : z = k) (hl : s.length ≤ 400) (h : pathR (s.take k) = (G, e, q)) :
    ACalls seat 11 [.str ((s.drop (0 : Int).toNat).take (z.toNat - (0 : Int).toNat))] [] (fun x _ => x = .ret (.tup [cmdV G, .int .i64 (if e = 0 then -1 else (q : Nat)), .int .i64 e])) := by
  subst hz
  rw [Int.toNat_natCast, show (0 : Int).toNat = 0 from rfl, List.drop_zero, Nat.sub_zero]
  exact parse_ex (by rw [List.length_take]; omega) h
theorem same_cut {G D : List (UInt8 × List Int)} {z : Int} (hD : D = G.take D.length) (hl : D.length ≤ G.length) (hz : z = D.length) (hG : G.length ≤ 100000) (hv : ∀ x ∈ G, x.2.length ≤ 100000) :
    ACalls seat 13 [cmdV D, .vec (((cs cmdC G).drop ((0 : Int).toNat * 2)).take ((z.toNat - (0 : Int).toNat) * 2)) (z.toNat - (0 : Int).toNat) none] [] (fun x _ => x = .ret (.bool true)) := by
  rw [cmd_first G z D.length hz hl, ← hD]
  exact c_same D (by omega) (fun x hx => hv x (by rw [hD] at hx; exact List.mem_of_mem_take hx))
set_option maxRecDepth 20000 in
set_option maxHeartbeats 1000000 in
theorem l_pathCuts (s : List UInt8) (cut : Nat) (hs : cut < 256) : ACalls seat 4 [.str s, .int .u8 cut] [] (fun x _ => x = .ret (.bool true)) := by
  refine ACalls.body seat_ok Tryd.func4 rfl rfl ?_
  by_cases g : s.length ≤ 100
  · have g1 : ¬ ((s.length : Int) > 100) := by omega
    obtain ⟨⟨G, e, q⟩, hG⟩ : ∃ R, pathR s = R := ⟨_, rfl⟩
    have hb := pathR_len s g
    rw [hG] at hb
    simp only at hb
    have c1 := parse_ex (by omega) hG
    have hk1 : cut % (s.length + 1) ≤ s.length := Nat.le_of_lt_succ (Nat.mod_lt _ (by omega))
    obtain ⟨k, hk⟩ : ∃ k, cut % (s.length + 1) = k := ⟨_, rfl⟩
    rw [hk] at hk1
    have hz : Int.tmod (cut : Int) ((s.length : Int) + 1) = k := by rw [← hk]; rfl
    obtain ⟨⟨G2, e2, q2⟩, hG2⟩ : ∃ R, pathR (s.take k) = R := ⟨_, rfl⟩
    have c2 := cut_ex (z := (k : Int)) rfl (by omega) hG2
    have hlt : (s.take k).length ≤ 100 := by rw [List.length_take]; omega
    have hb2 := pathR_len (s.take k) hlt
    have hpre := fun h => pathR_cut1 (s := s) (k := k) (by omega) hk1 h
    rw [hG2] at hb2 hpre
    rw [hG] at hpre
    simp only at hb2 hpre
    have h3 : (e ≠ 3) ∨ (e = 3 ∧ q ≤ s.length ∧ ∃ G3 e3 q3, pathR (s.take q) = (G3, e3, q3) ∧ (e3 = 0 ∨ (e3 = 3 ∧ q3 = q))) := by
      by_cases h : e = 3
      · subst h
        have := pathR_cut3 (by omega) hG
        exact .inr ⟨rfl, this.1, _, _, _, rfl, this.2⟩
      · exact .inl h
    have hG2c : (∃ (D : AV) (n : Nat), (e2 = 0 ∧ 0 < G2.length ∧ D = .vec (((cs cmdC G2).drop ((0 : Int).toNat * 2)).take ((((G2.length : Int) - 1).toNat - (0 : Int).toNat) * 2)) (((G2.length : Int) - 1).toNat - (0 : Int).toNat) none ∧ n = (((G2.length : Int) - 1).toNat - (0 : Int).toNat) ∧ n ≤ G.length ∧ Closed D ∧
        ACalls seat 13 [D, .vec (((cs cmdC G).drop ((0 : Int).toNat * 2)).take (((n : Int).toNat - (0 : Int).toNat) * 2)) ((n : Int).toNat - (0 : Int).toNat) none] [] (fun x _ => x = .ret (.bool true)))) ∨ (e2 = 0 ∧ G2.length = 0 ∧
        ACalls seat 13 [cmdV G2, .vec (((cs cmdC G).drop ((0 : Int).toNat * 2)).take (((G2.length : Int).toNat - (0 : Int).toNat) * 2)) ((G2.length : Int).toNat - (0 : Int).toNat) none] [] (fun x _ => x = .ret (.bool true))) ∨ (e2 ≠ 0 ∧ G2.length = 0) ∨ (e2 ≠ 0 ∧ 0 < G2.length) := by
      by_cases h : e2 = 0
      · have hp := hpre h
        by_cases h2 : G2.length = 0
        · refine .inr (.inl ⟨h, h2, same_cut ?_ (by omega) rfl hb.1 hb.2⟩)
          obtain rfl := List.eq_nil_of_length_eq_zero h2
          rfl
        · have h4 := List.IsPrefix.length_le hp
          rw [List.length_dropLast] at h4
          have h5 : G2.dropLast = G2.take (G2.length - 1) := List.dropLast_eq_take
          have h6 : G2.dropLast.length = G2.length - 1 := List.length_dropLast
          refine .inl ⟨_, _, h, by omega, rfl, rfl, by rw [show (0 : Int).toNat = 0 from rfl]; omega, first_closed _ _ _ _, ?_⟩
          rw [cmd_first G2 ((G2.length : Int) - 1) (G2.length - 1) (by omega) (by omega), ← h5]
          refine same_cut ?_ (by omega) ?_ hb.1 hb.2
          · exact (List.prefix_iff_eq_take.1 hp)
          · rw [h6, show (0 : Int).toNat = 0 from rfl]; omega
      · by_cases h2 : G2.length = 0
        · exact .inr (.inr (.inl ⟨h, h2⟩))
        · exact .inr (.inr (.inr ⟨h, by omega⟩))
    have c3 : ∀ {G3 e3 q3}, pathR (s.take q) = (G3, e3, q3) → _ := fun {G3 e3 q3} h => cut_ex (z := (q : Int)) rfl (by omega) h
    have hgl : G2.length ≤ 100000 := hb2.1
    clear hpre hk hG hG2 hb2 hlt
    rcases hG2c with ⟨D, n, rfl, h2, rfl, rfl, h4, hDc, c4⟩ | ⟨rfl, h2, c4⟩ | ⟨h1, h2⟩ | ⟨h1, h2⟩
    all_goals
      rcases h3 with h3 | ⟨rfl, hq, G3, e3, q3, hG3, h3 | ⟨h3, h33⟩⟩
    all_goals
      try rw [if_neg (show ¬ ((3 : Int) = 0) by decide)] at c1
      try replace c3 := c3 hG3
      try (subst h3; subst h33; rw [if_neg (show ¬ ((3 : Int) = 0) by decide)] at c3)
      try (subst h3; rw [if_pos rfl] at c3)
      try clear hG3
      unfold cmdV at *
      conv => whnf
      repeat' (first | exact rfl | exact congrArg (fun b => AEnd.ret (.bool b)) (beq_self_eq_true (_ : Int)) | (refine NumH.is (k : Int) hz ?_; conv => whnf) | (refine CallH.lift seat_g c_wakes trivial (by simp [Closed]) ?_; conv => whnf) | (refine CallH.lift seat_g c1 (by simp [Closed, ClosedL]) (by simp [Closed, ClosedL, cmd_closed]) ?_; conv => whnf) | (refine CallH.lift seat_g c2 (by simp [Closed, ClosedL]) (by simp [Closed, ClosedL, cmd_closed]) ?_; conv => whnf) | (refine CallH.lift seat_g c4 ⟨by first | exact hDc | simp [Closed, cmd_closed], first_closed _ _ _ _, trivial⟩ (by simp [Closed]) ?_; conv => whnf) | (refine CallH.lift seat_g c3 (by simp [Closed, ClosedL]) (by simp [Closed, ClosedL, cmd_closed]) ?_; conv => whnf) | ((first | refine zq1 (by omega) ?_ | refine zq2 (by omega) ?_ | refine NumH.rem (by omega) ?_ | refine zq4 (by omega) ?_ | refine zq5 (by omega) ?_ | refine zq6 ?_ | refine Req.mk (by omega) ?_ | refine Req.mk (by dsimp only; omega) ?_ | refine Req.mk (show pendP _ _ by repeat' constructor) ?_ | (with_reducible first | refine brT (by assumption) ?_ | refine brF (by assumption) ?_ | refine brDT (by omega) ?_ | refine brDF (by omega) ?_ | refine brET (by omega) ?_ | refine brEF (by omega) ?_ | refine brNET (by omega) ?_ | refine brNEF (by omega) ?_ | refine brNot ?_)); conv => whnf))
  · have g1 : (s.length : Int) > 100 := by omega
    conv => whnf
    refine CallH.lift seat_g c_wakes trivial (by simp [Closed]) ?_
    conv => whnf
    repeat' ((first | refine zq1 (by omega) ?_ | refine zq2 (by omega) ?_ | refine NumH.rem (by omega) ?_ | refine zq4 (by omega) ?_ | refine zq5 (by omega) ?_ | refine zq6 ?_ | refine Req.mk (by omega) ?_ | refine Req.mk (by dsimp only; omega) ?_ | refine Req.mk (show pendP _ _ by repeat' constructor) ?_ | (with_reducible first | refine brT (by assumption) ?_ | refine brF (by assumption) ?_ | refine brDT (by omega) ?_ | refine brDF (by omega) ?_ | refine brET (by omega) ?_ | refine brEF (by omega) ?_ | refine brNET (by omega) ?_ | refine brNEF (by omega) ?_ | refine brNot ?_)); conv => whnf)
    rfl
theorem l_pathCuts' (s : List UInt8) (n : Int) (h : (Lit.int .u8 n).wf = true) : ACalls seat 4 [.str s, .int .u8 n] [] (fun x _ => x = .ret (.bool true)) := by
  obtain ⟨m, rfl, hm⟩ := u8_wf h
  exact l_pathCuts s m hm
end Go.Proofs.YtjpaapkdbohgeaaDoor
namespace Go.Abs
open Go Go.RowKit Go.ChangeShapes
inductive DK where
  | flat (k : CK)
  | slice (ks : List CK)
def dkFs (g : TypeId → Option (List DK)) : List Field → Nat → Option (List DK)
  | [], _ => some []
  | f :: r, off => if Nat.beq f.offset off = true then (match g f.type with | some a => (match dkFs g r (off + a.length) with | some b => some (a ++ b) | none => none) | none => none) else none
def dkOf (P : Program) : Nat → TypeId → Option (List DK)
  | 0, _ => none
  | d + 1, t =>
    match (match P.underlying t with
      | some (.int k) => some [DK.flat (.int k)]
      | some .bool => some [DK.flat .bool]
      | some .string => some [DK.flat .str]
      | some (.slice e) => (match ckOf P d e with | some ks => if Nat.blt 0 (P.cellsOf e) = true then some [DK.slice ks] else none | none => none)
      | some (.struct fs) => dkFs (dkOf P d) fs.toList 0
      | _ => none) with
    | some a => if Nat.beq a.length (P.cellsOf t) = true then some a else none
    | none => none
def cellD (w : World) : DK → Value → Prop
  | .flat k, c => cellOK k c
  | .slice ks, v => (v = .slice none 0 0) ∨ ∃ (a : Addr) (len cap : Nat), v = .slice (some a) len cap ∧ len ≤ cap ∧ cap ≤ maxLen ∧ (0 < len → a.spot = none) ∧ ∀ i, i < len → ∃ cs, CellsOK ks cs ∧ ∀ j, j < ks.length → w.cell? ⟨a.block, a.off + (i * ks.length + j), none⟩ = cs[j]?
def CellsD (w : World) : List DK → List Value → Prop
  | [], [] => True
  | k :: ks, c :: cs => cellD w k c ∧ CellsD w ks cs
  | _, _ => False
theorem CellsD.cons {w : World} {k : DK} {ks : List DK} {cs : List Value} (h : CellsD w (k :: ks) cs) : ∃ c r, cs = c :: r ∧ cellD w k c ∧ CellsD w ks r := by
  cases cs with
  | nil => exact h.elim
  | cons c r => exact ⟨c, r, rfl, h.1, h.2⟩
theorem CellsD.nil {w : World} {cs : List Value} (h : CellsD w [] cs) : cs = [] := by
  cases cs with
  | nil => rfl
  | cons c r => exact h.elim
theorem CellsD.append {w : World} : ∀ {a b : List DK} {cs ds : List Value}, CellsD w a cs → CellsD w b ds → CellsD w (a ++ b) (cs ++ ds)
  | [], b, [], ds, _, k => k
  | _ :: a, b, _ :: cs, ds, h, k => ⟨h.1, CellsD.append h.2 k⟩
  | [], _, _ :: _, _, h, _ => h.elim
  | _ :: _, _, [], _, h, _ => h.elim
theorem dkOf_length {P : Program} {d : Nat} {t : TypeId} {ks : List DK} (h : dkOf P d t = some ks) : ks.length = P.cellsOf t := by
  cases d with
  | zero => simp [dkOf] at h
  | succ d =>
    unfold dkOf at h
    split at h
    · split at h
      · rename_i hb; cases h; exact Nat.eq_of_beq_eq_true hb
      · cases h
    · cases h
section
variable {H : Type} {enc : TypeId × Value → H} {P : Program} {w : World} {base : Nat} {sp : Nat → Bool} {held : Bool}
theorem dk_trod : ∀ (d : Nat) (t : TypeId) (ks : List DK), dkOf P d t = some ks → ∀ (n : Nat) (cs : List Value) (x : DataW H × List MemPlace), DataW.trod enc P w base sp held n t cs = some x → CellsD w ks cs
  | 0, t, ks, h, _, _, _, _ => by simp [dkOf] at h
  | d + 1, t, ks, h, n, cs, x, ht => by
    have hlen := dkOf_length h
    unfold dkOf at h
    split at h
    case h_2 => cases h
    rename_i a ha
    split at h
    case isFalse => cases h
    cases h
    split at ha
    · rename_i k hu
      cases ha
      obtain ⟨m, rfl, _, hw⟩ := DataW.trod_int hu ht
      exact ⟨⟨m, rfl, hw⟩, trivial⟩
    · rename_i hu
      cases ha
      obtain ⟨b, rfl, _⟩ := DataW.trod_bool hu ht
      exact ⟨⟨b, rfl⟩, trivial⟩
    · rename_i hu
      cases ha
      obtain ⟨s, rfl, _, hs⟩ := DataW.trod_string hu ht
      exact ⟨⟨s, rfl, hs⟩, trivial⟩
    · rename_i e hu
      split at ha
      case h_2 => cases ha
      rename_i ks1 hk1
      split at ha
      case isFalse => cases ha
      rename_i hpos
      cases ha
      have hpos : 0 < P.cellsOf e := by simpa using hpos
      obtain ⟨v, rfl⟩ : ∃ v, cs = [v] := by
        rcases DataW.trod_slice hu ht with ⟨hcs, _⟩ | ⟨a, len, cap, elems, rest, m, _, hcs, _⟩
        · exact ⟨_, hcs⟩
        · exact ⟨_, hcs⟩
      exact ⟨slice_cells hu hk1 hpos ht, trivial⟩
    · rename_i fs hu
      obtain ⟨xs, m, _, _, hcl, hxl, hf⟩ := DataW.trod_struct hu ht
      have key : ∀ (l : List Field) (off j : Nat) (b : List DK), fs.toList.drop j = l → dkFs (dkOf P d) l off = some b → off + b.length = cs.length → CellsD w b (cs.drop off) := by
        intro l
        induction l with
        | nil =>
          intro off j b hl hb hle
          simp only [dkFs, Option.some.injEq] at hb
          subst hb
          rw [List.drop_eq_nil_of_le (by simpa using Nat.le_of_eq hle.symm)]; trivial
        | cons f l ih =>
          intro off j b hl hb hle
          simp only [dkFs] at hb
          split at hb
          case isFalse => cases hb
          rename_i hoff
          have hoff := Nat.eq_of_beq_eq_true hoff
          split at hb
          case h_2 => cases hb
          rename_i a1 ha1
          split at hb
          case h_2 => cases hb
          rename_i b1 hb1
          cases hb
          have hgj : fs[j]? = some f := by
            have : fs.toList[j]? = some f := by rw [← List.head?_drop, hl]; rfl
            simpa using this
          have hjl : j < fs.size := (Array.getElem?_eq_some_iff.1 hgj).1
          have hd := hf j f hgj
          obtain ⟨y, hy⟩ : ∃ y, xs[j]? = some y := ⟨xs[j]'(by omega), List.getElem?_eq_getElem (by omega)⟩
          rw [hy, hoff] at hd
          have h1 := dk_trod d f.type a1 ha1 m _ y hd
          have hl1 := dkOf_length ha1
          have h2 := ih (off + a1.length) (j + 1) b1 (by rw [← List.tail_drop, hl]; rfl) hb1 (by simp at hle; omega)
          have e : cs.drop off = (cs.drop off).take (P.cellsOf f.type) ++ cs.drop (off + a1.length) := by
            rw [hl1, ← List.drop_drop, List.take_append_drop]
          rw [e]
          exact h1.append h2
      have := key fs.toList 0 0 _ rfl ha (by rw [hcl]; omega)
      simpa using this
    · cases ha
theorem slice_vr {α : Type} {f : α → List AV} {I : α → Prop} {ks : List CK} (he : Elem f I ks) {v : Value} (h : cellD w (.slice ks) v) :
    ∃ l : List α, (∀ a ∈ l, I a) ∧ l.length ≤ maxLen ∧ VR (Env.bare (immAll w) w) (.vec (cs f l) l.length none) v := by
  rcases h with rfl | ⟨a, len, cap, rfl, hle, hcm, hsp, hc⟩
  · refine ⟨[], fun a h => absurd h (by simp), Nat.zero_le _, ?_⟩
    simp only [VR]
    exact ⟨none, 0, rfl, Nat.le_refl _, by simp [cs], fun i hi => nomatch hi⟩
  · have key : ∀ m, m ≤ len → ∃ l : List α, l.length = m ∧ ∀ (i : Nat) x, l[i]? = some x → I x ∧ VRI (Env.bare (immAll w) w) (f x) a.block (a.off + i * ks.length) := by
      intro m
      induction m with
      | zero => intro _; exact ⟨[], rfl, fun i x hx => by simp at hx⟩
      | succ m ih =>
        intro hm
        obtain ⟨l, h2, h3⟩ := ih (by omega)
        obtain ⟨cs, hcs, hcell⟩ := hc m (by omega)
        obtain ⟨x, hx, hxv⟩ := he.of cs hcs
        refine ⟨l ++ [x], by simp [h2], fun i y hy => ?_⟩
        rw [List.getElem?_append] at hy
        split at hy
        · exact h3 i y hy
        · rename_i hge
          have : i = m := by
            have := (List.getElem?_eq_some_iff.1 hy).1
            simp at this; omega
          subst this
          rw [h2, Nat.sub_self] at hy
          simp at hy; subst hy
          refine ⟨hx, VRI.of_get fun j c hj => ?_⟩
          obtain ⟨u, hu1, hu2⟩ := (hxv (Env.bare (immAll w) w)).get j c hj
          refine ⟨u, ?_, hu2⟩
          show w.cell? ⟨a.block, a.off + i * ks.length + j, none⟩ = some u
          have hjl : j < ks.length := by rw [← he.len x]; exact (List.getElem?_eq_some_iff.1 hj).1
          rw [Nat.add_assoc, hcell j hjl, hu1]
    obtain ⟨l, h2, h3⟩ := key len (Nat.le_refl _)
    refine ⟨l, fun x hx => ?_, by rw [h2]; exact Nat.le_trans hle hcm, ?_⟩
    · obtain ⟨i, hi⟩ := List.getElem?_of_mem hx
      exact (h3 i x hi).1
    · simp only [VR]
      refine ⟨_, _, by rw [h2], by rw [h2]; exact hle, ?_, fun i hi => nomatch hi⟩
      by_cases h0 : 0 < len
      · right
        refine ⟨a.block, a.off, ?_, vri_list he.len l a.off fun i x hx => (h3 i x hx).2⟩
        have := hsp h0
        cases a; simp_all
      · left
        have : l = [] := List.eq_nil_of_length_eq_zero (by omega)
        subst this; rfl
structure Elem2 {α : Type} (f : α → List AV) (I : α → Prop) (ks : List DK) : Prop where
  len : ∀ a, (f a).length = ks.length
  of : ∀ (w : World) cs, CellsD w ks cs → ∃ a, I a ∧ VRL (Env.bare (immAll w) w) (f a) cs
theorem open_elem2 {α : Type} {f : α → List AV} {I : α → Prop} {ks : List DK} (he : Elem2 f I ks) {r : Reach} {b0 : Nat} {t : TypeId} {v : Value} {d : DataW H} {ps : List MemPlace} (hk : dkOf P 9 t = some ks) (ha : aggP P t = true) (hval : Value.okWide P w r b0 t v) (hd : DataW.Trod enc P w base sp held t v d ps) :
    ∃ a : α, I a ∧ VR (Env.bare (immAll w) w) (.agg (f a)) v := by
  unfold aggP at ha
  have hv : ∃ cs : Array Value, v = .agg cs := by
    unfold Value.okWide at hval
    split at hval
    · obtain ⟨cs, h, _⟩ := hval; exact ⟨cs, h⟩
    · obtain ⟨cs, h, _⟩ := hval; exact ⟨cs, h⟩
    · rename_i h1 h2
      split at ha
      · rename_i fs h; exact absurd h (h1 fs)
      · rename_i n e h; exact absurd h (h2 n e)
      · cases ha
  obtain ⟨cs, rfl⟩ := hv
  obtain ⟨n, hn⟩ := hd
  obtain ⟨a, h1, h2⟩ := he.of w _ (dk_trod 9 t ks hk n _ _ hn)
  exact ⟨a, h1, by simp only [VR]; exact ⟨cs.toList, by simp, h2⟩⟩
end
end Go.Abs
namespace Go.Proofs.YtjpaapkdbohgeaaDoor
open Go.Abs
def allA : List UInt8 → List Int → Bool
  | k :: ks, v :: vs => if v ≤ -4294967296 ∨ v ≥ 4294967296 ∨ (k = 117 ∧ v < 0) ∨ ((k = 103 ∨ k = 102) ∧ v ≠ 0 ∧ v ≠ 1) then false else allA ks vs
  | _, _ => true
def rightR (c : Int) (vals : List Int) : Bool := match ofN c with
  | some x => if vals.length = x.2.length then allA x.2 vals else false
  | none => false
theorem pofV_none {c : Int} (h : ofN c = none) : pofV c = .tup [.agg [.int .u8 0, .str []], .bool false] := by unfold pofV; rw [h]
theorem pofV_some {c : Int} {x : Int × List UInt8} (h : ofN c = some x) : pofV c = .tup [.agg [.int .u8 x.1, .str x.2], .bool true] := by unfold pofV; rw [h]
theorem c_count (c : Int) (hc : 0 ≤ c ∧ c < 256) : ACalls seat 17 [.int .u8 c] [] (fun x _ => x = .ret (.int .i64 (cntR c))) := by
  refine ACalls.body seat_ok Tryd.func17 rfl rfl ?_
  have cf := c_pof c hc
  cases h : ofN c with
  | none =>
    rw [cntR_none h]
    rw [pofV_none h] at cf
    conv => whnf
    repeat' (first | exact rfl | (refine CallH.lift seat_g cf (by simp [Closed, ClosedL]) (by simp [Closed, ClosedL]) ?_; conv => whnf) | (refine Req.mk (by decide) ?_; conv => whnf) | ((first | refine zq1 (by omega) ?_ | refine zq2 (by omega) ?_ | refine NumH.rem (by omega) ?_ | refine zq4 (by omega) ?_ | refine zq5 (by omega) ?_ | refine zq6 ?_ | refine Req.mk (by omega) ?_ | refine Req.mk (by dsimp only; omega) ?_ | refine Req.mk (show pendP _ _ by repeat' constructor) ?_ | (with_reducible first | refine brT (by assumption) ?_ | refine brF (by assumption) ?_ | refine brDT (by omega) ?_ | refine brDF (by omega) ?_ | refine brET (by omega) ?_ | refine brEF (by omega) ?_ | refine brNET (by omega) ?_ | refine brNEF (by omega) ?_ | refine brNot ?_)); conv => whnf))
  | some x =>
    rw [cntR_some h]
    rw [pofV_some h] at cf
    have hx := sign_ok h
    conv => whnf
    repeat' (first | exact rfl | (refine CallH.lift seat_g cf (by simp [Closed, ClosedL]) (by simp [Closed, ClosedL]) ?_; conv => whnf) | (refine Req.mk (by decide) ?_; conv => whnf) | ((first | refine zq1 (by omega) ?_ | refine zq2 (by omega) ?_ | refine NumH.rem (by omega) ?_ | refine zq4 (by omega) ?_ | refine zq5 (by omega) ?_ | refine zq6 ?_ | refine Req.mk (by omega) ?_ | refine Req.mk (by dsimp only; omega) ?_ | refine Req.mk (show pendP _ _ by repeat' constructor) ?_ | (with_reducible first | refine brT (by assumption) ?_ | refine brF (by assumption) ?_ | refine brDT (by omega) ?_ | refine brDF (by omega) ?_ | refine brET (by omega) ?_ | refine brEF (by omega) ?_ | refine brNET (by omega) ?_ | refine brNEF (by omega) ?_ | refine brNot ?_)); conv => whnf))
set_option maxRecDepth 20000 in
set_option maxHeartbeats 1000000 in
theorem c_right (c : Int) (vals : List Int) (hc : 0 ≤ c ∧ c < 256) (hl : vals.length ≤ 100000) : ACalls seat 15 [.agg [.int .u8 c, .vec (ci .i64 vals) vals.length none]] [] (fun x _ => x = .ret (.bool (rightR c vals))) := by
  refine ACalls.body seat_ok Tryd.func15 rfl rfl ?_
  have cf := c_pof c hc
  cases h : ofN c with
  | none =>
    have hr : rightR c vals = false := by unfold rightR; rw [h]
    rw [hr]
    rw [pofV_none h] at cf
    clear hr h
    conv => whnf
    repeat' (first | exact rfl | (refine CallH.lift seat_g cf (by simp [Closed, ClosedL]) (by simp [Closed, ClosedL]) ?_; conv => whnf) | (refine Req.mk (by decide) ?_; conv => whnf) | ((first | refine zq1 (by omega) ?_ | refine zq2 (by omega) ?_ | refine NumH.rem (by omega) ?_ | refine zq4 (by omega) ?_ | refine zq5 (by omega) ?_ | refine zq6 ?_ | refine Req.mk (by omega) ?_ | refine Req.mk (by dsimp only; omega) ?_ | refine Req.mk (show pendP _ _ by repeat' constructor) ?_ | (with_reducible first | refine brT (by assumption) ?_ | refine brF (by assumption) ?_ | refine brDT (by omega) ?_ | refine brDF (by omega) ?_ | refine brET (by omega) ?_ | refine brEF (by omega) ?_ | refine brNET (by omega) ?_ | refine brNEF (by omega) ?_ | refine brNot ?_)); conv => whnf))
  | some y =>
    have hx := sign_ok h
    have hr : rightR c vals = if vals.length = y.2.length then allA y.2 vals else false := by unfold rightR; rw [h]
    rw [hr]
    rw [pofV_some h] at cf
    obtain ⟨a, ks⟩ := y
    simp only at cf hr hx ⊢
    clear hr h
    by_cases hle : vals.length = ks.length
    · rw [if_pos hle]
      have hle2 : ((vals.length : Int) != (ks.length : Int)) = false := by simp; omega
      generalize hR : allA ks vals = R
      conv => whnf
      repeat' (first | (refine CallH.lift seat_g cf (by simp [Closed, ClosedL]) (by simp [Closed, ClosedL]) ?_; conv => whnf) | (refine Req.mk (by decide) ?_; conv => whnf) | (refine brF hle2 ?_; conv => whnf) | ((first | refine zq1 (by omega) ?_ | refine zq2 (by omega) ?_ | refine NumH.rem (by omega) ?_ | refine zq4 (by omega) ?_ | refine zq5 (by omega) ?_ | refine zq6 ?_ | refine Req.mk (by omega) ?_ | refine Req.mk (by dsimp only; omega) ?_ | refine Req.mk (show pendP _ _ by repeat' constructor) ?_ | (with_reducible first | refine brT (by assumption) ?_ | refine brF (by assumption) ?_ | refine brDT (by omega) ?_ | refine brDF (by omega) ?_ | refine brET (by omega) ?_ | refine brEF (by omega) ?_ | refine brNET (by omega) ?_ | refine brNEF (by omega) ?_ | refine brNot ?_)); conv => whnf))
      refine Sat.cut (fun x t h => (x = .ret ∧ R = false ∧ t = (uu::uu::.bool false::uu::uu::uu::uu::uu::uu::uu::uu::uu::uu::uu::uu::uu::uu::uu::uu::uu::uu::uu::uu::uu::uu::uu::uu::uu::uu::uu::uu::uu::uu::uu::uu::uu::uu::uu::uu::uu::uu::uu::uu::uu::uu::uu::uu::uu::uu::uu::uu::uu::uu::uu::uu::uu::uu::uu::uu::uu::uu::uu::uu::uu::uu::uu::uu::uu::uu::[])) ∨ (x = .exit 0 ∧ R = true ∧ t = (uu::uu::uu::uu::uu::uu::uu::uu::uu::uu::uu::uu::uu::uu::uu::uu::uu::uu::uu::uu::uu::uu::uu::uu::uu::uu::uu::uu::uu::uu::uu::uu::uu::uu::uu::uu::uu::uu::uu::uu::uu::uu::uu::uu::uu::uu::uu::uu::uu::uu::uu::uu::uu::uu::uu::uu::uu::uu::uu::uu::uu::uu::uu::uu::uu::uu::uu::uu::uu::[]))) ?_ ?_
      · refine Sat.invP seat_ok seat_g (maskOf 69 [3, 25, 26, 27]) 2 (fun μ t h => ∃ (i : Nat) (z : Int), z = i ∧ i ≤ vals.length ∧ allA (ks.drop i) (vals.drop i) = R ∧ μ = vals.length - i ∧ t = (uu::uu::uu::.ptr 1 0::uu::uu::uu::uu::uu::uu::uu::uu::uu::uu::uu::uu::uu::uu::uu::uu::uu::uu::uu::uu::uu::.vec (ci .i64 vals) vals.length none::.int .i64 vals.length::.int .i64 z::uu::uu::uu::uu::uu::uu::uu::uu::uu::uu::uu::uu::uu::uu::uu::uu::uu::uu::uu::uu::uu::uu::uu::uu::uu::uu::uu::uu::uu::uu::uu::uu::uu::uu::uu::uu::uu::uu::uu::uu::uu::[]) ∧ h = [.var [.int .u8 c, .vec (ci .i64 vals) vals.length none] 38, .var [.int .u8 a, .str ks] 58])
          ?_ ⟨_, _, WeakL.of_eq rfl, 0, 0, rfl, by omega, by rw [List.drop_zero, List.drop_zero]; exact hR, rfl, rfl, rfl⟩ ?_
        · rintro _ _ _ ⟨i, z, -, -, -, -, rfl, rfl⟩
          exact ⟨rfl, by simp [IdsL, Ids, ci_ids], by simp [IdsH, IdsC, IdsL, Ids, ci_ids]⟩
        rintro _ _ _ ⟨i, z, hz, hi, hA, rfl, rfl, rfl⟩
        clear cf hR
        by_cases g : i < vals.length
        · obtain ⟨v, hv⟩ : ∃ v, vals[i]? = some v := ⟨_, List.getElem?_eq_getElem g⟩
          obtain ⟨k, hk⟩ : ∃ k, ks[i]? = some k := ⟨_, List.getElem?_eq_getElem (by omega)⟩
          have hld : sub (ci .i64 vals) (z.toNat * 1) 1 = some [.int .i64 v] := by rw [show z.toNat = i by omega]; exact ci_sub .i64 hv
          have hlk : ks[z.toNat]? = some k := by rw [show z.toNat = i by omega]; exact hk
          have gz : z < vals.length := by omega
          have gk : z < ks.length := by omega
          rw [drop_cons' hv, drop_cons' hk] at hA
          simp only [allA] at hA
          have t117 : k = 117 ↔ (k.toNat : Int) = 117 := ⟨fun h => by rw [h]; rfl, fun h => UInt8.toNat_inj.1 (by show k.toNat = 117; omega)⟩
          have t103 : k = 103 ↔ (k.toNat : Int) = 103 := ⟨fun h => by rw [h]; rfl, fun h => UInt8.toNat_inj.1 (by show k.toNat = 103; omega)⟩
          have t102 : k = 102 ↔ (k.toNat : Int) = 102 := ⟨fun h => by rw [h]; rfl, fun h => UInt8.toNat_inj.1 (by show k.toNat = 102; omega)⟩
          simp only [t117, t103, t102] at hA
          clear t117 t103 t102
          have hcs : (v ≤ -4294967296) ∨ (¬ v ≤ -4294967296 ∧ v ≥ 4294967296) ∨ (¬ v ≤ -4294967296 ∧ ¬ v ≥ 4294967296 ∧ (k.toNat : Int) = 117 ∧ v < 0) ∨ (¬ v ≤ -4294967296 ∧ ¬ v ≥ 4294967296 ∧ (k.toNat : Int) = 103 ∧ v ≠ 0 ∧ v ≠ 1) ∨ (¬ v ≤ -4294967296 ∧ ¬ v ≥ 4294967296 ∧ (k.toNat : Int) = 102 ∧ v ≠ 0 ∧ v ≠ 1) ∨
              (¬ v ≤ -4294967296 ∧ ¬ v ≥ 4294967296 ∧ (k.toNat : Int) = 117 ∧ ¬ v < 0) ∨ (¬ v ≤ -4294967296 ∧ ¬ v ≥ 4294967296 ∧ (k.toNat : Int) = 103 ∧ v = 0) ∨ (¬ v ≤ -4294967296 ∧ ¬ v ≥ 4294967296 ∧ (k.toNat : Int) = 102 ∧ v = 0) ∨ (¬ v ≤ -4294967296 ∧ ¬ v ≥ 4294967296 ∧ (k.toNat : Int) = 103 ∧ v = 1) ∨ (¬ v ≤ -4294967296 ∧ ¬ v ≥ 4294967296 ∧ (k.toNat : Int) = 102 ∧ v = 1) ∨ (¬ v ≤ -4294967296 ∧ ¬ v ≥ 4294967296 ∧ (k.toNat : Int) ≠ 117 ∧ (k.toNat : Int) ≠ 103 ∧ (k.toNat : Int) ≠ 102) := by omega
          rcases hcs with h1 | ⟨h1, h2⟩ | ⟨h1, h2, h3, h4⟩ | ⟨h1, h2, h3, h4, h5⟩ | ⟨h1, h2, h3, h4, h5⟩ | ⟨h1, h2, h3, h4⟩ | ⟨h1, h2, h3, h4⟩ | ⟨h1, h2, h3, h4⟩ | ⟨h1, h2, h3, h4⟩ | ⟨h1, h2, h3, h4⟩ | ⟨h1, h2, h3, h4, h5⟩
          all_goals
            first
              | (have hA : false = R := by rw [if_pos (by omega)] at hA; exact hA
                 have hA := hA.symm
                 conv => whnf
                 repeat' (first | exact ⟨_, keepT_weak (maskOf 69 [2]) _, .inl ⟨rfl, hA, rfl⟩⟩ | (refine ldI _ hld ?_; conv => whnf) | (refine ldI _ hlk ?_; conv => whnf) | ((first | refine zq1 (by omega) ?_ | refine zq2 (by omega) ?_ | refine NumH.rem (by omega) ?_ | refine zq4 (by omega) ?_ | refine zq5 (by omega) ?_ | refine zq6 ?_ | refine Req.mk (by omega) ?_ | refine Req.mk (by dsimp only; omega) ?_ | refine Req.mk (show pendP _ _ by repeat' constructor) ?_ | (with_reducible first | refine brT (by assumption) ?_ | refine brF (by assumption) ?_ | refine brDT (by omega) ?_ | refine brDF (by omega) ?_ | refine brET (by omega) ?_ | refine brEF (by omega) ?_ | refine brNET (by omega) ?_ | refine brNEF (by omega) ?_ | refine brNot ?_)); conv => whnf)))
              | (rw [if_neg (by omega)] at hA
                 conv => whnf
                 repeat' (first | exact ⟨_, _, Nat.sub_lt_sub_left g (Nat.lt_succ_self i), WeakL.of_eq rfl, i + 1, z + 1, by omega, by omega, hA, rfl, rfl, rfl⟩ | (refine ldI _ hld ?_; conv => whnf) | (refine ldI _ hlk ?_; conv => whnf) | ((first | refine zq1 (by omega) ?_ | refine zq2 (by omega) ?_ | refine NumH.rem (by omega) ?_ | refine zq4 (by omega) ?_ | refine zq5 (by omega) ?_ | refine zq6 ?_ | refine Req.mk (by omega) ?_ | refine Req.mk (by dsimp only; omega) ?_ | refine Req.mk (show pendP _ _ by repeat' constructor) ?_ | (with_reducible first | refine brT (by assumption) ?_ | refine brF (by assumption) ?_ | refine brDT (by omega) ?_ | refine brDF (by omega) ?_ | refine brET (by omega) ?_ | refine brEF (by omega) ?_ | refine brNET (by omega) ?_ | refine brNEF (by omega) ?_ | refine brNot ?_)); conv => whnf)))
        · obtain rfl : i = vals.length := by omega
          have gz : ¬ (z < vals.length) := by omega
          have hA : true = R := by rw [hle, List.drop_length] at hA; exact hA
          have hA := hA.symm
          conv => whnf
          repeat' (first | exact ⟨_, keepT_weak (maskOf 69 []) _, .inr ⟨rfl, hA, rfl⟩⟩ | ((first | refine zq1 (by omega) ?_ | refine zq2 (by omega) ?_ | refine NumH.rem (by omega) ?_ | refine zq4 (by omega) ?_ | refine zq5 (by omega) ?_ | refine zq6 ?_ | refine Req.mk (by omega) ?_ | refine Req.mk (by dsimp only; omega) ?_ | refine Req.mk (show pendP _ _ by repeat' constructor) ?_ | (with_reducible first | refine brT (by assumption) ?_ | refine brF (by assumption) ?_ | refine brDT (by omega) ?_ | refine brDF (by omega) ?_ | refine brET (by omega) ?_ | refine brEF (by omega) ?_ | refine brNET (by omega) ?_ | refine brNEF (by omega) ?_ | refine brNot ?_)); conv => whnf))
      · rintro _ _ _ (⟨rfl, h1, rfl⟩ | ⟨rfl, h1, rfl⟩)
        · subst h1
          conv => whnf
          rfl
        · subst h1
          conv => whnf
          rfl
    · rw [if_neg hle]
      have hle2 : ((vals.length : Int) != (ks.length : Int)) = true := by simp; omega
      conv => whnf
      repeat' (first | exact rfl | (refine CallH.lift seat_g cf (by simp [Closed, ClosedL]) (by simp [Closed, ClosedL]) ?_; conv => whnf) | (refine Req.mk (by decide) ?_; conv => whnf) | (refine brT hle2 ?_; conv => whnf) | ((first | refine zq1 (by omega) ?_ | refine zq2 (by omega) ?_ | refine NumH.rem (by omega) ?_ | refine zq4 (by omega) ?_ | refine zq5 (by omega) ?_ | refine zq6 ?_ | refine Req.mk (by omega) ?_ | refine Req.mk (by dsimp only; omega) ?_ | refine Req.mk (show pendP _ _ by repeat' constructor) ?_ | (with_reducible first | refine brT (by assumption) ?_ | refine brF (by assumption) ?_ | refine brDT (by omega) ?_ | refine brDF (by omega) ?_ | refine brET (by omega) ?_ | refine brEF (by omega) ?_ | refine brNET (by omega) ?_ | refine brNEF (by omega) ?_ | refine brNot ?_)); conv => whnf))
end Go.Proofs.YtjpaapkdbohgeaaDoor
namespace Go.Proofs.YtjpaapkdbohgeaaDoor
open Go.Abs
set_option maxRecDepth 20000 in
set_option maxHeartbeats 2000000 in
theorem c_rright (c : Int) (vals : List Int) (hc : 0 ≤ c ∧ c < 256) (hl : vals.length ≤ 100000) : ACalls seat 16 [.agg [.int .u8 c, .vec (ci .i64 vals) vals.length none]] [] (fun x _ => x = .ret (.bool (rightR c vals))) := by
  refine ACalls.body seat_ok Tryd.func16 rfl rfl ?_
  have cn := c_rcount c
  have ca := c_rarc c
  by_cases hle : cntR c = vals.length
  · obtain ⟨⟨a, ks⟩, h⟩ : ∃ y, ofN c = some y := by
      cases h : ofN c with
      | none => rw [cntR_none h] at hle; omega
      | some y => exact ⟨y, rfl⟩
    have hkl : vals.length = ks.length := by rw [cntR_some h] at hle; simp only at hle; omega
    have hr : rightR c vals = allA ks vals := by unfold rightR; rw [h]; exact if_pos hkl
    rw [hr]
    have hle2 : (cntR c != (vals.length : Int)) = false := by simp; omega
    have hkind := (letter_kind h).1
    simp only at hkind
    generalize hR : allA ks vals = R
    clear hr h hle
    obtain ⟨ar, harc⟩ : ∃ ar, isArc c = ar := ⟨_, rfl⟩
    rw [harc] at ca
    have hkind := fun k kd hk => hkind k kd c hk rfl
    conv => whnf
    repeat' ((first | refine zq1 (by omega) ?_ | refine zq2 (by omega) ?_ | refine NumH.rem (by omega) ?_ | refine zq4 (by omega) ?_ | refine zq5 (by omega) ?_ | refine zq6 ?_ | refine Req.mk (by omega) ?_ | refine Req.mk (by dsimp only; omega) ?_ | refine Req.mk (show pendP _ _ by repeat' constructor) ?_ | (with_reducible first | refine brT (by assumption) ?_ | refine brF (by assumption) ?_ | refine brDT (by omega) ?_ | refine brDF (by omega) ?_ | refine brET (by omega) ?_ | refine brEF (by omega) ?_ | refine brNET (by omega) ?_ | refine brNEF (by omega) ?_ | refine brNot ?_)); conv => whnf)
    refine DrawH.plan seat_ok (.take 0 (.take 1 (.take 3 (.take 4 (.take 5 (.perform 2 none (.take 6 Plan.done))))))) 0 (by kernel_rfl) ?_
    conv => whnf
    repeat' (first | (refine CallH.lift seat_g cn (by simp [Closed, ClosedL]) (by simp [Closed, ClosedL]) ?_; conv => whnf) | (refine Req.mk (by decide) ?_; conv => whnf) | (refine brF hle2 ?_; conv => whnf) | ((first | refine zq1 (by omega) ?_ | refine zq2 (by omega) ?_ | refine NumH.rem (by omega) ?_ | refine zq4 (by omega) ?_ | refine zq5 (by omega) ?_ | refine zq6 ?_ | refine Req.mk (by omega) ?_ | refine Req.mk (by dsimp only; omega) ?_ | refine Req.mk (show pendP _ _ by repeat' constructor) ?_ | (with_reducible first | refine brT (by assumption) ?_ | refine brF (by assumption) ?_ | refine brDT (by omega) ?_ | refine brDF (by omega) ?_ | refine brET (by omega) ?_ | refine brEF (by omega) ?_ | refine brNET (by omega) ?_ | refine brNEF (by omega) ?_ | refine brNot ?_)); conv => whnf))
    refine Sat.cut (fun x t h => (x = .ret ∧ R = false ∧ t = (uu::uu::.bool false::uu::uu::uu::uu::uu::uu::uu::uu::uu::uu::uu::uu::uu::uu::uu::uu::uu::uu::uu::uu::uu::uu::uu::uu::uu::uu::uu::uu::uu::uu::uu::uu::uu::uu::uu::uu::uu::uu::uu::uu::uu::uu::uu::uu::uu::uu::uu::uu::uu::uu::uu::uu::uu::uu::[])) ∨ (x = .exit 0 ∧ R = true ∧ t = (uu::uu::uu::uu::uu::uu::uu::uu::uu::uu::uu::uu::uu::uu::uu::uu::uu::uu::uu::uu::uu::uu::uu::uu::uu::uu::uu::uu::uu::uu::uu::uu::uu::uu::uu::uu::uu::uu::uu::uu::uu::uu::uu::uu::uu::uu::uu::uu::uu::uu::uu::uu::uu::uu::uu::uu::uu::[]))) ?_ ?_
    · refine Sat.invP seat_ok seat_g (maskOf 57 [1, 3]) 1 (fun μ t h => ∃ (i : Nat) (z : Int), z = i ∧ i ≤ vals.length ∧ allA (ks.drop i) (vals.drop i) = R ∧ μ = vals.length - i ∧ t = (uu::.ptr 0 0::uu::.int .i64 z::uu::uu::uu::uu::uu::uu::uu::uu::uu::uu::uu::uu::uu::uu::uu::uu::uu::uu::uu::uu::uu::uu::uu::uu::uu::uu::uu::uu::uu::uu::uu::uu::uu::uu::uu::uu::uu::uu::uu::uu::uu::uu::uu::uu::uu::uu::uu::uu::uu::uu::uu::uu::uu::[]) ∧ h = [.var [.int .u8 c, .vec (ci .i64 vals) vals.length none] 38])
        ?_ ⟨_, _, WeakL.of_eq rfl, 0, 0, rfl, by omega, by rw [List.drop_zero, List.drop_zero]; exact hR, rfl, rfl, rfl⟩ ?_
      · rintro _ _ _ ⟨i, z, -, -, -, -, rfl, rfl⟩
        exact ⟨rfl, (by simp [IdsL, Ids, IdsH, IdsC, lv_ids, ci_ids]), by simp [IdsH, IdsC, IdsL, Ids, ci_ids]⟩
      rintro _ _ _ ⟨i, z, hz, hi, hA, rfl, rfl, rfl⟩
      clear cn hR hle2
      by_cases g : i < vals.length
      · obtain ⟨v, hv⟩ : ∃ v, vals[i]? = some v := ⟨_, List.getElem?_eq_getElem g⟩
        obtain ⟨k, hk⟩ : ∃ k, ks[i]? = some k := ⟨_, List.getElem?_eq_getElem (by omega)⟩
        have hld : sub (ci .i64 vals) (z.toNat * 1) 1 = some [.int .i64 v] := by rw [show z.toNat = i by omega]; exact ci_sub .i64 hv
        have gz : z < vals.length := by omega
        rw [drop_cons' hv, drop_cons' hk] at hA
        simp only [allA] at hA
        have hK := hkind i k hk
        have step : ∀ (B : Prop), ((v ≤ -4294967296 ∨ v ≥ 4294967296 ∨ (k = 117 ∧ v < 0) ∨ ((k = 103 ∨ k = 102) ∧ v ≠ 0 ∧ v ≠ 1)) ↔ B) → (B → R = false) ∧ (¬ B → allA (ks.drop (i + 1)) (vals.drop (i + 1)) = R) := fun B hB => by
          constructor
          · intro hb; rw [if_pos (hB.2 hb)] at hA; exact hA.symm
          · intro hb; rw [if_neg (fun h => hb (hB.1 h))] at hA; exact hA
        clear hkind hA
        have done : ∀ (B : Prop), (B → R = false) ∧ (¬ B → allA (ks.drop (i + 1)) (vals.drop (i + 1)) = R) → (B ∧ R = false) ∨ (¬ B ∧ allA (ks.drop (i + 1)) (vals.drop (i + 1)) = R) := fun B h => by
          by_cases hb : B
          · exact .inl ⟨hb, h.1 hb⟩
          · exact .inr ⟨hb, h.2 hb⟩
        unfold Kind6 at hK
        rw [harc] at hK
        rcases hK with ⟨rfl, rfl⟩ | ⟨rfl, hK⟩
        · have h := done _ (step (v ≤ -4294967296 ∨ v ≥ 4294967296) (by simp))
          clear done step
          have hcs : (v ≤ -4294967296 ∧ R = false) ∨ (¬ v ≤ -4294967296 ∧ v ≥ 4294967296 ∧ R = false) ∨ (¬ v ≤ -4294967296 ∧ ¬ v ≥ 4294967296 ∧ allA (ks.drop (i + 1)) (vals.drop (i + 1)) = R) := by
            rcases h with ⟨h1 | h1, h2⟩ | ⟨h1, h2⟩
            · exact .inl ⟨h1, h2⟩
            · by_cases h3 : v ≤ -4294967296
              · exact .inl ⟨h3, h2⟩
              · exact .inr (.inl ⟨h3, h1, h2⟩)
            · exact .inr (.inr ⟨fun h => h1 (.inl h), fun h => h1 (.inr h), h2⟩)
          clear h
          rcases hcs with ⟨h1, h2⟩ | ⟨h1, h3, h2⟩ | ⟨h1, h3, h2⟩
          all_goals
            conv => whnf
            repeat' (first | exact ⟨_, keepT_weak (maskOf 57 [2]) _, .inl ⟨rfl, h2, rfl⟩⟩ | exact ⟨_, _, Nat.sub_lt_sub_left g (Nat.lt_succ_self i), WeakL.of_eq rfl, i + 1, z + 1, by omega, by omega, h2, rfl, rfl, rfl⟩ | (refine ldI _ hld ?_; conv => whnf) | (refine CallH.lift seat_g ca (by simp [Closed, ClosedL]) (by simp [Closed, ClosedL]) ?_; conv => whnf) | ((first | refine zq1 (by omega) ?_ | refine zq2 (by omega) ?_ | refine NumH.rem (by omega) ?_ | refine zq4 (by omega) ?_ | refine zq5 (by omega) ?_ | refine zq6 ?_ | refine Req.mk (by omega) ?_ | refine Req.mk (by dsimp only; omega) ?_ | refine Req.mk (show pendP _ _ by repeat' constructor) ?_ | (with_reducible first | refine brT (by assumption) ?_ | refine brF (by assumption) ?_ | refine brDT (by omega) ?_ | refine brDF (by omega) ?_ | refine brET (by omega) ?_ | refine brEF (by omega) ?_ | refine brNET (by omega) ?_ | refine brNEF (by omega) ?_ | refine brNot ?_)); conv => whnf))
        · clear done
          have hcs : (v ≤ -4294967296 ∧ R = false) ∨ (¬ v ≤ -4294967296 ∧ v ≥ 4294967296 ∧ R = false) ∨ (¬ v ≤ -4294967296 ∧ ¬ v ≥ 4294967296 ∧ z < 2 ∧ v < 0 ∧ R = false) ∨ (¬ v ≤ -4294967296 ∧ ¬ v ≥ 4294967296 ∧ z < 2 ∧ ¬ v < 0 ∧ allA (ks.drop (i + 1)) (vals.drop (i + 1)) = R) ∨
              (¬ v ≤ -4294967296 ∧ ¬ v ≥ 4294967296 ∧ ¬ z < 2 ∧ z ≠ 3 ∧ z ≠ 4 ∧ allA (ks.drop (i + 1)) (vals.drop (i + 1)) = R) ∨ (¬ v ≤ -4294967296 ∧ ¬ v ≥ 4294967296 ∧ ¬ z < 2 ∧ (z = 3 ∨ (z ≠ 3 ∧ z = 4)) ∧ ((v = 0 ∧ allA (ks.drop (i + 1)) (vals.drop (i + 1)) = R) ∨ (v ≠ 0 ∧ v = 1 ∧ allA (ks.drop (i + 1)) (vals.drop (i + 1)) = R) ∨ (v ≠ 0 ∧ v ≠ 1 ∧ R = false))) := by
            rcases hK with ⟨h1, rfl⟩ | ⟨h1, rfl⟩ | ⟨h1, rfl⟩ | ⟨h1, rfl⟩ | ⟨h1, rfl⟩
            · obtain ⟨hT, hF⟩ := step (v ≤ -4294967296 ∨ v ≥ 4294967296 ∨ v < 0) (by simp)
              by_cases c1 : v ≤ -4294967296
              · exact .inl ⟨c1, hT (by omega)⟩
              by_cases c2 : v ≥ 4294967296
              · exact .inr (.inl ⟨c1, c2, hT (by omega)⟩)
              by_cases c3 : v < 0
              · exact .inr (.inr (.inl ⟨c1, c2, by omega, c3, hT (by omega)⟩))
              · exact .inr (.inr (.inr (.inl ⟨c1, c2, by omega, c3, hF (by omega)⟩)))
            · obtain ⟨hT, hF⟩ := step (v ≤ -4294967296 ∨ v ≥ 4294967296) (by simp)
              by_cases c1 : v ≤ -4294967296
              · exact .inl ⟨c1, hT (by omega)⟩
              by_cases c2 : v ≥ 4294967296
              · exact .inr (.inl ⟨c1, c2, hT (by omega)⟩)
              exact .inr (.inr (.inr (.inr (.inl ⟨c1, c2, by omega, by omega, by omega, hF (by omega)⟩))))
            · obtain ⟨hT, hF⟩ := step (v ≤ -4294967296 ∨ v ≥ 4294967296 ∨ (v ≠ 0 ∧ v ≠ 1)) (by simp)
              by_cases c1 : v ≤ -4294967296
              · exact .inl ⟨c1, hT (by omega)⟩
              by_cases c2 : v ≥ 4294967296
              · exact .inr (.inl ⟨c1, c2, hT (by omega)⟩)
              refine .inr (.inr (.inr (.inr (.inr ⟨c1, c2, by omega, by omega, ?_⟩))))
              by_cases c3 : v = 0
              · exact .inl ⟨c3, hF (by omega)⟩
              by_cases c4 : v = 1
              · exact .inr (.inl ⟨c3, c4, hF (by omega)⟩)
              · exact .inr (.inr ⟨c3, c4, hT (by omega)⟩)
            · obtain ⟨hT, hF⟩ := step (v ≤ -4294967296 ∨ v ≥ 4294967296 ∨ (v ≠ 0 ∧ v ≠ 1)) (by simp)
              by_cases c1 : v ≤ -4294967296
              · exact .inl ⟨c1, hT (by omega)⟩
              by_cases c2 : v ≥ 4294967296
              · exact .inr (.inl ⟨c1, c2, hT (by omega)⟩)
              refine .inr (.inr (.inr (.inr (.inr ⟨c1, c2, by omega, by omega, ?_⟩))))
              by_cases c3 : v = 0
              · exact .inl ⟨c3, hF (by omega)⟩
              by_cases c4 : v = 1
              · exact .inr (.inl ⟨c3, c4, hF (by omega)⟩)
              · exact .inr (.inr ⟨c3, c4, hT (by omega)⟩)
            · obtain ⟨hT, hF⟩ := step (v ≤ -4294967296 ∨ v ≥ 4294967296) (by simp)
              by_cases c1 : v ≤ -4294967296
              · exact .inl ⟨c1, hT (by omega)⟩
              by_cases c2 : v ≥ 4294967296
              · exact .inr (.inl ⟨c1, c2, hT (by omega)⟩)
              exact .inr (.inr (.inr (.inr (.inl ⟨c1, c2, by omega, by omega, by omega, hF (by omega)⟩))))
          clear step hK
          rcases hcs with ⟨h1, h2⟩ | ⟨h1, h3, h2⟩ | ⟨h1, h3, h4, h5, h2⟩ | ⟨h1, h3, h4, h5, h2⟩ | ⟨h1, h3, h4, h5, h6, h2⟩ | ⟨h1, h3, h4, h5 | ⟨h5, h6⟩, ⟨h7, h2⟩ | ⟨h7, h8, h2⟩ | ⟨h7, h8, h2⟩⟩
          all_goals
            conv => whnf
            repeat' (first | exact ⟨_, keepT_weak (maskOf 57 [2]) _, .inl ⟨rfl, h2, rfl⟩⟩ | exact ⟨_, _, Nat.sub_lt_sub_left g (Nat.lt_succ_self i), WeakL.of_eq rfl, i + 1, z + 1, by omega, by omega, h2, rfl, rfl, rfl⟩ | (refine ldI _ hld ?_; conv => whnf) | (refine CallH.lift seat_g ca (by simp [Closed, ClosedL]) (by simp [Closed, ClosedL]) ?_; conv => whnf) | ((first | refine zq1 (by omega) ?_ | refine zq2 (by omega) ?_ | refine NumH.rem (by omega) ?_ | refine zq4 (by omega) ?_ | refine zq5 (by omega) ?_ | refine zq6 ?_ | refine Req.mk (by omega) ?_ | refine Req.mk (by dsimp only; omega) ?_ | refine Req.mk (show pendP _ _ by repeat' constructor) ?_ | (with_reducible first | refine brT (by assumption) ?_ | refine brF (by assumption) ?_ | refine brDT (by omega) ?_ | refine brDF (by omega) ?_ | refine brET (by omega) ?_ | refine brEF (by omega) ?_ | refine brNET (by omega) ?_ | refine brNEF (by omega) ?_ | refine brNot ?_)); conv => whnf))
      · obtain rfl : i = vals.length := by omega
        have gz : ¬ (z < vals.length) := by omega
        have hA : true = R := by rw [hkl, List.drop_length] at hA; exact hA
        have hA := hA.symm
        conv => whnf
        repeat' (first | exact ⟨_, keepT_weak (maskOf 57 []) _, .inr ⟨rfl, hA, rfl⟩⟩ | ((first | refine zq1 (by omega) ?_ | refine zq2 (by omega) ?_ | refine NumH.rem (by omega) ?_ | refine zq4 (by omega) ?_ | refine zq5 (by omega) ?_ | refine zq6 ?_ | refine Req.mk (by omega) ?_ | refine Req.mk (by dsimp only; omega) ?_ | refine Req.mk (show pendP _ _ by repeat' constructor) ?_ | (with_reducible first | refine brT (by assumption) ?_ | refine brF (by assumption) ?_ | refine brDT (by omega) ?_ | refine brDF (by omega) ?_ | refine brET (by omega) ?_ | refine brEF (by omega) ?_ | refine brNET (by omega) ?_ | refine brNEF (by omega) ?_ | refine brNot ?_)); conv => whnf))
    · rintro _ _ _ (⟨rfl, h1, rfl⟩ | ⟨rfl, h1, rfl⟩)
      · subst h1
        conv => whnf
        rfl
      · subst h1
        conv => whnf
        rfl
  · have hr : rightR c vals = false := by
      unfold rightR
      cases h : ofN c with
      | none => rfl
      | some y => rw [cntR_some h] at hle; exact if_neg (by omega)
    rw [hr]
    have hle2 : (cntR c != (vals.length : Int)) = true := by simp; omega
    conv => whnf
    repeat' ((first | refine zq1 (by omega) ?_ | refine zq2 (by omega) ?_ | refine NumH.rem (by omega) ?_ | refine zq4 (by omega) ?_ | refine zq5 (by omega) ?_ | refine zq6 ?_ | refine Req.mk (by omega) ?_ | refine Req.mk (by dsimp only; omega) ?_ | refine Req.mk (show pendP _ _ by repeat' constructor) ?_ | (with_reducible first | refine brT (by assumption) ?_ | refine brF (by assumption) ?_ | refine brDT (by omega) ?_ | refine brDF (by omega) ?_ | refine brET (by omega) ?_ | refine brEF (by omega) ?_ | refine brNET (by omega) ?_ | refine brNEF (by omega) ?_ | refine brNot ?_)); conv => whnf)
    refine DrawH.plan seat_ok (.take 0 (.take 1 (.take 3 (.take 4 (.take 5 (.perform 2 none (.take 6 Plan.done))))))) 0 (by kernel_rfl) ?_
    conv => whnf
    repeat' (first | exact rfl | (refine CallH.lift seat_g cn (by simp [Closed, ClosedL]) (by simp [Closed, ClosedL]) ?_; conv => whnf) | (refine Req.mk (by decide) ?_; conv => whnf) | (refine brT hle2 ?_; conv => whnf) | ((first | refine zq1 (by omega) ?_ | refine zq2 (by omega) ?_ | refine NumH.rem (by omega) ?_ | refine zq4 (by omega) ?_ | refine zq5 (by omega) ?_ | refine zq6 ?_ | refine Req.mk (by omega) ?_ | refine Req.mk (by dsimp only; omega) ?_ | refine Req.mk (show pendP _ _ by repeat' constructor) ?_ | (with_reducible first | refine brT (by assumption) ?_ | refine brF (by assumption) ?_ | refine brDT (by omega) ?_ | refine brDF (by omega) ?_ | refine brET (by omega) ?_ | refine brEF (by omega) ?_ | refine brNET (by omega) ?_ | refine brNEF (by omega) ?_ | refine brNot ?_)); conv => whnf))
set_option maxRecDepth 20000 in
theorem l_pathRights (x : UInt8 × List Int) : ACalls seat 7 [.agg (cmdC x)] [] (fun x _ => x = .ret (.bool true)) := by
  obtain ⟨c, vals⟩ := x
  refine ACalls.body seat_ok Tryd.func7 rfl rfl ?_
  unfold cmdC lv
  have hc : 0 ≤ (c.toNat : Int) ∧ (c.toNat : Int) < 256 := ⟨by omega, by have := c.toNat_lt; omega⟩
  by_cases g : vals.length ≤ 60
  · have g1 : ¬ ((vals.length : Int) > 60) := by omega
    have c1 := c_right c.toNat vals hc (by omega)
    have c2 := c_rright c.toNat vals hc (by omega)
    have c3 := c_count c.toNat hc
    have c4 := c_rcount c.toNat
    conv => whnf
    repeat' (first | (refine CallH.lift seat_g c_wakes trivial (by simp [Closed]) ?_; conv => whnf) | ((first | refine zq1 (by omega) ?_ | refine zq2 (by omega) ?_ | refine NumH.rem (by omega) ?_ | refine zq4 (by omega) ?_ | refine zq5 (by omega) ?_ | refine zq6 ?_ | refine Req.mk (by omega) ?_ | refine Req.mk (by dsimp only; omega) ?_ | refine Req.mk (show pendP _ _ by repeat' constructor) ?_ | (with_reducible first | refine brT (by assumption) ?_ | refine brF (by assumption) ?_ | refine brDT (by omega) ?_ | refine brDF (by omega) ?_ | refine brET (by omega) ?_ | refine brEF (by omega) ?_ | refine brNET (by omega) ?_ | refine brNEF (by omega) ?_ | refine brNot ?_)); conv => whnf))
    refine DrawH.plan seat_ok (.take 0 (.take 1 (.take 2 (.take 3 (.take 4 (.take 5 (.take 7 (.perform 6 none (.perform 8 none (.take 9 (.take 10 (.take 11 (.take 12 (.take 14 (.take 15 (.perform 13 none (.perform 16 none (.take 17 (.take 18 (.take 19 (.take 20 Plan.done))))))))))))))))))))) 0 (by kernel_rfl) ?_
    conv => whnf
    repeat' (first | exact congrArg (fun b => AEnd.ret (.bool b)) (beq_self_eq_true _) | (refine brT (beq_self_eq_true _) ?_; conv => whnf) | (refine CallH.lift seat_g c1 (by simp [Closed, ClosedL, ci_closed]) (by simp [Closed, ClosedL]) ?_; conv => whnf) | (refine CallH.lift seat_g c2 (by simp [Closed, ClosedL, ci_closed]) (by simp [Closed, ClosedL]) ?_; conv => whnf) | (refine CallH.lift seat_g c3 (by simp [Closed, ClosedL]) (by simp [Closed, ClosedL]) ?_; conv => whnf) | (refine CallH.lift seat_g c4 (by simp [Closed, ClosedL]) (by simp [Closed, ClosedL]) ?_; conv => whnf) | ((first | refine zq1 (by omega) ?_ | refine zq2 (by omega) ?_ | refine NumH.rem (by omega) ?_ | refine zq4 (by omega) ?_ | refine zq5 (by omega) ?_ | refine zq6 ?_ | refine Req.mk (by omega) ?_ | refine Req.mk (by dsimp only; omega) ?_ | refine Req.mk (show pendP _ _ by repeat' constructor) ?_ | (with_reducible first | refine brT (by assumption) ?_ | refine brF (by assumption) ?_ | refine brDT (by omega) ?_ | refine brDF (by omega) ?_ | refine brET (by omega) ?_ | refine brEF (by omega) ?_ | refine brNET (by omega) ?_ | refine brNEF (by omega) ?_ | refine brNot ?_)); conv => whnf))
  · have g1 : (vals.length : Int) > 60 := by omega
    conv => whnf
    repeat' (first | (refine CallH.lift seat_g c_wakes trivial (by simp [Closed]) ?_; conv => whnf) | ((first | refine zq1 (by omega) ?_ | refine zq2 (by omega) ?_ | refine NumH.rem (by omega) ?_ | refine zq4 (by omega) ?_ | refine zq5 (by omega) ?_ | refine zq6 ?_ | refine Req.mk (by omega) ?_ | refine Req.mk (by dsimp only; omega) ?_ | refine Req.mk (show pendP _ _ by repeat' constructor) ?_ | (with_reducible first | refine brT (by assumption) ?_ | refine brF (by assumption) ?_ | refine brDT (by omega) ?_ | refine brDF (by omega) ?_ | refine brET (by omega) ?_ | refine brEF (by omega) ?_ | refine brNET (by omega) ?_ | refine brNEF (by omega) ?_ | refine brNot ?_)); conv => whnf))
    refine DrawH.plan seat_ok (.take 0 (.take 1 (.take 2 (.take 3 (.take 4 (.take 5 (.take 7 (.perform 6 none (.perform 8 none (.take 9 (.take 10 (.take 11 (.take 12 (.take 14 (.take 15 (.perform 13 none (.perform 16 none (.take 17 (.take 18 (.take 19 (.take 20 Plan.done))))))))))))))))))))) 0 (by kernel_rfl) ?_
    conv => whnf
    repeat' (first | exact rfl | ((first | refine zq1 (by omega) ?_ | refine zq2 (by omega) ?_ | refine NumH.rem (by omega) ?_ | refine zq4 (by omega) ?_ | refine zq5 (by omega) ?_ | refine zq6 ?_ | refine Req.mk (by omega) ?_ | refine Req.mk (by dsimp only; omega) ?_ | refine Req.mk (show pendP _ _ by repeat' constructor) ?_ | (with_reducible first | refine brT (by assumption) ?_ | refine brF (by assumption) ?_ | refine brDT (by omega) ?_ | refine brDF (by omega) ?_ | refine brET (by omega) ?_ | refine brEF (by omega) ?_ | refine brNET (by omega) ?_ | refine brNEF (by omega) ?_ | refine brNot ?_)); conv => whnf))
end Go.Proofs.YtjpaapkdbohgeaaDoor
namespace Go.Proofs.YtjpaapkdbohgeaaDoor
open Go.Abs Go.RowKit
def cmdOK (x : UInt8 × List Int) : Prop := ∀ v ∈ x.2, I64 v
def i64c (n : Int) : List AV := [.int .i64 n]
theorem i64_elem : Elem i64c I64 [.int .i64] where
  len _ := rfl
  of cs h := by
    obtain ⟨a, _, rfl, w1, h⟩ := h.consI
    obtain rfl := h.nil
    exact ⟨a, wf_I64 w1, fun E => by simp [i64c, VRL, VR]⟩
theorem cs_i64 : ∀ l : List Int, cs i64c l = ci .i64 l
  | [] => rfl
  | a :: l => by have := cs_i64 l; simp only [cs, ci, List.flatMap_cons, List.map_cons] at *; rw [this]; rfl
theorem cmd_elem : Elem2 cmdC cmdOK [.flat (.int .u8), .slice [.int .i64]] where
  len _ := rfl
  of w cs h := by
    obtain ⟨c, r, rfl, ⟨n, rfl, w1⟩, g⟩ := h.cons
    obtain ⟨v, r, rfl, h2, g2⟩ := g.cons
    obtain rfl := g2.nil
    obtain ⟨l, k1, -, k3⟩ := slice_vr i64_elem h2
    have hn : 0 ≤ n ∧ n < 256 := by
      simp [Lit.wf, IntKind.min, IntKind.max, IntKind.signed, IntKind.bits] at w1; omega
    refine ⟨(UInt8.ofNat n.toNat, l), k1, ?_⟩
    have hu : ((UInt8.ofNat n.toNat).toNat : Int) = n := by
      have h8 : (UInt8.ofNat n.toNat).toNat = n.toNat % 256 := rfl
      rw [h8]; omega
    rw [cs_i64] at k3
    show VRL _ [.int .u8 ((UInt8.ofNat n.toNat).toNat : Int), .vec (ci .i64 l) l.length none] _
    rw [hu]
    exact .cons (vr_int _ _ _) (.cons k3 .nil)
end Go.Proofs.YtjpaapkdbohgeaaDoor
