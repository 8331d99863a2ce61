/- Definitions and lemmas for the law, part 10. No condition beyond those in each statement. -/
import Derived.Test.YteicdddheaajlaaDoorQ9
set_option linter.unusedSimpArgs false
set_option linter.unusedVariables false
set_option linter.deprecated false
namespace Go.Proofs.YteicdddheaajlaaDoor
open Go.Abs
def cntR (c : Int) : Int := match ofN c with
  | some x => x.2.length
  | none => -1
theorem cntR_some {c : Int} {x : Int × List UInt8} (h : ofN c = some x) : cntR c = x.2.length := by unfold cntR; rw [h]
theorem cntR_none {c : Int} (h : ofN c = none) : cntR c = -1 := by unfold cntR; rw [h]
set_option maxRecDepth 20000 in
theorem c_rcount (c : Int) : ACalls seat 21 [.int .u8 c] [] (fun x _ => x = .ret (.int .i64 (cntR c))) := by
  refine ACalls.body seat_ok Tryd.func21 rfl rfl ?_
  rcases Classical.em (c = 77 ∨ c = 109 ∨ c = 76 ∨ c = 108 ∨ c = 84 ∨ c = 116 ∨ c = 72 ∨ c = 104 ∨ c = 86 ∨ c = 118 ∨ c = 67 ∨ c = 99 ∨ c = 83 ∨ c = 115 ∨ c = 81 ∨ c = 113 ∨ c = 65 ∨ c = 97 ∨ c = 90 ∨ c = 122) with h | h
  · rcases h with rfl | rfl | rfl | rfl | rfl | rfl | rfl | rfl | rfl | rfl | rfl | rfl | rfl | rfl | rfl | rfl | rfl | rfl | rfl | rfl
    all_goals
      conv => whnf
      rfl
  · have hn : ofN c = none := by
      cases hx : ofN c with
      | none => rfl
      | some x =>
        exfalso
        obtain ⟨hm, he⟩ := ofN_mem hx
        have key : ∀ y ∈ signL, y.1 = 77 ∨ y.1 = 76 ∨ y.1 = 72 ∨ y.1 = 86 ∨ y.1 = 67 ∨ y.1 = 83 ∨ y.1 = 81 ∨ y.1 = 84 ∨ y.1 = 65 ∨ y.1 = 90 := by decide
        have hk := key x hm
        unfold capN at he
        split at he <;> omega
    rw [cntR_none hn]
    clear hn
    conv => whnf
    repeat' ((first | refine zs (by omega) ?_ | refine zq6 ?_ | refine zs (by dsimp only; omega) ?_ | refine zs (show pendP _ _ by repeat' constructor) ?_ | (with_reducible first | refine brT ‹_› ?_ | refine brF ‹_› ?_ | refine zt (by omega) ?_ | refine zf (by omega) ?_ | refine brNot ?_)); conv => whnf)
    rfl
def isArc (c : Int) : Bool := c == 65 || c == 97
theorem c_rarc (c : Int) : ACalls seat 22 [.int .u8 c] [] (fun x _ => x = .ret (.bool (isArc c))) := by
  refine ACalls.body seat_ok Tryd.func22 rfl rfl ?_
  unfold isArc
  by_cases h : c = 65
  · rw [show (c == 65) = true by simpa using h, Bool.true_or]
    conv => whnf
    repeat' ((first | refine zs (by omega) ?_ | refine zq6 ?_ | refine zs (by dsimp only; omega) ?_ | refine zs (show pendP _ _ by repeat' constructor) ?_ | (with_reducible first | refine brT ‹_› ?_ | refine brF ‹_› ?_ | refine zt (by omega) ?_ | refine zf (by omega) ?_ | refine brNot ?_)); conv => whnf)
    rfl
  · rw [show (c == 65) = false by simpa using h, Bool.false_or]
    conv => whnf
    repeat' ((first | refine zs (by omega) ?_ | refine zq6 ?_ | refine zs (by dsimp only; omega) ?_ | refine zs (show pendP _ _ by repeat' constructor) ?_ | (with_reducible first | refine brT ‹_› ?_ | refine brF ‹_› ?_ | refine zt (by omega) ?_ | refine zf (by omega) ?_ | refine brNot ?_)); conv => whnf)
    rfl
theorem c_starts (s : List UInt8) (p : Nat) (sg : Bool) (hl : s.length ≤ 900000) : ACalls seat 33 [.str s, .int .i64 p, .bool sg] [] (fun x _ => x = .ret (.bool (begR s p sg))) := by
  refine ACalls.body seat_ok Tryd.func33 rfl rfl ?_
  by_cases g : p < s.length
  · obtain ⟨b, hb⟩ : ∃ b, s[p]? = some b := ⟨_, List.getElem?_eq_getElem g⟩
    have eb : (s[(p : Int).toNat]?) = some b := hb
    have g2 : ¬ ((p : Int) ≥ s.length) := by omega
    rw [begR_some hb]
    unfold begB
    by_cases h1 : 48 ≤ (b.toNat : Int) ∧ (b.toNat : Int) ≤ 57
    · have h2 := h1.1
      have h3 := h1.2
      rw [decide_eq_true h2, decide_eq_true h3]
      conv => whnf
      repeat' (first | exact rfl | (refine ldI _ eb ?_; conv => whnf) | ((first | refine zs (by omega) ?_ | refine zq6 ?_ | refine zs (by dsimp only; omega) ?_ | refine zs (show pendP _ _ by repeat' constructor) ?_ | (with_reducible first | refine brT ‹_› ?_ | refine brF ‹_› ?_ | refine zt (by omega) ?_ | refine zf (by omega) ?_ | refine brNot ?_)); conv => whnf))
    · rw [show (decide (48 ≤ (b.toNat : Int)) && decide ((b.toNat : Int) ≤ 57)) = false by
        by_cases h2 : 48 ≤ (b.toNat : Int)
        · rw [decide_eq_true h2, decide_eq_false (fun h => h1 ⟨h2, h⟩)]; rfl
        · rw [decide_eq_false h2]; rfl, Bool.false_or]
      have hr : (b.toNat : Int) < 48 ∨ (48 ≤ (b.toNat : Int) ∧ ¬ ((b.toNat : Int) ≤ 57)) := by omega
      by_cases h4 : (b.toNat : Int) = 46
      · rw [show ((b.toNat : Int) == 46) = true by simpa using h4, Bool.true_or]
        conv => whnf
        repeat' (first | exact rfl | (refine ldI _ eb ?_; conv => whnf) | ((first | refine zs (by omega) ?_ | refine zq6 ?_ | refine zs (by dsimp only; omega) ?_ | refine zs (show pendP _ _ by repeat' constructor) ?_ | (with_reducible first | refine brT ‹_› ?_ | refine brF ‹_› ?_ | refine zt (by omega) ?_ | refine zf (by omega) ?_ | refine brNot ?_)); conv => whnf))
      · rw [show ((b.toNat : Int) == 46) = false by simpa using h4, Bool.false_or]
        cases sg with
        | false =>
          rcases hr with hr | hr
          · conv => whnf
            repeat' (first | exact rfl | (refine ldI _ eb ?_; conv => whnf) | ((first | refine zs (by omega) ?_ | refine zq6 ?_ | refine zs (by dsimp only; omega) ?_ | refine zs (show pendP _ _ by repeat' constructor) ?_ | (with_reducible first | refine brT ‹_› ?_ | refine brF ‹_› ?_ | refine zt (by omega) ?_ | refine zf (by omega) ?_ | refine brNot ?_)); conv => whnf))
          · conv => whnf
            repeat' (first | exact rfl | (refine ldI _ eb ?_; conv => whnf) | ((first | refine zs (by omega) ?_ | refine zq6 ?_ | refine zs (by dsimp only; omega) ?_ | refine zs (show pendP _ _ by repeat' constructor) ?_ | (with_reducible first | refine brT ‹_› ?_ | refine brF ‹_› ?_ | refine zt (by omega) ?_ | refine zf (by omega) ?_ | refine brNot ?_)); conv => whnf))
        | true =>
          rw [Bool.true_and]
          by_cases h5 : (b.toNat : Int) = 43
          · rw [show ((b.toNat : Int) == 43) = true by simpa using h5, Bool.true_or]
            conv => whnf
            repeat' (first | exact rfl | (refine ldI _ eb ?_; conv => whnf) | ((first | refine zs (by omega) ?_ | refine zq6 ?_ | refine zs (by dsimp only; omega) ?_ | refine zs (show pendP _ _ by repeat' constructor) ?_ | (with_reducible first | refine brT ‹_› ?_ | refine brF ‹_› ?_ | refine zt (by omega) ?_ | refine zf (by omega) ?_ | refine brNot ?_)); conv => whnf))
          · rw [show ((b.toNat : Int) == 43) = false by simpa using h5, Bool.false_or]
            rcases hr with hr | hr
            · conv => whnf
              repeat' (first | exact rfl | (refine ldI _ eb ?_; conv => whnf) | ((first | refine zs (by omega) ?_ | refine zq6 ?_ | refine zs (by dsimp only; omega) ?_ | refine zs (show pendP _ _ by repeat' constructor) ?_ | (with_reducible first | refine brT ‹_› ?_ | refine brF ‹_› ?_ | refine zt (by omega) ?_ | refine zf (by omega) ?_ | refine brNot ?_)); conv => whnf))
            · conv => whnf
              repeat' (first | exact rfl | (refine ldI _ eb ?_; conv => whnf) | ((first | refine zs (by omega) ?_ | refine zq6 ?_ | refine zs (by dsimp only; omega) ?_ | refine zs (show pendP _ _ by repeat' constructor) ?_ | (with_reducible first | refine brT ‹_› ?_ | refine brF ‹_› ?_ | refine zt (by omega) ?_ | refine zf (by omega) ?_ | refine brNot ?_)); conv => whnf))
  · have g2 : (p : Int) ≥ s.length := by omega
    rw [begR_none (by omega)]
    conv => whnf
    repeat' ((first | refine zs (by omega) ?_ | refine zq6 ?_ | refine zs (by dsimp only; omega) ?_ | refine zs (show pendP _ _ by repeat' constructor) ?_ | (with_reducible first | refine brT ‹_› ?_ | refine brF ‹_› ?_ | refine zt (by omega) ?_ | refine zf (by omega) ?_ | refine brNot ?_)); conv => whnf)
    rfl
def Kind6 (c : Int) (k : Nat) (kd : UInt8) : Prop := (isArc c = false ∧ kd = 110) ∨ (isArc c = true ∧ (((k = 0 ∨ k = 1) ∧ kd = 117) ∨ (k = 2 ∧ kd = 110) ∨ (k = 3 ∧ kd = 103) ∨ (k = 4 ∧ kd = 102) ∨ ((k = 5 ∨ k = 6) ∧ kd = 110)))
noncomputable def oneR (s : List UInt8) (k : Nat) (kd : UInt8) (p : Nat) : Int × Int × Nat :=
  if kd = 103 ∧ (if 0 < k then p + gapN (s.drop p) else p) = p then (0, 3, p) else argR s kd (if 0 < k then p + gapN (s.drop p) else p)
set_option maxRecDepth 20000 in
theorem c_one (s : List UInt8) (c : Int) (k p : Nat) (kd : UInt8) (hp : p ≤ s.length) (hl : s.length ≤ 400) (hk : Kind6 c k kd) : ACalls seat 32 [.str s, .int .u8 c, .int .i64 k, .int .i64 p] [] (fun x _ => x = .ret (gotV (oneR s k kd p).1 (oneR s k kd p).2.1 (oneR s k kd p).2.2)) := by
  have ca := c_rarc c
  have cg := c_rgap s p (by omega) hp
  have hin := gap_in s p hp
  unfold oneR
  obtain ⟨p1, hp1⟩ : ∃ p1, p1 = if 0 < k then p + gapN (s.drop p) else p := ⟨_, rfl⟩
  rw [← hp1]
  have hp1b : p1 ≤ s.length := by rw [hp1]; split <;> omega
  have n1 := (numR_spec s p1 true hp1b hl).2.2.2.2.2
  have n0 := (numR_spec s p1 false hp1b hl).2.2.2.2.2
  have cf := c_rflag s p1 (by omega)
  refine ACalls.body seat_ok Tryd.func32 rfl rfl ?_
  have a110 : argR s 110 p1 = numR s p1 true := if_neg (by decide)
  have a117 : argR s 117 p1 = numR s p1 false := if_neg (by decide)
  have a103 : argR s 103 p1 = flR s p1 := if_pos (by decide)
  have a102 : argR s 102 p1 = flR s p1 := if_pos (by decide)
  unfold gotV at n1 n0 cf ⊢
  have kr : ∀ (kd' : UInt8), kd = kd' → kd' ≠ 103 → (if kd = 103 ∧ p1 = p then ((0, 3, p) : Int × Int × Nat) else argR s kd p1) = argR s kd' p1 := fun kd' h h2 => by rw [h, if_neg (fun h3 => h2 h3.1)]
  rcases hk with ⟨hA, hkd⟩ | ⟨hA, hkd⟩
  · rw [kr 110 hkd (by decide), a110]
    rw [hA] at ca
    by_cases h0 : 0 < k
    · rw [if_pos h0] at hp1
      rw [← hp1] at cg
      have h0' : (k : Int) > 0 := by omega
      clear hp1
      conv => whnf
      repeat' (first | exact rfl | (refine lf seat_g ca ?_; conv => whnf) | (refine lf seat_g cg ?_; conv => whnf) | (refine lf seat_g n1 ?_; conv => whnf) | ((first | refine zs (by omega) ?_ | refine zq6 ?_ | refine zs (by dsimp only; omega) ?_ | refine zs (show pendP _ _ by repeat' constructor) ?_ | (with_reducible first | refine brT ‹_› ?_ | refine brF ‹_› ?_ | refine zt (by omega) ?_ | refine zf (by omega) ?_ | refine brNot ?_)); conv => whnf))
    · rw [if_neg h0] at hp1
      subst hp1
      have h0' : ¬ ((k : Int) > 0) := by omega
      conv => whnf
      repeat' (first | exact rfl | (refine lf seat_g ca ?_; conv => whnf) | (refine lf seat_g n1 ?_; conv => whnf) | ((first | refine zs (by omega) ?_ | refine zq6 ?_ | refine zs (by dsimp only; omega) ?_ | refine zs (show pendP _ _ by repeat' constructor) ?_ | (with_reducible first | refine brT ‹_› ?_ | refine brF ‹_› ?_ | refine zt (by omega) ?_ | refine zf (by omega) ?_ | refine brNot ?_)); conv => whnf))
  · rw [hA] at ca
    rcases hkd with ⟨hk0, hkd⟩ | ⟨rfl, hkd⟩ | ⟨rfl, hkd⟩ | ⟨rfl, hkd⟩ | ⟨hk0, hkd⟩
    · rw [kr 117 hkd (by decide), a117]
      rcases hk0 with rfl | rfl
      · rw [if_neg (by decide)] at hp1
        subst hp1
        conv => whnf
        repeat' (first | exact rfl | (refine lf seat_g ca ?_; conv => whnf) | (refine lf seat_g n0 ?_; conv => whnf) | ((first | refine zs (by omega) ?_ | refine zq6 ?_ | refine zs (by dsimp only; omega) ?_ | refine zs (show pendP _ _ by repeat' constructor) ?_ | (with_reducible first | refine brT ‹_› ?_ | refine brF ‹_› ?_ | refine zt (by omega) ?_ | refine zf (by omega) ?_ | refine brNot ?_)); conv => whnf))
      · rw [if_pos (by decide)] at hp1
        rw [← hp1] at cg
        clear hp1
        conv => whnf
        repeat' (first | exact rfl | (refine lf seat_g ca ?_; conv => whnf) | (refine lf seat_g cg ?_; conv => whnf) | (refine lf seat_g n0 ?_; conv => whnf) | ((first | refine zs (by omega) ?_ | refine zq6 ?_ | refine zs (by dsimp only; omega) ?_ | refine zs (show pendP _ _ by repeat' constructor) ?_ | (with_reducible first | refine brT ‹_› ?_ | refine brF ‹_› ?_ | refine zt (by omega) ?_ | refine zf (by omega) ?_ | refine brNot ?_)); conv => whnf))
    · rw [kr 110 hkd (by decide), a110]
      rw [if_pos (by decide)] at hp1
      rw [← hp1] at cg
      clear hp1
      conv => whnf
      repeat' (first | exact rfl | (refine lf seat_g ca ?_; conv => whnf) | (refine lf seat_g cg ?_; conv => whnf) | (refine lf seat_g n1 ?_; conv => whnf) | ((first | refine zs (by omega) ?_ | refine zq6 ?_ | refine zs (by dsimp only; omega) ?_ | refine zs (show pendP _ _ by repeat' constructor) ?_ | (with_reducible first | refine brT ‹_› ?_ | refine brF ‹_› ?_ | refine zt (by omega) ?_ | refine zf (by omega) ?_ | refine brNot ?_)); conv => whnf))
    · rw [if_pos (by decide)] at hp1
      rw [← hp1] at cg
      subst hkd
      by_cases he : p1 = p
      · rw [if_pos ⟨rfl, he⟩]
        clear hp1
        subst he
        conv => whnf
        repeat' (first | exact rfl | (refine lf seat_g ca ?_; conv => whnf) | (refine lf seat_g cg ?_; conv => whnf) | ((first | refine zs (by omega) ?_ | refine zq6 ?_ | refine zs (by dsimp only; omega) ?_ | refine zs (show pendP _ _ by repeat' constructor) ?_ | (with_reducible first | refine brT ‹_› ?_ | refine brF ‹_› ?_ | refine zt (by omega) ?_ | refine zf (by omega) ?_ | refine brNot ?_)); conv => whnf))
      · rw [if_neg (fun h => he h.2), a103]
        clear hp1
        conv => whnf
        repeat' (first | exact rfl | (refine lf seat_g ca ?_; conv => whnf) | (refine lf seat_g cg ?_; conv => whnf) | (refine lf seat_g cf ?_; conv => whnf) | ((first | refine zs (by omega) ?_ | refine zq6 ?_ | refine zs (by dsimp only; omega) ?_ | refine zs (show pendP _ _ by repeat' constructor) ?_ | (with_reducible first | refine brT ‹_› ?_ | refine brF ‹_› ?_ | refine zt (by omega) ?_ | refine zf (by omega) ?_ | refine brNot ?_)); conv => whnf))
    · rw [kr 102 hkd (by decide), a102]
      rw [if_pos (by decide)] at hp1
      rw [← hp1] at cg
      clear hp1
      conv => whnf
      repeat' (first | exact rfl | (refine lf seat_g ca ?_; conv => whnf) | (refine lf seat_g cg ?_; conv => whnf) | (refine lf seat_g cf ?_; conv => whnf) | ((first | refine zs (by omega) ?_ | refine zq6 ?_ | refine zs (by dsimp only; omega) ?_ | refine zs (show pendP _ _ by repeat' constructor) ?_ | (with_reducible first | refine brT ‹_› ?_ | refine brF ‹_› ?_ | refine zt (by omega) ?_ | refine zf (by omega) ?_ | refine brNot ?_)); conv => whnf))
    · rw [kr 110 hkd (by decide), a110]
      rcases hk0 with rfl | rfl
      · rw [if_pos (by decide)] at hp1
        rw [← hp1] at cg
        clear hp1
        conv => whnf
        repeat' (first | exact rfl | (refine lf seat_g ca ?_; conv => whnf) | (refine lf seat_g cg ?_; conv => whnf) | (refine lf seat_g n1 ?_; conv => whnf) | ((first | refine zs (by omega) ?_ | refine zq6 ?_ | refine zs (by dsimp only; omega) ?_ | refine zs (show pendP _ _ by repeat' constructor) ?_ | (with_reducible first | refine brT ‹_› ?_ | refine brF ‹_› ?_ | refine zt (by omega) ?_ | refine zf (by omega) ?_ | refine brNot ?_)); conv => whnf))
      · rw [if_pos (by decide)] at hp1
        rw [← hp1] at cg
        clear hp1
        conv => whnf
        repeat' (first | exact rfl | (refine lf seat_g ca ?_; conv => whnf) | (refine lf seat_g cg ?_; conv => whnf) | (refine lf seat_g n1 ?_; conv => whnf) | ((first | refine zs (by omega) ?_ | refine zq6 ?_ | refine zs (by dsimp only; omega) ?_ | refine zs (show pendP _ _ by repeat' constructor) ?_ | (with_reducible first | refine brT ‹_› ?_ | refine brF ‹_› ?_ | refine zt (by omega) ?_ | refine zf (by omega) ?_ | refine brNot ?_)); conv => whnf))
end Go.Proofs.YteicdddheaajlaaDoor
namespace Go.Proofs.YteicdddheaajlaaDoor
open Go.Abs
theorem arc_cap (c : Int) : isArc c = decide (capN c = 65) := by
  unfold isArc capN
  by_cases h1 : c = 65
  · subst h1; rfl
  · by_cases h2 : c = 97
    · subst h2; rfl
    · rw [show (c == 65) = false by simpa using h1, show (c == 97) = false by simpa using h2]
      refine (decide_eq_false ?_).symm
      split <;> omega
theorem letter_kind {c : Int} {x : Int × List UInt8} (h : ofN c = some x) : (∀ (k : Nat) (kd : UInt8) (d : Int), x.2[k]? = some kd → isArc d = isArc c → Kind6 d k kd) ∧ (x.2 ≠ [] → (x.2.head? == some 110) = !isArc c) := by
  obtain ⟨hm, he⟩ := ofN_mem h
  have hA := arc_cap c
  rw [← he] at hA
  by_cases h65 : x.1 = 65
  · have hx : x = (65, [117, 117, 110, 103, 102, 110, 110]) := by
      have key : ∀ y ∈ signL, y.1 = 65 → y = (65, [117, 117, 110, 103, 102, 110, 110]) := by decide
      exact key x hm h65
    rw [decide_eq_true h65] at hA
    subst hx
    refine ⟨fun k kd d hk hd => .inr ⟨hd.trans hA, ?_⟩, fun _ => by rw [hA]; rfl⟩
    match k, hk with
    | 0, hk => cases hk; exact .inl ⟨.inl rfl, rfl⟩
    | 1, hk => cases hk; exact .inl ⟨.inr rfl, rfl⟩
    | 2, hk => cases hk; exact .inr (.inl ⟨rfl, rfl⟩)
    | 3, hk => cases hk; exact .inr (.inr (.inl ⟨rfl, rfl⟩))
    | 4, hk => cases hk; exact .inr (.inr (.inr (.inl ⟨rfl, rfl⟩)))
    | 5, hk => cases hk; exact .inr (.inr (.inr (.inr ⟨.inl rfl, rfl⟩)))
    | 6, hk => cases hk; exact .inr (.inr (.inr (.inr ⟨.inr rfl, rfl⟩)))
    | k + 7, hk => cases hk
  · have key : ∀ y ∈ signL, y.1 ≠ 65 → (∀ kd ∈ y.2, kd = 110) ∧ (y.2 = [] ∨ y.2.head? = some 110) := by decide
    obtain ⟨k1, k2⟩ := key x hm h65
    rw [decide_eq_false h65] at hA
    refine ⟨fun k kd d hk hd => .inl ⟨hd.trans hA, k1 kd (List.mem_of_getElem? hk)⟩, fun hne => ?_⟩
    rcases k2 with h | h
    · exact absurd h hne
    · rw [h, hA]; rfl
theorem grp_one (s : List UInt8) (k : UInt8) (ks : List UInt8) (i p : Nat) (acc : List Int) : ((oneR s i k p).2.1 ≠ 0 → grpR s (k :: ks) i p acc = ([], (oneR s i k p).2.1, (oneR s i k p).2.2)) ∧ ((oneR s i k p).2.1 = 0 → grpR s (k :: ks) i p acc = grpR s ks (i + 1) (oneR s i k p).2.2 (acc ++ [(oneR s i k p).1])) := by
  rw [grpR_cons s k ks i p acc _ rfl]
  unfold oneR
  by_cases h : k = 103 ∧ (if 0 < i then p + gapN (s.drop p) else p) = p
  · rw [if_pos h, if_pos h]
    exact ⟨fun _ => rfl, fun h2 => by simp only at h2; omega⟩
  · rw [if_neg h, if_neg h]
    exact ⟨fun h2 => if_pos h2, fun h2 => if_neg (by omega)⟩
theorem oneR_bd (s : List UInt8) (i : Nat) (k : UInt8) (p : Nat) (hp : p ≤ s.length) (hl : s.length ≤ 400) : p ≤ (oneR s i k p).2.2 ∧ (oneR s i k p).2.2 ≤ s.length := by
  have hg := gap_in s p hp
  unfold oneR
  obtain ⟨p1, hp1⟩ : ∃ p1, p1 = if 0 < i then p + gapN (s.drop p) else p := ⟨_, rfl⟩
  rw [← hp1]
  have hb : p ≤ p1 ∧ p1 ≤ s.length := by rw [hp1]; split <;> omega
  have := argR_bd s k p1 hb.2 hl
  by_cases h : k = 103 ∧ p1 = p
  · rw [if_pos h]; exact ⟨Nat.le_refl _, hp⟩
  · rw [if_neg h]; omega
theorem gap_comma {s : List UInt8} {k : Nat} (h : isC (s.drop k) = true) : gapN (s.drop k) = 1 + blk (s.drop (k + 1)) := by
  have hb : blk (s.drop k) = 0 := by
    have hk := isC_lt h
    obtain ⟨b, hb⟩ : ∃ b, s[k]? = some b := ⟨_, List.getElem?_eq_getElem hk⟩
    rw [isC_some hb] at h
    refine blk_stop ?_
    rw [isB_some hb]
    exact Bool.eq_false_iff.2 (fun h2 => by have := (blankN_iff _).1 h2; have h3 : (b.toNat : Int) = 44 := by simpa using h
                                            omega)
  unfold gapN
  rw [hb, List.drop_zero, if_pos h, List.drop_drop]
end Go.Proofs.YteicdddheaajlaaDoor
namespace Go.Proofs.YteicdddheaajlaaDoor
open Go.Abs
set_option maxRecDepth 20000 in
set_option maxHeartbeats 4000000 in
theorem c_rparse6 (s : List UInt8) (hl : s.length ≤ 400) (G : List (UInt8 × List Int)) (e : Int) (q : Nat) (hG : pathR s = (G, e, q)) :
    ACalls seat 19 [.str s] [] (fun x _ => ∃ v, x = .ret v ∧ Weak v (.agg [cmdV G, .int .i64 (if e = 0 then -1 else (q : Nat)), .int .i64 e])) := by
  unfold pathR at hG
  refine ACalls.bodyS seat_ok Tryd.func19 rfl rfl ?_
  have cb0 : ACalls seat 31 [.str s, .int .i64 0] [] (fun x _ => x = .ret (.int .i64 (blk s : Nat))) := by
    have := c_rblanks s 0 (by omega) (by omega)
    rw [Nat.zero_add, List.drop_zero] at this; exact this
  have hin0 := blk_in s 0 (by omega)
  rw [Nat.zero_add, List.drop_zero] at hin0
  have g0 : ¬ ((s.length : Int) > 65536) := by omega
  refine Sat.splitAt seat_ok (fun t h => t = (.str s::uu::.ptr 0 0::.nils::.int .i64 (blk s : Nat)::uu::uu::uu::uu::uu::uu::uu::uu::uu::uu::uu::uu::uu::uu::uu::uu::uu::uu::uu::uu::uu::uu::uu::uu::uu::uu::uu::uu::uu::uu::uu::uu::uu::uu::uu::uu::uu::uu::uu::uu::uu::uu::uu::uu::uu::uu::uu::uu::uu::uu::uu::uu::uu::uu::uu::uu::uu::uu::uu::uu::uu::uu::uu::uu::uu::uu::uu::uu::uu::uu::uu::uu::uu::uu::uu::uu::uu::uu::uu::uu::uu::uu::uu::uu::uu::uu::uu::uu::uu::uu::uu::uu::uu::uu::uu::uu::uu::uu::uu::uu::uu::uu::uu::uu::uu::uu::uu::uu::uu::uu::uu::uu::uu::uu::uu::[]) ∧ h = [.var [.nils, .int .i64 0, .int .i64 0] 54]) 4 ?_ ?_
  · conv => whnf
    repeat' (first | exact ⟨_, keepT_weak (maskOf 120 [0, 2, 3, 4]) _, rfl, rfl⟩ | (refine lf seat_g cb0 ?_; conv => whnf) | ((first | refine zs (by omega) ?_ | refine zq6 ?_ | refine zs (by dsimp only; omega) ?_ | refine zs (show pendP _ _ by repeat' constructor) ?_ | (with_reducible first | refine brT ‹_› ?_ | refine brF ‹_› ?_ | refine zt (by omega) ?_ | refine zf (by omega) ?_ | refine brNot ?_)); conv => whnf))
  rintro _ _ ⟨rfl, rfl⟩
  refine Sat.nilTok 3 37 2 rfl ?_
  refine codeR_sound seat_ok _ _ _ _ ?_
  conv => whnf
  refine Sat.cut (fun x t h => (x = .ret ∧ e ≠ 0 ∧ t = (uu::uu::.ptr 0 0::uu::uu::uu::uu::uu::uu::uu::uu::uu::uu::uu::uu::uu::uu::uu::uu::uu::uu::uu::uu::uu::uu::uu::uu::uu::uu::uu::uu::uu::uu::uu::uu::uu::uu::uu::uu::uu::uu::uu::uu::uu::uu::uu::uu::uu::uu::uu::uu::uu::uu::uu::uu::uu::uu::uu::uu::uu::uu::uu::uu::uu::uu::uu::uu::uu::uu::uu::uu::uu::uu::uu::uu::uu::uu::uu::uu::uu::uu::uu::uu::uu::uu::uu::uu::uu::uu::uu::uu::uu::uu::uu::uu::uu::uu::uu::uu::uu::uu::uu::uu::uu::uu::uu::uu::uu::uu::uu::uu::uu::uu::uu::uu::uu::uu::uu::uu::uu::[]) ∧ ∃ r, h = .var [.vec (cs cmdC G) G.length (some 1), .int .i64 (q : Nat), .int .i64 e] 54 :: r) ∨ (x = .exit 0 ∧ e = 0 ∧ t = (uu::uu::.ptr 0 0::.vec (cs cmdC G) G.length (some 1)::uu::uu::uu::uu::uu::uu::uu::uu::uu::uu::uu::uu::uu::uu::uu::uu::uu::uu::uu::uu::uu::uu::uu::uu::uu::uu::uu::uu::uu::uu::uu::uu::uu::uu::uu::uu::uu::uu::uu::uu::uu::uu::uu::uu::uu::uu::uu::uu::uu::uu::uu::uu::uu::uu::uu::uu::uu::uu::uu::uu::uu::uu::uu::uu::uu::uu::uu::uu::uu::uu::uu::uu::uu::uu::uu::uu::uu::uu::uu::uu::uu::uu::uu::uu::uu::uu::uu::uu::uu::uu::uu::uu::uu::uu::uu::uu::uu::uu::uu::uu::uu::uu::uu::uu::uu::uu::uu::uu::uu::uu::uu::uu::uu::uu::uu::uu::[]) ∧ ∃ r, h = .var [.nils, .int .i64 0, .int .i64 0] 54 :: .tok G.length 37 2 :: r)) ?_ ?_
  · refine Sat.invP seat_ok seat_g (maskOf 120 [0, 2, 3, 4]) 2 (fun μ t h => ∃ (fuel : Nat) (first : Bool) (p : Nat) (L : List (UInt8 × List Int)), p ≤ s.length ∧ s.length < p + fuel ∧ L.length ≤ p ∧ (first = true ↔ L.length = 0) ∧ Fin6 G e q L (walkR s fuel first p) ∧ μ = s.length - p ∧
        t = (.str s::uu::.ptr 0 0::.vec (cs cmdC L) L.length (some 1)::.int .i64 (p : Nat)::uu::uu::uu::uu::uu::uu::uu::uu::uu::uu::uu::uu::uu::uu::uu::uu::uu::uu::uu::uu::uu::uu::uu::uu::uu::uu::uu::uu::uu::uu::uu::uu::uu::uu::uu::uu::uu::uu::uu::uu::uu::uu::uu::uu::uu::uu::uu::uu::uu::uu::uu::uu::uu::uu::uu::uu::uu::uu::uu::uu::uu::uu::uu::uu::uu::uu::uu::uu::uu::uu::uu::uu::uu::uu::uu::uu::uu::uu::uu::uu::uu::uu::uu::uu::uu::uu::uu::uu::uu::uu::uu::uu::uu::uu::uu::uu::uu::uu::uu::uu::uu::uu::uu::uu::uu::uu::uu::uu::uu::uu::uu::uu::uu::uu::uu::[]) ∧ h = .var [.nils, .int .i64 0, .int .i64 0] 54 :: .tok L.length 37 2 :: [])
      ?_ ⟨_, _, WeakL.of_eq rfl, s.length + 1, true, blk s, [], hin0, by omega, by simp, by simp, ⟨by have := congrArg (·.1) hG; simpa using this, congrArg (·.2.1) hG, fun _ => congrArg (·.2.2) hG⟩, rfl, rfl, rfl⟩ ?_
    · rintro _ _ _ ⟨fuel, first, p, L, -, -, -, -, -, -, rfl, rfl⟩
      exact ⟨rfl, by simp [IdsL, Ids, cmd_ids], by simp [IdsH, IdsC, IdsL, Ids]⟩
    rintro _ _ _ ⟨fuel, first, p, L, hp, hfu, hLp, hfi, hF, rfl, rfl, rfl⟩
    obtain ⟨n, rfl⟩ : ∃ n, fuel = n + 1 := ⟨fuel - 1, by omega⟩
    by_cases g : p < s.length
    · obtain ⟨c, hc⟩ : ∃ c, s[p]? = some c := ⟨_, List.getElem?_eq_getElem g⟩
      have eb : (s[(p : Int).toNat]?) = some c := hc
      have gp : (p : Int) < s.length := by omega
      have cc := c_rcount c.toNat
      have c2 : ACalls seat 31 [.str s, .int .i64 ((p : Int) + 1)] [] (fun x _ => x = .ret (.int .i64 ((p + 1 + blk (s.drop (p + 1)) : Nat)))) := by
        have := c_rblanks s (p + 1) (by omega) (by omega)
        rw [show ((p + 1 : Nat) : Int) = (p : Int) + 1 by omega] at this; exact this
      have hin := blk_in s (p + 1) (by omega)
      cases hx : ofN c.toNat with
      | none =>
        obtain ⟨rfl, rfl, rfl⟩ := hF.bad hc (.inl hx)
        rw [cntR_none hx] at cc
        clear hF hG
        conv => whnf
        repeat' (first | exact ⟨_, keepT_weak (maskOf 120 [2]) _, .inl ⟨rfl, by decide, rfl, _, rfl⟩⟩ | (refine ldI _ eb ?_; conv => whnf) | (refine lf seat_g cc ?_; conv => whnf) | (refine Req.mk (by decide) ?_; conv => whnf) | ((first | refine zs (by omega) ?_ | refine zq6 ?_ | refine zs (by dsimp only; omega) ?_ | refine zs (show pendP _ _ by repeat' constructor) ?_ | (with_reducible first | refine brT ‹_› ?_ | refine brF ‹_› ?_ | refine zt (by omega) ?_ | refine zf (by omega) ?_ | refine brNot ?_)); conv => whnf))
      | some x =>
        rw [cntR_some hx] at cc
        obtain ⟨hk, hal, hh, hx8⟩ := sign_ok hx
        obtain ⟨hkind, hsgn⟩ := letter_kind hx
        have hcap := (ofN_mem hx).2
        obtain ⟨a1, args⟩ := x
        simp only at hk hal hh hkind hsgn hcap cc
        have hn0 : ¬ ((args.length : Int) < 0) := by omega
        by_cases hf : first = true ∧ a1 ≠ 77
        · obtain ⟨rfl, rfl, rfl⟩ := hF.bad hc (.inr ⟨_, hx, hf⟩)
          have hL0 : (G.length : Int) = 0 := by have := hfi.1 hf.1; omega
          have hnm : (c.toNat : Int) ≠ 77 ∧ (c.toNat : Int) ≠ 109 := by
            have h2 := hf.2
            rw [hcap] at h2
            unfold capN at h2
            constructor
            · intro h; rw [h] at h2; exact h2 (by decide)
            · intro h; rw [h] at h2; exact h2 (by decide)
          obtain ⟨hn1, hn2⟩ := hnm
          clear hF hG hkind hsgn
          conv => whnf
          repeat' (first | exact ⟨_, keepT_weak (maskOf 120 [2]) _, .inl ⟨rfl, by decide, rfl, _, rfl⟩⟩ | (refine ldI _ eb ?_; conv => whnf) | (refine lf seat_g cc ?_; conv => whnf) | (refine Req.mk (by decide) ?_; conv => whnf) | ((first | refine zs (by omega) ?_ | refine zq6 ?_ | refine zs (by dsimp only; omega) ?_ | refine zs (show pendP _ _ by repeat' constructor) ?_ | (with_reducible first | refine brT ‹_› ?_ | refine brF ‹_› ?_ | refine zt (by omega) ?_ | refine zf (by omega) ?_ | refine brNot ?_)); conv => whnf))
        · have hcs : (L.length : Int) ≠ 0 ∨ ((L.length : Int) = 0 ∧ (c.toNat : Int) = 77) ∨ ((L.length : Int) = 0 ∧ (c.toNat : Int) ≠ 77 ∧ (c.toNat : Int) = 109) := by
            by_cases h0 : L.length = 0
            · have h77 : a1 = 77 := Classical.byContradiction fun h => hf ⟨hfi.2 h0, h⟩
              rw [hcap] at h77
              unfold capN at h77
              split at h77 <;> omega
            · exact .inl (by omega)
          have hcl := cmd_length L
          have hll : ∀ v, (L ++ [(c, v)]).length = L.length + 1 := fun v => by simp
          obtain ⟨p1, hp1⟩ : ∃ p1, p1 = p + 1 + blk (s.drop (p + 1)) := ⟨_, rfl⟩
          rw [← hp1] at c2 hin
          have hpp : p < p1 := by omega
          by_cases ha : args = []
          · have hF2 := hF.alone hc hx hf ha
            rw [← hp1] at hF2
            subst ha
            have hwk : Weak (.vec (cs cmdC L ++ [.int .u8 c.toNat, .nils]) (L.length + 1) (some 1)) (.vec (cs cmdC (L ++ [(c, [])])) (L ++ [(c, [])]).length (some 1)) := by
              rw [cmd_snoc, hll]
              exact Weak.vec (WeakL.app (WeakL.refl _) (WeakL.cons (Weak.refl _) (WeakL.cons Weak.nils (WeakL.refl _))))
            have hfi2 : (false = true ↔ (L ++ [(c, ([] : List Int))]).length = 0) := by rw [hll]; simp
            clear hF hG hkind hsgn
            rcases hcs with h1 | ⟨h1, h2⟩ | ⟨h1, h2, h3⟩
            all_goals
              conv => whnf
              repeat' (first | exact ⟨_, _, show s.length - p1 < s.length - p by omega, WeakL.set (l := (.str s::uu::.ptr 0 0::uu::.int .i64 (p1 : Nat)::uu::uu::uu::uu::uu::uu::uu::uu::uu::uu::uu::uu::uu::uu::uu::uu::uu::uu::uu::uu::uu::uu::uu::uu::uu::uu::uu::uu::uu::uu::uu::uu::uu::uu::uu::uu::uu::uu::uu::uu::uu::uu::uu::uu::uu::uu::uu::uu::uu::uu::uu::uu::uu::uu::uu::uu::uu::uu::uu::uu::uu::uu::uu::uu::uu::uu::uu::uu::uu::uu::uu::uu::uu::uu::uu::uu::uu::uu::uu::uu::uu::uu::uu::uu::uu::uu::uu::uu::uu::uu::uu::uu::uu::uu::uu::uu::uu::uu::uu::uu::uu::uu::uu::uu::uu::uu::uu::uu::uu::uu::uu::uu::uu::uu::uu::[])) 3 hwk, n, false, p1, L ++ [(c, [])], hin, by omega, by rw [hll]; omega, hfi2, hF2, rfl, rfl, by rw [hll]; rfl⟩ | (refine ldI _ eb ?_; conv => whnf) | (refine lf seat_g cc ?_; conv => whnf) | (refine lf seat_g c2 ?_; conv => whnf) | (refine Req.mk ⟨rfl, rfl, rfl, hcl, rfl, by simp [okCell, lv, ofCell], by dsimp only; omega, by omega, by decide⟩ ?_; conv => whnf) | (refine Req.mk (by decide) ?_; conv => whnf) | ((first | refine zs (by omega) ?_ | refine zq6 ?_ | refine zs (by dsimp only; omega) ?_ | refine zs (show pendP _ _ by repeat' constructor) ?_ | (with_reducible first | refine brT ‹_› ?_ | refine brF ‹_› ?_ | refine zt (by omega) ?_ | refine zf (by omega) ?_ | refine brNot ?_)); conv => whnf))
          · have hF2 := hF.runs hc hx hf ha
            rw [← hp1] at hF2
            have hsg := hsgn ha
            obtain ⟨ar, har0⟩ : ∃ ar, isArc c.toNat = ar := ⟨_, rfl⟩
            rw [har0] at hkind hsg
            clear hF hG hsgn hll hcl
            have hna : ¬ ((args.length : Int) = 0) := by
              have := List.length_pos_iff.2 ha; omega
            rcases hcs with h1 | ⟨h1, h2⟩ | ⟨h1, h2, h3⟩
            all_goals
              conv => whnf
              repeat' (first | (refine ldI _ eb ?_; conv => whnf) | (refine lf seat_g cc ?_; conv => whnf) | (refine lf seat_g c2 ?_; conv => whnf) | (refine Req.mk (by decide) ?_; conv => whnf) | ((first | refine zs (by omega) ?_ | refine zq6 ?_ | refine zs (by dsimp only; omega) ?_ | refine zs (show pendP _ _ by repeat' constructor) ?_ | (with_reducible first | refine brT ‹_› ?_ | refine brF ‹_› ?_ | refine zt (by omega) ?_ | refine zf (by omega) ?_ | refine brNot ?_)); conv => whnf))
            all_goals
              refine Sat.cut (fun x t h => (x = .ret ∧ e ≠ 0 ∧ t = (uu::uu::.ptr 0 0::uu::uu::uu::uu::uu::uu::uu::uu::uu::uu::uu::uu::uu::uu::uu::uu::uu::uu::uu::uu::uu::uu::uu::uu::uu::uu::uu::uu::uu::uu::uu::uu::uu::uu::uu::uu::uu::uu::uu::uu::uu::uu::uu::uu::uu::uu::uu::uu::uu::uu::uu::uu::uu::uu::uu::uu::uu::uu::uu::uu::uu::uu::uu::uu::uu::uu::uu::uu::uu::uu::uu::uu::uu::uu::uu::uu::uu::uu::uu::uu::uu::uu::uu::uu::uu::uu::uu::uu::uu::uu::uu::uu::uu::uu::uu::uu::uu::uu::uu::uu::uu::uu::uu::uu::uu::uu::uu::uu::uu::uu::uu::uu::uu::uu::uu::uu::uu::[]) ∧ ∃ r, h = .var [.vec (cs cmdC G) G.length (some 1), .int .i64 (q : Nat), .int .i64 e] 54 :: r) ∨ (x = .exit 2 ∧ ∃ (p3 : Nat) (L3 : List (UInt8 × List Int)), p < p3 ∧ p3 ≤ s.length ∧ (L3.length ≤ p3 ∧ 0 < L3.length) ∧ Fin6 G e q L3 (walkR s n false p3) ∧ t = (.str s::uu::.ptr 0 0::.vec (cs cmdC L3) L3.length (some 1)::.int .i64 (p3 : Nat)::uu::uu::uu::uu::uu::uu::uu::uu::uu::uu::uu::uu::uu::uu::uu::uu::uu::uu::uu::uu::uu::uu::uu::uu::uu::uu::uu::uu::uu::uu::uu::uu::uu::uu::uu::uu::uu::uu::uu::uu::uu::uu::uu::uu::uu::uu::uu::uu::uu::uu::uu::uu::uu::uu::uu::uu::uu::uu::uu::uu::uu::uu::uu::uu::uu::uu::uu::uu::uu::uu::uu::uu::uu::uu::uu::uu::uu::uu::uu::uu::uu::uu::uu::uu::uu::uu::uu::uu::uu::uu::uu::uu::uu::uu::uu::uu::uu::uu::uu::uu::uu::uu::uu::uu::uu::uu::uu::uu::uu::uu::uu::uu::uu::uu::uu::[]) ∧ h = .var [.nils, .int .i64 0, .int .i64 0] 54 :: .tok L3.length 37 2 :: [])) ?_ ?_
              · refine Sat.invP seat_ok seat_g (maskOf 120 [0, 2, 3, 4, 5, 6, 7]) 2 (fun μ t h => ∃ (m : Nat) (d : UInt8) (p2 : Nat) (L2 : List (UInt8 × List Int)) (ag : Bool), p < p2 ∧ p2 ≤ s.length ∧ s.length < p2 + m + (if ag = true then 0 else 1) ∧ (L2.length ≤ p2 ∧ (ag = false → 0 < L2.length)) ∧ ((if ag = true then FinG G e q L2 s n (runR s args m d p2) else Fin6 G e q L2 (walkR s n false p2)) ∧ isArc d.toNat = ar) ∧ μ = 2 * (s.length - p2) + (if ag = true then 1 else 0) ∧ t = (.str s::uu::.ptr 0 0::.vec (cs cmdC L2) L2.length (some 1)::.int .i64 (p2 : Nat)::.int .u8 d.toNat::.int .i64 args.length::.bool ag::uu::uu::uu::uu::uu::uu::uu::uu::uu::uu::uu::uu::uu::uu::uu::uu::uu::uu::uu::uu::uu::uu::uu::uu::uu::uu::uu::uu::uu::uu::uu::uu::uu::uu::uu::uu::uu::uu::uu::uu::uu::uu::uu::uu::uu::uu::uu::uu::uu::uu::uu::uu::uu::uu::uu::uu::uu::uu::uu::uu::uu::uu::uu::uu::uu::uu::uu::uu::uu::uu::uu::uu::uu::uu::uu::uu::uu::uu::uu::uu::uu::uu::uu::uu::uu::uu::uu::uu::uu::uu::uu::uu::uu::uu::uu::uu::uu::uu::uu::uu::uu::uu::uu::uu::uu::uu::uu::uu::uu::uu::uu::uu::[]) ∧ h = .var [.nils, .int .i64 0, .int .i64 0] 54 :: .tok L2.length 37 2 :: [])
                  ?_ ⟨_, _, WeakL.of_eq rfl, s.length + 1, c, p1, L, true, hpp, hin, by simp only [if_true]; omega, ⟨by omega, fun h => by cases h⟩, ⟨hF2, har0⟩, rfl, rfl, rfl⟩ ?_
                · rintro _ _ _ ⟨m, d, p2, L2, ag, -, -, -, -, -, -, rfl, rfl⟩
                  exact ⟨rfl, by simp [IdsL, Ids, cmd_ids], by simp [IdsH, IdsC, IdsL, Ids]⟩
                rintro _ _ _ ⟨m, d, p2, L2, ag, hpp2, hp2, hm2, hL2, ⟨hR, har⟩, rfl, rfl, rfl⟩
                clear cc c2 hF2 hcap
                cases ag with
                | false =>
                  have hR : Fin6 G e q L2 (walkR s n false p2) := hR
                  have hL3 := hL2.2 rfl
                  conv => whnf
                  exact ⟨_, keepT_weak (maskOf 120 [0, 2, 3, 4]) _, .inr ⟨rfl, p2, L2, hpp2, hp2, ⟨hL2.1, hL3⟩, hR, rfl, rfl⟩⟩
                | true =>
                  have hR : FinG G e q L2 s n (runR s args m d p2) := hR
                  have hL3 := hL2.1
                  simp only [if_true] at hm2
                  obtain ⟨m, rfl⟩ : ∃ i, m = i + 1 := ⟨m - 1, by omega⟩
                  have herr := hR.err
                  have hlast := hR.last
                  have hmore := hR.more
                  have hqb := grpR_bd s hl args 0 p2 [] hp2
                  have hqb := And.intro hqb.1 (hqb.2 ha)
                  rw [hsg] at hlast hmore
                  obtain ⟨R, hRR⟩ : ∃ R, grpR s args 0 p2 [] = R := ⟨_, rfl⟩
                  rw [hRR] at herr hlast hmore hqb
                  clear hR
                  conv => whnf
                  refine Sat.nilTokH 2 1 2 1 rfl rfl ?_
                  refine Sat.cutV 2 (fun x t h => (x = .ret ∧ e ≠ 0 ∧ t = (uu::uu::.ptr 0 0::uu::uu::uu::uu::uu::uu::uu::uu::uu::uu::uu::uu::uu::uu::uu::uu::uu::uu::uu::uu::uu::uu::uu::uu::uu::uu::uu::uu::uu::uu::uu::uu::uu::uu::uu::uu::uu::uu::uu::uu::uu::uu::uu::uu::uu::uu::uu::uu::uu::uu::uu::uu::uu::uu::uu::uu::uu::uu::uu::uu::uu::uu::uu::uu::uu::uu::uu::uu::uu::uu::uu::uu::uu::uu::uu::uu::uu::uu::uu::uu::uu::uu::uu::uu::uu::uu::uu::uu::uu::uu::uu::uu::uu::uu::uu::uu::uu::uu::uu::uu::uu::uu::uu::uu::uu::uu::uu::uu::uu::uu::uu::uu::uu::uu::uu::uu::uu::[]) ∧ ∃ r, h = .var [.vec (cs cmdC G) G.length (some 1), .int .i64 (q : Nat), .int .i64 e] 54 :: r) ∨ (x = .exit 4 ∧ R.2.1 = 0 ∧ t = (.str s::uu::.ptr 0 0::.vec (cs cmdC L2) L2.length (some 1)::.int .i64 (R.2.2 : Nat)::.int .u8 d.toNat::.int .i64 args.length::uu::.ptr 2 0::uu::uu::uu::uu::uu::uu::uu::uu::uu::uu::uu::uu::uu::uu::uu::uu::uu::uu::uu::uu::uu::uu::uu::uu::uu::uu::uu::uu::uu::uu::uu::uu::uu::uu::uu::uu::uu::uu::uu::uu::uu::uu::uu::uu::uu::uu::uu::uu::uu::uu::uu::uu::uu::uu::uu::uu::uu::uu::uu::uu::uu::uu::uu::uu::uu::uu::uu::uu::uu::uu::uu::uu::uu::uu::uu::uu::uu::uu::uu::uu::uu::uu::uu::uu::uu::uu::uu::uu::uu::uu::uu::uu::uu::uu::uu::uu::uu::uu::uu::uu::uu::uu::uu::uu::uu::uu::uu::uu::uu::uu::uu::[]) ∧ h = .var [.nils, .int .i64 0, .int .i64 0] 54 :: .tok L2.length 37 2 :: .var [.int .u8 d.toNat, lv R.1] 37 :: .tok R.1.length 2 1 :: [])) ?_ ?_
                  · refine Sat.invP seat_ok seat_g (maskOf 120 [0, 2, 3, 4, 5, 6, 8, 9]) 4 (fun μ t h => ∃ (kk p3 : Nat) (zk : Int) (acc : List Int), zk = kk ∧ kk ≤ args.length ∧ p3 ≤ s.length ∧ acc.length = kk ∧ grpR s (args.drop kk) kk p3 acc = R ∧ μ = args.length - kk ∧ t = (.str s::uu::.ptr 0 0::.vec (cs cmdC L2) L2.length (some 1)::.int .i64 (p3 : Nat)::.int .u8 d.toNat::.int .i64 args.length::uu::.ptr 2 0::.int .i64 zk::uu::uu::uu::uu::uu::uu::uu::uu::uu::uu::uu::uu::uu::uu::uu::uu::uu::uu::uu::uu::uu::uu::uu::uu::uu::uu::uu::uu::uu::uu::uu::uu::uu::uu::uu::uu::uu::uu::uu::uu::uu::uu::uu::uu::uu::uu::uu::uu::uu::uu::uu::uu::uu::uu::uu::uu::uu::uu::uu::uu::uu::uu::uu::uu::uu::uu::uu::uu::uu::uu::uu::uu::uu::uu::uu::uu::uu::uu::uu::uu::uu::uu::uu::uu::uu::uu::uu::uu::uu::uu::uu::uu::uu::uu::uu::uu::uu::uu::uu::uu::uu::uu::uu::uu::uu::uu::uu::uu::uu::uu::[]) ∧ h = .var [.nils, .int .i64 0, .int .i64 0] 54 :: .tok L2.length 37 2 :: .var [.int .u8 d.toNat, .vec (ci .i64 acc) acc.length (some 3)] 37 :: .tok acc.length 2 1 :: [])
                      ?_ ⟨_, _, WeakL.of_eq rfl, 0, p2, 0, [], rfl, by omega, hp2, rfl, by rw [List.drop_zero]; exact hRR, rfl, rfl, rfl⟩ ?_
                    · rintro _ _ _ ⟨kk, p3, zk, acc, -, -, -, -, -, -, rfl, rfl⟩
                      exact ⟨rfl, by simp [IdsL, Ids, cmd_ids], by simp [IdsH, IdsC, IdsL, Ids, ci_ids]⟩
                    rintro _ _ _ ⟨kk, p3, zk, acc, hzk, hkk, hp3, hal2, hGR, rfl, rfl, rfl⟩
                    by_cases gk : kk < args.length
                    · obtain ⟨kd, hkd⟩ : ∃ kd, args[kk]? = some kd := ⟨_, List.getElem?_eq_getElem gk⟩
                      have co := c_one s d.toNat kk p3 kd hp3 hl (hkind kk kd d.toNat hkd har)
                      have hob := oneR_bd s kk kd p3 hp3 hl
                      rw [drop_cons' hkd] at hGR
                      have ho := grp_one s kd (args.drop (kk + 1)) kk p3 acc
                      obtain ⟨⟨v, e', q'⟩, hO⟩ : ∃ r, oneR s kk kd p3 = r := ⟨_, rfl⟩
                      rw [hO] at co hob ho
                      simp only at co hob ho
                      have gz : zk < args.length := by omega
                      rw [← hzk] at co
                      have hcl3 : (ci .i64 acc).length = acc.length * 1 := by rw [ci_length]; omega
                      have hcp : ∀ v, ci .i64 (acc ++ [v]) = ci .i64 acc ++ [.int .i64 v] := fun v => by simp [ci]
                      have hll3 : ∀ v : Int, (acc ++ [v]).length = acc.length + 1 := fun v => by simp
                      unfold gotV at co
                      by_cases he' : e' = 0
                      · subst he'
                        rw [ho.2 rfl] at hGR
                        clear ho herr hmore hlast
                        conv => whnf
                        repeat' (first | exact ⟨_, _, show args.length - (kk + 1) < args.length - kk by omega, WeakL.of_eq rfl, kk + 1, q', zk + 1, acc ++ [v], by omega, by omega, by omega, by rw [hll3]; omega, hGR, rfl, rfl, by rw [hcp, hll3]; rfl⟩ | (refine lf seat_g co ?_; conv => whnf) | (refine Req.mk ⟨rfl, rfl, rfl, hcl3, rfl, by simp [okCell, lv, ofCell], by dsimp only; omega, by omega, by decide⟩ ?_; conv => whnf) | (refine Req.mk (by decide) ?_; conv => whnf) | ((first | refine zs (by omega) ?_ | refine zq6 ?_ | refine zs (by dsimp only; omega) ?_ | refine zs (show pendP _ _ by repeat' constructor) ?_ | (with_reducible first | refine brT ‹_› ?_ | refine brF ‹_› ?_ | refine zt (by omega) ?_ | refine zf (by omega) ?_ | refine brNot ?_)); conv => whnf))
                      · rw [ho.1 he'] at hGR
                        rw [← hGR] at herr
                        obtain ⟨rfl, rfl, rfl⟩ := herr he'
                        clear ho hmore hlast hGR
                        conv => whnf
                        repeat' (first | exact ⟨_, _, _, _, keepT_weak (maskOf 120 [2]) _, rfl, WeakL.refl _, .inl ⟨rfl, he', rfl, _, rfl⟩⟩ | (refine lf seat_g co ?_; conv => whnf) | (refine Req.mk (by decide) ?_; conv => whnf) | ((first | refine zs (by omega) ?_ | refine zq6 ?_ | refine zs (by dsimp only; omega) ?_ | refine zs (show pendP _ _ by repeat' constructor) ?_ | (with_reducible first | refine brT ‹_› ?_ | refine brF ‹_› ?_ | refine zt (by omega) ?_ | refine zf (by omega) ?_ | refine brNot ?_)); conv => whnf))
                    · obtain rfl : kk = args.length := by omega
                      rw [List.drop_length] at hGR
                      have hGR : (acc, 0, p3) = R := hGR
                      subst hGR
                      have gz : ¬ (zk < args.length) := by omega
                      clear herr hmore hlast
                      conv => whnf
                      repeat' (first | exact ⟨_, _, _, _, keepT_weak (maskOf 120 [0, 2, 3, 4, 5, 6, 8]) _, rfl, WeakL.cons (Weak.refl _) (WeakL.cons Weak.tok (WeakL.refl _)), .inr ⟨rfl, rfl, rfl, rfl⟩⟩ | ((first | refine zs (by omega) ?_ | refine zq6 ?_ | refine zs (by dsimp only; omega) ?_ | refine zs (show pendP _ _ by repeat' constructor) ?_ | (with_reducible first | refine brT ‹_› ?_ | refine brF ‹_› ?_ | refine zt (by omega) ?_ | refine zf (by omega) ?_ | refine brNot ?_)); conv => whnf))
                  · rintro _ _ _ (⟨rfl, h1, rfl, r, rfl⟩ | ⟨rfl, h1, rfl, rfl⟩)
                    · conv => whnf
                      exact ⟨_, keepT_weak (maskOf 120 [2]) _, .inl ⟨rfl, h1, rfl, _, rfl⟩⟩
                    · obtain ⟨vals, e', q2⟩ := R
                      simp only at h1 hqb hlast hmore
                      subst h1
                      have hlast := hlast rfl
                      have hmore := hmore rfl
                      have hq2 := hqb.2 rfl
                      have hqb := hqb.1
                      have hcl2 := cmd_length L2
                      have hll2 : ∀ v, (L2 ++ [(d, v)]).length = L2.length + 1 := fun v => by simp
                      have cb1 := c_rblanks s q2 (by omega) (by omega)
                      have hbin := blk_in s q2 hqb.2
                      have ca1 := c_rarc d.toNat
                      rw [har] at ca1
                      obtain ⟨k1, hk1⟩ : ∃ k1, k1 = q2 + blk (s.drop q2) := ⟨_, rfl⟩
                      have hk1q : q2 ≤ k1 := by omega
                      rw [← hk1] at cb1 hbin
                      have cs1 := c_starts s k1 (!ar) (by omega)
                      have har2 : isArc (nextC d).toNat = ar := by
                        unfold nextC
                        split
                        · rename_i h; rw [← har, h]; rfl
                        · split
                          · rename_i h; rw [← har, h]; rfl
                          · exact har
                      by_cases hc44 : isC (s.drop k1) = true
                      · have hk1l := isC_lt hc44
                        obtain ⟨b, hb⟩ : ∃ b, s[k1]? = some b := ⟨_, List.getElem?_eq_getElem hk1l⟩
                        have eb1 : (s[(k1 : Int).toNat]?) = some b := hb
                        have h44 : (b.toNat : Int) = 44 := by rw [isC_some hb] at hc44; simpa using hc44
                        have cg1 := c_rgap s k1 (by omega) hbin
                        have hgc := gap_comma hc44
                        obtain ⟨p4, hp4⟩ : ∃ p4, p4 = k1 + gapN (s.drop k1) := ⟨_, rfl⟩
                        have hin4 := gap_in s k1 hbin
                        rw [← hp4] at cg1 hin4
                        have hM : moreR s (!ar) q2 = (true, p4) := by
                          unfold moreR
                          rw [← hk1, if_pos hc44, hp4, hgc, Nat.add_assoc]
                        rw [hM] at hmore
                        have hfin := hmore rfl
                        have gk1 : (k1 : Int) < s.length := by omega
                        have hμ : 2 * (s.length - p4) + 1 < 2 * (s.length - p2) + 1 := by omega
                        have hms : s.length < p4 + m + 0 := by omega
                        clear hlast hmore hk1 hp4 hgc hM hRR herr
                        by_cases h77 : (d.toNat : Int) = 77
                        · have hd : d = 77 := UInt8.toNat_inj.1 (by show d.toNat = 77; omega)
                          have hnd : nextC d = 76 := by rw [hd]; rfl
                          rw [hnd] at hfin har2
                          clear hd hnd
                          conv => whnf
                          repeat' (first | exact ⟨_, _, hμ, WeakL.of_eq rfl, m, 76, p4, L2 ++ [(d, vals)], true, by omega, by omega, hms, ⟨by rw [hll2]; omega, fun _ => by rw [hll2]; omega⟩, ⟨hfin, har2⟩, rfl, by rw [hll2, cmd_snoc]; rfl, by rw [hll2]; rfl⟩ | (refine Req.mk ⟨rfl, rfl, rfl, hcl2, rfl, by simp [okCell, lv, ofCell], by dsimp only; omega, by omega, by decide⟩ ?_; conv => whnf) | (refine lf seat_g cb1 ?_; conv => whnf) | (refine lf seat_g ca1 ?_; conv => whnf) | (refine lf seat_g cs1 ?_; conv => whnf) | (refine ldI _ eb1 ?_; conv => whnf) | (refine lf seat_g cg1 ?_; conv => whnf) | (refine Req.mk (by decide) ?_; conv => whnf) | ((first | refine zs (by omega) ?_ | refine zq6 ?_ | refine zs (by dsimp only; omega) ?_ | refine zs (show pendP _ _ by repeat' constructor) ?_ | (with_reducible first | refine brT ‹_› ?_ | refine brF ‹_› ?_ | refine zt (by omega) ?_ | refine zf (by omega) ?_ | refine brNot ?_)); conv => whnf))
                        · by_cases h109 : (d.toNat : Int) = 109
                          · have hd : d = 109 := UInt8.toNat_inj.1 (by show d.toNat = 109; omega)
                            have hnd : nextC d = 108 := by rw [hd]; rfl
                            rw [hnd] at hfin har2
                            clear hd hnd
                            conv => whnf
                            repeat' (first | exact ⟨_, _, hμ, WeakL.of_eq rfl, m, 108, p4, L2 ++ [(d, vals)], true, by omega, by omega, hms, ⟨by rw [hll2]; omega, fun _ => by rw [hll2]; omega⟩, ⟨hfin, har2⟩, rfl, by rw [hll2, cmd_snoc]; rfl, by rw [hll2]; rfl⟩ | (refine Req.mk ⟨rfl, rfl, rfl, hcl2, rfl, by simp [okCell, lv, ofCell], by dsimp only; omega, by omega, by decide⟩ ?_; conv => whnf) | (refine lf seat_g cb1 ?_; conv => whnf) | (refine lf seat_g ca1 ?_; conv => whnf) | (refine lf seat_g cs1 ?_; conv => whnf) | (refine ldI _ eb1 ?_; conv => whnf) | (refine lf seat_g cg1 ?_; conv => whnf) | (refine Req.mk (by decide) ?_; conv => whnf) | ((first | refine zs (by omega) ?_ | refine zq6 ?_ | refine zs (by dsimp only; omega) ?_ | refine zs (show pendP _ _ by repeat' constructor) ?_ | (with_reducible first | refine brT ‹_› ?_ | refine brF ‹_› ?_ | refine zt (by omega) ?_ | refine zf (by omega) ?_ | refine brNot ?_)); conv => whnf))
                          · have hnd : nextC d = d := by
                              unfold nextC
                              rw [if_neg (fun h => h77 (by rw [h]; rfl)), if_neg (fun h => h109 (by rw [h]; rfl))]
                            rw [hnd] at hfin har2
                            clear hnd
                            conv => whnf
                            repeat' (first | exact ⟨_, _, hμ, WeakL.of_eq rfl, m, d, p4, L2 ++ [(d, vals)], true, by omega, by omega, hms, ⟨by rw [hll2]; omega, fun _ => by rw [hll2]; omega⟩, ⟨hfin, har2⟩, rfl, by rw [hll2, cmd_snoc]; rfl, by rw [hll2]; rfl⟩ | (refine Req.mk ⟨rfl, rfl, rfl, hcl2, rfl, by simp [okCell, lv, ofCell], by dsimp only; omega, by omega, by decide⟩ ?_; conv => whnf) | (refine lf seat_g cb1 ?_; conv => whnf) | (refine lf seat_g ca1 ?_; conv => whnf) | (refine lf seat_g cs1 ?_; conv => whnf) | (refine ldI _ eb1 ?_; conv => whnf) | (refine lf seat_g cg1 ?_; conv => whnf) | (refine Req.mk (by decide) ?_; conv => whnf) | ((first | refine zs (by omega) ?_ | refine zq6 ?_ | refine zs (by dsimp only; omega) ?_ | refine zs (show pendP _ _ by repeat' constructor) ?_ | (with_reducible first | refine brT ‹_› ?_ | refine brF ‹_› ?_ | refine zt (by omega) ?_ | refine zf (by omega) ?_ | refine brNot ?_)); conv => whnf))
                      · have hM : moreR s (!ar) q2 = (begR s k1 (!ar), k1) := by
                          unfold moreR
                          rw [← hk1, if_neg hc44]
                        rw [hM] at hmore hlast
                        simp only at hmore hlast
                        have hnc : ∀ b, s[k1]? = some b → (b.toNat : Int) ≠ 44 := fun b hb h => hc44 (by rw [isC_some hb]; simpa using h)
                        generalize hag : begR s k1 (!ar) = ag at *
                        have hfin : if ag = true then FinG G e q (L2 ++ [(d, vals)]) s n (runR s args m (nextC d) k1) else Fin6 G e q (L2 ++ [(d, vals)]) (walkR s n false k1) := by
                          cases ag with
                          | true => exact hmore rfl
                          | false => exact hlast rfl
                        clear hlast hmore hM hRR herr hc44 hag hk1
                        obtain ⟨p4, hp4⟩ : ∃ p4, p4 = k1 := ⟨_, rfl⟩
                        rw [← hp4] at hfin
                        have hμ : 2 * (s.length - p4) + (if ag = true then 1 else 0) < 2 * (s.length - p2) + 1 := by split <;> omega
                        have hms : s.length < p4 + m + (if ag = true then 0 else 1) := by split <;> omega
                        subst hp4
                        by_cases gk1 : (p4 : Int) < s.length
                        · obtain ⟨b, hb⟩ : ∃ b, s[p4]? = some b := ⟨_, List.getElem?_eq_getElem (by omega)⟩
                          have eb1 : (s[(p4 : Int).toNat]?) = some b := hb
                          have h44 := hnc b hb
                          by_cases h77 : (d.toNat : Int) = 77
                          · have hd : d = 77 := UInt8.toNat_inj.1 (by show d.toNat = 77; omega)
                            have hnd : nextC d = 76 := by rw [hd]; rfl
                            rw [hnd] at hfin har2
                            clear hd hnd
                            conv => whnf
                            repeat' (first | exact ⟨_, _, hμ, WeakL.of_eq rfl, m, 76, p4, L2 ++ [(d, vals)], ag, by omega, by omega, hms, ⟨by rw [hll2]; omega, fun _ => by rw [hll2]; omega⟩, ⟨hfin, har2⟩, rfl, by rw [hll2, cmd_snoc]; rfl, by rw [hll2]; rfl⟩ | (refine Req.mk ⟨rfl, rfl, rfl, hcl2, rfl, by simp [okCell, lv, ofCell], by dsimp only; omega, by omega, by decide⟩ ?_; conv => whnf) | (refine lf seat_g cb1 ?_; conv => whnf) | (refine lf seat_g ca1 ?_; conv => whnf) | (refine lf seat_g cs1 ?_; conv => whnf) | (refine ldI _ eb1 ?_; conv => whnf) | (refine Req.mk (by decide) ?_; conv => whnf) | ((first | refine zs (by omega) ?_ | refine zq6 ?_ | refine zs (by dsimp only; omega) ?_ | refine zs (show pendP _ _ by repeat' constructor) ?_ | (with_reducible first | refine brT ‹_› ?_ | refine brF ‹_› ?_ | refine zt (by omega) ?_ | refine zf (by omega) ?_ | refine brNot ?_)); conv => whnf))
                          · by_cases h109 : (d.toNat : Int) = 109
                            · have hd : d = 109 := UInt8.toNat_inj.1 (by show d.toNat = 109; omega)
                              have hnd : nextC d = 108 := by rw [hd]; rfl
                              rw [hnd] at hfin har2
                              clear hd hnd
                              conv => whnf
                              repeat' (first | exact ⟨_, _, hμ, WeakL.of_eq rfl, m, 108, p4, L2 ++ [(d, vals)], ag, by omega, by omega, hms, ⟨by rw [hll2]; omega, fun _ => by rw [hll2]; omega⟩, ⟨hfin, har2⟩, rfl, by rw [hll2, cmd_snoc]; rfl, by rw [hll2]; rfl⟩ | (refine Req.mk ⟨rfl, rfl, rfl, hcl2, rfl, by simp [okCell, lv, ofCell], by dsimp only; omega, by omega, by decide⟩ ?_; conv => whnf) | (refine lf seat_g cb1 ?_; conv => whnf) | (refine lf seat_g ca1 ?_; conv => whnf) | (refine lf seat_g cs1 ?_; conv => whnf) | (refine ldI _ eb1 ?_; conv => whnf) | (refine Req.mk (by decide) ?_; conv => whnf) | ((first | refine zs (by omega) ?_ | refine zq6 ?_ | refine zs (by dsimp only; omega) ?_ | refine zs (show pendP _ _ by repeat' constructor) ?_ | (with_reducible first | refine brT ‹_› ?_ | refine brF ‹_› ?_ | refine zt (by omega) ?_ | refine zf (by omega) ?_ | refine brNot ?_)); conv => whnf))
                            · have hnd : nextC d = d := by
                                unfold nextC
                                rw [if_neg (fun h => h77 (by rw [h]; rfl)), if_neg (fun h => h109 (by rw [h]; rfl))]
                              rw [hnd] at hfin har2
                              clear hnd
                              conv => whnf
                              repeat' (first | exact ⟨_, _, hμ, WeakL.of_eq rfl, m, d, p4, L2 ++ [(d, vals)], ag, by omega, by omega, hms, ⟨by rw [hll2]; omega, fun _ => by rw [hll2]; omega⟩, ⟨hfin, har2⟩, rfl, by rw [hll2, cmd_snoc]; rfl, by rw [hll2]; rfl⟩ | (refine Req.mk ⟨rfl, rfl, rfl, hcl2, rfl, by simp [okCell, lv, ofCell], by dsimp only; omega, by omega, by decide⟩ ?_; conv => whnf) | (refine lf seat_g cb1 ?_; conv => whnf) | (refine lf seat_g ca1 ?_; conv => whnf) | (refine lf seat_g cs1 ?_; conv => whnf) | (refine ldI _ eb1 ?_; conv => whnf) | (refine Req.mk (by decide) ?_; conv => whnf) | ((first | refine zs (by omega) ?_ | refine zq6 ?_ | refine zs (by dsimp only; omega) ?_ | refine zs (show pendP _ _ by repeat' constructor) ?_ | (with_reducible first | refine brT ‹_› ?_ | refine brF ‹_› ?_ | refine zt (by omega) ?_ | refine zf (by omega) ?_ | refine brNot ?_)); conv => whnf))
                        · by_cases h77 : (d.toNat : Int) = 77
                          · have hd : d = 77 := UInt8.toNat_inj.1 (by show d.toNat = 77; omega)
                            have hnd : nextC d = 76 := by rw [hd]; rfl
                            rw [hnd] at hfin har2
                            clear hd hnd
                            conv => whnf
                            repeat' (first | exact ⟨_, _, hμ, WeakL.of_eq rfl, m, 76, p4, L2 ++ [(d, vals)], ag, by omega, by omega, hms, ⟨by rw [hll2]; omega, fun _ => by rw [hll2]; omega⟩, ⟨hfin, har2⟩, rfl, by rw [hll2, cmd_snoc]; rfl, by rw [hll2]; rfl⟩ | (refine Req.mk ⟨rfl, rfl, rfl, hcl2, rfl, by simp [okCell, lv, ofCell], by dsimp only; omega, by omega, by decide⟩ ?_; conv => whnf) | (refine lf seat_g cb1 ?_; conv => whnf) | (refine lf seat_g ca1 ?_; conv => whnf) | (refine lf seat_g cs1 ?_; conv => whnf) | (refine Req.mk (by decide) ?_; conv => whnf) | ((first | refine zs (by omega) ?_ | refine zq6 ?_ | refine zs (by dsimp only; omega) ?_ | refine zs (show pendP _ _ by repeat' constructor) ?_ | (with_reducible first | refine brT ‹_› ?_ | refine brF ‹_› ?_ | refine zt (by omega) ?_ | refine zf (by omega) ?_ | refine brNot ?_)); conv => whnf))
                          · by_cases h109 : (d.toNat : Int) = 109
                            · have hd : d = 109 := UInt8.toNat_inj.1 (by show d.toNat = 109; omega)
                              have hnd : nextC d = 108 := by rw [hd]; rfl
                              rw [hnd] at hfin har2
                              clear hd hnd
                              conv => whnf
                              repeat' (first | exact ⟨_, _, hμ, WeakL.of_eq rfl, m, 108, p4, L2 ++ [(d, vals)], ag, by omega, by omega, hms, ⟨by rw [hll2]; omega, fun _ => by rw [hll2]; omega⟩, ⟨hfin, har2⟩, rfl, by rw [hll2, cmd_snoc]; rfl, by rw [hll2]; rfl⟩ | (refine Req.mk ⟨rfl, rfl, rfl, hcl2, rfl, by simp [okCell, lv, ofCell], by dsimp only; omega, by omega, by decide⟩ ?_; conv => whnf) | (refine lf seat_g cb1 ?_; conv => whnf) | (refine lf seat_g ca1 ?_; conv => whnf) | (refine lf seat_g cs1 ?_; conv => whnf) | (refine Req.mk (by decide) ?_; conv => whnf) | ((first | refine zs (by omega) ?_ | refine zq6 ?_ | refine zs (by dsimp only; omega) ?_ | refine zs (show pendP _ _ by repeat' constructor) ?_ | (with_reducible first | refine brT ‹_› ?_ | refine brF ‹_› ?_ | refine zt (by omega) ?_ | refine zf (by omega) ?_ | refine brNot ?_)); conv => whnf))
                            · have hnd : nextC d = d := by
                                unfold nextC
                                rw [if_neg (fun h => h77 (by rw [h]; rfl)), if_neg (fun h => h109 (by rw [h]; rfl))]
                              rw [hnd] at hfin har2
                              clear hnd
                              conv => whnf
                              repeat' (first | exact ⟨_, _, hμ, WeakL.of_eq rfl, m, d, p4, L2 ++ [(d, vals)], ag, by omega, by omega, hms, ⟨by rw [hll2]; omega, fun _ => by rw [hll2]; omega⟩, ⟨hfin, har2⟩, rfl, by rw [hll2, cmd_snoc]; rfl, by rw [hll2]; rfl⟩ | (refine Req.mk ⟨rfl, rfl, rfl, hcl2, rfl, by simp [okCell, lv, ofCell], by dsimp only; omega, by omega, by decide⟩ ?_; conv => whnf) | (refine lf seat_g cb1 ?_; conv => whnf) | (refine lf seat_g ca1 ?_; conv => whnf) | (refine lf seat_g cs1 ?_; conv => whnf) | (refine Req.mk (by decide) ?_; conv => whnf) | ((first | refine zs (by omega) ?_ | refine zq6 ?_ | refine zs (by dsimp only; omega) ?_ | refine zs (show pendP _ _ by repeat' constructor) ?_ | (with_reducible first | refine brT ‹_› ?_ | refine brF ‹_› ?_ | refine zt (by omega) ?_ | refine zf (by omega) ?_ | refine brNot ?_)); conv => whnf))
              · rintro _ _ _ (⟨rfl, h1, rfl, r2, rfl⟩ | ⟨rfl, p3, L3, h1, h2, h3, h4, rfl, rfl⟩)
                · conv => whnf
                  exact ⟨_, keepT_weak (maskOf 120 [2]) _, .inl ⟨rfl, h1, rfl, _, rfl⟩⟩
                · have hfi3 : (false = true ↔ L3.length = 0) := ⟨fun h => (by cases h), fun h => by omega⟩
                  conv => whnf
                  exact ⟨_, _, show s.length - p3 < s.length - p by omega, WeakL.of_eq rfl, n, false, p3, L3, h2, by omega, h3.1, hfi3, h4, rfl, rfl, rfl⟩
    · have hpe : p = s.length := by omega
      obtain ⟨rfl, rfl⟩ := hF.fin (List.getElem?_eq_none (by omega))
      have gp : ¬ ((p : Int) < s.length) := by omega
      clear hF hG
      conv => whnf
      repeat' (first | exact ⟨_, keepT_weak (maskOf 120 [2, 3]) _, .inr ⟨rfl, rfl, rfl, _, rfl⟩⟩ | ((first | refine zs (by omega) ?_ | refine zq6 ?_ | refine zs (by dsimp only; omega) ?_ | refine zs (show pendP _ _ by repeat' constructor) ?_ | (with_reducible first | refine brT ‹_› ?_ | refine brF ‹_› ?_ | refine zt (by omega) ?_ | refine zf (by omega) ?_ | refine brNot ?_)); conv => whnf))
  · rintro _ _ _ (⟨rfl, h1, rfl, r, rfl⟩ | ⟨rfl, h1, rfl, r, rfl⟩)
    · rw [if_neg h1]
      conv => whnf
      exact ⟨_, rfl, Weak.agg (WeakL.cons Weak.tok (WeakL.refl _))⟩
    · subst h1
      rw [if_pos rfl]
      conv => whnf
      repeat' (first | exact ⟨_, rfl, Weak.agg (WeakL.cons Weak.tok (WeakL.refl _))⟩ | (refine Req.mk (by decide) ?_; conv => whnf) | ((first | refine zs (by omega) ?_ | refine zq6 ?_ | refine zs (by dsimp only; omega) ?_ | refine zs (show pendP _ _ by repeat' constructor) ?_ | (with_reducible first | refine brT ‹_› ?_ | refine brF ‹_› ?_ | refine zt (by omega) ?_ | refine zf (by omega) ?_ | refine brNot ?_)); conv => whnf))
end Go.Proofs.YteicdddheaajlaaDoor
namespace Go.Proofs.YteicdddheaajlaaDoor
open Go.Abs
theorem rparse_ex {s G e q} (hl : s.length ≤ 400) (h : pathR s = (G, e, q)) : ACalls seat 19 [.str s] [] (fun x _ => x = .ret (.agg [cmdV G, .int .i64 (if e = 0 then -1 else (q : Nat)), .int .i64 e])) :=
  ACalls.weakR ((c_rparse6 s hl G e q h).mono (fun x _ ⟨v, h1, h2⟩ => .inl ⟨v, _, h1, h2, rfl⟩))
end Go.Proofs.YteicdddheaajlaaDoor
namespace Go.Proofs.YteicdddheaajlaaDoor
open Go.Abs
def parD (p : List (UInt8 × List Int) × Int × Nat) (L : List Sg) (r : Option Nat) : AV := match r with
  | none => .agg [sgV L, .int .i64 (if p.2.1 = 0 then -1 else (p.2.2 : Nat)), .int .i64 p.2.1]
  | some i => .agg [sgV L, .int .i64 i, .int .i64 2]
set_option maxRecDepth 20000 in
theorem c_rparse7 (s : List UInt8) (hl : s.length ≤ 400) (L : List Sg) (r : Option Nat) (hW : walkN (pathR s).1 0 st0 = (L, r)) : ACalls seat 9 [.str s] [] (fun x _ => x = .ret (parD (pathR s) L r)) := by
  have hlen := pathR_len' s hl
  have c2 := c_rwalk (pathR s).1 (pathR_ok s hl) (by omega) L r (by rw [← hW]; exact (walk_both _ 0 st0_ok rel0).symm)
  have he := pathR_e s hl
  obtain ⟨p, hp⟩ : ∃ p, pathR s = p := ⟨_, rfl⟩
  obtain ⟨G, e, q⟩ := p
  have c1 := rparse_ex hl hp
  clear hW hlen
  rw [hp] at he c2 ⊢
  clear hp
  unfold parD
  unfold cmdV sgV at *
  simp only at he c1 c2 ⊢
  refine ACalls.body seat_ok Tryd.func9 rfl rfl ?_
  cases r with
  | none =>
    have g0 : ¬ ((-1 : Int) ≥ 0) := by decide
    conv => whnf
    repeat' (first | exact rfl | (refine lf seat_g c1 ?_; conv => whnf) | (refine lf seat_g c2 ?_; conv => whnf) | ((first | refine zs (by omega) ?_ | refine zq6 ?_ | refine zs (by dsimp only; omega) ?_ | refine zs (show pendP _ _ by repeat' constructor) ?_ | (with_reducible first | refine brT ‹_› ?_ | refine brF ‹_› ?_ | refine zt (by omega) ?_ | refine zf (by omega) ?_ | refine brNot ?_)); conv => whnf))
  | some i =>
    have g0 : (i : Int) ≥ 0 := by omega
    conv => whnf
    repeat' (first | exact rfl | (refine lf seat_g c1 ?_; conv => whnf) | (refine lf seat_g c2 ?_; conv => whnf) | ((first | refine zs (by omega) ?_ | refine zq6 ?_ | refine zs (by dsimp only; omega) ?_ | refine zs (show pendP _ _ by repeat' constructor) ?_ | (with_reducible first | refine brT ‹_› ?_ | refine brF ‹_› ?_ | refine zt (by omega) ?_ | refine zf (by omega) ?_ | refine brNot ?_)); conv => whnf))
set_option maxRecDepth 20000 in
theorem l_normParses (s : List UInt8) : ACalls seat 3 [.str s] [] (fun x _ => x = .ret (.bool true)) := by
  refine ACalls.body seat_ok Tryd.func3 rfl rfl ?_
  by_cases g : s.length ≤ 100
  · have g1 : ¬ ((s.length : Int) > 100) := by omega
    obtain ⟨⟨L, r⟩, hW⟩ : ∃ p, walkN (pathR s).1 0 st0 = p := ⟨_, rfl⟩
    have hL := walkN_len (pathR s).1 0 st0
    have hlen := pathR_len' s (by omega)
    have h0 : st0.out.length = 0 := rfl
    rw [hW] at hL
    simp only at hL
    have c1 := c_nparse s (by omega) L r hW
    have c2 := c_rparse7 s (by omega) L r hW
    have c3 := c_rsame L (by omega)
    clear hW hL hlen h0
    unfold parV at c1
    unfold parD at c2
    unfold sgV at *
    cases r with
    | none =>
      simp only at c1 c2
      conv => whnf
      repeat' (first | exact rfl | exact congrArg (fun b => AEnd.ret (.bool b)) (beq_self_eq_true (_ : Int)) | (refine CallH.lift seat_g c_wakes trivial (by simp [Closed]) ?_; conv => whnf) | (refine lf seat_g c1 ?_; conv => whnf) | (refine lf seat_g c2 ?_; conv => whnf) | (refine lf seat_g c3 ?_; conv => whnf) | ((first | refine zs (by omega) ?_ | refine zq6 ?_ | refine zs (by dsimp only; omega) ?_ | refine zs (show pendP _ _ by repeat' constructor) ?_ | (with_reducible first | refine brT ‹_› ?_ | refine brF ‹_› ?_ | refine zt (by omega) ?_ | refine zf (by omega) ?_ | refine brNot ?_)); conv => whnf))
    | some i =>
      simp only at c1 c2
      conv => whnf
      repeat' (first | exact rfl | exact congrArg (fun b => AEnd.ret (.bool b)) (beq_self_eq_true (_ : Int)) | (refine CallH.lift seat_g c_wakes trivial (by simp [Closed]) ?_; conv => whnf) | (refine lf seat_g c1 ?_; conv => whnf) | (refine lf seat_g c2 ?_; conv => whnf) | (refine lf seat_g c3 ?_; conv => whnf) | ((first | refine zs (by omega) ?_ | refine zq6 ?_ | refine zs (by dsimp only; omega) ?_ | refine zs (show pendP _ _ by repeat' constructor) ?_ | (with_reducible first | refine brT ‹_› ?_ | refine brF ‹_› ?_ | refine zt (by omega) ?_ | refine zf (by omega) ?_ | refine brNot ?_)); conv => whnf))
  · have g1 : (s.length : Int) > 100 := by omega
    conv => whnf
    refine CallH.lift seat_g c_wakes trivial (by simp [Closed]) ?_
    conv => whnf
    repeat' ((first | refine zs (by omega) ?_ | refine zq6 ?_ | refine zs (by dsimp only; omega) ?_ | refine zs (show pendP _ _ by repeat' constructor) ?_ | (with_reducible first | refine brT ‹_› ?_ | refine brF ‹_› ?_ | refine zt (by omega) ?_ | refine zf (by omega) ?_ | refine brNot ?_)); conv => whnf)
    rfl
end Go.Proofs.YteicdddheaajlaaDoor
