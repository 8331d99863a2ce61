/- The rule's functions: their contracts. No condition. -/
import Derived.Test.YtegmdgoljckfjaaDoorSeat
import Derived.Test.YtegmdgoljckfjaaDoorAbs18
namespace Go.Proofs.YtegmdgoljckfjaaDoor
open Go.Abs

theorem wrap_i64 {n : Int} (h1 : -9223372036854775808 ≤ n) (h2 : n < 9223372036854775808) : IntKind.wrap .i64 n = n := by
  have hb : IntKind.bits .i64 = 64 := rfl
  have hs : IntKind.signed .i64 = true := rfl
  unfold IntKind.wrap
  simp only [hb, hs, Bool.true_and, decide_eq_true_eq]
  split <;> omega
theorem wrap_u8 {n : Int} : IntKind.wrap .u8 n = n % 256 := by
  have hb : IntKind.bits .u8 = 8 := rfl
  have hs : IntKind.signed .u8 = false := rfl
  unfold IntKind.wrap
  simp [hb, hs]

def I64 (n : Int) : Prop := -9223372036854775808 ≤ n ∧ n < 9223372036854775808

/-- the share by the rule of what is not nought, and by that of what is odd -/
def sh0 (a : Int) : Int := if 8589934592 ≤ a then 8589934592 else if a ≤ -8589934592 then 8589934592 else if a < 0 then -a else a
def sh1 (a : Int) : Int := if a % 17179869184 ≤ 8589934592 then a % 17179869184 else 17179869184 - a % 17179869184
def shr (r a : Int) : Int := if r = 0 then sh0 a else if r = 1 then sh1 a else 0


theorem c_right (r : Int) : ACalls seat 9 [.int .i64 r] [] (fun x _ => x = .ret (.bool (decide (r = 0 ∨ r = 1)))) := by
  refine ACalls.body seat_ok Tryd.func9 rfl rfl ?_
  conv => whnf
  repeat' (first
    | (refine brT (by assumption) ?_; conv => whnf)
    | (refine brF (by assumption) ?_; conv => whnf)
    | (refine brI (fun _ => ?_) (fun _ => ?_) <;> conv => whnf)
    | (refine Req.mk (by decide) ?_; conv => whnf))
  all_goals (simp only [retK, AEnd.ret.injEq, AV.bool.injEq, decide_eq_true_eq, decide_eq_false_iff_not, decide_eq_decide, Bool.false_eq] at *)
  all_goals omega

theorem c_size (a : Int) (ha : I64 a) : ACalls seat 13 [.int .i64 a] [] (fun x _ => ∃ s, x = .ret (.int .i64 s) ∧ min s 8589934592 = sh0 a) := by
  refine ACalls.body seat_ok Tryd.func13 rfl rfl ?_
  conv => whnf
  have h0 : IntKind.wrap .i64 (a + 1) = a + 1 ∨ ¬ a < 0 := by
    by_cases h : a < 0
    · exact .inl (wrap_i64 (by have := ha.1; omega) (by omega))
    · exact .inr h
  obtain ⟨h1, h2⟩ := ha
  repeat' (first
    | (refine brT (by assumption) ?_; conv => whnf)
    | (refine brF (by assumption) ?_; conv => whnf)
    | (refine brI (fun _ => ?_) (fun _ => ?_) <;> conv => whnf)
    | (refine Req.mk (by decide) ?_; conv => whnf))
  all_goals (simp only [decide_eq_true_eq, decide_eq_false_iff_not] at *)
  all_goals refine ⟨_, rfl, ?_⟩
  · rename_i g1 g2
    rcases h0 with h0 | h0
    · rw [h0, wrap_i64 (n := 0 - (a + 1)) (by omega) (by omega)] at g2 ⊢
      rw [wrap_i64 (by omega) (by omega)]
      unfold sh0; split <;> (try split) <;> (try split) <;> omega
    · omega
  · rename_i g1 g2
    rcases h0 with h0 | h0
    · rw [h0, wrap_i64 (n := 0 - (a + 1)) (by omega) (by omega)] at g2 ⊢
      unfold sh0; split <;> (try split) <;> (try split) <;> omega
    · omega
  · unfold sh0; split <;> (try split) <;> (try split) <;> omega

theorem c_one (a : Int) (ha : I64 a) : ACalls seat 12 [.int .i64 a] [] (fun x _ => x = .ret (.int .i64 (sh0 a))) := by
  refine ACalls.body seat_ok Tryd.func12 rfl rfl ?_
  conv => whnf
  refine CallH.liftE (r := fun s => .int .i64 s) seat_g (c_size a ha) (by simp [ClosedL, Closed]) (by simp [Closed]) (fun s hs => ?_)
  conv => whnf
  simp only [retK, AEnd.ret.injEq, AV.int.injEq, true_and]
  split <;> omega

theorem c_two (a : Int) : ACalls seat 14 [.int .i64 a] [] (fun x _ => x = .ret (.int .i64 (sh1 a))) := by
  refine ACalls.body seat_ok Tryd.func14 rfl rfl ?_
  conv => whnf
  have e : IntKind.wrap .i64 ((BitVec.ofInt (IntKind.bits .i64) a &&& BitVec.ofInt (IntKind.bits .i64) 17179869183).toNat : Int) = a % 17179869184 := by
    show IntKind.wrap .i64 ((BitVec.ofInt 64 a &&& BitVec.ofInt 64 17179869183).toNat : Int) = a % 17179869184
    rw [and_low 34 (by decide) a 17179869183 17179869184 (by decide) (by decide)]
    exact wrap_i64 (by omega) (by omega)
  simp only [retK, AEnd.ret.injEq, AV.int.injEq, true_and]
  have e2 : IntKind.wrap .i64 (17179869184 - a % 17179869184) = 17179869184 - a % 17179869184 := wrap_i64 (by omega) (by omega)
  simp only [e, e2]
  unfold sh1
  repeat' split
  all_goals omega

theorem c_shares : ACalls seat 11 [] [] (fun x _ => x = .ret (.agg [.fn 12 [] [], .fn 14 [] []])) := by
  refine ACalls.body seat_ok Tryd.func11 rfl rfl ?_
  conv => whnf
  rfl

theorem c_share (r a : Int) (ha : I64 a) : ACalls seat 10 [.int .i64 r, .int .i64 a] [] (fun x _ => x = .ret (.int .i64 (shr r a))) := by
  refine ACalls.body seat_ok Tryd.func10 rfl rfl ?_
  conv => whnf
  refine CallH.lift seat_g (c_right r) (by simp [ClosedL, Closed]) (by simp [Closed]) ?_
  conv => whnf
  refine brI (fun g => ?_) (fun g => ?_)
  · conv => whnf
    simp only [retK, AEnd.ret.injEq, AV.int.injEq, true_and, Bool.not_eq_true', decide_eq_false_iff_not] at *
    unfold shr; repeat' split
    all_goals omega
  · simp only [Bool.not_eq_false', decide_eq_true_eq] at g
    rcases g with rfl | rfl
    · conv => whnf
      refine CallH.lift seat_g c_shares (by simp [ClosedL]) (by simp [ClosedL, Closed]) ?_
      conv => whnf
      refine Req.mk (by decide) ?_
      conv => whnf
      refine CallH.lift seat_g (c_one a ha) (by simp [ClosedL, Closed]) (by simp [Closed]) ?_
      conv => whnf
      simp [retK, shr]
    · conv => whnf
      refine CallH.lift seat_g c_shares (by simp [ClosedL]) (by simp [ClosedL, Closed]) ?_
      conv => whnf
      refine Req.mk (by decide) ?_
      conv => whnf
      refine CallH.lift seat_g (c_two a) (by simp [ClosedL, Closed]) (by simp [Closed]) ?_
      conv => whnf
      simp [retK, shr]

theorem shr_range (r a : Int) : 0 ≤ shr r a ∧ shr r a ≤ 8589934592 := by
  unfold shr sh0 sh1; (repeat' split) <;> omega

def cov (r a : Int) : Int := (255 * shr r a + 4294967296) / 8589934592
theorem cov_range (r a : Int) : 0 ≤ cov r a ∧ cov r a < 256 := by
  have := shr_range r a; unfold cov; omega

theorem c_cov (r a : Int) (ha : I64 a) : ACalls seat 7 [.int .i64 r, .int .i64 a] [] (fun x _ => x = .ret (.int .u8 (cov r a))) := by
  refine ACalls.body seat_ok Tryd.func7 rfl rfl ?_
  conv => whnf
  refine CallH.lift seat_g (c_share r a ha) (by simp [ClosedL, Closed]) (by simp [Closed]) ?_
  conv => whnf
  refine Req.mk (by decide) ?_
  conv => whnf
  have h := shr_range r a
  simp only [retK, AEnd.ret.injEq, AV.int.injEq, true_and]
  rw [wrap_i64 (n := 255 * shr r a) (by omega) (by omega), wrap_i64 (n := 255 * shr r a + 4294967296) (by omega) (by omega), Int.tdiv_eq_ediv_of_nonneg (by omega), wrap_i64 (by omega) (by omega), wrap_u8]
  have := cov_range r a; unfold cov at *; omega


def wA : List UInt8 := [110, 111, 110, 122, 101, 114, 111]
def wB : List UInt8 := [101, 118, 101, 110, 111, 100, 100]
def idx (w : List UInt8) : Int := if w = wA then 0 else if w = wB then 1 else -1
theorem c_wakes : ACalls seat 4 [] [] (fun x _ => x = .ret (.bool true)) := by
  refine ACalls.body seat_ok Tryd.func4 rfl rfl ?_
  conv => whnf
  repeat' (first
    | (refine CallH.lift seat_g (c_cov _ _ (by unfold I64; omega)) (by simp [ClosedL, Closed]) (by simp [Closed]) ?_; conv => whnf)
    | (refine brT (by decide) ?_; conv => whnf))
  rfl

theorem c_index (w : List UInt8) : ACalls seat 8 [.vec [.str wA, .str wB] 2 none, .str w] [] (fun x _ => x = .ret (.int .i64 (idx w))) := by
  refine ACalls.body seat_ok Tryd.func8 rfl rfl ?_
  conv => whnf
  generalize hA : wA = A
  generalize hB : wB = B
  refine Sat.unroll seat_ok 3 ?_
  conv => whnf
  repeat' (first
    | (refine Req.mk (by decide) ?_; conv => whnf)
    | (refine brI (fun _ => ?_) (fun _ => ?_) <;> conv => whnf))
  all_goals (simp only [retK, AEnd.ret.injEq, AV.int.injEq, true_and, idx, hA, hB, beq_iff_eq, beq_eq_false_iff_ne, ne_eq] at *)
  all_goals first | (simp_all; done) | (simp_all; decide)

theorem c_rule (w : List UInt8) : ACalls seat 5 [.str w] [] (fun x _ => x = .ret (.tup [.int .i64 (if idx w < 0 then 0 else idx w), .bool (decide (idx w ≥ 0))])) := by
  refine ACalls.body seat_ok Tryd.func5 rfl rfl ?_
  conv => whnf
  refine Req.mk (by decide) ?_
  conv => whnf
  refine CallH.liftG (fun s => .int .i64 s) seat_g (c_index w) (by simp [ClosedL, Closed]) (by simp [Closed]) (fun s hs => ?_)
  conv => whnf
  rw [← hs]
  rfl

def nameOf (r : Int) : List UInt8 := if r = 0 then wA else if r = 1 then wB else []
theorem c_name (r : Int) : ACalls seat 6 [.int .i64 r] [] (fun x _ => x = .ret (.str (nameOf r))) := by
  refine ACalls.body seat_ok Tryd.func6 rfl rfl ?_
  conv => whnf
  refine CallH.lift seat_g (c_right r) (by simp [ClosedL, Closed]) (by simp [Closed]) ?_
  conv => whnf
  refine brI (fun g => ?_) (fun g => ?_)
  · conv => whnf
    simp only [Bool.not_eq_true', decide_eq_false_iff_not] at g
    have h0 : r ≠ 0 := by omega
    have h1 : r ≠ 1 := by omega
    simp [retK, nameOf, h0, h1]
  · simp only [Bool.not_eq_false', decide_eq_true_eq] at g
    rcases g with rfl | rfl
    · conv => whnf
      refine Req.mk (by decide) ?_
      conv => whnf
      rfl
    · conv => whnf
      refine Req.mk (by decide) ?_
      conv => whnf
      rfl

theorem c_rule' (w : List UInt8) (n : Int) (b : Bool) (h1 : (if idx w < 0 then 0 else idx w) = n) (h2 : decide (idx w ≥ 0) = b) : ACalls seat 5 [.str w] [] (fun x _ => x = .ret (.tup [.int .i64 n, .bool b])) := by
  rw [← h1, ← h2]; exact c_rule w
theorem c_name' (r : Int) (s : List UInt8) (h : nameOf r = s) : ACalls seat 6 [.int .i64 r] [] (fun x _ => x = .ret (.str s)) := by
  rw [← h]; exact c_name r

set_option maxHeartbeats 8000000 in
set_option maxRecDepth 100000 in
theorem l_names (r : Int) (w : List UInt8) : ACalls seat 3 [.int .i64 r, .str w] [] (fun x _ => x = .ret (.bool true)) := by
  have hwc : w = wA ∨ w = wB ∨ ((w == wA) = false ∧ (w == wB) = false) := by
    by_cases h1 : w = wA
    · exact .inl h1
    · by_cases h2 : w = wB
      · exact .inr (.inl h2)
      · exact .inr (.inr ⟨beq_eq_false_iff_ne.2 h1, beq_eq_false_iff_ne.2 h2⟩)
  have hrc : r = 0 ∨ r = 1 ∨ ((r == 0) = false ∧ (r == 1) = false) := by
    by_cases h1 : r = 0
    · exact .inl h1
    · by_cases h2 : r = 1
      · exact .inr (.inl h2)
      · exact .inr (.inr ⟨beq_eq_false_iff_ne.2 h1, beq_eq_false_iff_ne.2 h2⟩)
  have hn : (w == wA) = false ∧ (w == wB) = false → idx w = -1 := fun ⟨h1, h2⟩ => by
    unfold idx; rw [if_neg (beq_eq_false_iff_ne.1 h1), if_neg (beq_eq_false_iff_ne.1 h2)]
  have hs : (r == 0) = false ∧ (r == 1) = false → nameOf r = [] := fun ⟨h1, h2⟩ => by
    unfold nameOf; rw [if_neg (beq_eq_false_iff_ne.1 h1), if_neg (beq_eq_false_iff_ne.1 h2)]
  rcases hwc with rfl | rfl | hw <;> rcases hrc with rfl | rfl | hr
  all_goals try (have hw1 := hw.1)
  all_goals try (have hw2 := hw.2)
  all_goals try (have hr1 := hr.1)
  all_goals try (have hr2 := hr.2)
  all_goals (refine ACalls.body seat_ok Tryd.func3 rfl rfl ?_; conv => whnf)
  all_goals (refine CallH.lift seat_g c_wakes (by simp [ClosedL]) (by simp [Closed]) ?_; conv => whnf)
  all_goals repeat' (first
    | (refine brT (by with_reducible assumption) ?_; conv => whnf)
    | (refine brF (by with_reducible assumption) ?_; conv => whnf)
    | (refine CallH.lift seat_g (c_rule' wA 0 true rfl rfl) (by simp [ClosedL, Closed]) (by simp [ClosedL, Closed]) ?_; conv => whnf)
    | (refine CallH.lift seat_g (c_rule' wB 1 true rfl rfl) (by simp [ClosedL, Closed]) (by simp [ClosedL, Closed]) ?_; conv => whnf)
    | (refine CallH.lift seat_g (c_rule' [] 0 false rfl rfl) (by simp [ClosedL, Closed]) (by simp [ClosedL, Closed]) ?_; conv => whnf)
    | (refine CallH.lift seat_g (c_rule' w 0 false (by rw [hn hw]; rfl) (by rw [hn hw]; rfl)) (by simp [ClosedL, Closed]) (by simp [ClosedL, Closed]) ?_; conv => whnf)
    | (refine CallH.lift seat_g (c_name' 0 wA rfl) (by simp [ClosedL, Closed]) (by simp [ClosedL, Closed]) ?_; conv => whnf)
    | (refine CallH.lift seat_g (c_name' 1 wB rfl) (by simp [ClosedL, Closed]) (by simp [ClosedL, Closed]) ?_; conv => whnf)
    | (refine CallH.lift seat_g (c_name' r [] (hs hr)) (by simp [ClosedL, Closed]) (by simp [ClosedL, Closed]) ?_; conv => whnf)
    | (refine brF hw1 ?_; conv => whnf)
    | (refine brF hw2 ?_; conv => whnf)
    | (refine brI (fun _ => ?_) (fun _ => ?_) <;> conv => whnf))
  all_goals first | rfl | skip
  all_goals (rename_i x; rw [hr2] at x; exact absurd x (by decide))
end Go.Proofs.YtegmdgoljckfjaaDoor
