/- The law DecRises answers true: the walk. Conditions: the arguments' kinds. -/
import Derived.Test.YtinjgnaimmenbaaDoorLaw04c
import Derived.Test.YtinjgnaimmenbaaDoorArgs04
set_option linter.unusedSimpArgs false
set_option linter.unusedVariables false
set_option linter.deprecated false
namespace Go.Proofs.YtinjgnaimmenbaaDoor
open Go.Abs
set_option maxRecDepth 20000 in
set_option maxHeartbeats 2000000 in
theorem l_decRises (a b c d : Nat) (ha : a < 4294967296) (hb : b < 4294967296) (hc : c < 4294967296) (hd : d < 4294967296) : ACalls seat 5 [.agg [.int .u32 a, .int .u32 b, .int .u32 c, .int .u32 d]] [] (fun x _ => x = .ret (.bool true)) := by
  refine ACalls.bodyS seat_ok Tryd.func5 rfl rfl ?_
  obtain ⟨w, hw⟩ : ∃ w, w = a % 65536 := ⟨_, rfl⟩
  obtain ⟨ic, hic⟩ : ∃ i, i = c % 10 := ⟨_, rfl⟩
  obtain ⟨id, hid⟩ : ∃ i, i = d % 10 := ⟨_, rfl⟩
  have ew : (a : Int) % 65536 = w := by omega
  have ec : (c : Int) % 10 = ic := by omega
  have ed : (d : Int) % 10 = id := by omega
  have cdw := c_digits w (by omega)
  have cdb := c_digits b (by omega)
  have lw := decD_len 4 w (by omega)
  have lb := decD_len 9 b (by omega)
  have pw := decD_pos w
  have dw := decD_dig w
  have db := decD_dig b
  have vw := valN_decD w
  have vb := valN_decD b
  have hbm : b < 10 ^ (decD b).length := by
    have := (rFold_bd _ (decD b) rfl (fun x hx => .inl (decD_dig b x hx))).1
    have h2 := rFold_dig _ (decD b) 0 0 false rfl (decD_dig b)
    unfold rFold at this
    rw [h2, vb] at this
    simpa using this
  -- the three numbers, the greater digit's last
  have pz : ACalls seat 8 [.str ((decD w ++ [46]) ++ decD b)] [] (fun x _ => x = .ret (outV (refV false (w * 10 ^ (decD b).length + b) (0 - (decD b).length)))) :=
    dp_val (S := []) (A := decD w) (B := some (decD b)) (ex := none) (by simp [txt, dotL, expB]) (ok_txt (.inl rfl) dw db (by omega) trivial) (by simp; omega) rfl (by
      simp only [Option.getD_some, exDown, exPow]
      rw [valN_app _ _ _ rfl, vw, vb]
      rfl)
  have pj : ∀ j, j < 10 → ACalls seat 8 [.str (((decD w ++ [46]) ++ decD b) ++ decD j)] [] (fun x _ => x = .ret (outV (refV false ((w * 10 ^ (decD b).length + b) * 10 + j) (0 - ((decD b).length + 1 : Nat))))) := fun j hj =>
    dp_val (S := []) (A := decD w) (B := some (decD b ++ decD j)) (ex := none) (by simp [txt, dotL, expB]) (ok_txt (.inl rfl) dw (digL_app db (decD_dig j)) (by omega) trivial) (by rw [decD_lt hj]; simp; omega) rfl (by
      simp only [Option.getD_some, exDown, exPow]
      rw [decD_lt hj, ← List.append_assoc, valN_snoc, valN_app _ _ _ rfl, vw, vb, dgB_nat hj]
      congr 1
      · simp; omega
      · simp)
  have cd0 : ∀ j, j < 10 → ACalls seat 10 [.int .i64 (j : Nat)] [] (fun x _ => x = .ret (.str (decD j))) := fun j hj => c_digits j (by omega)
  have l1 : ∀ j, j < 10 → (decD j).length = 1 := fun j hj => by rw [decD_lt hj]; rfl
  have hr := rises w b (decD b).length
  rw [← ew] at cdw
  generalize decD w = A at *
  generalize decD b = B at *
  obtain ⟨i, k, zi, zk, hik, hk10, hzi, hzk, hcase⟩ : ∃ (i k : Nat) (zi zk : Int), i ≤ k ∧ k < 10 ∧ zi = i ∧ zk = k ∧ (((c : Int) % 10 ≤ (d : Int) % 10 ∧ zi = (c : Int) % 10 ∧ zk = (d : Int) % 10) ∨ ((c : Int) % 10 > (d : Int) % 10 ∧ zi = (d : Int) % 10 ∧ zk = (c : Int) % 10)) := by
    by_cases h : ic ≤ id
    · exact ⟨ic, id, _, _, h, by omega, ec, ed, .inl ⟨by omega, rfl, rfl⟩⟩
    · exact ⟨id, ic, _, _, by omega, by omega, ed, ec, .inr ⟨by omega, rfl, rfl⟩⟩
  have ci : ACalls seat 10 [.int .i64 zi] [] (fun x _ => x = .ret (.str (decD i))) := by rw [hzi]; exact cd0 i (by omega)
  have ck : ACalls seat 10 [.int .i64 zk] [] (fun x _ => x = .ret (.str (decD k))) := by rw [hzk]; exact cd0 k hk10
  have li := l1 i (by omega)
  have lk := l1 k hk10
  have pi' := pj i (by omega)
  have pk' := pj k hk10
  have hr := hr i k hbm hik hk10
  clear cd0 l1 pj vw vb dw db hbm
  refine Sat.splitAt seat_ok (fun t h => t = (uu :: uu :: uu :: .int .u32 ((a : Int) % 65536) :: .str ((A ++ [46]) ++ B) :: .int .i64 zi :: .int .i64 zk :: uu :: uu :: uu :: uu :: uu :: uu :: uu :: uu :: uu :: uu :: uu :: uu :: uu :: uu :: uu :: uu :: uu :: uu :: uu :: uu :: uu :: uu :: uu :: uu :: uu :: uu :: uu :: uu :: uu :: uu :: uu :: uu :: uu :: uu :: uu :: uu :: uu :: uu :: uu :: uu :: uu :: uu :: uu :: uu :: uu :: uu :: uu :: uu :: uu :: uu :: uu :: uu :: uu :: uu :: uu :: uu :: uu :: uu :: uu :: uu :: uu :: uu :: uu :: uu :: uu :: uu :: uu :: uu :: uu :: uu :: uu :: uu :: uu :: uu :: uu :: uu :: uu :: uu :: uu :: uu :: []) ∧ h = [.var [.int .u32 a, .int .u32 b, .int .u32 c, .int .u32 d] 33]) 6 ?_ ?_
  · rcases hcase with ⟨g, rfl, rfl⟩ | ⟨g, rfl, rfl⟩
    · conv => whnf
      repeat' (first | (refine CallH.lift seat_g c_wakes trivial (by simp [Closed]) ?_; conv => whnf) | (refine CallH.lift seat_g cdw (by simp [Closed, ClosedL]) (by simp [Closed]) ?_; conv => whnf) | (refine CallH.lift seat_g cdb (by simp [Closed, ClosedL]) (by simp [Closed]) ?_; conv => whnf) | (refine Req.mk (by simp only [List.length_append, List.toList_toArray, List.length_cons, List.length_nil]; omega) ?_; conv => whnf) | ((first | refine zq1 (by omega) ?_ | refine zq2 (by omega) ?_ | refine NumH.rem (by omega) ?_ | refine zq4 (by omega) ?_ | refine zq5 (by omega) ?_ | refine zq6 ?_ | refine Req.mk (by omega) ?_ | refine Req.mk (by dsimp only; omega) ?_ | refine Req.mk ⟨rfl, rfl, rfl, by simp [ci_length, *], rfl, by simp [okCell], by dsimp only; omega, by omega, by decide⟩ ?_ | refine Req.mk (show pendP _ _ by repeat' constructor) ?_ | (with_reducible refine brT ?_ ?_; next => assumption) | (with_reducible refine brF ?_ ?_; next => assumption) | (with_reducible refine brDT ?_ ?_; next => omega) | (with_reducible refine brDF ?_ ?_; next => omega) | (with_reducible refine brET ?_ ?_; next => omega) | (with_reducible refine brEF ?_ ?_; next => omega) | (with_reducible refine brNET ?_ ?_; next => omega) | (with_reducible refine brNEF ?_ ?_; next => omega) | with_reducible refine brNot ?_); conv => whnf))
      refine DrawH.plan seat_ok (.take 0 (.take 1 (.take 4 (.take 5 (.take 6 (.perform 2 none (.take 3 (.perform 7 none (.take 8 (.take 9 Plan.done)))))))))) 0 (by kernel_rfl) ?_
      conv => whnf
      repeat' (first | (refine CallH.lift seat_g c_wakes trivial (by simp [Closed]) ?_; conv => whnf) | (refine CallH.lift seat_g cdw (by simp [Closed, ClosedL]) (by simp [Closed]) ?_; conv => whnf) | (refine CallH.lift seat_g cdb (by simp [Closed, ClosedL]) (by simp [Closed]) ?_; conv => whnf) | (refine Req.mk (by simp only [List.length_append, List.toList_toArray, List.length_cons, List.length_nil]; omega) ?_; conv => whnf) | ((first | refine zq1 (by omega) ?_ | refine zq2 (by omega) ?_ | refine NumH.rem (by omega) ?_ | refine zq4 (by omega) ?_ | refine zq5 (by omega) ?_ | refine zq6 ?_ | refine Req.mk (by omega) ?_ | refine Req.mk (by dsimp only; omega) ?_ | refine Req.mk ⟨rfl, rfl, rfl, by simp [ci_length, *], rfl, by simp [okCell], by dsimp only; omega, by omega, by decide⟩ ?_ | refine Req.mk (show pendP _ _ by repeat' constructor) ?_ | (with_reducible refine brT ?_ ?_; next => assumption) | (with_reducible refine brF ?_ ?_; next => assumption) | (with_reducible refine brDT ?_ ?_; next => omega) | (with_reducible refine brDF ?_ ?_; next => omega) | (with_reducible refine brET ?_ ?_; next => omega) | (with_reducible refine brEF ?_ ?_; next => omega) | (with_reducible refine brNET ?_ ?_; next => omega) | (with_reducible refine brNEF ?_ ?_; next => omega) | with_reducible refine brNot ?_); conv => whnf))
      refine DrawH.plan seat_ok (.take 0 (.take 1 (.take 2 (.take 3 (.take 4 (.take 5 (.take 6 (.take 7 (.take 8 (.take 9 Plan.done)))))))))) 0 (by kernel_rfl) ?_
      conv => whnf
      repeat' (first | exact ⟨_, keepT_weak (maskOf 87 [3, 4, 5, 6]) _, rfl, rfl⟩ | (refine CallH.lift seat_g c_wakes trivial (by simp [Closed]) ?_; conv => whnf) | (refine CallH.lift seat_g cdw (by simp [Closed, ClosedL]) (by simp [Closed]) ?_; conv => whnf) | (refine CallH.lift seat_g cdb (by simp [Closed, ClosedL]) (by simp [Closed]) ?_; conv => whnf) | (refine Req.mk (by simp only [List.length_append, List.toList_toArray, List.length_cons, List.length_nil]; omega) ?_; conv => whnf) | ((first | refine zq1 (by omega) ?_ | refine zq2 (by omega) ?_ | refine NumH.rem (by omega) ?_ | refine zq4 (by omega) ?_ | refine zq5 (by omega) ?_ | refine zq6 ?_ | refine Req.mk (by omega) ?_ | refine Req.mk (by dsimp only; omega) ?_ | refine Req.mk ⟨rfl, rfl, rfl, by simp [ci_length, *], rfl, by simp [okCell], by dsimp only; omega, by omega, by decide⟩ ?_ | refine Req.mk (show pendP _ _ by repeat' constructor) ?_ | (with_reducible refine brT ?_ ?_; next => assumption) | (with_reducible refine brF ?_ ?_; next => assumption) | (with_reducible refine brDT ?_ ?_; next => omega) | (with_reducible refine brDF ?_ ?_; next => omega) | (with_reducible refine brET ?_ ?_; next => omega) | (with_reducible refine brEF ?_ ?_; next => omega) | (with_reducible refine brNET ?_ ?_; next => omega) | (with_reducible refine brNEF ?_ ?_; next => omega) | with_reducible refine brNot ?_); conv => whnf))
    · conv => whnf
      repeat' (first | (refine CallH.lift seat_g c_wakes trivial (by simp [Closed]) ?_; conv => whnf) | (refine CallH.lift seat_g cdw (by simp [Closed, ClosedL]) (by simp [Closed]) ?_; conv => whnf) | (refine CallH.lift seat_g cdb (by simp [Closed, ClosedL]) (by simp [Closed]) ?_; conv => whnf) | (refine Req.mk (by simp only [List.length_append, List.toList_toArray, List.length_cons, List.length_nil]; omega) ?_; conv => whnf) | ((first | refine zq1 (by omega) ?_ | refine zq2 (by omega) ?_ | refine NumH.rem (by omega) ?_ | refine zq4 (by omega) ?_ | refine zq5 (by omega) ?_ | refine zq6 ?_ | refine Req.mk (by omega) ?_ | refine Req.mk (by dsimp only; omega) ?_ | refine Req.mk ⟨rfl, rfl, rfl, by simp [ci_length, *], rfl, by simp [okCell], by dsimp only; omega, by omega, by decide⟩ ?_ | refine Req.mk (show pendP _ _ by repeat' constructor) ?_ | (with_reducible refine brT ?_ ?_; next => assumption) | (with_reducible refine brF ?_ ?_; next => assumption) | (with_reducible refine brDT ?_ ?_; next => omega) | (with_reducible refine brDF ?_ ?_; next => omega) | (with_reducible refine brET ?_ ?_; next => omega) | (with_reducible refine brEF ?_ ?_; next => omega) | (with_reducible refine brNET ?_ ?_; next => omega) | (with_reducible refine brNEF ?_ ?_; next => omega) | with_reducible refine brNot ?_); conv => whnf))
      refine DrawH.plan seat_ok (.take 0 (.take 1 (.take 4 (.take 5 (.take 6 (.perform 2 none (.take 3 (.perform 7 none (.take 8 (.take 9 Plan.done)))))))))) 0 (by kernel_rfl) ?_
      conv => whnf
      repeat' (first | (refine CallH.lift seat_g c_wakes trivial (by simp [Closed]) ?_; conv => whnf) | (refine CallH.lift seat_g cdw (by simp [Closed, ClosedL]) (by simp [Closed]) ?_; conv => whnf) | (refine CallH.lift seat_g cdb (by simp [Closed, ClosedL]) (by simp [Closed]) ?_; conv => whnf) | (refine Req.mk (by simp only [List.length_append, List.toList_toArray, List.length_cons, List.length_nil]; omega) ?_; conv => whnf) | ((first | refine zq1 (by omega) ?_ | refine zq2 (by omega) ?_ | refine NumH.rem (by omega) ?_ | refine zq4 (by omega) ?_ | refine zq5 (by omega) ?_ | refine zq6 ?_ | refine Req.mk (by omega) ?_ | refine Req.mk (by dsimp only; omega) ?_ | refine Req.mk ⟨rfl, rfl, rfl, by simp [ci_length, *], rfl, by simp [okCell], by dsimp only; omega, by omega, by decide⟩ ?_ | refine Req.mk (show pendP _ _ by repeat' constructor) ?_ | (with_reducible refine brT ?_ ?_; next => assumption) | (with_reducible refine brF ?_ ?_; next => assumption) | (with_reducible refine brDT ?_ ?_; next => omega) | (with_reducible refine brDF ?_ ?_; next => omega) | (with_reducible refine brET ?_ ?_; next => omega) | (with_reducible refine brEF ?_ ?_; next => omega) | (with_reducible refine brNET ?_ ?_; next => omega) | (with_reducible refine brNEF ?_ ?_; next => omega) | with_reducible refine brNot ?_); conv => whnf))
      refine DrawH.plan seat_ok (.take 0 (.take 1 (.take 2 (.take 3 (.take 4 (.take 5 (.take 6 (.take 7 (.take 8 (.take 9 Plan.done)))))))))) 0 (by kernel_rfl) ?_
      conv => whnf
      repeat' (first | exact ⟨_, keepT_weak (maskOf 87 [3, 4, 5, 6]) _, rfl, rfl⟩ | (refine CallH.lift seat_g c_wakes trivial (by simp [Closed]) ?_; conv => whnf) | (refine CallH.lift seat_g cdw (by simp [Closed, ClosedL]) (by simp [Closed]) ?_; conv => whnf) | (refine CallH.lift seat_g cdb (by simp [Closed, ClosedL]) (by simp [Closed]) ?_; conv => whnf) | (refine Req.mk (by simp only [List.length_append, List.toList_toArray, List.length_cons, List.length_nil]; omega) ?_; conv => whnf) | ((first | refine zq1 (by omega) ?_ | refine zq2 (by omega) ?_ | refine NumH.rem (by omega) ?_ | refine zq4 (by omega) ?_ | refine zq5 (by omega) ?_ | refine zq6 ?_ | refine Req.mk (by omega) ?_ | refine Req.mk (by dsimp only; omega) ?_ | refine Req.mk ⟨rfl, rfl, rfl, by simp [ci_length, *], rfl, by simp [okCell], by dsimp only; omega, by omega, by decide⟩ ?_ | refine Req.mk (show pendP _ _ by repeat' constructor) ?_ | (with_reducible refine brT ?_ ?_; next => assumption) | (with_reducible refine brF ?_ ?_; next => assumption) | (with_reducible refine brDT ?_ ?_; next => omega) | (with_reducible refine brDF ?_ ?_; next => omega) | (with_reducible refine brET ?_ ?_; next => omega) | (with_reducible refine brEF ?_ ?_; next => omega) | (with_reducible refine brNET ?_ ?_; next => omega) | (with_reducible refine brNEF ?_ ?_; next => omega) | with_reducible refine brNot ?_); conv => whnf))
  rintro _ _ ⟨rfl, rfl⟩
  refine codeR_sound seat_ok _ _ _ _ ?_
  have hw2 : w < 65536 := by omega
  clear cdw cdb hcase
  generalize refV false (w * 10 ^ B.length + b) (0 - B.length) = V at *
  generalize refV false ((w * 10 ^ B.length + b) * 10 + i) (0 - (B.length + 1 : Nat)) = X at *
  generalize refV false ((w * 10 ^ B.length + b) * 10 + k) (0 - (B.length + 1 : Nat)) = Y at *
  obtain ⟨h1, h2, h3, h4, h5⟩ := hr
  have ov : ∀ n : Int, 0 ≤ n → n < 4294967296 → outV n = .tup [.int .i64 n, .int .i64 0] := fun n h1 h2 => if_neg (by omega)
  by_cases hY : Y < 4294967296
  · rw [ov Y (by omega) hY] at pk'
    rw [ov X (by omega) (by omega)] at pi'
    rw [ov V (by omega) (by omega)] at pz
    conv => whnf
    repeat' (first | exact congrArg (fun b => AEnd.ret (.bool b)) (decide_eq_true h4) | (refine CallH.lift seat_g ci (by simp [Closed, ClosedL]) (by simp [Closed]) ?_; conv => whnf) | (refine CallH.lift seat_g ck (by simp [Closed, ClosedL]) (by simp [Closed]) ?_; conv => whnf) | (refine CallH.lift seat_g pi' (by simp [Closed, ClosedL]) (by simp [Closed, ClosedL]) ?_; conv => whnf) | (refine CallH.lift seat_g pk' (by simp [Closed, ClosedL]) (by simp [Closed, ClosedL]) ?_; conv => whnf) | (refine CallH.lift seat_g pz (by simp [Closed, ClosedL]) (by simp [Closed, ClosedL]) ?_; conv => whnf) | (refine Req.mk (by simp only [List.length_append, List.toList_toArray, List.length_cons, List.length_nil]; omega) ?_; conv => whnf) | ((first | refine zq1 (by omega) ?_ | refine zq2 (by omega) ?_ | refine NumH.rem (by omega) ?_ | refine zq4 (by omega) ?_ | refine zq5 (by omega) ?_ | refine zq6 ?_ | refine Req.mk (by omega) ?_ | refine Req.mk (by dsimp only; omega) ?_ | refine Req.mk ⟨rfl, rfl, rfl, by simp [ci_length, *], rfl, by simp [okCell], by dsimp only; omega, by omega, by decide⟩ ?_ | refine Req.mk (show pendP _ _ by repeat' constructor) ?_ | (with_reducible refine brT ?_ ?_; next => assumption) | (with_reducible refine brF ?_ ?_; next => assumption) | (with_reducible refine brDT ?_ ?_; next => omega) | (with_reducible refine brDF ?_ ?_; next => omega) | (with_reducible refine brET ?_ ?_; next => omega) | (with_reducible refine brEF ?_ ?_; next => omega) | (with_reducible refine brNET ?_ ?_; next => omega) | (with_reducible refine brNEF ?_ ?_; next => omega) | with_reducible refine brNot ?_); conv => whnf))
  · have hwe : (a : Int) % 65536 = 65535 := by omega
    have hbe : (((a : Int) % 65536) == 65535) = true := by rw [hwe]; rfl
    obtain ⟨x, ex, hx, hxe⟩ := outV_ex X
    obtain ⟨z, ez, hz, hze⟩ := outV_ex V
    rw [show outV Y = .tup [.int .i64 0, .int .i64 2] from if_pos (.inl (by omega))] at pk'
    rw [hx] at pi'
    rw [hz] at pz
    have hx2 : ex = 0 ∨ ex = 2 := by omega
    rcases hx2 with rfl | rfl
    · conv => whnf
      repeat' (first | exact congrArg (fun b => AEnd.ret (.bool b)) hbe | (refine CallH.lift seat_g ci (by simp [Closed, ClosedL]) (by simp [Closed]) ?_; conv => whnf) | (refine CallH.lift seat_g ck (by simp [Closed, ClosedL]) (by simp [Closed]) ?_; conv => whnf) | (refine CallH.lift seat_g pi' (by simp [Closed, ClosedL]) (by simp [Closed, ClosedL]) ?_; conv => whnf) | (refine CallH.lift seat_g pk' (by simp [Closed, ClosedL]) (by simp [Closed, ClosedL]) ?_; conv => whnf) | (refine CallH.lift seat_g pz (by simp [Closed, ClosedL]) (by simp [Closed, ClosedL]) ?_; conv => whnf) | (refine Req.mk (by simp only [List.length_append, List.toList_toArray, List.length_cons, List.length_nil]; omega) ?_; conv => whnf) | ((first | refine zq1 (by omega) ?_ | refine zq2 (by omega) ?_ | refine NumH.rem (by omega) ?_ | refine zq4 (by omega) ?_ | refine zq5 (by omega) ?_ | refine zq6 ?_ | refine Req.mk (by omega) ?_ | refine Req.mk (by dsimp only; omega) ?_ | refine Req.mk ⟨rfl, rfl, rfl, by simp [ci_length, *], rfl, by simp [okCell], by dsimp only; omega, by omega, by decide⟩ ?_ | refine Req.mk (show pendP _ _ by repeat' constructor) ?_ | (with_reducible refine brT ?_ ?_; next => assumption) | (with_reducible refine brF ?_ ?_; next => assumption) | (with_reducible refine brDT ?_ ?_; next => omega) | (with_reducible refine brDF ?_ ?_; next => omega) | (with_reducible refine brET ?_ ?_; next => omega) | (with_reducible refine brEF ?_ ?_; next => omega) | (with_reducible refine brNET ?_ ?_; next => omega) | (with_reducible refine brNEF ?_ ?_; next => omega) | with_reducible refine brNot ?_); conv => whnf))
    · conv => whnf
      repeat' (first | exact congrArg (fun b => AEnd.ret (.bool b)) hbe | (refine CallH.lift seat_g ci (by simp [Closed, ClosedL]) (by simp [Closed]) ?_; conv => whnf) | (refine CallH.lift seat_g ck (by simp [Closed, ClosedL]) (by simp [Closed]) ?_; conv => whnf) | (refine CallH.lift seat_g pi' (by simp [Closed, ClosedL]) (by simp [Closed, ClosedL]) ?_; conv => whnf) | (refine CallH.lift seat_g pk' (by simp [Closed, ClosedL]) (by simp [Closed, ClosedL]) ?_; conv => whnf) | (refine CallH.lift seat_g pz (by simp [Closed, ClosedL]) (by simp [Closed, ClosedL]) ?_; conv => whnf) | (refine Req.mk (by simp only [List.length_append, List.toList_toArray, List.length_cons, List.length_nil]; omega) ?_; conv => whnf) | ((first | refine zq1 (by omega) ?_ | refine zq2 (by omega) ?_ | refine NumH.rem (by omega) ?_ | refine zq4 (by omega) ?_ | refine zq5 (by omega) ?_ | refine zq6 ?_ | refine Req.mk (by omega) ?_ | refine Req.mk (by dsimp only; omega) ?_ | refine Req.mk ⟨rfl, rfl, rfl, by simp [ci_length, *], rfl, by simp [okCell], by dsimp only; omega, by omega, by decide⟩ ?_ | refine Req.mk (show pendP _ _ by repeat' constructor) ?_ | (with_reducible refine brT ?_ ?_; next => assumption) | (with_reducible refine brF ?_ ?_; next => assumption) | (with_reducible refine brDT ?_ ?_; next => omega) | (with_reducible refine brDF ?_ ?_; next => omega) | (with_reducible refine brET ?_ ?_; next => omega) | (with_reducible refine brEF ?_ ?_; next => omega) | (with_reducible refine brNET ?_ ?_; next => omega) | (with_reducible refine brNEF ?_ ?_; next => omega) | with_reducible refine brNot ?_); conv => whnf))
end Go.Proofs.YtinjgnaimmenbaaDoor
