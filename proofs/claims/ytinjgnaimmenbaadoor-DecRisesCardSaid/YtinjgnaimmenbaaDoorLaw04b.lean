/- The law DecNoughts answers true. Conditions: the arguments' kinds. -/
import Derived.Test.YtinjgnaimmenbaaDoorLaw04a
import Derived.Test.YtinjgnaimmenbaaDoorDigits
set_option linter.unusedSimpArgs false
set_option linter.unusedVariables false
set_option linter.deprecated false
namespace Go.Proofs.YtinjgnaimmenbaaDoor
open Go.Abs
theorem ok_txt {S A : List UInt8} {B : Option (List UInt8)} {ex} (hS : S = [] ∨ S = [43] ∨ S = [45]) (hA : digL A) (hB : digL (B.getD [])) (h0 : 0 < A.length + (B.getD []).length) (hex : exOK ex) : TxtOK S A B ex := ⟨hS, hA, hB, h0, hex⟩
/-- a text's number, by its digits and its power -/
theorem dp_val {s S A : List UInt8} {B : Option (List UInt8)} {ex} {bl : Bool} {N : Nat} {P : Int} (hs : s = txt S A B ex) (h : TxtOK S A B ex) (hl : s.length ≤ 400) (hb : (S == [45]) = bl)
    (hv : refV bl (valN (A ++ B.getD [])) ((if exDown ex = true then 0 - exPow 1000 ex else exPow 1000 ex) - (B.getD []).length) = refV bl N P) : ACalls seat 8 [.str s] [] (fun x _ => x = .ret (outV (refV bl N P))) := by
  subst hs
  have h1 := c_dparse_txt h hl
  obtain ⟨e1, e2⟩ := txtN_val (A := A) (B := B) h.hA h.hB
  unfold txtV txtP at h1
  rw [e1, e2, hb, hv] at h1
  exact h1
theorem exOK_dec (e : UInt8) (sg : List UInt8) (n : Nat) (he : kindN e.toNat = 2) (hsg : sg = [] ∨ sg = [43] ∨ sg = [45]) : exOK (some (e, sg, decD n)) :=
  ⟨he, hsg, List.length_pos_iff.1 (decD_pos n), decD_dig n⟩
theorem pow_dec {n : Nat} (h : n ≤ 1000) : powF 1000 0 (decD n) = n := by
  have := powF_val _ (decD n) rfl (decD_dig n) (by rw [valN_decD]; exact h)
  rw [valN_decD] at this; exact this
set_option maxRecDepth 20000 in
set_option maxHeartbeats 1000000 in
theorem l_decNoughts (w b k : Nat) (hw : w < 65536) (hb : b < 65536) (hk : k < 256) : ACalls seat 4 [.int .u16 w, .int .u16 b, .int .u8 k] [] (fun x _ => x = .ret (.bool true)) := by
  refine ACalls.body seat_ok Tryd.func4 rfl rfl ?_
  have cd1 := c_digits w (by omega)
  have cd2 := c_digits (b + 100000) (by omega)
  rw [show ((b + 100000 : Nat) : Int) = (b : Int) + 100000 by omega] at cd2
  have la := decD_len 4 w (by omega)
  have lb := decD_len 5 (b + 100000) (by omega)
  have pa := decD_pos w
  have da := decD_dig w
  have db := digL_drop (decD_dig (b + 100000)) 1
  have hb1 : 1 ≤ (decD (b + 100000)).length := decD_pos _
  generalize decD w = a at *
  generalize hBB : decD (b + 100000) = B0 at *
  have lbb : (B0.drop 1).length ≤ 6 := by rw [List.length_drop]; omega
  obtain ⟨bb, hbb⟩ : ∃ bb, bb = (B0.drop (1 : Int).toNat).take (((B0.length : Nat) : Int).toNat - (1 : Int).toNat) := ⟨_, rfl⟩
  have hBb : B0.drop 1 = bb := by rw [hbb]; exact (List.take_of_length_le (by simp)).symm
  rw [hBb] at db lbb
  have cl1 := c_digits a.length (by omega)
  obtain ⟨K, hK⟩ : ∃ K, K = k % 50 := ⟨_, rfl⟩
  have hZ : (List.replicate K (48 : UInt8)).length = K := List.length_replicate
  have dz := digL_rep K
  have cl2 := c_digits (bb.length + (List.replicate K (48 : UInt8)).length) (by omega)
  rw [Int.natCast_add] at cl2
  have vz := valN_rep K
  have e1 : valN (a ++ bb ++ List.replicate K 48) = valN (a ++ bb) * 10 ^ K := by rw [valN_app _ _ _ rfl, vz, hZ]; omega
  have e2 : valN (List.replicate K 48 ++ a ++ (bb ++ List.replicate K 48)) = valN (a ++ bb) * 10 ^ K := by
    rw [← List.append_assoc, valN_app _ _ _ rfl, vz, hZ, List.append_assoc, valN_app _ _ _ rfl, vz, Nat.zero_mul, Nat.zero_add, Nat.add_zero]
  have xl : exPow 1000 (some (101, [], decD a.length)) = a.length := pow_dec (by omega)
  have xb : exPow 1000 (some (69, [45], decD (bb.length + (List.replicate K (48 : UInt8)).length))) = ((bb.length + (List.replicate K (48 : UInt8)).length : Nat) : Int) := pow_dec (by omega)
  have l1 := decD_len 2 a.length (by omega)
  have l2 := decD_len 2 (bb.length + (List.replicate K (48 : UInt8)).length) (by omega)
  have l2b : (decD (bb.length + K)).length ≤ 3 := by have := l2; rwa [hZ] at this
  have p1 : ACalls seat 8 [.str ((a ++ [46]) ++ bb)] [] (fun x _ => x = .ret (outV (refV false (valN (a ++ bb)) (0 - bb.length)))) :=
    dp_val (S := []) (A := a) (B := some bb) (ex := none) (by simp [txt, dotL, expB]) (ok_txt (.inl rfl) da db (by omega) trivial) (by simp; omega) rfl rfl
  have p2 : ACalls seat 8 [.str ((([43] ++ List.replicate K 48) ++ ((a ++ [46]) ++ bb)) ++ List.replicate K 48)] [] (fun x _ => x = .ret (outV (refV false (valN (a ++ bb)) (0 - bb.length)))) :=
    dp_val (S := [43]) (A := List.replicate K 48 ++ a) (B := some (bb ++ List.replicate K 48)) (ex := none) (by simp [txt, dotL, expB]) (ok_txt (.inr (.inl rfl)) (digL_app dz da) (digL_app db dz) (by simp; omega) trivial) (by simp; omega) rfl (by
      simp only [Option.getD_some, exDown, exPow, List.length_append, hZ]
      rw [e2, ← refV_scale false _ K (0 - bb.length) (by omega)]
      congr 1; simp; omega)
  have p3 : ACalls seat 8 [.str (((([46] ++ a) ++ bb) ++ [101]) ++ decD a.length)] [] (fun x _ => x = .ret (outV (refV false (valN (a ++ bb)) (0 - bb.length)))) :=
    dp_val (S := []) (A := []) (B := some (a ++ bb)) (ex := some (101, [], decD a.length)) (by simp [txt, dotL, expB]) (ok_txt (.inl rfl) (by simp [digL]) (digL_app da db) (by simp; omega) (exOK_dec _ _ _ (by decide) (.inl rfl))) (by simp; omega) rfl (by
      rw [xl]
      simp only [Option.getD_some, exDown, List.length_append, List.nil_append]
      congr 1; simp; omega)
  have p4 : ACalls seat 8 [.str ((((a ++ bb) ++ List.replicate K 48) ++ [69, 45]) ++ decD (bb.length + (List.replicate K (48 : UInt8)).length))] [] (fun x _ => x = .ret (outV (refV false (valN (a ++ bb)) (0 - bb.length)))) :=
    dp_val (S := []) (A := a ++ bb ++ List.replicate K 48) (B := none) (ex := some (69, [45], decD (bb.length + (List.replicate K (48 : UInt8)).length))) (by simp [txt, dotL, expB]) (ok_txt (.inl rfl) (digL_app (digL_app da db) dz) (by simp [digL]) (by simp; omega) (exOK_dec _ _ _ (by decide) (.inr (.inr rfl)))) (by simp; omega) rfl (by
      rw [xb]
      simp only [Option.getD_none, exDown, List.length_nil, List.append_nil]
      rw [e1, ← refV_scale false _ K (0 - bb.length) (by omega)]
      congr 1; simp; omega)
  obtain ⟨v, e, hv, hve⟩ := outV_ex (refV false (valN (a ++ bb)) (0 - bb.length))
  rw [hv] at p1 p2 p3 p4
  clear hv e1 e2 xl xb vz
  conv => whnf
  refine CallH.lift seat_g c_wakes trivial (by simp [Closed]) ?_
  conv => whnf
  repeat' ((first | refine zq1 (by omega) ?_ | refine zq2 (by omega) ?_ | refine NumH.rem (by omega) ?_ | refine zq4 (by omega) ?_ | refine zq5 (by omega) ?_ | refine zq6 ?_ | refine Req.mk (by omega) ?_ | refine Req.mk (by dsimp only; omega) ?_ | refine Req.mk ⟨rfl, rfl, rfl, by simp [ci_length, *], rfl, by simp [okCell], by dsimp only; omega, by omega, by decide⟩ ?_ | refine Req.mk (show pendP _ _ by repeat' constructor) ?_ | (with_reducible refine brT ?_ ?_; next => assumption) | (with_reducible refine brF ?_ ?_; next => assumption) | (with_reducible refine brDT ?_ ?_; next => omega) | (with_reducible refine brDF ?_ ?_; next => omega) | (with_reducible refine brET ?_ ?_; next => omega) | (with_reducible refine brEF ?_ ?_; next => omega) | (with_reducible refine brNET ?_ ?_; next => omega) | (with_reducible refine brNEF ?_ ?_; next => omega) | with_reducible refine brNot ?_); conv => whnf)
  have hk5 : (k : Int) % 50 = K := by omega
  have hB0 : B0.length ≤ 6 := lb
  refine Sat.cut (fun x t h => x = .exit 0 ∧ t = (.int .u16 w :: .int .u16 b :: uu :: uu :: uu :: uu :: uu :: .str (List.replicate K 48) :: uu :: uu :: uu :: uu :: uu :: uu :: uu :: uu :: uu :: uu :: uu :: uu :: uu :: uu :: uu :: uu :: uu :: uu :: uu :: uu :: uu :: uu :: uu :: uu :: uu :: uu :: uu :: uu :: uu :: uu :: uu :: uu :: uu :: uu :: uu :: uu :: uu :: uu :: uu :: uu :: uu :: uu :: uu :: uu :: uu :: uu :: uu :: uu :: uu :: uu :: uu :: uu :: uu :: uu :: uu :: uu :: uu :: uu :: uu :: uu :: uu :: uu :: uu :: uu :: uu :: uu :: uu :: uu :: uu :: uu :: uu :: uu :: uu :: uu :: uu :: uu :: uu :: uu :: uu :: uu :: uu :: uu :: uu :: uu :: uu :: uu :: uu :: uu :: uu :: uu :: uu :: uu :: uu :: uu :: uu :: uu :: uu :: uu :: uu :: uu :: uu :: uu :: uu :: uu :: uu :: uu :: uu :: uu :: uu :: uu :: uu :: uu :: uu :: uu :: []) ∧ h = []) ?_ ?_
  · refine Sat.invP seat_ok seat_g (maskOf 122 [0, 1, 7, 23, 24]) 0 (fun μ t h => ∃ (i : Nat) (z : Int), z = i ∧ i ≤ K ∧ μ = K - i ∧ t = (.int .u16 w :: .int .u16 b :: uu :: uu :: uu :: uu :: uu :: .str (List.replicate i 48) :: uu :: uu :: uu :: uu :: uu :: uu :: uu :: uu :: uu :: uu :: uu :: uu :: uu :: uu :: uu :: .int .i64 ((k : Int) % 50) :: .int .i64 z :: uu :: uu :: uu :: uu :: uu :: uu :: uu :: uu :: uu :: uu :: uu :: uu :: uu :: uu :: uu :: uu :: uu :: uu :: uu :: uu :: uu :: uu :: uu :: uu :: uu :: uu :: uu :: uu :: uu :: uu :: uu :: uu :: uu :: uu :: uu :: uu :: uu :: uu :: uu :: uu :: uu :: uu :: uu :: uu :: uu :: uu :: uu :: uu :: uu :: uu :: uu :: uu :: uu :: uu :: uu :: uu :: uu :: uu :: uu :: uu :: uu :: uu :: uu :: uu :: uu :: uu :: uu :: uu :: uu :: uu :: uu :: uu :: uu :: uu :: uu :: uu :: uu :: uu :: uu :: uu :: uu :: uu :: uu :: uu :: uu :: uu :: uu :: uu :: uu :: uu :: uu :: uu :: uu :: uu :: uu :: uu :: uu :: []) ∧ h = [])
      ?_ ⟨_, _, WeakL.of_eq rfl, 0, 0, rfl, by omega, rfl, rfl, rfl⟩ ?_
    · rintro _ _ _ ⟨i, z, -, -, -, rfl, rfl⟩
      exact ⟨rfl, (by simp [IdsL, Ids, IdsH, IdsC, lv_ids, ci_ids]), (by simp [IdsL, Ids, IdsH, IdsC, lv_ids, ci_ids])⟩
    rintro _ _ _ ⟨i, z, hz, hi, rfl, rfl, rfl⟩
    have hrl : (List.replicate i (48 : UInt8)).length = i := List.length_replicate
    by_cases g : i < K
    · have hr : List.replicate (i + 1) (48 : UInt8) = List.replicate i 48 ++ [48] := List.replicate_succ'
      conv => whnf
      repeat' (first | exact ⟨_, _, Nat.sub_lt_sub_left g (Nat.lt_succ_self i), WeakL.of_eq rfl, i + 1, z + 1, by omega, by omega, rfl, by rw [hr]; rfl, rfl⟩ | (refine Req.mk (by simp only [List.length_append, List.toList_toArray, List.length_cons, List.length_nil]; omega) ?_; conv => whnf) | ((first | refine zq1 (by omega) ?_ | refine zq2 (by omega) ?_ | refine NumH.rem (by omega) ?_ | refine zq4 (by omega) ?_ | refine zq5 (by omega) ?_ | refine zq6 ?_ | refine Req.mk (by omega) ?_ | refine Req.mk (by dsimp only; omega) ?_ | refine Req.mk ⟨rfl, rfl, rfl, by simp [ci_length, *], rfl, by simp [okCell], by dsimp only; omega, by omega, by decide⟩ ?_ | refine Req.mk (show pendP _ _ by repeat' constructor) ?_ | (with_reducible refine brT ?_ ?_; next => assumption) | (with_reducible refine brF ?_ ?_; next => assumption) | (with_reducible refine brDT ?_ ?_; next => omega) | (with_reducible refine brDF ?_ ?_; next => omega) | (with_reducible refine brET ?_ ?_; next => omega) | (with_reducible refine brEF ?_ ?_; next => omega) | (with_reducible refine brNET ?_ ?_; next => omega) | (with_reducible refine brNEF ?_ ?_; next => omega) | with_reducible refine brNot ?_); conv => whnf))
    · obtain rfl : i = K := by omega
      conv => whnf
      repeat' (first | exact ⟨_, keepT_weak (maskOf 122 [0, 1, 7]) _, rfl, rfl, rfl⟩ | ((first | refine zq1 (by omega) ?_ | refine zq2 (by omega) ?_ | refine NumH.rem (by omega) ?_ | refine zq4 (by omega) ?_ | refine zq5 (by omega) ?_ | refine zq6 ?_ | refine Req.mk (by omega) ?_ | refine Req.mk (by dsimp only; omega) ?_ | refine Req.mk ⟨rfl, rfl, rfl, by simp [ci_length, *], rfl, by simp [okCell], by dsimp only; omega, by omega, by decide⟩ ?_ | refine Req.mk (show pendP _ _ by repeat' constructor) ?_ | (with_reducible refine brT ?_ ?_; next => assumption) | (with_reducible refine brF ?_ ?_; next => assumption) | (with_reducible refine brDT ?_ ?_; next => omega) | (with_reducible refine brDF ?_ ?_; next => omega) | (with_reducible refine brET ?_ ?_; next => omega) | (with_reducible refine brEF ?_ ?_; next => omega) | (with_reducible refine brNET ?_ ?_; next => omega) | (with_reducible refine brNEF ?_ ?_; next => omega) | with_reducible refine brNot ?_); conv => whnf))
  · rintro _ _ _ ⟨rfl, rfl, rfl⟩
    have hbl := lbb
    subst hbb
    have b1 : (v == v) = true := by simp
    have b2 : (e == e) = true := by simp
    rcases hve with ⟨rfl, -, -, -⟩ | ⟨rfl, rfl, -⟩
    · conv => whnf
      refine DrawH.plan seat_ok (.take 0 (.take 1 (.take 3 (.take 4 (.take 5 (.perform 2 none (.perform 6 none (.take 7 (.take 8 (.take 9 Plan.done)))))))))) 0 (by kernel_rfl) ?_
      conv => whnf
      repeat' (first | rfl | (refine CallH.lift seat_g cd1 (by simp [Closed, ClosedL]) (by simp [Closed]) ?_; conv => whnf) | (refine CallH.lift seat_g cd2 (by simp [Closed, ClosedL]) (by simp [Closed]) ?_; conv => whnf) | (refine CallH.lift seat_g cl1 (by simp [Closed, ClosedL]) (by simp [Closed]) ?_; conv => whnf) | (refine CallH.lift seat_g cl2 (by simp [Closed, ClosedL]) (by simp [Closed]) ?_; conv => whnf) | (refine CallH.lift seat_g p1 (by simp [Closed, ClosedL]) (by simp [Closed, ClosedL]) ?_; conv => whnf) | (refine CallH.lift seat_g p2 (by simp [Closed, ClosedL]) (by simp [Closed, ClosedL]) ?_; conv => whnf) | (refine CallH.lift seat_g p3 (by simp [Closed, ClosedL]) (by simp [Closed, ClosedL]) ?_; conv => whnf) | (refine CallH.lift seat_g p4 (by simp [Closed, ClosedL]) (by simp [Closed, ClosedL]) ?_; conv => whnf) | (refine Req.mk (by simp only [List.length_append, List.toList_toArray, List.length_cons, List.length_nil]; omega) ?_; conv => whnf) | ((first | refine zq1 (by omega) ?_ | refine zq2 (by omega) ?_ | refine NumH.rem (by omega) ?_ | refine zq4 (by omega) ?_ | refine zq5 (by omega) ?_ | refine zq6 ?_ | refine Req.mk (by omega) ?_ | refine Req.mk (by dsimp only; omega) ?_ | refine Req.mk ⟨rfl, rfl, rfl, by simp [ci_length, *], rfl, by simp [okCell], by dsimp only; omega, by omega, by decide⟩ ?_ | refine Req.mk (show pendP _ _ by repeat' constructor) ?_ | (with_reducible refine brT ?_ ?_; next => assumption) | (with_reducible refine brF ?_ ?_; next => assumption) | (with_reducible refine brDT ?_ ?_; next => omega) | (with_reducible refine brDF ?_ ?_; next => omega) | (with_reducible refine brET ?_ ?_; next => omega) | (with_reducible refine brEF ?_ ?_; next => omega) | (with_reducible refine brNET ?_ ?_; next => omega) | (with_reducible refine brNEF ?_ ?_; next => omega) | with_reducible refine brNot ?_); conv => whnf))
    · conv => whnf
      refine DrawH.plan seat_ok (.take 0 (.take 1 (.take 3 (.take 4 (.take 5 (.perform 2 none (.perform 6 none (.take 7 (.take 8 (.take 9 Plan.done)))))))))) 0 (by kernel_rfl) ?_
      conv => whnf
      repeat' (first | rfl | (refine CallH.lift seat_g cd1 (by simp [Closed, ClosedL]) (by simp [Closed]) ?_; conv => whnf) | (refine CallH.lift seat_g cd2 (by simp [Closed, ClosedL]) (by simp [Closed]) ?_; conv => whnf) | (refine CallH.lift seat_g cl1 (by simp [Closed, ClosedL]) (by simp [Closed]) ?_; conv => whnf) | (refine CallH.lift seat_g cl2 (by simp [Closed, ClosedL]) (by simp [Closed]) ?_; conv => whnf) | (refine CallH.lift seat_g p1 (by simp [Closed, ClosedL]) (by simp [Closed, ClosedL]) ?_; conv => whnf) | (refine CallH.lift seat_g p2 (by simp [Closed, ClosedL]) (by simp [Closed, ClosedL]) ?_; conv => whnf) | (refine CallH.lift seat_g p3 (by simp [Closed, ClosedL]) (by simp [Closed, ClosedL]) ?_; conv => whnf) | (refine CallH.lift seat_g p4 (by simp [Closed, ClosedL]) (by simp [Closed, ClosedL]) ?_; conv => whnf) | (refine Req.mk (by simp only [List.length_append, List.toList_toArray, List.length_cons, List.length_nil]; omega) ?_; conv => whnf) | ((first | refine zq1 (by omega) ?_ | refine zq2 (by omega) ?_ | refine NumH.rem (by omega) ?_ | refine zq4 (by omega) ?_ | refine zq5 (by omega) ?_ | refine zq6 ?_ | refine Req.mk (by omega) ?_ | refine Req.mk (by dsimp only; omega) ?_ | refine Req.mk ⟨rfl, rfl, rfl, by simp [ci_length, *], rfl, by simp [okCell], by dsimp only; omega, by omega, by decide⟩ ?_ | refine Req.mk (show pendP _ _ by repeat' constructor) ?_ | (with_reducible refine brT ?_ ?_; next => assumption) | (with_reducible refine brF ?_ ?_; next => assumption) | (with_reducible refine brDT ?_ ?_; next => omega) | (with_reducible refine brDF ?_ ?_; next => omega) | (with_reducible refine brET ?_ ?_; next => omega) | (with_reducible refine brEF ?_ ?_; next => omega) | (with_reducible refine brNET ?_ ?_; next => omega) | (with_reducible refine brNEF ?_ ?_; next => omega) | with_reducible refine brNot ?_); conv => whnf))
end Go.Proofs.YtinjgnaimmenbaaDoor
