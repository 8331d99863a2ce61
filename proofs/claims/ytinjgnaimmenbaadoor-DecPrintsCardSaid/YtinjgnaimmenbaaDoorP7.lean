/- Definitions and lemmas for the law, part 7. No condition beyond those in each statement. -/
import Derived.Test.YtinjgnaimmenbaaDoorP6
set_option linter.unusedSimpArgs false
set_option linter.unusedVariables false
set_option linter.deprecated false
namespace Go.Proofs.YtinjgnaimmenbaaDoor
open Go.Abs
def dcs : Nat → Nat → List AV
  | 0, _ => []
  | d + 1, n => dcs d (n / 10) ++ [.int .u8 (dgB (n % 10)).toNat]
theorem dc_o {z m : Nat} (h : z % 2 = 1 ∧ z / 2 % 10 = m % 10) : AV.int .u8 (smB z).toNat = .int .u8 (dgB (m % 10)).toNat := by
  unfold smB; rw [if_neg (by omega), h.2]
theorem dc_e {z m : Nat} (h : z % 2 = 0 ∧ z / 2 / 10 = m % 10) : AV.int .u8 (smB z).toNat = .int .u8 (dgB (m % 10)).toNat := by
  unfold smB; rw [if_pos h.1, h.2]
theorem dc_1 {z : Int} {m : Nat} (h : z = 48 + ((m % 10 : Nat) : Int)) : AV.int .u8 z = .int .u8 (dgB (m % 10)).toNat := by
  rw [dgB_nat (Nat.mod_lt _ (by decide)), h]; rfl
theorem cons_eq {a b : AV} {l m : List AV} (h : a = b) (k : l = m) : a :: l = b :: m := by rw [h, k]
theorem dcs_len : ∀ (d n : Nat), (dcs d n).length = d
  | 0, _ => rfl
  | d + 1, n => by rw [dcs, List.length_append, dcs_len d]; rfl
theorem dcs_closed : ∀ (d n : Nat), ∀ c ∈ dcs d n, Closed c
  | 0, _, c, h => by cases h
  | d + 1, n, c, h => by
    rcases List.mem_append.1 h with h | h
    · exact dcs_closed d _ c h
    · rw [List.mem_singleton.1 h]; simp [Closed]
theorem bytesK_app : ∀ (n : Nat) (l : List AV) (m : List UInt8) (b : UInt8), bytesK n l = some m → bytesK (n + 1) (l ++ [.int .u8 b.toNat]) = some (m ++ [b])
  | 0, [], m, b, h => by cases h; simp [bytesK]
  | n + 1, .int .u8 v :: l, m, b, h => by
    rw [bytesK] at h
    split at h
    · rename_i r hr
      cases h
      rw [List.cons_append, bytesK, bytesK_app n l r b hr]
      rfl
    · cases h
theorem dcs_bytes : ∀ (d n : Nat), bytesK d (dcs d n) = some (decF d n)
  | 0, _ => rfl
  | d + 1, n => bytesK_app d _ _ _ (dcs_bytes d (n / 10))
set_option maxRecDepth 20000 in
set_option maxHeartbeats 2000000 in
theorem c_fb3 (n : Nat) (hn : n < 1000) : ACalls seat 42 [.row 0 0 3 24, .int .u64 n] [.var (List.replicate 24 (.int .u8 0)) 76] (fun x h => x = .ret (.tup []) ∧ h = [.var (dcs 3 n ++ List.replicate 21 (.int .u8 0)) 76]) := by
  refine ACalls.body seat_ok Tryd.func42 rfl rfl ?_
  conv => whnf
  repeat' (first | (refine quo_u32 (by omega) ?_; conv => whnf) | (refine WrapH.is _ (wrap_u32 (by omega) (by omega)) ?_; conv => whnf) | (refine ldI _ (small_ld (by omega)) ?_; conv => whnf) | (refine Req.mk ⟨by omega, Int.lt_of_lt_of_le (b := 200) (by omega) (by decide +kernel)⟩ ?_; conv => whnf) | (refine WrapH.is _ (wrap_u8 (by omega) (by omega)) ?_; conv => whnf) | ((first | refine zq1 (by omega) ?_ | refine zq2 (by omega) ?_ | refine NumH.rem (by omega) ?_ | refine zq4 (by omega) ?_ | refine zq5 (by omega) ?_ | refine zq6 ?_ | refine Req.mk (by omega) ?_ | refine Req.mk (by dsimp only; omega) ?_ | refine Req.mk (show pendP _ _ by repeat' constructor) ?_ | (with_reducible first | refine brT (by assumption) ?_ | refine brF (by assumption) ?_ | refine brDT (by omega) ?_ | refine brDF (by omega) ?_ | refine brET (by omega) ?_ | refine brEF (by omega) ?_ | refine brNET (by omega) ?_ | refine brNEF (by omega) ?_ | refine brNot ?_)); conv => whnf))
  refine Sat.unroll seat_ok 2 ?_
  conv => whnf
  repeat' (first | (refine quo_u32 (by omega) ?_; conv => whnf) | (refine WrapH.is _ (wrap_u32 (by omega) (by omega)) ?_; conv => whnf) | (refine ldI _ (small_ld (by omega)) ?_; conv => whnf) | (refine Req.mk ⟨by omega, Int.lt_of_lt_of_le (b := 200) (by omega) (by decide +kernel)⟩ ?_; conv => whnf) | (refine WrapH.is _ (wrap_u8 (by omega) (by omega)) ?_; conv => whnf) | ((first | refine zq1 (by omega) ?_ | refine zq2 (by omega) ?_ | refine NumH.rem (by omega) ?_ | refine zq4 (by omega) ?_ | refine zq5 (by omega) ?_ | refine zq6 ?_ | refine Req.mk (by omega) ?_ | refine Req.mk (by dsimp only; omega) ?_ | refine Req.mk (show pendP _ _ by repeat' constructor) ?_ | (with_reducible first | refine brT (by assumption) ?_ | refine brF (by assumption) ?_ | refine brDT (by omega) ?_ | refine brDF (by omega) ?_ | refine brET (by omega) ?_ | refine brEF (by omega) ?_ | refine brNET (by omega) ?_ | refine brNEF (by omega) ?_ | refine brNot ?_)); conv => whnf))
  refine DrawH.plan seat_ok (.take 0 (.take 1 (.take 2 (.take 3 (.take 4 (.take 5 (.take 6 (.take 7 (.take 8 (.take 9 (.take 10 (.take 11 (.perform 12 none (.take 13 (.perform 14 none Plan.done))))))))))))))) 0 (by kernel_rfl) ?_
  conv => whnf
  repeat' (first | (refine quo_u32 (by omega) ?_; conv => whnf) | (refine WrapH.is _ (wrap_u32 (by omega) (by omega)) ?_; conv => whnf) | (refine ldI _ (small_ld (by omega)) ?_; conv => whnf) | (refine Req.mk ⟨by omega, Int.lt_of_lt_of_le (b := 200) (by omega) (by decide +kernel)⟩ ?_; conv => whnf) | (refine WrapH.is _ (wrap_u8 (by omega) (by omega)) ?_; conv => whnf) | ((first | refine zq1 (by omega) ?_ | refine zq2 (by omega) ?_ | refine NumH.rem (by omega) ?_ | refine zq4 (by omega) ?_ | refine zq5 (by omega) ?_ | refine zq6 ?_ | refine Req.mk (by omega) ?_ | refine Req.mk (by dsimp only; omega) ?_ | refine Req.mk (show pendP _ _ by repeat' constructor) ?_ | (with_reducible first | refine brT (by assumption) ?_ | refine brF (by assumption) ?_ | refine brDT (by omega) ?_ | refine brDF (by omega) ?_ | refine brET (by omega) ?_ | refine brEF (by omega) ?_ | refine brNET (by omega) ?_ | refine brNEF (by omega) ?_ | refine brNot ?_)); conv => whnf))
  refine ⟨rfl, congrArg (fun l => [Chunk.var l _]) ?_⟩
  exact cons_eq (dc_1 (by omega)) (cons_eq (dc_e (by omega)) (cons_eq (dc_o (by omega)) (rfl)))
set_option maxRecDepth 20000 in
set_option maxHeartbeats 2000000 in
theorem c_fb4 (n : Nat) (hn : n < 10000) : ACalls seat 42 [.row 0 0 4 24, .int .u64 n] [.var (List.replicate 24 (.int .u8 0)) 76] (fun x h => x = .ret (.tup []) ∧ h = [.var (dcs 4 n ++ List.replicate 20 (.int .u8 0)) 76]) := by
  refine ACalls.body seat_ok Tryd.func42 rfl rfl ?_
  conv => whnf
  repeat' (first | (refine quo_u32 (by omega) ?_; conv => whnf) | (refine WrapH.is _ (wrap_u32 (by omega) (by omega)) ?_; conv => whnf) | (refine ldI _ (small_ld (by omega)) ?_; conv => whnf) | (refine Req.mk ⟨by omega, Int.lt_of_lt_of_le (b := 200) (by omega) (by decide +kernel)⟩ ?_; conv => whnf) | (refine WrapH.is _ (wrap_u8 (by omega) (by omega)) ?_; conv => whnf) | ((first | refine zq1 (by omega) ?_ | refine zq2 (by omega) ?_ | refine NumH.rem (by omega) ?_ | refine zq4 (by omega) ?_ | refine zq5 (by omega) ?_ | refine zq6 ?_ | refine Req.mk (by omega) ?_ | refine Req.mk (by dsimp only; omega) ?_ | refine Req.mk (show pendP _ _ by repeat' constructor) ?_ | (with_reducible first | refine brT (by assumption) ?_ | refine brF (by assumption) ?_ | refine brDT (by omega) ?_ | refine brDF (by omega) ?_ | refine brET (by omega) ?_ | refine brEF (by omega) ?_ | refine brNET (by omega) ?_ | refine brNEF (by omega) ?_ | refine brNot ?_)); conv => whnf))
  refine Sat.unroll seat_ok 2 ?_
  conv => whnf
  repeat' (first | (refine quo_u32 (by omega) ?_; conv => whnf) | (refine WrapH.is _ (wrap_u32 (by omega) (by omega)) ?_; conv => whnf) | (refine ldI _ (small_ld (by omega)) ?_; conv => whnf) | (refine Req.mk ⟨by omega, Int.lt_of_lt_of_le (b := 200) (by omega) (by decide +kernel)⟩ ?_; conv => whnf) | (refine WrapH.is _ (wrap_u8 (by omega) (by omega)) ?_; conv => whnf) | ((first | refine zq1 (by omega) ?_ | refine zq2 (by omega) ?_ | refine NumH.rem (by omega) ?_ | refine zq4 (by omega) ?_ | refine zq5 (by omega) ?_ | refine zq6 ?_ | refine Req.mk (by omega) ?_ | refine Req.mk (by dsimp only; omega) ?_ | refine Req.mk (show pendP _ _ by repeat' constructor) ?_ | (with_reducible first | refine brT (by assumption) ?_ | refine brF (by assumption) ?_ | refine brDT (by omega) ?_ | refine brDF (by omega) ?_ | refine brET (by omega) ?_ | refine brEF (by omega) ?_ | refine brNET (by omega) ?_ | refine brNEF (by omega) ?_ | refine brNot ?_)); conv => whnf))
  refine DrawH.plan seat_ok (.take 0 (.take 1 (.take 2 (.take 3 (.take 4 (.take 5 (.take 6 (.take 7 (.take 8 (.take 9 (.take 10 (.take 11 (.perform 12 none (.take 13 (.perform 14 none Plan.done))))))))))))))) 0 (by kernel_rfl) ?_
  conv => whnf
  repeat' (first | (refine quo_u32 (by omega) ?_; conv => whnf) | (refine WrapH.is _ (wrap_u32 (by omega) (by omega)) ?_; conv => whnf) | (refine ldI _ (small_ld (by omega)) ?_; conv => whnf) | (refine Req.mk ⟨by omega, Int.lt_of_lt_of_le (b := 200) (by omega) (by decide +kernel)⟩ ?_; conv => whnf) | (refine WrapH.is _ (wrap_u8 (by omega) (by omega)) ?_; conv => whnf) | ((first | refine zq1 (by omega) ?_ | refine zq2 (by omega) ?_ | refine NumH.rem (by omega) ?_ | refine zq4 (by omega) ?_ | refine zq5 (by omega) ?_ | refine zq6 ?_ | refine Req.mk (by omega) ?_ | refine Req.mk (by dsimp only; omega) ?_ | refine Req.mk (show pendP _ _ by repeat' constructor) ?_ | (with_reducible first | refine brT (by assumption) ?_ | refine brF (by assumption) ?_ | refine brDT (by omega) ?_ | refine brDF (by omega) ?_ | refine brET (by omega) ?_ | refine brEF (by omega) ?_ | refine brNET (by omega) ?_ | refine brNEF (by omega) ?_ | refine brNot ?_)); conv => whnf))
  refine DrawH.plan seat_ok (.take 0 (.take 1 (.take 2 (.take 3 (.take 4 (.take 5 (.take 6 (.take 7 (.take 8 (.take 9 (.take 10 (.take 11 (.perform 12 none (.take 13 (.perform 14 none Plan.done))))))))))))))) 0 (by kernel_rfl) ?_
  conv => whnf
  repeat' (first | (refine quo_u32 (by omega) ?_; conv => whnf) | (refine WrapH.is _ (wrap_u32 (by omega) (by omega)) ?_; conv => whnf) | (refine ldI _ (small_ld (by omega)) ?_; conv => whnf) | (refine Req.mk ⟨by omega, Int.lt_of_lt_of_le (b := 200) (by omega) (by decide +kernel)⟩ ?_; conv => whnf) | (refine WrapH.is _ (wrap_u8 (by omega) (by omega)) ?_; conv => whnf) | ((first | refine zq1 (by omega) ?_ | refine zq2 (by omega) ?_ | refine NumH.rem (by omega) ?_ | refine zq4 (by omega) ?_ | refine zq5 (by omega) ?_ | refine zq6 ?_ | refine Req.mk (by omega) ?_ | refine Req.mk (by dsimp only; omega) ?_ | refine Req.mk (show pendP _ _ by repeat' constructor) ?_ | (with_reducible first | refine brT (by assumption) ?_ | refine brF (by assumption) ?_ | refine brDT (by omega) ?_ | refine brDF (by omega) ?_ | refine brET (by omega) ?_ | refine brEF (by omega) ?_ | refine brNET (by omega) ?_ | refine brNEF (by omega) ?_ | refine brNot ?_)); conv => whnf))
  refine ⟨rfl, congrArg (fun l => [Chunk.var l _]) ?_⟩
  exact cons_eq (dc_e (by omega)) (cons_eq (dc_o (by omega)) (cons_eq (dc_e (by omega)) (cons_eq (dc_o (by omega)) (rfl))))
set_option maxRecDepth 20000 in
set_option maxHeartbeats 2000000 in
theorem c_fb5 (n : Nat) (hn : n < 100000) : ACalls seat 42 [.row 0 0 5 24, .int .u64 n] [.var (List.replicate 24 (.int .u8 0)) 76] (fun x h => x = .ret (.tup []) ∧ h = [.var (dcs 5 n ++ List.replicate 19 (.int .u8 0)) 76]) := by
  refine ACalls.body seat_ok Tryd.func42 rfl rfl ?_
  conv => whnf
  repeat' (first | (refine quo_u32 (by omega) ?_; conv => whnf) | (refine WrapH.is _ (wrap_u32 (by omega) (by omega)) ?_; conv => whnf) | (refine ldI _ (small_ld (by omega)) ?_; conv => whnf) | (refine Req.mk ⟨by omega, Int.lt_of_lt_of_le (b := 200) (by omega) (by decide +kernel)⟩ ?_; conv => whnf) | (refine WrapH.is _ (wrap_u8 (by omega) (by omega)) ?_; conv => whnf) | ((first | refine zq1 (by omega) ?_ | refine zq2 (by omega) ?_ | refine NumH.rem (by omega) ?_ | refine zq4 (by omega) ?_ | refine zq5 (by omega) ?_ | refine zq6 ?_ | refine Req.mk (by omega) ?_ | refine Req.mk (by dsimp only; omega) ?_ | refine Req.mk (show pendP _ _ by repeat' constructor) ?_ | (with_reducible first | refine brT (by assumption) ?_ | refine brF (by assumption) ?_ | refine brDT (by omega) ?_ | refine brDF (by omega) ?_ | refine brET (by omega) ?_ | refine brEF (by omega) ?_ | refine brNET (by omega) ?_ | refine brNEF (by omega) ?_ | refine brNot ?_)); conv => whnf))
  refine Sat.unroll seat_ok 2 ?_
  conv => whnf
  repeat' (first | (refine quo_u32 (by omega) ?_; conv => whnf) | (refine WrapH.is _ (wrap_u32 (by omega) (by omega)) ?_; conv => whnf) | (refine ldI _ (small_ld (by omega)) ?_; conv => whnf) | (refine Req.mk ⟨by omega, Int.lt_of_lt_of_le (b := 200) (by omega) (by decide +kernel)⟩ ?_; conv => whnf) | (refine WrapH.is _ (wrap_u8 (by omega) (by omega)) ?_; conv => whnf) | ((first | refine zq1 (by omega) ?_ | refine zq2 (by omega) ?_ | refine NumH.rem (by omega) ?_ | refine zq4 (by omega) ?_ | refine zq5 (by omega) ?_ | refine zq6 ?_ | refine Req.mk (by omega) ?_ | refine Req.mk (by dsimp only; omega) ?_ | refine Req.mk (show pendP _ _ by repeat' constructor) ?_ | (with_reducible first | refine brT (by assumption) ?_ | refine brF (by assumption) ?_ | refine brDT (by omega) ?_ | refine brDF (by omega) ?_ | refine brET (by omega) ?_ | refine brEF (by omega) ?_ | refine brNET (by omega) ?_ | refine brNEF (by omega) ?_ | refine brNot ?_)); conv => whnf))
  refine DrawH.plan seat_ok (.take 0 (.take 1 (.take 2 (.take 3 (.take 4 (.take 5 (.take 6 (.take 7 (.take 8 (.take 9 (.take 10 (.take 11 (.perform 12 none (.take 13 (.perform 14 none Plan.done))))))))))))))) 0 (by kernel_rfl) ?_
  conv => whnf
  repeat' (first | (refine quo_u32 (by omega) ?_; conv => whnf) | (refine WrapH.is _ (wrap_u32 (by omega) (by omega)) ?_; conv => whnf) | (refine ldI _ (small_ld (by omega)) ?_; conv => whnf) | (refine Req.mk ⟨by omega, Int.lt_of_lt_of_le (b := 200) (by omega) (by decide +kernel)⟩ ?_; conv => whnf) | (refine WrapH.is _ (wrap_u8 (by omega) (by omega)) ?_; conv => whnf) | ((first | refine zq1 (by omega) ?_ | refine zq2 (by omega) ?_ | refine NumH.rem (by omega) ?_ | refine zq4 (by omega) ?_ | refine zq5 (by omega) ?_ | refine zq6 ?_ | refine Req.mk (by omega) ?_ | refine Req.mk (by dsimp only; omega) ?_ | refine Req.mk (show pendP _ _ by repeat' constructor) ?_ | (with_reducible first | refine brT (by assumption) ?_ | refine brF (by assumption) ?_ | refine brDT (by omega) ?_ | refine brDF (by omega) ?_ | refine brET (by omega) ?_ | refine brEF (by omega) ?_ | refine brNET (by omega) ?_ | refine brNEF (by omega) ?_ | refine brNot ?_)); conv => whnf))
  refine DrawH.plan seat_ok (.take 0 (.take 1 (.take 2 (.take 3 (.take 4 (.take 5 (.take 6 (.take 7 (.take 8 (.take 9 (.take 10 (.take 11 (.perform 12 none (.take 13 (.perform 14 none Plan.done))))))))))))))) 0 (by kernel_rfl) ?_
  conv => whnf
  repeat' (first | (refine quo_u32 (by omega) ?_; conv => whnf) | (refine WrapH.is _ (wrap_u32 (by omega) (by omega)) ?_; conv => whnf) | (refine ldI _ (small_ld (by omega)) ?_; conv => whnf) | (refine Req.mk ⟨by omega, Int.lt_of_lt_of_le (b := 200) (by omega) (by decide +kernel)⟩ ?_; conv => whnf) | (refine WrapH.is _ (wrap_u8 (by omega) (by omega)) ?_; conv => whnf) | ((first | refine zq1 (by omega) ?_ | refine zq2 (by omega) ?_ | refine NumH.rem (by omega) ?_ | refine zq4 (by omega) ?_ | refine zq5 (by omega) ?_ | refine zq6 ?_ | refine Req.mk (by omega) ?_ | refine Req.mk (by dsimp only; omega) ?_ | refine Req.mk (show pendP _ _ by repeat' constructor) ?_ | (with_reducible first | refine brT (by assumption) ?_ | refine brF (by assumption) ?_ | refine brDT (by omega) ?_ | refine brDF (by omega) ?_ | refine brET (by omega) ?_ | refine brEF (by omega) ?_ | refine brNET (by omega) ?_ | refine brNEF (by omega) ?_ | refine brNot ?_)); conv => whnf))
  refine ⟨rfl, congrArg (fun l => [Chunk.var l _]) ?_⟩
  exact cons_eq (dc_1 (by omega)) (cons_eq (dc_e (by omega)) (cons_eq (dc_o (by omega)) (cons_eq (dc_e (by omega)) (cons_eq (dc_o (by omega)) (rfl)))))
set_option maxRecDepth 20000 in
set_option maxHeartbeats 2000000 in
theorem c_fb6 (n : Nat) (hn : n < 1000000) : ACalls seat 42 [.row 0 0 6 24, .int .u64 n] [.var (List.replicate 24 (.int .u8 0)) 76] (fun x h => x = .ret (.tup []) ∧ h = [.var (dcs 6 n ++ List.replicate 18 (.int .u8 0)) 76]) := by
  refine ACalls.body seat_ok Tryd.func42 rfl rfl ?_
  conv => whnf
  repeat' (first | (refine quo_u32 (by omega) ?_; conv => whnf) | (refine WrapH.is _ (wrap_u32 (by omega) (by omega)) ?_; conv => whnf) | (refine ldI _ (small_ld (by omega)) ?_; conv => whnf) | (refine Req.mk ⟨by omega, Int.lt_of_lt_of_le (b := 200) (by omega) (by decide +kernel)⟩ ?_; conv => whnf) | (refine WrapH.is _ (wrap_u8 (by omega) (by omega)) ?_; conv => whnf) | ((first | refine zq1 (by omega) ?_ | refine zq2 (by omega) ?_ | refine NumH.rem (by omega) ?_ | refine zq4 (by omega) ?_ | refine zq5 (by omega) ?_ | refine zq6 ?_ | refine Req.mk (by omega) ?_ | refine Req.mk (by dsimp only; omega) ?_ | refine Req.mk (show pendP _ _ by repeat' constructor) ?_ | (with_reducible first | refine brT (by assumption) ?_ | refine brF (by assumption) ?_ | refine brDT (by omega) ?_ | refine brDF (by omega) ?_ | refine brET (by omega) ?_ | refine brEF (by omega) ?_ | refine brNET (by omega) ?_ | refine brNEF (by omega) ?_ | refine brNot ?_)); conv => whnf))
  refine Sat.unroll seat_ok 2 ?_
  conv => whnf
  repeat' (first | (refine quo_u32 (by omega) ?_; conv => whnf) | (refine WrapH.is _ (wrap_u32 (by omega) (by omega)) ?_; conv => whnf) | (refine ldI _ (small_ld (by omega)) ?_; conv => whnf) | (refine Req.mk ⟨by omega, Int.lt_of_lt_of_le (b := 200) (by omega) (by decide +kernel)⟩ ?_; conv => whnf) | (refine WrapH.is _ (wrap_u8 (by omega) (by omega)) ?_; conv => whnf) | ((first | refine zq1 (by omega) ?_ | refine zq2 (by omega) ?_ | refine NumH.rem (by omega) ?_ | refine zq4 (by omega) ?_ | refine zq5 (by omega) ?_ | refine zq6 ?_ | refine Req.mk (by omega) ?_ | refine Req.mk (by dsimp only; omega) ?_ | refine Req.mk (show pendP _ _ by repeat' constructor) ?_ | (with_reducible first | refine brT (by assumption) ?_ | refine brF (by assumption) ?_ | refine brDT (by omega) ?_ | refine brDF (by omega) ?_ | refine brET (by omega) ?_ | refine brEF (by omega) ?_ | refine brNET (by omega) ?_ | refine brNEF (by omega) ?_ | refine brNot ?_)); conv => whnf))
  refine DrawH.plan seat_ok (.take 0 (.take 1 (.take 2 (.take 3 (.take 4 (.take 5 (.take 6 (.take 7 (.take 8 (.take 9 (.take 10 (.take 11 (.perform 12 none (.take 13 (.perform 14 none Plan.done))))))))))))))) 0 (by kernel_rfl) ?_
  conv => whnf
  repeat' (first | (refine quo_u32 (by omega) ?_; conv => whnf) | (refine WrapH.is _ (wrap_u32 (by omega) (by omega)) ?_; conv => whnf) | (refine ldI _ (small_ld (by omega)) ?_; conv => whnf) | (refine Req.mk ⟨by omega, Int.lt_of_lt_of_le (b := 200) (by omega) (by decide +kernel)⟩ ?_; conv => whnf) | (refine WrapH.is _ (wrap_u8 (by omega) (by omega)) ?_; conv => whnf) | ((first | refine zq1 (by omega) ?_ | refine zq2 (by omega) ?_ | refine NumH.rem (by omega) ?_ | refine zq4 (by omega) ?_ | refine zq5 (by omega) ?_ | refine zq6 ?_ | refine Req.mk (by omega) ?_ | refine Req.mk (by dsimp only; omega) ?_ | refine Req.mk (show pendP _ _ by repeat' constructor) ?_ | (with_reducible first | refine brT (by assumption) ?_ | refine brF (by assumption) ?_ | refine brDT (by omega) ?_ | refine brDF (by omega) ?_ | refine brET (by omega) ?_ | refine brEF (by omega) ?_ | refine brNET (by omega) ?_ | refine brNEF (by omega) ?_ | refine brNot ?_)); conv => whnf))
  refine DrawH.plan seat_ok (.take 0 (.take 1 (.take 2 (.take 3 (.take 4 (.take 5 (.take 6 (.take 7 (.take 8 (.take 9 (.take 10 (.take 11 (.perform 12 none (.take 13 (.perform 14 none Plan.done))))))))))))))) 0 (by kernel_rfl) ?_
  conv => whnf
  repeat' (first | (refine quo_u32 (by omega) ?_; conv => whnf) | (refine WrapH.is _ (wrap_u32 (by omega) (by omega)) ?_; conv => whnf) | (refine ldI _ (small_ld (by omega)) ?_; conv => whnf) | (refine Req.mk ⟨by omega, Int.lt_of_lt_of_le (b := 200) (by omega) (by decide +kernel)⟩ ?_; conv => whnf) | (refine WrapH.is _ (wrap_u8 (by omega) (by omega)) ?_; conv => whnf) | ((first | refine zq1 (by omega) ?_ | refine zq2 (by omega) ?_ | refine NumH.rem (by omega) ?_ | refine zq4 (by omega) ?_ | refine zq5 (by omega) ?_ | refine zq6 ?_ | refine Req.mk (by omega) ?_ | refine Req.mk (by dsimp only; omega) ?_ | refine Req.mk (show pendP _ _ by repeat' constructor) ?_ | (with_reducible first | refine brT (by assumption) ?_ | refine brF (by assumption) ?_ | refine brDT (by omega) ?_ | refine brDF (by omega) ?_ | refine brET (by omega) ?_ | refine brEF (by omega) ?_ | refine brNET (by omega) ?_ | refine brNEF (by omega) ?_ | refine brNot ?_)); conv => whnf))
  refine DrawH.plan seat_ok (.take 0 (.take 1 (.take 2 (.take 3 (.take 4 (.take 5 (.take 6 (.take 7 (.take 8 (.take 9 (.take 10 (.take 11 (.perform 12 none (.take 13 (.perform 14 none Plan.done))))))))))))))) 0 (by kernel_rfl) ?_
  conv => whnf
  repeat' (first | (refine quo_u32 (by omega) ?_; conv => whnf) | (refine WrapH.is _ (wrap_u32 (by omega) (by omega)) ?_; conv => whnf) | (refine ldI _ (small_ld (by omega)) ?_; conv => whnf) | (refine Req.mk ⟨by omega, Int.lt_of_lt_of_le (b := 200) (by omega) (by decide +kernel)⟩ ?_; conv => whnf) | (refine WrapH.is _ (wrap_u8 (by omega) (by omega)) ?_; conv => whnf) | ((first | refine zq1 (by omega) ?_ | refine zq2 (by omega) ?_ | refine NumH.rem (by omega) ?_ | refine zq4 (by omega) ?_ | refine zq5 (by omega) ?_ | refine zq6 ?_ | refine Req.mk (by omega) ?_ | refine Req.mk (by dsimp only; omega) ?_ | refine Req.mk (show pendP _ _ by repeat' constructor) ?_ | (with_reducible first | refine brT (by assumption) ?_ | refine brF (by assumption) ?_ | refine brDT (by omega) ?_ | refine brDF (by omega) ?_ | refine brET (by omega) ?_ | refine brEF (by omega) ?_ | refine brNET (by omega) ?_ | refine brNEF (by omega) ?_ | refine brNot ?_)); conv => whnf))
  refine ⟨rfl, congrArg (fun l => [Chunk.var l _]) ?_⟩
  exact cons_eq (dc_e (by omega)) (cons_eq (dc_o (by omega)) (cons_eq (dc_e (by omega)) (cons_eq (dc_o (by omega)) (cons_eq (dc_e (by omega)) (cons_eq (dc_o (by omega)) (rfl))))))
set_option maxRecDepth 20000 in
set_option maxHeartbeats 2000000 in
theorem c_fb7 (n : Nat) (hn : n < 10000000) : ACalls seat 42 [.row 0 0 7 24, .int .u64 n] [.var (List.replicate 24 (.int .u8 0)) 76] (fun x h => x = .ret (.tup []) ∧ h = [.var (dcs 7 n ++ List.replicate 17 (.int .u8 0)) 76]) := by
  refine ACalls.body seat_ok Tryd.func42 rfl rfl ?_
  conv => whnf
  repeat' (first | (refine quo_u32 (by omega) ?_; conv => whnf) | (refine WrapH.is _ (wrap_u32 (by omega) (by omega)) ?_; conv => whnf) | (refine ldI _ (small_ld (by omega)) ?_; conv => whnf) | (refine Req.mk ⟨by omega, Int.lt_of_lt_of_le (b := 200) (by omega) (by decide +kernel)⟩ ?_; conv => whnf) | (refine WrapH.is _ (wrap_u8 (by omega) (by omega)) ?_; conv => whnf) | ((first | refine zq1 (by omega) ?_ | refine zq2 (by omega) ?_ | refine NumH.rem (by omega) ?_ | refine zq4 (by omega) ?_ | refine zq5 (by omega) ?_ | refine zq6 ?_ | refine Req.mk (by omega) ?_ | refine Req.mk (by dsimp only; omega) ?_ | refine Req.mk (show pendP _ _ by repeat' constructor) ?_ | (with_reducible first | refine brT (by assumption) ?_ | refine brF (by assumption) ?_ | refine brDT (by omega) ?_ | refine brDF (by omega) ?_ | refine brET (by omega) ?_ | refine brEF (by omega) ?_ | refine brNET (by omega) ?_ | refine brNEF (by omega) ?_ | refine brNot ?_)); conv => whnf))
  refine Sat.unroll seat_ok 2 ?_
  conv => whnf
  repeat' (first | (refine quo_u32 (by omega) ?_; conv => whnf) | (refine WrapH.is _ (wrap_u32 (by omega) (by omega)) ?_; conv => whnf) | (refine ldI _ (small_ld (by omega)) ?_; conv => whnf) | (refine Req.mk ⟨by omega, Int.lt_of_lt_of_le (b := 200) (by omega) (by decide +kernel)⟩ ?_; conv => whnf) | (refine WrapH.is _ (wrap_u8 (by omega) (by omega)) ?_; conv => whnf) | ((first | refine zq1 (by omega) ?_ | refine zq2 (by omega) ?_ | refine NumH.rem (by omega) ?_ | refine zq4 (by omega) ?_ | refine zq5 (by omega) ?_ | refine zq6 ?_ | refine Req.mk (by omega) ?_ | refine Req.mk (by dsimp only; omega) ?_ | refine Req.mk (show pendP _ _ by repeat' constructor) ?_ | (with_reducible first | refine brT (by assumption) ?_ | refine brF (by assumption) ?_ | refine brDT (by omega) ?_ | refine brDF (by omega) ?_ | refine brET (by omega) ?_ | refine brEF (by omega) ?_ | refine brNET (by omega) ?_ | refine brNEF (by omega) ?_ | refine brNot ?_)); conv => whnf))
  refine DrawH.plan seat_ok (.take 0 (.take 1 (.take 2 (.take 3 (.take 4 (.take 5 (.take 6 (.take 7 (.take 8 (.take 9 (.take 10 (.take 11 (.perform 12 none (.take 13 (.perform 14 none Plan.done))))))))))))))) 0 (by kernel_rfl) ?_
  conv => whnf
  repeat' (first | (refine quo_u32 (by omega) ?_; conv => whnf) | (refine WrapH.is _ (wrap_u32 (by omega) (by omega)) ?_; conv => whnf) | (refine ldI _ (small_ld (by omega)) ?_; conv => whnf) | (refine Req.mk ⟨by omega, Int.lt_of_lt_of_le (b := 200) (by omega) (by decide +kernel)⟩ ?_; conv => whnf) | (refine WrapH.is _ (wrap_u8 (by omega) (by omega)) ?_; conv => whnf) | ((first | refine zq1 (by omega) ?_ | refine zq2 (by omega) ?_ | refine NumH.rem (by omega) ?_ | refine zq4 (by omega) ?_ | refine zq5 (by omega) ?_ | refine zq6 ?_ | refine Req.mk (by omega) ?_ | refine Req.mk (by dsimp only; omega) ?_ | refine Req.mk (show pendP _ _ by repeat' constructor) ?_ | (with_reducible first | refine brT (by assumption) ?_ | refine brF (by assumption) ?_ | refine brDT (by omega) ?_ | refine brDF (by omega) ?_ | refine brET (by omega) ?_ | refine brEF (by omega) ?_ | refine brNET (by omega) ?_ | refine brNEF (by omega) ?_ | refine brNot ?_)); conv => whnf))
  refine DrawH.plan seat_ok (.take 0 (.take 1 (.take 2 (.take 3 (.take 4 (.take 5 (.take 6 (.take 7 (.take 8 (.take 9 (.take 10 (.take 11 (.perform 12 none (.take 13 (.perform 14 none Plan.done))))))))))))))) 0 (by kernel_rfl) ?_
  conv => whnf
  repeat' (first | (refine quo_u32 (by omega) ?_; conv => whnf) | (refine WrapH.is _ (wrap_u32 (by omega) (by omega)) ?_; conv => whnf) | (refine ldI _ (small_ld (by omega)) ?_; conv => whnf) | (refine Req.mk ⟨by omega, Int.lt_of_lt_of_le (b := 200) (by omega) (by decide +kernel)⟩ ?_; conv => whnf) | (refine WrapH.is _ (wrap_u8 (by omega) (by omega)) ?_; conv => whnf) | ((first | refine zq1 (by omega) ?_ | refine zq2 (by omega) ?_ | refine NumH.rem (by omega) ?_ | refine zq4 (by omega) ?_ | refine zq5 (by omega) ?_ | refine zq6 ?_ | refine Req.mk (by omega) ?_ | refine Req.mk (by dsimp only; omega) ?_ | refine Req.mk (show pendP _ _ by repeat' constructor) ?_ | (with_reducible first | refine brT (by assumption) ?_ | refine brF (by assumption) ?_ | refine brDT (by omega) ?_ | refine brDF (by omega) ?_ | refine brET (by omega) ?_ | refine brEF (by omega) ?_ | refine brNET (by omega) ?_ | refine brNEF (by omega) ?_ | refine brNot ?_)); conv => whnf))
  refine DrawH.plan seat_ok (.take 0 (.take 1 (.take 2 (.take 3 (.take 4 (.take 5 (.take 6 (.take 7 (.take 8 (.take 9 (.take 10 (.take 11 (.perform 12 none (.take 13 (.perform 14 none Plan.done))))))))))))))) 0 (by kernel_rfl) ?_
  conv => whnf
  repeat' (first | (refine quo_u32 (by omega) ?_; conv => whnf) | (refine WrapH.is _ (wrap_u32 (by omega) (by omega)) ?_; conv => whnf) | (refine ldI _ (small_ld (by omega)) ?_; conv => whnf) | (refine Req.mk ⟨by omega, Int.lt_of_lt_of_le (b := 200) (by omega) (by decide +kernel)⟩ ?_; conv => whnf) | (refine WrapH.is _ (wrap_u8 (by omega) (by omega)) ?_; conv => whnf) | ((first | refine zq1 (by omega) ?_ | refine zq2 (by omega) ?_ | refine NumH.rem (by omega) ?_ | refine zq4 (by omega) ?_ | refine zq5 (by omega) ?_ | refine zq6 ?_ | refine Req.mk (by omega) ?_ | refine Req.mk (by dsimp only; omega) ?_ | refine Req.mk (show pendP _ _ by repeat' constructor) ?_ | (with_reducible first | refine brT (by assumption) ?_ | refine brF (by assumption) ?_ | refine brDT (by omega) ?_ | refine brDF (by omega) ?_ | refine brET (by omega) ?_ | refine brEF (by omega) ?_ | refine brNET (by omega) ?_ | refine brNEF (by omega) ?_ | refine brNot ?_)); conv => whnf))
  refine ⟨rfl, congrArg (fun l => [Chunk.var l _]) ?_⟩
  exact cons_eq (dc_1 (by omega)) (cons_eq (dc_e (by omega)) (cons_eq (dc_o (by omega)) (cons_eq (dc_e (by omega)) (cons_eq (dc_o (by omega)) (cons_eq (dc_e (by omega)) (cons_eq (dc_o (by omega)) (rfl)))))))
set_option maxRecDepth 20000 in
set_option maxHeartbeats 2000000 in
theorem c_fb8 (n : Nat) (hn : n < 100000000) : ACalls seat 42 [.row 0 0 8 24, .int .u64 n] [.var (List.replicate 24 (.int .u8 0)) 76] (fun x h => x = .ret (.tup []) ∧ h = [.var (dcs 8 n ++ List.replicate 16 (.int .u8 0)) 76]) := by
  refine ACalls.body seat_ok Tryd.func42 rfl rfl ?_
  conv => whnf
  repeat' (first | (refine quo_u32 (by omega) ?_; conv => whnf) | (refine WrapH.is _ (wrap_u32 (by omega) (by omega)) ?_; conv => whnf) | (refine ldI _ (small_ld (by omega)) ?_; conv => whnf) | (refine Req.mk ⟨by omega, Int.lt_of_lt_of_le (b := 200) (by omega) (by decide +kernel)⟩ ?_; conv => whnf) | (refine WrapH.is _ (wrap_u8 (by omega) (by omega)) ?_; conv => whnf) | ((first | refine zq1 (by omega) ?_ | refine zq2 (by omega) ?_ | refine NumH.rem (by omega) ?_ | refine zq4 (by omega) ?_ | refine zq5 (by omega) ?_ | refine zq6 ?_ | refine Req.mk (by omega) ?_ | refine Req.mk (by dsimp only; omega) ?_ | refine Req.mk (show pendP _ _ by repeat' constructor) ?_ | (with_reducible first | refine brT (by assumption) ?_ | refine brF (by assumption) ?_ | refine brDT (by omega) ?_ | refine brDF (by omega) ?_ | refine brET (by omega) ?_ | refine brEF (by omega) ?_ | refine brNET (by omega) ?_ | refine brNEF (by omega) ?_ | refine brNot ?_)); conv => whnf))
  refine Sat.unroll seat_ok 2 ?_
  conv => whnf
  repeat' (first | (refine quo_u32 (by omega) ?_; conv => whnf) | (refine WrapH.is _ (wrap_u32 (by omega) (by omega)) ?_; conv => whnf) | (refine ldI _ (small_ld (by omega)) ?_; conv => whnf) | (refine Req.mk ⟨by omega, Int.lt_of_lt_of_le (b := 200) (by omega) (by decide +kernel)⟩ ?_; conv => whnf) | (refine WrapH.is _ (wrap_u8 (by omega) (by omega)) ?_; conv => whnf) | ((first | refine zq1 (by omega) ?_ | refine zq2 (by omega) ?_ | refine NumH.rem (by omega) ?_ | refine zq4 (by omega) ?_ | refine zq5 (by omega) ?_ | refine zq6 ?_ | refine Req.mk (by omega) ?_ | refine Req.mk (by dsimp only; omega) ?_ | refine Req.mk (show pendP _ _ by repeat' constructor) ?_ | (with_reducible first | refine brT (by assumption) ?_ | refine brF (by assumption) ?_ | refine brDT (by omega) ?_ | refine brDF (by omega) ?_ | refine brET (by omega) ?_ | refine brEF (by omega) ?_ | refine brNET (by omega) ?_ | refine brNEF (by omega) ?_ | refine brNot ?_)); conv => whnf))
  refine DrawH.plan seat_ok (.take 0 (.take 1 (.take 2 (.take 3 (.take 4 (.take 5 (.take 6 (.take 7 (.take 8 (.take 9 (.take 10 (.take 11 (.perform 12 none (.take 13 (.perform 14 none Plan.done))))))))))))))) 0 (by kernel_rfl) ?_
  conv => whnf
  repeat' (first | (refine quo_u32 (by omega) ?_; conv => whnf) | (refine WrapH.is _ (wrap_u32 (by omega) (by omega)) ?_; conv => whnf) | (refine ldI _ (small_ld (by omega)) ?_; conv => whnf) | (refine Req.mk ⟨by omega, Int.lt_of_lt_of_le (b := 200) (by omega) (by decide +kernel)⟩ ?_; conv => whnf) | (refine WrapH.is _ (wrap_u8 (by omega) (by omega)) ?_; conv => whnf) | ((first | refine zq1 (by omega) ?_ | refine zq2 (by omega) ?_ | refine NumH.rem (by omega) ?_ | refine zq4 (by omega) ?_ | refine zq5 (by omega) ?_ | refine zq6 ?_ | refine Req.mk (by omega) ?_ | refine Req.mk (by dsimp only; omega) ?_ | refine Req.mk (show pendP _ _ by repeat' constructor) ?_ | (with_reducible first | refine brT (by assumption) ?_ | refine brF (by assumption) ?_ | refine brDT (by omega) ?_ | refine brDF (by omega) ?_ | refine brET (by omega) ?_ | refine brEF (by omega) ?_ | refine brNET (by omega) ?_ | refine brNEF (by omega) ?_ | refine brNot ?_)); conv => whnf))
  refine DrawH.plan seat_ok (.take 0 (.take 1 (.take 2 (.take 3 (.take 4 (.take 5 (.take 6 (.take 7 (.take 8 (.take 9 (.take 10 (.take 11 (.perform 12 none (.take 13 (.perform 14 none Plan.done))))))))))))))) 0 (by kernel_rfl) ?_
  conv => whnf
  repeat' (first | (refine quo_u32 (by omega) ?_; conv => whnf) | (refine WrapH.is _ (wrap_u32 (by omega) (by omega)) ?_; conv => whnf) | (refine ldI _ (small_ld (by omega)) ?_; conv => whnf) | (refine Req.mk ⟨by omega, Int.lt_of_lt_of_le (b := 200) (by omega) (by decide +kernel)⟩ ?_; conv => whnf) | (refine WrapH.is _ (wrap_u8 (by omega) (by omega)) ?_; conv => whnf) | ((first | refine zq1 (by omega) ?_ | refine zq2 (by omega) ?_ | refine NumH.rem (by omega) ?_ | refine zq4 (by omega) ?_ | refine zq5 (by omega) ?_ | refine zq6 ?_ | refine Req.mk (by omega) ?_ | refine Req.mk (by dsimp only; omega) ?_ | refine Req.mk (show pendP _ _ by repeat' constructor) ?_ | (with_reducible first | refine brT (by assumption) ?_ | refine brF (by assumption) ?_ | refine brDT (by omega) ?_ | refine brDF (by omega) ?_ | refine brET (by omega) ?_ | refine brEF (by omega) ?_ | refine brNET (by omega) ?_ | refine brNEF (by omega) ?_ | refine brNot ?_)); conv => whnf))
  refine DrawH.plan seat_ok (.take 0 (.take 1 (.take 2 (.take 3 (.take 4 (.take 5 (.take 6 (.take 7 (.take 8 (.take 9 (.take 10 (.take 11 (.perform 12 none (.take 13 (.perform 14 none Plan.done))))))))))))))) 0 (by kernel_rfl) ?_
  conv => whnf
  repeat' (first | (refine quo_u32 (by omega) ?_; conv => whnf) | (refine WrapH.is _ (wrap_u32 (by omega) (by omega)) ?_; conv => whnf) | (refine ldI _ (small_ld (by omega)) ?_; conv => whnf) | (refine Req.mk ⟨by omega, Int.lt_of_lt_of_le (b := 200) (by omega) (by decide +kernel)⟩ ?_; conv => whnf) | (refine WrapH.is _ (wrap_u8 (by omega) (by omega)) ?_; conv => whnf) | ((first | refine zq1 (by omega) ?_ | refine zq2 (by omega) ?_ | refine NumH.rem (by omega) ?_ | refine zq4 (by omega) ?_ | refine zq5 (by omega) ?_ | refine zq6 ?_ | refine Req.mk (by omega) ?_ | refine Req.mk (by dsimp only; omega) ?_ | refine Req.mk (show pendP _ _ by repeat' constructor) ?_ | (with_reducible first | refine brT (by assumption) ?_ | refine brF (by assumption) ?_ | refine brDT (by omega) ?_ | refine brDF (by omega) ?_ | refine brET (by omega) ?_ | refine brEF (by omega) ?_ | refine brNET (by omega) ?_ | refine brNEF (by omega) ?_ | refine brNot ?_)); conv => whnf))
  refine DrawH.plan seat_ok (.take 0 (.take 1 (.take 2 (.take 3 (.take 4 (.take 5 (.take 6 (.take 7 (.take 8 (.take 9 (.take 10 (.take 11 (.perform 12 none (.take 13 (.perform 14 none Plan.done))))))))))))))) 0 (by kernel_rfl) ?_
  conv => whnf
  repeat' (first | (refine quo_u32 (by omega) ?_; conv => whnf) | (refine WrapH.is _ (wrap_u32 (by omega) (by omega)) ?_; conv => whnf) | (refine ldI _ (small_ld (by omega)) ?_; conv => whnf) | (refine Req.mk ⟨by omega, Int.lt_of_lt_of_le (b := 200) (by omega) (by decide +kernel)⟩ ?_; conv => whnf) | (refine WrapH.is _ (wrap_u8 (by omega) (by omega)) ?_; conv => whnf) | ((first | refine zq1 (by omega) ?_ | refine zq2 (by omega) ?_ | refine NumH.rem (by omega) ?_ | refine zq4 (by omega) ?_ | refine zq5 (by omega) ?_ | refine zq6 ?_ | refine Req.mk (by omega) ?_ | refine Req.mk (by dsimp only; omega) ?_ | refine Req.mk (show pendP _ _ by repeat' constructor) ?_ | (with_reducible first | refine brT (by assumption) ?_ | refine brF (by assumption) ?_ | refine brDT (by omega) ?_ | refine brDF (by omega) ?_ | refine brET (by omega) ?_ | refine brEF (by omega) ?_ | refine brNET (by omega) ?_ | refine brNEF (by omega) ?_ | refine brNot ?_)); conv => whnf))
  refine ⟨rfl, congrArg (fun l => [Chunk.var l _]) ?_⟩
  exact cons_eq (dc_e (by omega)) (cons_eq (dc_o (by omega)) (cons_eq (dc_e (by omega)) (cons_eq (dc_o (by omega)) (cons_eq (dc_e (by omega)) (cons_eq (dc_o (by omega)) (cons_eq (dc_e (by omega)) (cons_eq (dc_o (by omega)) (rfl))))))))
set_option maxRecDepth 20000 in
set_option maxHeartbeats 2000000 in
theorem c_fb9 (n : Nat) (hn : n < 1000000000) : ACalls seat 42 [.row 0 0 9 24, .int .u64 n] [.var (List.replicate 24 (.int .u8 0)) 76] (fun x h => x = .ret (.tup []) ∧ h = [.var (dcs 9 n ++ List.replicate 15 (.int .u8 0)) 76]) := by
  refine ACalls.body seat_ok Tryd.func42 rfl rfl ?_
  conv => whnf
  repeat' (first | (refine quo_u32 (by omega) ?_; conv => whnf) | (refine WrapH.is _ (wrap_u32 (by omega) (by omega)) ?_; conv => whnf) | (refine ldI _ (small_ld (by omega)) ?_; conv => whnf) | (refine Req.mk ⟨by omega, Int.lt_of_lt_of_le (b := 200) (by omega) (by decide +kernel)⟩ ?_; conv => whnf) | (refine WrapH.is _ (wrap_u8 (by omega) (by omega)) ?_; conv => whnf) | ((first | refine zq1 (by omega) ?_ | refine zq2 (by omega) ?_ | refine NumH.rem (by omega) ?_ | refine zq4 (by omega) ?_ | refine zq5 (by omega) ?_ | refine zq6 ?_ | refine Req.mk (by omega) ?_ | refine Req.mk (by dsimp only; omega) ?_ | refine Req.mk (show pendP _ _ by repeat' constructor) ?_ | (with_reducible first | refine brT (by assumption) ?_ | refine brF (by assumption) ?_ | refine brDT (by omega) ?_ | refine brDF (by omega) ?_ | refine brET (by omega) ?_ | refine brEF (by omega) ?_ | refine brNET (by omega) ?_ | refine brNEF (by omega) ?_ | refine brNot ?_)); conv => whnf))
  refine Sat.unroll seat_ok 2 ?_
  conv => whnf
  repeat' (first | (refine quo_u32 (by omega) ?_; conv => whnf) | (refine WrapH.is _ (wrap_u32 (by omega) (by omega)) ?_; conv => whnf) | (refine ldI _ (small_ld (by omega)) ?_; conv => whnf) | (refine Req.mk ⟨by omega, Int.lt_of_lt_of_le (b := 200) (by omega) (by decide +kernel)⟩ ?_; conv => whnf) | (refine WrapH.is _ (wrap_u8 (by omega) (by omega)) ?_; conv => whnf) | ((first | refine zq1 (by omega) ?_ | refine zq2 (by omega) ?_ | refine NumH.rem (by omega) ?_ | refine zq4 (by omega) ?_ | refine zq5 (by omega) ?_ | refine zq6 ?_ | refine Req.mk (by omega) ?_ | refine Req.mk (by dsimp only; omega) ?_ | refine Req.mk (show pendP _ _ by repeat' constructor) ?_ | (with_reducible first | refine brT (by assumption) ?_ | refine brF (by assumption) ?_ | refine brDT (by omega) ?_ | refine brDF (by omega) ?_ | refine brET (by omega) ?_ | refine brEF (by omega) ?_ | refine brNET (by omega) ?_ | refine brNEF (by omega) ?_ | refine brNot ?_)); conv => whnf))
  refine DrawH.plan seat_ok (.take 0 (.take 1 (.take 2 (.take 3 (.take 4 (.take 5 (.take 6 (.take 7 (.take 8 (.take 9 (.take 10 (.take 11 (.perform 12 none (.take 13 (.perform 14 none Plan.done))))))))))))))) 0 (by kernel_rfl) ?_
  conv => whnf
  repeat' (first | (refine quo_u32 (by omega) ?_; conv => whnf) | (refine WrapH.is _ (wrap_u32 (by omega) (by omega)) ?_; conv => whnf) | (refine ldI _ (small_ld (by omega)) ?_; conv => whnf) | (refine Req.mk ⟨by omega, Int.lt_of_lt_of_le (b := 200) (by omega) (by decide +kernel)⟩ ?_; conv => whnf) | (refine WrapH.is _ (wrap_u8 (by omega) (by omega)) ?_; conv => whnf) | ((first | refine zq1 (by omega) ?_ | refine zq2 (by omega) ?_ | refine NumH.rem (by omega) ?_ | refine zq4 (by omega) ?_ | refine zq5 (by omega) ?_ | refine zq6 ?_ | refine Req.mk (by omega) ?_ | refine Req.mk (by dsimp only; omega) ?_ | refine Req.mk (show pendP _ _ by repeat' constructor) ?_ | (with_reducible first | refine brT (by assumption) ?_ | refine brF (by assumption) ?_ | refine brDT (by omega) ?_ | refine brDF (by omega) ?_ | refine brET (by omega) ?_ | refine brEF (by omega) ?_ | refine brNET (by omega) ?_ | refine brNEF (by omega) ?_ | refine brNot ?_)); conv => whnf))
  refine DrawH.plan seat_ok (.take 0 (.take 1 (.take 2 (.take 3 (.take 4 (.take 5 (.take 6 (.take 7 (.take 8 (.take 9 (.take 10 (.take 11 (.perform 12 none (.take 13 (.perform 14 none Plan.done))))))))))))))) 0 (by kernel_rfl) ?_
  conv => whnf
  repeat' (first | (refine quo_u32 (by omega) ?_; conv => whnf) | (refine WrapH.is _ (wrap_u32 (by omega) (by omega)) ?_; conv => whnf) | (refine ldI _ (small_ld (by omega)) ?_; conv => whnf) | (refine Req.mk ⟨by omega, Int.lt_of_lt_of_le (b := 200) (by omega) (by decide +kernel)⟩ ?_; conv => whnf) | (refine WrapH.is _ (wrap_u8 (by omega) (by omega)) ?_; conv => whnf) | ((first | refine zq1 (by omega) ?_ | refine zq2 (by omega) ?_ | refine NumH.rem (by omega) ?_ | refine zq4 (by omega) ?_ | refine zq5 (by omega) ?_ | refine zq6 ?_ | refine Req.mk (by omega) ?_ | refine Req.mk (by dsimp only; omega) ?_ | refine Req.mk (show pendP _ _ by repeat' constructor) ?_ | (with_reducible first | refine brT (by assumption) ?_ | refine brF (by assumption) ?_ | refine brDT (by omega) ?_ | refine brDF (by omega) ?_ | refine brET (by omega) ?_ | refine brEF (by omega) ?_ | refine brNET (by omega) ?_ | refine brNEF (by omega) ?_ | refine brNot ?_)); conv => whnf))
  refine DrawH.plan seat_ok (.take 0 (.take 1 (.take 2 (.take 3 (.take 4 (.take 5 (.take 6 (.take 7 (.take 8 (.take 9 (.take 10 (.take 11 (.perform 12 none (.take 13 (.perform 14 none Plan.done))))))))))))))) 0 (by kernel_rfl) ?_
  conv => whnf
  repeat' (first | (refine quo_u32 (by omega) ?_; conv => whnf) | (refine WrapH.is _ (wrap_u32 (by omega) (by omega)) ?_; conv => whnf) | (refine ldI _ (small_ld (by omega)) ?_; conv => whnf) | (refine Req.mk ⟨by omega, Int.lt_of_lt_of_le (b := 200) (by omega) (by decide +kernel)⟩ ?_; conv => whnf) | (refine WrapH.is _ (wrap_u8 (by omega) (by omega)) ?_; conv => whnf) | ((first | refine zq1 (by omega) ?_ | refine zq2 (by omega) ?_ | refine NumH.rem (by omega) ?_ | refine zq4 (by omega) ?_ | refine zq5 (by omega) ?_ | refine zq6 ?_ | refine Req.mk (by omega) ?_ | refine Req.mk (by dsimp only; omega) ?_ | refine Req.mk (show pendP _ _ by repeat' constructor) ?_ | (with_reducible first | refine brT (by assumption) ?_ | refine brF (by assumption) ?_ | refine brDT (by omega) ?_ | refine brDF (by omega) ?_ | refine brET (by omega) ?_ | refine brEF (by omega) ?_ | refine brNET (by omega) ?_ | refine brNEF (by omega) ?_ | refine brNot ?_)); conv => whnf))
  refine DrawH.plan seat_ok (.take 0 (.take 1 (.take 2 (.take 3 (.take 4 (.take 5 (.take 6 (.take 7 (.take 8 (.take 9 (.take 10 (.take 11 (.perform 12 none (.take 13 (.perform 14 none Plan.done))))))))))))))) 0 (by kernel_rfl) ?_
  conv => whnf
  repeat' (first | (refine quo_u32 (by omega) ?_; conv => whnf) | (refine WrapH.is _ (wrap_u32 (by omega) (by omega)) ?_; conv => whnf) | (refine ldI _ (small_ld (by omega)) ?_; conv => whnf) | (refine Req.mk ⟨by omega, Int.lt_of_lt_of_le (b := 200) (by omega) (by decide +kernel)⟩ ?_; conv => whnf) | (refine WrapH.is _ (wrap_u8 (by omega) (by omega)) ?_; conv => whnf) | ((first | refine zq1 (by omega) ?_ | refine zq2 (by omega) ?_ | refine NumH.rem (by omega) ?_ | refine zq4 (by omega) ?_ | refine zq5 (by omega) ?_ | refine zq6 ?_ | refine Req.mk (by omega) ?_ | refine Req.mk (by dsimp only; omega) ?_ | refine Req.mk (show pendP _ _ by repeat' constructor) ?_ | (with_reducible first | refine brT (by assumption) ?_ | refine brF (by assumption) ?_ | refine brDT (by omega) ?_ | refine brDF (by omega) ?_ | refine brET (by omega) ?_ | refine brEF (by omega) ?_ | refine brNET (by omega) ?_ | refine brNEF (by omega) ?_ | refine brNot ?_)); conv => whnf))
  refine ⟨rfl, congrArg (fun l => [Chunk.var l _]) ?_⟩
  exact cons_eq (dc_1 (by omega)) (cons_eq (dc_e (by omega)) (cons_eq (dc_o (by omega)) (cons_eq (dc_e (by omega)) (cons_eq (dc_o (by omega)) (cons_eq (dc_e (by omega)) (cons_eq (dc_o (by omega)) (cons_eq (dc_e (by omega)) (cons_eq (dc_o (by omega)) (rfl)))))))))
set_option maxRecDepth 20000 in
set_option maxHeartbeats 2000000 in
theorem c_fb10 (n : Nat) (hn : n < 10000000000) : ACalls seat 42 [.row 0 0 10 24, .int .u64 n] [.var (List.replicate 24 (.int .u8 0)) 76] (fun x h => x = .ret (.tup []) ∧ h = [.var (dcs 10 n ++ List.replicate 14 (.int .u8 0)) 76]) := by
  refine ACalls.body seat_ok Tryd.func42 rfl rfl ?_
  conv => whnf
  repeat' (first | (refine quo_u32 (by omega) ?_; conv => whnf) | (refine WrapH.is _ (wrap_u32 (by omega) (by omega)) ?_; conv => whnf) | (refine ldI _ (small_ld (by omega)) ?_; conv => whnf) | (refine Req.mk ⟨by omega, Int.lt_of_lt_of_le (b := 200) (by omega) (by decide +kernel)⟩ ?_; conv => whnf) | (refine WrapH.is _ (wrap_u8 (by omega) (by omega)) ?_; conv => whnf) | ((first | refine zq1 (by omega) ?_ | refine zq2 (by omega) ?_ | refine NumH.rem (by omega) ?_ | refine zq4 (by omega) ?_ | refine zq5 (by omega) ?_ | refine zq6 ?_ | refine Req.mk (by omega) ?_ | refine Req.mk (by dsimp only; omega) ?_ | refine Req.mk (show pendP _ _ by repeat' constructor) ?_ | (with_reducible first | refine brT (by assumption) ?_ | refine brF (by assumption) ?_ | refine brDT (by omega) ?_ | refine brDF (by omega) ?_ | refine brET (by omega) ?_ | refine brEF (by omega) ?_ | refine brNET (by omega) ?_ | refine brNEF (by omega) ?_ | refine brNot ?_)); conv => whnf))
  refine Sat.unroll seat_ok 2 ?_
  conv => whnf
  repeat' (first | (refine quo_u32 (by omega) ?_; conv => whnf) | (refine WrapH.is _ (wrap_u32 (by omega) (by omega)) ?_; conv => whnf) | (refine ldI _ (small_ld (by omega)) ?_; conv => whnf) | (refine Req.mk ⟨by omega, Int.lt_of_lt_of_le (b := 200) (by omega) (by decide +kernel)⟩ ?_; conv => whnf) | (refine WrapH.is _ (wrap_u8 (by omega) (by omega)) ?_; conv => whnf) | ((first | refine zq1 (by omega) ?_ | refine zq2 (by omega) ?_ | refine NumH.rem (by omega) ?_ | refine zq4 (by omega) ?_ | refine zq5 (by omega) ?_ | refine zq6 ?_ | refine Req.mk (by omega) ?_ | refine Req.mk (by dsimp only; omega) ?_ | refine Req.mk (show pendP _ _ by repeat' constructor) ?_ | (with_reducible first | refine brT (by assumption) ?_ | refine brF (by assumption) ?_ | refine brDT (by omega) ?_ | refine brDF (by omega) ?_ | refine brET (by omega) ?_ | refine brEF (by omega) ?_ | refine brNET (by omega) ?_ | refine brNEF (by omega) ?_ | refine brNot ?_)); conv => whnf))
  refine DrawH.plan seat_ok (.take 0 (.take 1 (.take 2 (.take 3 (.take 4 (.take 5 (.take 6 (.take 7 (.take 8 (.take 9 (.take 10 (.take 11 (.perform 12 none (.take 13 (.perform 14 none Plan.done))))))))))))))) 0 (by kernel_rfl) ?_
  conv => whnf
  repeat' (first | (refine quo_u32 (by omega) ?_; conv => whnf) | (refine WrapH.is _ (wrap_u32 (by omega) (by omega)) ?_; conv => whnf) | (refine ldI _ (small_ld (by omega)) ?_; conv => whnf) | (refine Req.mk ⟨by omega, Int.lt_of_lt_of_le (b := 200) (by omega) (by decide +kernel)⟩ ?_; conv => whnf) | (refine WrapH.is _ (wrap_u8 (by omega) (by omega)) ?_; conv => whnf) | ((first | refine zq1 (by omega) ?_ | refine zq2 (by omega) ?_ | refine NumH.rem (by omega) ?_ | refine zq4 (by omega) ?_ | refine zq5 (by omega) ?_ | refine zq6 ?_ | refine Req.mk (by omega) ?_ | refine Req.mk (by dsimp only; omega) ?_ | refine Req.mk (show pendP _ _ by repeat' constructor) ?_ | (with_reducible first | refine brT (by assumption) ?_ | refine brF (by assumption) ?_ | refine brDT (by omega) ?_ | refine brDF (by omega) ?_ | refine brET (by omega) ?_ | refine brEF (by omega) ?_ | refine brNET (by omega) ?_ | refine brNEF (by omega) ?_ | refine brNot ?_)); conv => whnf))
  refine DrawH.plan seat_ok (.take 0 (.take 1 (.take 2 (.take 3 (.take 4 (.take 5 (.take 6 (.take 7 (.take 8 (.take 9 (.take 10 (.take 11 (.perform 12 none (.take 13 (.perform 14 none Plan.done))))))))))))))) 0 (by kernel_rfl) ?_
  conv => whnf
  repeat' (first | (refine quo_u32 (by omega) ?_; conv => whnf) | (refine WrapH.is _ (wrap_u32 (by omega) (by omega)) ?_; conv => whnf) | (refine ldI _ (small_ld (by omega)) ?_; conv => whnf) | (refine Req.mk ⟨by omega, Int.lt_of_lt_of_le (b := 200) (by omega) (by decide +kernel)⟩ ?_; conv => whnf) | (refine WrapH.is _ (wrap_u8 (by omega) (by omega)) ?_; conv => whnf) | ((first | refine zq1 (by omega) ?_ | refine zq2 (by omega) ?_ | refine NumH.rem (by omega) ?_ | refine zq4 (by omega) ?_ | refine zq5 (by omega) ?_ | refine zq6 ?_ | refine Req.mk (by omega) ?_ | refine Req.mk (by dsimp only; omega) ?_ | refine Req.mk (show pendP _ _ by repeat' constructor) ?_ | (with_reducible first | refine brT (by assumption) ?_ | refine brF (by assumption) ?_ | refine brDT (by omega) ?_ | refine brDF (by omega) ?_ | refine brET (by omega) ?_ | refine brEF (by omega) ?_ | refine brNET (by omega) ?_ | refine brNEF (by omega) ?_ | refine brNot ?_)); conv => whnf))
  refine DrawH.plan seat_ok (.take 0 (.take 1 (.take 2 (.take 3 (.take 4 (.take 5 (.take 6 (.take 7 (.take 8 (.take 9 (.take 10 (.take 11 (.perform 12 none (.take 13 (.perform 14 none Plan.done))))))))))))))) 0 (by kernel_rfl) ?_
  conv => whnf
  repeat' (first | (refine quo_u32 (by omega) ?_; conv => whnf) | (refine WrapH.is _ (wrap_u32 (by omega) (by omega)) ?_; conv => whnf) | (refine ldI _ (small_ld (by omega)) ?_; conv => whnf) | (refine Req.mk ⟨by omega, Int.lt_of_lt_of_le (b := 200) (by omega) (by decide +kernel)⟩ ?_; conv => whnf) | (refine WrapH.is _ (wrap_u8 (by omega) (by omega)) ?_; conv => whnf) | ((first | refine zq1 (by omega) ?_ | refine zq2 (by omega) ?_ | refine NumH.rem (by omega) ?_ | refine zq4 (by omega) ?_ | refine zq5 (by omega) ?_ | refine zq6 ?_ | refine Req.mk (by omega) ?_ | refine Req.mk (by dsimp only; omega) ?_ | refine Req.mk (show pendP _ _ by repeat' constructor) ?_ | (with_reducible first | refine brT (by assumption) ?_ | refine brF (by assumption) ?_ | refine brDT (by omega) ?_ | refine brDF (by omega) ?_ | refine brET (by omega) ?_ | refine brEF (by omega) ?_ | refine brNET (by omega) ?_ | refine brNEF (by omega) ?_ | refine brNot ?_)); conv => whnf))
  refine DrawH.plan seat_ok (.take 0 (.take 1 (.take 2 (.take 3 (.take 4 (.take 5 (.take 6 (.take 7 (.take 8 (.take 9 (.take 10 (.take 11 (.perform 12 none (.take 13 (.perform 14 none Plan.done))))))))))))))) 0 (by kernel_rfl) ?_
  conv => whnf
  repeat' (first | (refine quo_u32 (by omega) ?_; conv => whnf) | (refine WrapH.is _ (wrap_u32 (by omega) (by omega)) ?_; conv => whnf) | (refine ldI _ (small_ld (by omega)) ?_; conv => whnf) | (refine Req.mk ⟨by omega, Int.lt_of_lt_of_le (b := 200) (by omega) (by decide +kernel)⟩ ?_; conv => whnf) | (refine WrapH.is _ (wrap_u8 (by omega) (by omega)) ?_; conv => whnf) | ((first | refine zq1 (by omega) ?_ | refine zq2 (by omega) ?_ | refine NumH.rem (by omega) ?_ | refine zq4 (by omega) ?_ | refine zq5 (by omega) ?_ | refine zq6 ?_ | refine Req.mk (by omega) ?_ | refine Req.mk (by dsimp only; omega) ?_ | refine Req.mk (show pendP _ _ by repeat' constructor) ?_ | (with_reducible first | refine brT (by assumption) ?_ | refine brF (by assumption) ?_ | refine brDT (by omega) ?_ | refine brDF (by omega) ?_ | refine brET (by omega) ?_ | refine brEF (by omega) ?_ | refine brNET (by omega) ?_ | refine brNEF (by omega) ?_ | refine brNot ?_)); conv => whnf))
  refine DrawH.plan seat_ok (.take 0 (.take 1 (.take 2 (.take 3 (.take 4 (.take 5 (.take 6 (.take 7 (.take 8 (.take 9 (.take 10 (.take 11 (.perform 12 none (.take 13 (.perform 14 none Plan.done))))))))))))))) 0 (by kernel_rfl) ?_
  conv => whnf
  repeat' (first | (refine quo_u32 (by omega) ?_; conv => whnf) | (refine WrapH.is _ (wrap_u32 (by omega) (by omega)) ?_; conv => whnf) | (refine ldI _ (small_ld (by omega)) ?_; conv => whnf) | (refine Req.mk ⟨by omega, Int.lt_of_lt_of_le (b := 200) (by omega) (by decide +kernel)⟩ ?_; conv => whnf) | (refine WrapH.is _ (wrap_u8 (by omega) (by omega)) ?_; conv => whnf) | ((first | refine zq1 (by omega) ?_ | refine zq2 (by omega) ?_ | refine NumH.rem (by omega) ?_ | refine zq4 (by omega) ?_ | refine zq5 (by omega) ?_ | refine zq6 ?_ | refine Req.mk (by omega) ?_ | refine Req.mk (by dsimp only; omega) ?_ | refine Req.mk (show pendP _ _ by repeat' constructor) ?_ | (with_reducible first | refine brT (by assumption) ?_ | refine brF (by assumption) ?_ | refine brDT (by omega) ?_ | refine brDF (by omega) ?_ | refine brET (by omega) ?_ | refine brEF (by omega) ?_ | refine brNET (by omega) ?_ | refine brNEF (by omega) ?_ | refine brNot ?_)); conv => whnf))
  refine ⟨rfl, congrArg (fun l => [Chunk.var l _]) ?_⟩
  exact cons_eq (dc_e (by omega)) (cons_eq (dc_o (by omega)) (cons_eq (dc_e (by omega)) (cons_eq (dc_o (by omega)) (cons_eq (dc_e (by omega)) (cons_eq (dc_o (by omega)) (cons_eq (dc_e (by omega)) (cons_eq (dc_o (by omega)) (cons_eq (dc_e (by omega)) (cons_eq (dc_o (by omega)) (rfl))))))))))
set_option maxRecDepth 20000 in
set_option maxHeartbeats 2000000 in
theorem c_fb11 (n : Nat) (hn : n < 100000000000) : ACalls seat 42 [.row 0 0 11 24, .int .u64 n] [.var (List.replicate 24 (.int .u8 0)) 76] (fun x h => x = .ret (.tup []) ∧ h = [.var (dcs 11 n ++ List.replicate 13 (.int .u8 0)) 76]) := by
  refine ACalls.body seat_ok Tryd.func42 rfl rfl ?_
  conv => whnf
  repeat' (first | (refine quo_u32 (by omega) ?_; conv => whnf) | (refine WrapH.is _ (wrap_u32 (by omega) (by omega)) ?_; conv => whnf) | (refine ldI _ (small_ld (by omega)) ?_; conv => whnf) | (refine Req.mk ⟨by omega, Int.lt_of_lt_of_le (b := 200) (by omega) (by decide +kernel)⟩ ?_; conv => whnf) | (refine WrapH.is _ (wrap_u8 (by omega) (by omega)) ?_; conv => whnf) | ((first | refine zq1 (by omega) ?_ | refine zq2 (by omega) ?_ | refine NumH.rem (by omega) ?_ | refine zq4 (by omega) ?_ | refine zq5 (by omega) ?_ | refine zq6 ?_ | refine Req.mk (by omega) ?_ | refine Req.mk (by dsimp only; omega) ?_ | refine Req.mk (show pendP _ _ by repeat' constructor) ?_ | (with_reducible first | refine brT (by assumption) ?_ | refine brF (by assumption) ?_ | refine brDT (by omega) ?_ | refine brDF (by omega) ?_ | refine brET (by omega) ?_ | refine brEF (by omega) ?_ | refine brNET (by omega) ?_ | refine brNEF (by omega) ?_ | refine brNot ?_)); conv => whnf))
  refine Sat.unroll seat_ok 2 ?_
  conv => whnf
  repeat' (first | (refine quo_u32 (by omega) ?_; conv => whnf) | (refine WrapH.is _ (wrap_u32 (by omega) (by omega)) ?_; conv => whnf) | (refine ldI _ (small_ld (by omega)) ?_; conv => whnf) | (refine Req.mk ⟨by omega, Int.lt_of_lt_of_le (b := 200) (by omega) (by decide +kernel)⟩ ?_; conv => whnf) | (refine WrapH.is _ (wrap_u8 (by omega) (by omega)) ?_; conv => whnf) | ((first | refine zq1 (by omega) ?_ | refine zq2 (by omega) ?_ | refine NumH.rem (by omega) ?_ | refine zq4 (by omega) ?_ | refine zq5 (by omega) ?_ | refine zq6 ?_ | refine Req.mk (by omega) ?_ | refine Req.mk (by dsimp only; omega) ?_ | refine Req.mk (show pendP _ _ by repeat' constructor) ?_ | (with_reducible first | refine brT (by assumption) ?_ | refine brF (by assumption) ?_ | refine brDT (by omega) ?_ | refine brDF (by omega) ?_ | refine brET (by omega) ?_ | refine brEF (by omega) ?_ | refine brNET (by omega) ?_ | refine brNEF (by omega) ?_ | refine brNot ?_)); conv => whnf))
  refine DrawH.plan seat_ok (.take 0 (.take 1 (.take 2 (.take 3 (.take 4 (.take 5 (.take 6 (.take 7 (.take 8 (.take 9 (.take 10 (.take 11 (.perform 12 none (.take 13 (.perform 14 none Plan.done))))))))))))))) 0 (by kernel_rfl) ?_
  conv => whnf
  repeat' (first | (refine quo_u32 (by omega) ?_; conv => whnf) | (refine WrapH.is _ (wrap_u32 (by omega) (by omega)) ?_; conv => whnf) | (refine ldI _ (small_ld (by omega)) ?_; conv => whnf) | (refine Req.mk ⟨by omega, Int.lt_of_lt_of_le (b := 200) (by omega) (by decide +kernel)⟩ ?_; conv => whnf) | (refine WrapH.is _ (wrap_u8 (by omega) (by omega)) ?_; conv => whnf) | ((first | refine zq1 (by omega) ?_ | refine zq2 (by omega) ?_ | refine NumH.rem (by omega) ?_ | refine zq4 (by omega) ?_ | refine zq5 (by omega) ?_ | refine zq6 ?_ | refine Req.mk (by omega) ?_ | refine Req.mk (by dsimp only; omega) ?_ | refine Req.mk (show pendP _ _ by repeat' constructor) ?_ | (with_reducible first | refine brT (by assumption) ?_ | refine brF (by assumption) ?_ | refine brDT (by omega) ?_ | refine brDF (by omega) ?_ | refine brET (by omega) ?_ | refine brEF (by omega) ?_ | refine brNET (by omega) ?_ | refine brNEF (by omega) ?_ | refine brNot ?_)); conv => whnf))
  refine DrawH.plan seat_ok (.take 0 (.take 1 (.take 2 (.take 3 (.take 4 (.take 5 (.take 6 (.take 7 (.take 8 (.take 9 (.take 10 (.take 11 (.perform 12 none (.take 13 (.perform 14 none Plan.done))))))))))))))) 0 (by kernel_rfl) ?_
  conv => whnf
  repeat' (first | (refine quo_u32 (by omega) ?_; conv => whnf) | (refine WrapH.is _ (wrap_u32 (by omega) (by omega)) ?_; conv => whnf) | (refine ldI _ (small_ld (by omega)) ?_; conv => whnf) | (refine Req.mk ⟨by omega, Int.lt_of_lt_of_le (b := 200) (by omega) (by decide +kernel)⟩ ?_; conv => whnf) | (refine WrapH.is _ (wrap_u8 (by omega) (by omega)) ?_; conv => whnf) | ((first | refine zq1 (by omega) ?_ | refine zq2 (by omega) ?_ | refine NumH.rem (by omega) ?_ | refine zq4 (by omega) ?_ | refine zq5 (by omega) ?_ | refine zq6 ?_ | refine Req.mk (by omega) ?_ | refine Req.mk (by dsimp only; omega) ?_ | refine Req.mk (show pendP _ _ by repeat' constructor) ?_ | (with_reducible first | refine brT (by assumption) ?_ | refine brF (by assumption) ?_ | refine brDT (by omega) ?_ | refine brDF (by omega) ?_ | refine brET (by omega) ?_ | refine brEF (by omega) ?_ | refine brNET (by omega) ?_ | refine brNEF (by omega) ?_ | refine brNot ?_)); conv => whnf))
  refine DrawH.plan seat_ok (.take 0 (.take 1 (.take 2 (.take 3 (.take 4 (.take 5 (.take 6 (.take 7 (.take 8 (.take 9 (.take 10 (.take 11 (.perform 12 none (.take 13 (.perform 14 none Plan.done))))))))))))))) 0 (by kernel_rfl) ?_
  conv => whnf
  repeat' (first | (refine quo_u32 (by omega) ?_; conv => whnf) | (refine WrapH.is _ (wrap_u32 (by omega) (by omega)) ?_; conv => whnf) | (refine ldI _ (small_ld (by omega)) ?_; conv => whnf) | (refine Req.mk ⟨by omega, Int.lt_of_lt_of_le (b := 200) (by omega) (by decide +kernel)⟩ ?_; conv => whnf) | (refine WrapH.is _ (wrap_u8 (by omega) (by omega)) ?_; conv => whnf) | ((first | refine zq1 (by omega) ?_ | refine zq2 (by omega) ?_ | refine NumH.rem (by omega) ?_ | refine zq4 (by omega) ?_ | refine zq5 (by omega) ?_ | refine zq6 ?_ | refine Req.mk (by omega) ?_ | refine Req.mk (by dsimp only; omega) ?_ | refine Req.mk (show pendP _ _ by repeat' constructor) ?_ | (with_reducible first | refine brT (by assumption) ?_ | refine brF (by assumption) ?_ | refine brDT (by omega) ?_ | refine brDF (by omega) ?_ | refine brET (by omega) ?_ | refine brEF (by omega) ?_ | refine brNET (by omega) ?_ | refine brNEF (by omega) ?_ | refine brNot ?_)); conv => whnf))
  refine DrawH.plan seat_ok (.take 0 (.take 1 (.take 2 (.take 3 (.take 4 (.take 5 (.take 6 (.take 7 (.take 8 (.take 9 (.take 10 (.take 11 (.perform 12 none (.take 13 (.perform 14 none Plan.done))))))))))))))) 0 (by kernel_rfl) ?_
  conv => whnf
  repeat' (first | (refine quo_u32 (by omega) ?_; conv => whnf) | (refine WrapH.is _ (wrap_u32 (by omega) (by omega)) ?_; conv => whnf) | (refine ldI _ (small_ld (by omega)) ?_; conv => whnf) | (refine Req.mk ⟨by omega, Int.lt_of_lt_of_le (b := 200) (by omega) (by decide +kernel)⟩ ?_; conv => whnf) | (refine WrapH.is _ (wrap_u8 (by omega) (by omega)) ?_; conv => whnf) | ((first | refine zq1 (by omega) ?_ | refine zq2 (by omega) ?_ | refine NumH.rem (by omega) ?_ | refine zq4 (by omega) ?_ | refine zq5 (by omega) ?_ | refine zq6 ?_ | refine Req.mk (by omega) ?_ | refine Req.mk (by dsimp only; omega) ?_ | refine Req.mk (show pendP _ _ by repeat' constructor) ?_ | (with_reducible first | refine brT (by assumption) ?_ | refine brF (by assumption) ?_ | refine brDT (by omega) ?_ | refine brDF (by omega) ?_ | refine brET (by omega) ?_ | refine brEF (by omega) ?_ | refine brNET (by omega) ?_ | refine brNEF (by omega) ?_ | refine brNot ?_)); conv => whnf))
  refine DrawH.plan seat_ok (.take 0 (.take 1 (.take 2 (.take 3 (.take 4 (.take 5 (.take 6 (.take 7 (.take 8 (.take 9 (.take 10 (.take 11 (.perform 12 none (.take 13 (.perform 14 none Plan.done))))))))))))))) 0 (by kernel_rfl) ?_
  conv => whnf
  repeat' (first | (refine quo_u32 (by omega) ?_; conv => whnf) | (refine WrapH.is _ (wrap_u32 (by omega) (by omega)) ?_; conv => whnf) | (refine ldI _ (small_ld (by omega)) ?_; conv => whnf) | (refine Req.mk ⟨by omega, Int.lt_of_lt_of_le (b := 200) (by omega) (by decide +kernel)⟩ ?_; conv => whnf) | (refine WrapH.is _ (wrap_u8 (by omega) (by omega)) ?_; conv => whnf) | ((first | refine zq1 (by omega) ?_ | refine zq2 (by omega) ?_ | refine NumH.rem (by omega) ?_ | refine zq4 (by omega) ?_ | refine zq5 (by omega) ?_ | refine zq6 ?_ | refine Req.mk (by omega) ?_ | refine Req.mk (by dsimp only; omega) ?_ | refine Req.mk (show pendP _ _ by repeat' constructor) ?_ | (with_reducible first | refine brT (by assumption) ?_ | refine brF (by assumption) ?_ | refine brDT (by omega) ?_ | refine brDF (by omega) ?_ | refine brET (by omega) ?_ | refine brEF (by omega) ?_ | refine brNET (by omega) ?_ | refine brNEF (by omega) ?_ | refine brNot ?_)); conv => whnf))
  refine ⟨rfl, congrArg (fun l => [Chunk.var l _]) ?_⟩
  exact cons_eq (dc_1 (by omega)) (cons_eq (dc_e (by omega)) (cons_eq (dc_o (by omega)) (cons_eq (dc_e (by omega)) (cons_eq (dc_o (by omega)) (cons_eq (dc_e (by omega)) (cons_eq (dc_o (by omega)) (cons_eq (dc_e (by omega)) (cons_eq (dc_o (by omega)) (cons_eq (dc_e (by omega)) (cons_eq (dc_o (by omega)) (rfl)))))))))))
end Go.Proofs.YtinjgnaimmenbaaDoor
namespace Go.Proofs.YtinjgnaimmenbaaDoor
open Go.Abs
set_option maxRecDepth 20000 in
set_option maxHeartbeats 2000000 in
theorem c_fb12 (n : Nat) (hn : n < 1000000000000) : ACalls seat 42 [.row 0 0 12 24, .int .u64 n] [.var (List.replicate 24 (.int .u8 0)) 76] (fun x h => x = .ret (.tup []) ∧ h = [.var (dcs 12 n ++ List.replicate 12 (.int .u8 0)) 76]) := by
  refine ACalls.body seat_ok Tryd.func42 rfl rfl ?_
  conv => whnf
  repeat' (first | (refine quo_u32 (by omega) ?_; conv => whnf) | (refine WrapH.is _ (wrap_u32 (by omega) (by omega)) ?_; conv => whnf) | (refine ldI _ (small_ld (by omega)) ?_; conv => whnf) | (refine Req.mk ⟨by omega, Int.lt_of_lt_of_le (b := 200) (by omega) (by decide +kernel)⟩ ?_; conv => whnf) | (refine WrapH.is _ (wrap_u8 (by omega) (by omega)) ?_; conv => whnf) | ((first | refine zq1 (by omega) ?_ | refine zq2 (by omega) ?_ | refine NumH.rem (by omega) ?_ | refine zq4 (by omega) ?_ | refine zq5 (by omega) ?_ | refine zq6 ?_ | refine Req.mk (by omega) ?_ | refine Req.mk (by dsimp only; omega) ?_ | refine Req.mk (show pendP _ _ by repeat' constructor) ?_ | (with_reducible first | refine brT (by assumption) ?_ | refine brF (by assumption) ?_ | refine brDT (by omega) ?_ | refine brDF (by omega) ?_ | refine brET (by omega) ?_ | refine brEF (by omega) ?_ | refine brNET (by omega) ?_ | refine brNEF (by omega) ?_ | refine brNot ?_)); conv => whnf))
  refine Sat.unroll seat_ok 2 ?_
  conv => whnf
  repeat' (first | (refine quo_u32 (by omega) ?_; conv => whnf) | (refine WrapH.is _ (wrap_u32 (by omega) (by omega)) ?_; conv => whnf) | (refine ldI _ (small_ld (by omega)) ?_; conv => whnf) | (refine Req.mk ⟨by omega, Int.lt_of_lt_of_le (b := 200) (by omega) (by decide +kernel)⟩ ?_; conv => whnf) | (refine WrapH.is _ (wrap_u8 (by omega) (by omega)) ?_; conv => whnf) | ((first | refine zq1 (by omega) ?_ | refine zq2 (by omega) ?_ | refine NumH.rem (by omega) ?_ | refine zq4 (by omega) ?_ | refine zq5 (by omega) ?_ | refine zq6 ?_ | refine Req.mk (by omega) ?_ | refine Req.mk (by dsimp only; omega) ?_ | refine Req.mk (show pendP _ _ by repeat' constructor) ?_ | (with_reducible first | refine brT (by assumption) ?_ | refine brF (by assumption) ?_ | refine brDT (by omega) ?_ | refine brDF (by omega) ?_ | refine brET (by omega) ?_ | refine brEF (by omega) ?_ | refine brNET (by omega) ?_ | refine brNEF (by omega) ?_ | refine brNot ?_)); conv => whnf))
  refine DrawH.plan seat_ok (.take 0 (.take 1 (.take 2 (.take 3 (.take 4 (.take 5 (.take 6 (.take 7 (.take 8 (.take 9 (.take 10 (.take 11 (.perform 12 none (.take 13 (.perform 14 none Plan.done))))))))))))))) 0 (by kernel_rfl) ?_
  conv => whnf
  repeat' (first | (refine quo_u32 (by omega) ?_; conv => whnf) | (refine WrapH.is _ (wrap_u32 (by omega) (by omega)) ?_; conv => whnf) | (refine ldI _ (small_ld (by omega)) ?_; conv => whnf) | (refine Req.mk ⟨by omega, Int.lt_of_lt_of_le (b := 200) (by omega) (by decide +kernel)⟩ ?_; conv => whnf) | (refine WrapH.is _ (wrap_u8 (by omega) (by omega)) ?_; conv => whnf) | ((first | refine zq1 (by omega) ?_ | refine zq2 (by omega) ?_ | refine NumH.rem (by omega) ?_ | refine zq4 (by omega) ?_ | refine zq5 (by omega) ?_ | refine zq6 ?_ | refine Req.mk (by omega) ?_ | refine Req.mk (by dsimp only; omega) ?_ | refine Req.mk (show pendP _ _ by repeat' constructor) ?_ | (with_reducible first | refine brT (by assumption) ?_ | refine brF (by assumption) ?_ | refine brDT (by omega) ?_ | refine brDF (by omega) ?_ | refine brET (by omega) ?_ | refine brEF (by omega) ?_ | refine brNET (by omega) ?_ | refine brNEF (by omega) ?_ | refine brNot ?_)); conv => whnf))
  refine DrawH.plan seat_ok (.take 0 (.take 1 (.take 2 (.take 3 (.take 4 (.take 5 (.take 6 (.take 7 (.take 8 (.take 9 (.take 10 (.take 11 (.perform 12 none (.take 13 (.perform 14 none Plan.done))))))))))))))) 0 (by kernel_rfl) ?_
  conv => whnf
  repeat' (first | (refine quo_u32 (by omega) ?_; conv => whnf) | (refine WrapH.is _ (wrap_u32 (by omega) (by omega)) ?_; conv => whnf) | (refine ldI _ (small_ld (by omega)) ?_; conv => whnf) | (refine Req.mk ⟨by omega, Int.lt_of_lt_of_le (b := 200) (by omega) (by decide +kernel)⟩ ?_; conv => whnf) | (refine WrapH.is _ (wrap_u8 (by omega) (by omega)) ?_; conv => whnf) | ((first | refine zq1 (by omega) ?_ | refine zq2 (by omega) ?_ | refine NumH.rem (by omega) ?_ | refine zq4 (by omega) ?_ | refine zq5 (by omega) ?_ | refine zq6 ?_ | refine Req.mk (by omega) ?_ | refine Req.mk (by dsimp only; omega) ?_ | refine Req.mk (show pendP _ _ by repeat' constructor) ?_ | (with_reducible first | refine brT (by assumption) ?_ | refine brF (by assumption) ?_ | refine brDT (by omega) ?_ | refine brDF (by omega) ?_ | refine brET (by omega) ?_ | refine brEF (by omega) ?_ | refine brNET (by omega) ?_ | refine brNEF (by omega) ?_ | refine brNot ?_)); conv => whnf))
  refine DrawH.plan seat_ok (.take 0 (.take 1 (.take 2 (.take 3 (.take 4 (.take 5 (.take 6 (.take 7 (.take 8 (.take 9 (.take 10 (.take 11 (.perform 12 none (.take 13 (.perform 14 none Plan.done))))))))))))))) 0 (by kernel_rfl) ?_
  conv => whnf
  repeat' (first | (refine quo_u32 (by omega) ?_; conv => whnf) | (refine WrapH.is _ (wrap_u32 (by omega) (by omega)) ?_; conv => whnf) | (refine ldI _ (small_ld (by omega)) ?_; conv => whnf) | (refine Req.mk ⟨by omega, Int.lt_of_lt_of_le (b := 200) (by omega) (by decide +kernel)⟩ ?_; conv => whnf) | (refine WrapH.is _ (wrap_u8 (by omega) (by omega)) ?_; conv => whnf) | ((first | refine zq1 (by omega) ?_ | refine zq2 (by omega) ?_ | refine NumH.rem (by omega) ?_ | refine zq4 (by omega) ?_ | refine zq5 (by omega) ?_ | refine zq6 ?_ | refine Req.mk (by omega) ?_ | refine Req.mk (by dsimp only; omega) ?_ | refine Req.mk (show pendP _ _ by repeat' constructor) ?_ | (with_reducible first | refine brT (by assumption) ?_ | refine brF (by assumption) ?_ | refine brDT (by omega) ?_ | refine brDF (by omega) ?_ | refine brET (by omega) ?_ | refine brEF (by omega) ?_ | refine brNET (by omega) ?_ | refine brNEF (by omega) ?_ | refine brNot ?_)); conv => whnf))
  refine DrawH.plan seat_ok (.take 0 (.take 1 (.take 2 (.take 3 (.take 4 (.take 5 (.take 6 (.take 7 (.take 8 (.take 9 (.take 10 (.take 11 (.perform 12 none (.take 13 (.perform 14 none Plan.done))))))))))))))) 0 (by kernel_rfl) ?_
  conv => whnf
  repeat' (first | (refine quo_u32 (by omega) ?_; conv => whnf) | (refine WrapH.is _ (wrap_u32 (by omega) (by omega)) ?_; conv => whnf) | (refine ldI _ (small_ld (by omega)) ?_; conv => whnf) | (refine Req.mk ⟨by omega, Int.lt_of_lt_of_le (b := 200) (by omega) (by decide +kernel)⟩ ?_; conv => whnf) | (refine WrapH.is _ (wrap_u8 (by omega) (by omega)) ?_; conv => whnf) | ((first | refine zq1 (by omega) ?_ | refine zq2 (by omega) ?_ | refine NumH.rem (by omega) ?_ | refine zq4 (by omega) ?_ | refine zq5 (by omega) ?_ | refine zq6 ?_ | refine Req.mk (by omega) ?_ | refine Req.mk (by dsimp only; omega) ?_ | refine Req.mk (show pendP _ _ by repeat' constructor) ?_ | (with_reducible first | refine brT (by assumption) ?_ | refine brF (by assumption) ?_ | refine brDT (by omega) ?_ | refine brDF (by omega) ?_ | refine brET (by omega) ?_ | refine brEF (by omega) ?_ | refine brNET (by omega) ?_ | refine brNEF (by omega) ?_ | refine brNot ?_)); conv => whnf))
  refine DrawH.plan seat_ok (.take 0 (.take 1 (.take 2 (.take 3 (.take 4 (.take 5 (.take 6 (.take 7 (.take 8 (.take 9 (.take 10 (.take 11 (.perform 12 none (.take 13 (.perform 14 none Plan.done))))))))))))))) 0 (by kernel_rfl) ?_
  conv => whnf
  repeat' (first | (refine quo_u32 (by omega) ?_; conv => whnf) | (refine WrapH.is _ (wrap_u32 (by omega) (by omega)) ?_; conv => whnf) | (refine ldI _ (small_ld (by omega)) ?_; conv => whnf) | (refine Req.mk ⟨by omega, Int.lt_of_lt_of_le (b := 200) (by omega) (by decide +kernel)⟩ ?_; conv => whnf) | (refine WrapH.is _ (wrap_u8 (by omega) (by omega)) ?_; conv => whnf) | ((first | refine zq1 (by omega) ?_ | refine zq2 (by omega) ?_ | refine NumH.rem (by omega) ?_ | refine zq4 (by omega) ?_ | refine zq5 (by omega) ?_ | refine zq6 ?_ | refine Req.mk (by omega) ?_ | refine Req.mk (by dsimp only; omega) ?_ | refine Req.mk (show pendP _ _ by repeat' constructor) ?_ | (with_reducible first | refine brT (by assumption) ?_ | refine brF (by assumption) ?_ | refine brDT (by omega) ?_ | refine brDF (by omega) ?_ | refine brET (by omega) ?_ | refine brEF (by omega) ?_ | refine brNET (by omega) ?_ | refine brNEF (by omega) ?_ | refine brNot ?_)); conv => whnf))
  refine DrawH.plan seat_ok (.take 0 (.take 1 (.take 2 (.take 3 (.take 4 (.take 5 (.take 6 (.take 7 (.take 8 (.take 9 (.take 10 (.take 11 (.perform 12 none (.take 13 (.perform 14 none Plan.done))))))))))))))) 0 (by kernel_rfl) ?_
  conv => whnf
  repeat' (first | (refine quo_u32 (by omega) ?_; conv => whnf) | (refine WrapH.is _ (wrap_u32 (by omega) (by omega)) ?_; conv => whnf) | (refine ldI _ (small_ld (by omega)) ?_; conv => whnf) | (refine Req.mk ⟨by omega, Int.lt_of_lt_of_le (b := 200) (by omega) (by decide +kernel)⟩ ?_; conv => whnf) | (refine WrapH.is _ (wrap_u8 (by omega) (by omega)) ?_; conv => whnf) | ((first | refine zq1 (by omega) ?_ | refine zq2 (by omega) ?_ | refine NumH.rem (by omega) ?_ | refine zq4 (by omega) ?_ | refine zq5 (by omega) ?_ | refine zq6 ?_ | refine Req.mk (by omega) ?_ | refine Req.mk (by dsimp only; omega) ?_ | refine Req.mk (show pendP _ _ by repeat' constructor) ?_ | (with_reducible first | refine brT (by assumption) ?_ | refine brF (by assumption) ?_ | refine brDT (by omega) ?_ | refine brDF (by omega) ?_ | refine brET (by omega) ?_ | refine brEF (by omega) ?_ | refine brNET (by omega) ?_ | refine brNEF (by omega) ?_ | refine brNot ?_)); conv => whnf))
  refine ⟨rfl, congrArg (fun l => [Chunk.var l _]) ?_⟩
  exact cons_eq (dc_e (by omega)) (cons_eq (dc_o (by omega)) (cons_eq (dc_e (by omega)) (cons_eq (dc_o (by omega)) (cons_eq (dc_e (by omega)) (cons_eq (dc_o (by omega)) (cons_eq (dc_e (by omega)) (cons_eq (dc_o (by omega)) (cons_eq (dc_e (by omega)) (cons_eq (dc_o (by omega)) (cons_eq (dc_e (by omega)) (cons_eq (dc_o (by omega)) (rfl))))))))))))
set_option maxRecDepth 20000 in
set_option maxHeartbeats 2000000 in
theorem c_fb13 (n : Nat) (hn : n < 10000000000000) : ACalls seat 42 [.row 0 0 13 24, .int .u64 n] [.var (List.replicate 24 (.int .u8 0)) 76] (fun x h => x = .ret (.tup []) ∧ h = [.var (dcs 13 n ++ List.replicate 11 (.int .u8 0)) 76]) := by
  refine ACalls.body seat_ok Tryd.func42 rfl rfl ?_
  conv => whnf
  repeat' (first | (refine quo_u32 (by omega) ?_; conv => whnf) | (refine WrapH.is _ (wrap_u32 (by omega) (by omega)) ?_; conv => whnf) | (refine ldI _ (small_ld (by omega)) ?_; conv => whnf) | (refine Req.mk ⟨by omega, Int.lt_of_lt_of_le (b := 200) (by omega) (by decide +kernel)⟩ ?_; conv => whnf) | (refine WrapH.is _ (wrap_u8 (by omega) (by omega)) ?_; conv => whnf) | ((first | refine zq1 (by omega) ?_ | refine zq2 (by omega) ?_ | refine NumH.rem (by omega) ?_ | refine zq4 (by omega) ?_ | refine zq5 (by omega) ?_ | refine zq6 ?_ | refine Req.mk (by omega) ?_ | refine Req.mk (by dsimp only; omega) ?_ | refine Req.mk (show pendP _ _ by repeat' constructor) ?_ | (with_reducible first | refine brT (by assumption) ?_ | refine brF (by assumption) ?_ | refine brDT (by omega) ?_ | refine brDF (by omega) ?_ | refine brET (by omega) ?_ | refine brEF (by omega) ?_ | refine brNET (by omega) ?_ | refine brNEF (by omega) ?_ | refine brNot ?_)); conv => whnf))
  refine Sat.unroll seat_ok 2 ?_
  conv => whnf
  repeat' (first | (refine quo_u32 (by omega) ?_; conv => whnf) | (refine WrapH.is _ (wrap_u32 (by omega) (by omega)) ?_; conv => whnf) | (refine ldI _ (small_ld (by omega)) ?_; conv => whnf) | (refine Req.mk ⟨by omega, Int.lt_of_lt_of_le (b := 200) (by omega) (by decide +kernel)⟩ ?_; conv => whnf) | (refine WrapH.is _ (wrap_u8 (by omega) (by omega)) ?_; conv => whnf) | ((first | refine zq1 (by omega) ?_ | refine zq2 (by omega) ?_ | refine NumH.rem (by omega) ?_ | refine zq4 (by omega) ?_ | refine zq5 (by omega) ?_ | refine zq6 ?_ | refine Req.mk (by omega) ?_ | refine Req.mk (by dsimp only; omega) ?_ | refine Req.mk (show pendP _ _ by repeat' constructor) ?_ | (with_reducible first | refine brT (by assumption) ?_ | refine brF (by assumption) ?_ | refine brDT (by omega) ?_ | refine brDF (by omega) ?_ | refine brET (by omega) ?_ | refine brEF (by omega) ?_ | refine brNET (by omega) ?_ | refine brNEF (by omega) ?_ | refine brNot ?_)); conv => whnf))
  refine DrawH.plan seat_ok (.take 0 (.take 1 (.take 2 (.take 3 (.take 4 (.take 5 (.take 6 (.take 7 (.take 8 (.take 9 (.take 10 (.take 11 (.perform 12 none (.take 13 (.perform 14 none Plan.done))))))))))))))) 0 (by kernel_rfl) ?_
  conv => whnf
  repeat' (first | (refine quo_u32 (by omega) ?_; conv => whnf) | (refine WrapH.is _ (wrap_u32 (by omega) (by omega)) ?_; conv => whnf) | (refine ldI _ (small_ld (by omega)) ?_; conv => whnf) | (refine Req.mk ⟨by omega, Int.lt_of_lt_of_le (b := 200) (by omega) (by decide +kernel)⟩ ?_; conv => whnf) | (refine WrapH.is _ (wrap_u8 (by omega) (by omega)) ?_; conv => whnf) | ((first | refine zq1 (by omega) ?_ | refine zq2 (by omega) ?_ | refine NumH.rem (by omega) ?_ | refine zq4 (by omega) ?_ | refine zq5 (by omega) ?_ | refine zq6 ?_ | refine Req.mk (by omega) ?_ | refine Req.mk (by dsimp only; omega) ?_ | refine Req.mk (show pendP _ _ by repeat' constructor) ?_ | (with_reducible first | refine brT (by assumption) ?_ | refine brF (by assumption) ?_ | refine brDT (by omega) ?_ | refine brDF (by omega) ?_ | refine brET (by omega) ?_ | refine brEF (by omega) ?_ | refine brNET (by omega) ?_ | refine brNEF (by omega) ?_ | refine brNot ?_)); conv => whnf))
  refine DrawH.plan seat_ok (.take 0 (.take 1 (.take 2 (.take 3 (.take 4 (.take 5 (.take 6 (.take 7 (.take 8 (.take 9 (.take 10 (.take 11 (.perform 12 none (.take 13 (.perform 14 none Plan.done))))))))))))))) 0 (by kernel_rfl) ?_
  conv => whnf
  repeat' (first | (refine quo_u32 (by omega) ?_; conv => whnf) | (refine WrapH.is _ (wrap_u32 (by omega) (by omega)) ?_; conv => whnf) | (refine ldI _ (small_ld (by omega)) ?_; conv => whnf) | (refine Req.mk ⟨by omega, Int.lt_of_lt_of_le (b := 200) (by omega) (by decide +kernel)⟩ ?_; conv => whnf) | (refine WrapH.is _ (wrap_u8 (by omega) (by omega)) ?_; conv => whnf) | ((first | refine zq1 (by omega) ?_ | refine zq2 (by omega) ?_ | refine NumH.rem (by omega) ?_ | refine zq4 (by omega) ?_ | refine zq5 (by omega) ?_ | refine zq6 ?_ | refine Req.mk (by omega) ?_ | refine Req.mk (by dsimp only; omega) ?_ | refine Req.mk (show pendP _ _ by repeat' constructor) ?_ | (with_reducible first | refine brT (by assumption) ?_ | refine brF (by assumption) ?_ | refine brDT (by omega) ?_ | refine brDF (by omega) ?_ | refine brET (by omega) ?_ | refine brEF (by omega) ?_ | refine brNET (by omega) ?_ | refine brNEF (by omega) ?_ | refine brNot ?_)); conv => whnf))
  refine DrawH.plan seat_ok (.take 0 (.take 1 (.take 2 (.take 3 (.take 4 (.take 5 (.take 6 (.take 7 (.take 8 (.take 9 (.take 10 (.take 11 (.perform 12 none (.take 13 (.perform 14 none Plan.done))))))))))))))) 0 (by kernel_rfl) ?_
  conv => whnf
  repeat' (first | (refine quo_u32 (by omega) ?_; conv => whnf) | (refine WrapH.is _ (wrap_u32 (by omega) (by omega)) ?_; conv => whnf) | (refine ldI _ (small_ld (by omega)) ?_; conv => whnf) | (refine Req.mk ⟨by omega, Int.lt_of_lt_of_le (b := 200) (by omega) (by decide +kernel)⟩ ?_; conv => whnf) | (refine WrapH.is _ (wrap_u8 (by omega) (by omega)) ?_; conv => whnf) | ((first | refine zq1 (by omega) ?_ | refine zq2 (by omega) ?_ | refine NumH.rem (by omega) ?_ | refine zq4 (by omega) ?_ | refine zq5 (by omega) ?_ | refine zq6 ?_ | refine Req.mk (by omega) ?_ | refine Req.mk (by dsimp only; omega) ?_ | refine Req.mk (show pendP _ _ by repeat' constructor) ?_ | (with_reducible first | refine brT (by assumption) ?_ | refine brF (by assumption) ?_ | refine brDT (by omega) ?_ | refine brDF (by omega) ?_ | refine brET (by omega) ?_ | refine brEF (by omega) ?_ | refine brNET (by omega) ?_ | refine brNEF (by omega) ?_ | refine brNot ?_)); conv => whnf))
  refine DrawH.plan seat_ok (.take 0 (.take 1 (.take 2 (.take 3 (.take 4 (.take 5 (.take 6 (.take 7 (.take 8 (.take 9 (.take 10 (.take 11 (.perform 12 none (.take 13 (.perform 14 none Plan.done))))))))))))))) 0 (by kernel_rfl) ?_
  conv => whnf
  repeat' (first | (refine quo_u32 (by omega) ?_; conv => whnf) | (refine WrapH.is _ (wrap_u32 (by omega) (by omega)) ?_; conv => whnf) | (refine ldI _ (small_ld (by omega)) ?_; conv => whnf) | (refine Req.mk ⟨by omega, Int.lt_of_lt_of_le (b := 200) (by omega) (by decide +kernel)⟩ ?_; conv => whnf) | (refine WrapH.is _ (wrap_u8 (by omega) (by omega)) ?_; conv => whnf) | ((first | refine zq1 (by omega) ?_ | refine zq2 (by omega) ?_ | refine NumH.rem (by omega) ?_ | refine zq4 (by omega) ?_ | refine zq5 (by omega) ?_ | refine zq6 ?_ | refine Req.mk (by omega) ?_ | refine Req.mk (by dsimp only; omega) ?_ | refine Req.mk (show pendP _ _ by repeat' constructor) ?_ | (with_reducible first | refine brT (by assumption) ?_ | refine brF (by assumption) ?_ | refine brDT (by omega) ?_ | refine brDF (by omega) ?_ | refine brET (by omega) ?_ | refine brEF (by omega) ?_ | refine brNET (by omega) ?_ | refine brNEF (by omega) ?_ | refine brNot ?_)); conv => whnf))
  refine DrawH.plan seat_ok (.take 0 (.take 1 (.take 2 (.take 3 (.take 4 (.take 5 (.take 6 (.take 7 (.take 8 (.take 9 (.take 10 (.take 11 (.perform 12 none (.take 13 (.perform 14 none Plan.done))))))))))))))) 0 (by kernel_rfl) ?_
  conv => whnf
  repeat' (first | (refine quo_u32 (by omega) ?_; conv => whnf) | (refine WrapH.is _ (wrap_u32 (by omega) (by omega)) ?_; conv => whnf) | (refine ldI _ (small_ld (by omega)) ?_; conv => whnf) | (refine Req.mk ⟨by omega, Int.lt_of_lt_of_le (b := 200) (by omega) (by decide +kernel)⟩ ?_; conv => whnf) | (refine WrapH.is _ (wrap_u8 (by omega) (by omega)) ?_; conv => whnf) | ((first | refine zq1 (by omega) ?_ | refine zq2 (by omega) ?_ | refine NumH.rem (by omega) ?_ | refine zq4 (by omega) ?_ | refine zq5 (by omega) ?_ | refine zq6 ?_ | refine Req.mk (by omega) ?_ | refine Req.mk (by dsimp only; omega) ?_ | refine Req.mk (show pendP _ _ by repeat' constructor) ?_ | (with_reducible first | refine brT (by assumption) ?_ | refine brF (by assumption) ?_ | refine brDT (by omega) ?_ | refine brDF (by omega) ?_ | refine brET (by omega) ?_ | refine brEF (by omega) ?_ | refine brNET (by omega) ?_ | refine brNEF (by omega) ?_ | refine brNot ?_)); conv => whnf))
  refine DrawH.plan seat_ok (.take 0 (.take 1 (.take 2 (.take 3 (.take 4 (.take 5 (.take 6 (.take 7 (.take 8 (.take 9 (.take 10 (.take 11 (.perform 12 none (.take 13 (.perform 14 none Plan.done))))))))))))))) 0 (by kernel_rfl) ?_
  conv => whnf
  repeat' (first | (refine quo_u32 (by omega) ?_; conv => whnf) | (refine WrapH.is _ (wrap_u32 (by omega) (by omega)) ?_; conv => whnf) | (refine ldI _ (small_ld (by omega)) ?_; conv => whnf) | (refine Req.mk ⟨by omega, Int.lt_of_lt_of_le (b := 200) (by omega) (by decide +kernel)⟩ ?_; conv => whnf) | (refine WrapH.is _ (wrap_u8 (by omega) (by omega)) ?_; conv => whnf) | ((first | refine zq1 (by omega) ?_ | refine zq2 (by omega) ?_ | refine NumH.rem (by omega) ?_ | refine zq4 (by omega) ?_ | refine zq5 (by omega) ?_ | refine zq6 ?_ | refine Req.mk (by omega) ?_ | refine Req.mk (by dsimp only; omega) ?_ | refine Req.mk (show pendP _ _ by repeat' constructor) ?_ | (with_reducible first | refine brT (by assumption) ?_ | refine brF (by assumption) ?_ | refine brDT (by omega) ?_ | refine brDF (by omega) ?_ | refine brET (by omega) ?_ | refine brEF (by omega) ?_ | refine brNET (by omega) ?_ | refine brNEF (by omega) ?_ | refine brNot ?_)); conv => whnf))
  refine ⟨rfl, congrArg (fun l => [Chunk.var l _]) ?_⟩
  exact cons_eq (dc_1 (by omega)) (cons_eq (dc_e (by omega)) (cons_eq (dc_o (by omega)) (cons_eq (dc_e (by omega)) (cons_eq (dc_o (by omega)) (cons_eq (dc_e (by omega)) (cons_eq (dc_o (by omega)) (cons_eq (dc_e (by omega)) (cons_eq (dc_o (by omega)) (cons_eq (dc_e (by omega)) (cons_eq (dc_o (by omega)) (cons_eq (dc_e (by omega)) (cons_eq (dc_o (by omega)) (rfl)))))))))))))
set_option maxRecDepth 20000 in
set_option maxHeartbeats 2000000 in
theorem c_fb14 (n : Nat) (hn : n < 100000000000000) : ACalls seat 42 [.row 0 0 14 24, .int .u64 n] [.var (List.replicate 24 (.int .u8 0)) 76] (fun x h => x = .ret (.tup []) ∧ h = [.var (dcs 14 n ++ List.replicate 10 (.int .u8 0)) 76]) := by
  refine ACalls.body seat_ok Tryd.func42 rfl rfl ?_
  conv => whnf
  repeat' (first | (refine quo_u32 (by omega) ?_; conv => whnf) | (refine WrapH.is _ (wrap_u32 (by omega) (by omega)) ?_; conv => whnf) | (refine ldI _ (small_ld (by omega)) ?_; conv => whnf) | (refine Req.mk ⟨by omega, Int.lt_of_lt_of_le (b := 200) (by omega) (by decide +kernel)⟩ ?_; conv => whnf) | (refine WrapH.is _ (wrap_u8 (by omega) (by omega)) ?_; conv => whnf) | ((first | refine zq1 (by omega) ?_ | refine zq2 (by omega) ?_ | refine NumH.rem (by omega) ?_ | refine zq4 (by omega) ?_ | refine zq5 (by omega) ?_ | refine zq6 ?_ | refine Req.mk (by omega) ?_ | refine Req.mk (by dsimp only; omega) ?_ | refine Req.mk (show pendP _ _ by repeat' constructor) ?_ | (with_reducible first | refine brT (by assumption) ?_ | refine brF (by assumption) ?_ | refine brDT (by omega) ?_ | refine brDF (by omega) ?_ | refine brET (by omega) ?_ | refine brEF (by omega) ?_ | refine brNET (by omega) ?_ | refine brNEF (by omega) ?_ | refine brNot ?_)); conv => whnf))
  refine Sat.unroll seat_ok 2 ?_
  conv => whnf
  repeat' (first | (refine quo_u32 (by omega) ?_; conv => whnf) | (refine WrapH.is _ (wrap_u32 (by omega) (by omega)) ?_; conv => whnf) | (refine ldI _ (small_ld (by omega)) ?_; conv => whnf) | (refine Req.mk ⟨by omega, Int.lt_of_lt_of_le (b := 200) (by omega) (by decide +kernel)⟩ ?_; conv => whnf) | (refine WrapH.is _ (wrap_u8 (by omega) (by omega)) ?_; conv => whnf) | ((first | refine zq1 (by omega) ?_ | refine zq2 (by omega) ?_ | refine NumH.rem (by omega) ?_ | refine zq4 (by omega) ?_ | refine zq5 (by omega) ?_ | refine zq6 ?_ | refine Req.mk (by omega) ?_ | refine Req.mk (by dsimp only; omega) ?_ | refine Req.mk (show pendP _ _ by repeat' constructor) ?_ | (with_reducible first | refine brT (by assumption) ?_ | refine brF (by assumption) ?_ | refine brDT (by omega) ?_ | refine brDF (by omega) ?_ | refine brET (by omega) ?_ | refine brEF (by omega) ?_ | refine brNET (by omega) ?_ | refine brNEF (by omega) ?_ | refine brNot ?_)); conv => whnf))
  refine DrawH.plan seat_ok (.take 0 (.take 1 (.take 2 (.take 3 (.take 4 (.take 5 (.take 6 (.take 7 (.take 8 (.take 9 (.take 10 (.take 11 (.perform 12 none (.take 13 (.perform 14 none Plan.done))))))))))))))) 0 (by kernel_rfl) ?_
  conv => whnf
  repeat' (first | (refine quo_u32 (by omega) ?_; conv => whnf) | (refine WrapH.is _ (wrap_u32 (by omega) (by omega)) ?_; conv => whnf) | (refine ldI _ (small_ld (by omega)) ?_; conv => whnf) | (refine Req.mk ⟨by omega, Int.lt_of_lt_of_le (b := 200) (by omega) (by decide +kernel)⟩ ?_; conv => whnf) | (refine WrapH.is _ (wrap_u8 (by omega) (by omega)) ?_; conv => whnf) | ((first | refine zq1 (by omega) ?_ | refine zq2 (by omega) ?_ | refine NumH.rem (by omega) ?_ | refine zq4 (by omega) ?_ | refine zq5 (by omega) ?_ | refine zq6 ?_ | refine Req.mk (by omega) ?_ | refine Req.mk (by dsimp only; omega) ?_ | refine Req.mk (show pendP _ _ by repeat' constructor) ?_ | (with_reducible first | refine brT (by assumption) ?_ | refine brF (by assumption) ?_ | refine brDT (by omega) ?_ | refine brDF (by omega) ?_ | refine brET (by omega) ?_ | refine brEF (by omega) ?_ | refine brNET (by omega) ?_ | refine brNEF (by omega) ?_ | refine brNot ?_)); conv => whnf))
  refine DrawH.plan seat_ok (.take 0 (.take 1 (.take 2 (.take 3 (.take 4 (.take 5 (.take 6 (.take 7 (.take 8 (.take 9 (.take 10 (.take 11 (.perform 12 none (.take 13 (.perform 14 none Plan.done))))))))))))))) 0 (by kernel_rfl) ?_
  conv => whnf
  repeat' (first | (refine quo_u32 (by omega) ?_; conv => whnf) | (refine WrapH.is _ (wrap_u32 (by omega) (by omega)) ?_; conv => whnf) | (refine ldI _ (small_ld (by omega)) ?_; conv => whnf) | (refine Req.mk ⟨by omega, Int.lt_of_lt_of_le (b := 200) (by omega) (by decide +kernel)⟩ ?_; conv => whnf) | (refine WrapH.is _ (wrap_u8 (by omega) (by omega)) ?_; conv => whnf) | ((first | refine zq1 (by omega) ?_ | refine zq2 (by omega) ?_ | refine NumH.rem (by omega) ?_ | refine zq4 (by omega) ?_ | refine zq5 (by omega) ?_ | refine zq6 ?_ | refine Req.mk (by omega) ?_ | refine Req.mk (by dsimp only; omega) ?_ | refine Req.mk (show pendP _ _ by repeat' constructor) ?_ | (with_reducible first | refine brT (by assumption) ?_ | refine brF (by assumption) ?_ | refine brDT (by omega) ?_ | refine brDF (by omega) ?_ | refine brET (by omega) ?_ | refine brEF (by omega) ?_ | refine brNET (by omega) ?_ | refine brNEF (by omega) ?_ | refine brNot ?_)); conv => whnf))
  refine DrawH.plan seat_ok (.take 0 (.take 1 (.take 2 (.take 3 (.take 4 (.take 5 (.take 6 (.take 7 (.take 8 (.take 9 (.take 10 (.take 11 (.perform 12 none (.take 13 (.perform 14 none Plan.done))))))))))))))) 0 (by kernel_rfl) ?_
  conv => whnf
  repeat' (first | (refine quo_u32 (by omega) ?_; conv => whnf) | (refine WrapH.is _ (wrap_u32 (by omega) (by omega)) ?_; conv => whnf) | (refine ldI _ (small_ld (by omega)) ?_; conv => whnf) | (refine Req.mk ⟨by omega, Int.lt_of_lt_of_le (b := 200) (by omega) (by decide +kernel)⟩ ?_; conv => whnf) | (refine WrapH.is _ (wrap_u8 (by omega) (by omega)) ?_; conv => whnf) | ((first | refine zq1 (by omega) ?_ | refine zq2 (by omega) ?_ | refine NumH.rem (by omega) ?_ | refine zq4 (by omega) ?_ | refine zq5 (by omega) ?_ | refine zq6 ?_ | refine Req.mk (by omega) ?_ | refine Req.mk (by dsimp only; omega) ?_ | refine Req.mk (show pendP _ _ by repeat' constructor) ?_ | (with_reducible first | refine brT (by assumption) ?_ | refine brF (by assumption) ?_ | refine brDT (by omega) ?_ | refine brDF (by omega) ?_ | refine brET (by omega) ?_ | refine brEF (by omega) ?_ | refine brNET (by omega) ?_ | refine brNEF (by omega) ?_ | refine brNot ?_)); conv => whnf))
  refine DrawH.plan seat_ok (.take 0 (.take 1 (.take 2 (.take 3 (.take 4 (.take 5 (.take 6 (.take 7 (.take 8 (.take 9 (.take 10 (.take 11 (.perform 12 none (.take 13 (.perform 14 none Plan.done))))))))))))))) 0 (by kernel_rfl) ?_
  conv => whnf
  repeat' (first | (refine quo_u32 (by omega) ?_; conv => whnf) | (refine WrapH.is _ (wrap_u32 (by omega) (by omega)) ?_; conv => whnf) | (refine ldI _ (small_ld (by omega)) ?_; conv => whnf) | (refine Req.mk ⟨by omega, Int.lt_of_lt_of_le (b := 200) (by omega) (by decide +kernel)⟩ ?_; conv => whnf) | (refine WrapH.is _ (wrap_u8 (by omega) (by omega)) ?_; conv => whnf) | ((first | refine zq1 (by omega) ?_ | refine zq2 (by omega) ?_ | refine NumH.rem (by omega) ?_ | refine zq4 (by omega) ?_ | refine zq5 (by omega) ?_ | refine zq6 ?_ | refine Req.mk (by omega) ?_ | refine Req.mk (by dsimp only; omega) ?_ | refine Req.mk (show pendP _ _ by repeat' constructor) ?_ | (with_reducible first | refine brT (by assumption) ?_ | refine brF (by assumption) ?_ | refine brDT (by omega) ?_ | refine brDF (by omega) ?_ | refine brET (by omega) ?_ | refine brEF (by omega) ?_ | refine brNET (by omega) ?_ | refine brNEF (by omega) ?_ | refine brNot ?_)); conv => whnf))
  refine DrawH.plan seat_ok (.take 0 (.take 1 (.take 2 (.take 3 (.take 4 (.take 5 (.take 6 (.take 7 (.take 8 (.take 9 (.take 10 (.take 11 (.perform 12 none (.take 13 (.perform 14 none Plan.done))))))))))))))) 0 (by kernel_rfl) ?_
  conv => whnf
  repeat' (first | (refine quo_u32 (by omega) ?_; conv => whnf) | (refine WrapH.is _ (wrap_u32 (by omega) (by omega)) ?_; conv => whnf) | (refine ldI _ (small_ld (by omega)) ?_; conv => whnf) | (refine Req.mk ⟨by omega, Int.lt_of_lt_of_le (b := 200) (by omega) (by decide +kernel)⟩ ?_; conv => whnf) | (refine WrapH.is _ (wrap_u8 (by omega) (by omega)) ?_; conv => whnf) | ((first | refine zq1 (by omega) ?_ | refine zq2 (by omega) ?_ | refine NumH.rem (by omega) ?_ | refine zq4 (by omega) ?_ | refine zq5 (by omega) ?_ | refine zq6 ?_ | refine Req.mk (by omega) ?_ | refine Req.mk (by dsimp only; omega) ?_ | refine Req.mk (show pendP _ _ by repeat' constructor) ?_ | (with_reducible first | refine brT (by assumption) ?_ | refine brF (by assumption) ?_ | refine brDT (by omega) ?_ | refine brDF (by omega) ?_ | refine brET (by omega) ?_ | refine brEF (by omega) ?_ | refine brNET (by omega) ?_ | refine brNEF (by omega) ?_ | refine brNot ?_)); conv => whnf))
  refine DrawH.plan seat_ok (.take 0 (.take 1 (.take 2 (.take 3 (.take 4 (.take 5 (.take 6 (.take 7 (.take 8 (.take 9 (.take 10 (.take 11 (.perform 12 none (.take 13 (.perform 14 none Plan.done))))))))))))))) 0 (by kernel_rfl) ?_
  conv => whnf
  repeat' (first | (refine quo_u32 (by omega) ?_; conv => whnf) | (refine WrapH.is _ (wrap_u32 (by omega) (by omega)) ?_; conv => whnf) | (refine ldI _ (small_ld (by omega)) ?_; conv => whnf) | (refine Req.mk ⟨by omega, Int.lt_of_lt_of_le (b := 200) (by omega) (by decide +kernel)⟩ ?_; conv => whnf) | (refine WrapH.is _ (wrap_u8 (by omega) (by omega)) ?_; conv => whnf) | ((first | refine zq1 (by omega) ?_ | refine zq2 (by omega) ?_ | refine NumH.rem (by omega) ?_ | refine zq4 (by omega) ?_ | refine zq5 (by omega) ?_ | refine zq6 ?_ | refine Req.mk (by omega) ?_ | refine Req.mk (by dsimp only; omega) ?_ | refine Req.mk (show pendP _ _ by repeat' constructor) ?_ | (with_reducible first | refine brT (by assumption) ?_ | refine brF (by assumption) ?_ | refine brDT (by omega) ?_ | refine brDF (by omega) ?_ | refine brET (by omega) ?_ | refine brEF (by omega) ?_ | refine brNET (by omega) ?_ | refine brNEF (by omega) ?_ | refine brNot ?_)); conv => whnf))
  refine DrawH.plan seat_ok (.take 0 (.take 1 (.take 2 (.take 3 (.take 4 (.take 5 (.take 6 (.take 7 (.take 8 (.take 9 (.take 10 (.take 11 (.perform 12 none (.take 13 (.perform 14 none Plan.done))))))))))))))) 0 (by kernel_rfl) ?_
  conv => whnf
  repeat' (first | (refine quo_u32 (by omega) ?_; conv => whnf) | (refine WrapH.is _ (wrap_u32 (by omega) (by omega)) ?_; conv => whnf) | (refine ldI _ (small_ld (by omega)) ?_; conv => whnf) | (refine Req.mk ⟨by omega, Int.lt_of_lt_of_le (b := 200) (by omega) (by decide +kernel)⟩ ?_; conv => whnf) | (refine WrapH.is _ (wrap_u8 (by omega) (by omega)) ?_; conv => whnf) | ((first | refine zq1 (by omega) ?_ | refine zq2 (by omega) ?_ | refine NumH.rem (by omega) ?_ | refine zq4 (by omega) ?_ | refine zq5 (by omega) ?_ | refine zq6 ?_ | refine Req.mk (by omega) ?_ | refine Req.mk (by dsimp only; omega) ?_ | refine Req.mk (show pendP _ _ by repeat' constructor) ?_ | (with_reducible first | refine brT (by assumption) ?_ | refine brF (by assumption) ?_ | refine brDT (by omega) ?_ | refine brDF (by omega) ?_ | refine brET (by omega) ?_ | refine brEF (by omega) ?_ | refine brNET (by omega) ?_ | refine brNEF (by omega) ?_ | refine brNot ?_)); conv => whnf))
  refine ⟨rfl, congrArg (fun l => [Chunk.var l _]) ?_⟩
  exact cons_eq (dc_e (by omega)) (cons_eq (dc_o (by omega)) (cons_eq (dc_e (by omega)) (cons_eq (dc_o (by omega)) (cons_eq (dc_e (by omega)) (cons_eq (dc_o (by omega)) (cons_eq (dc_e (by omega)) (cons_eq (dc_o (by omega)) (cons_eq (dc_e (by omega)) (cons_eq (dc_o (by omega)) (cons_eq (dc_e (by omega)) (cons_eq (dc_o (by omega)) (cons_eq (dc_e (by omega)) (cons_eq (dc_o (by omega)) (rfl))))))))))))))
set_option maxRecDepth 20000 in
set_option maxHeartbeats 2000000 in
theorem c_fb15 (n : Nat) (hn : n < 1000000000000000) : ACalls seat 42 [.row 0 0 15 24, .int .u64 n] [.var (List.replicate 24 (.int .u8 0)) 76] (fun x h => x = .ret (.tup []) ∧ h = [.var (dcs 15 n ++ List.replicate 9 (.int .u8 0)) 76]) := by
  refine ACalls.body seat_ok Tryd.func42 rfl rfl ?_
  conv => whnf
  repeat' (first | (refine quo_u32 (by omega) ?_; conv => whnf) | (refine WrapH.is _ (wrap_u32 (by omega) (by omega)) ?_; conv => whnf) | (refine ldI _ (small_ld (by omega)) ?_; conv => whnf) | (refine Req.mk ⟨by omega, Int.lt_of_lt_of_le (b := 200) (by omega) (by decide +kernel)⟩ ?_; conv => whnf) | (refine WrapH.is _ (wrap_u8 (by omega) (by omega)) ?_; conv => whnf) | ((first | refine zq1 (by omega) ?_ | refine zq2 (by omega) ?_ | refine NumH.rem (by omega) ?_ | refine zq4 (by omega) ?_ | refine zq5 (by omega) ?_ | refine zq6 ?_ | refine Req.mk (by omega) ?_ | refine Req.mk (by dsimp only; omega) ?_ | refine Req.mk (show pendP _ _ by repeat' constructor) ?_ | (with_reducible first | refine brT (by assumption) ?_ | refine brF (by assumption) ?_ | refine brDT (by omega) ?_ | refine brDF (by omega) ?_ | refine brET (by omega) ?_ | refine brEF (by omega) ?_ | refine brNET (by omega) ?_ | refine brNEF (by omega) ?_ | refine brNot ?_)); conv => whnf))
  refine Sat.unroll seat_ok 2 ?_
  conv => whnf
  repeat' (first | (refine quo_u32 (by omega) ?_; conv => whnf) | (refine WrapH.is _ (wrap_u32 (by omega) (by omega)) ?_; conv => whnf) | (refine ldI _ (small_ld (by omega)) ?_; conv => whnf) | (refine Req.mk ⟨by omega, Int.lt_of_lt_of_le (b := 200) (by omega) (by decide +kernel)⟩ ?_; conv => whnf) | (refine WrapH.is _ (wrap_u8 (by omega) (by omega)) ?_; conv => whnf) | ((first | refine zq1 (by omega) ?_ | refine zq2 (by omega) ?_ | refine NumH.rem (by omega) ?_ | refine zq4 (by omega) ?_ | refine zq5 (by omega) ?_ | refine zq6 ?_ | refine Req.mk (by omega) ?_ | refine Req.mk (by dsimp only; omega) ?_ | refine Req.mk (show pendP _ _ by repeat' constructor) ?_ | (with_reducible first | refine brT (by assumption) ?_ | refine brF (by assumption) ?_ | refine brDT (by omega) ?_ | refine brDF (by omega) ?_ | refine brET (by omega) ?_ | refine brEF (by omega) ?_ | refine brNET (by omega) ?_ | refine brNEF (by omega) ?_ | refine brNot ?_)); conv => whnf))
  refine DrawH.plan seat_ok (.take 0 (.take 1 (.take 2 (.take 3 (.take 4 (.take 5 (.take 6 (.take 7 (.take 8 (.take 9 (.take 10 (.take 11 (.perform 12 none (.take 13 (.perform 14 none Plan.done))))))))))))))) 0 (by kernel_rfl) ?_
  conv => whnf
  repeat' (first | (refine quo_u32 (by omega) ?_; conv => whnf) | (refine WrapH.is _ (wrap_u32 (by omega) (by omega)) ?_; conv => whnf) | (refine ldI _ (small_ld (by omega)) ?_; conv => whnf) | (refine Req.mk ⟨by omega, Int.lt_of_lt_of_le (b := 200) (by omega) (by decide +kernel)⟩ ?_; conv => whnf) | (refine WrapH.is _ (wrap_u8 (by omega) (by omega)) ?_; conv => whnf) | ((first | refine zq1 (by omega) ?_ | refine zq2 (by omega) ?_ | refine NumH.rem (by omega) ?_ | refine zq4 (by omega) ?_ | refine zq5 (by omega) ?_ | refine zq6 ?_ | refine Req.mk (by omega) ?_ | refine Req.mk (by dsimp only; omega) ?_ | refine Req.mk (show pendP _ _ by repeat' constructor) ?_ | (with_reducible first | refine brT (by assumption) ?_ | refine brF (by assumption) ?_ | refine brDT (by omega) ?_ | refine brDF (by omega) ?_ | refine brET (by omega) ?_ | refine brEF (by omega) ?_ | refine brNET (by omega) ?_ | refine brNEF (by omega) ?_ | refine brNot ?_)); conv => whnf))
  refine DrawH.plan seat_ok (.take 0 (.take 1 (.take 2 (.take 3 (.take 4 (.take 5 (.take 6 (.take 7 (.take 8 (.take 9 (.take 10 (.take 11 (.perform 12 none (.take 13 (.perform 14 none Plan.done))))))))))))))) 0 (by kernel_rfl) ?_
  conv => whnf
  repeat' (first | (refine quo_u32 (by omega) ?_; conv => whnf) | (refine WrapH.is _ (wrap_u32 (by omega) (by omega)) ?_; conv => whnf) | (refine ldI _ (small_ld (by omega)) ?_; conv => whnf) | (refine Req.mk ⟨by omega, Int.lt_of_lt_of_le (b := 200) (by omega) (by decide +kernel)⟩ ?_; conv => whnf) | (refine WrapH.is _ (wrap_u8 (by omega) (by omega)) ?_; conv => whnf) | ((first | refine zq1 (by omega) ?_ | refine zq2 (by omega) ?_ | refine NumH.rem (by omega) ?_ | refine zq4 (by omega) ?_ | refine zq5 (by omega) ?_ | refine zq6 ?_ | refine Req.mk (by omega) ?_ | refine Req.mk (by dsimp only; omega) ?_ | refine Req.mk (show pendP _ _ by repeat' constructor) ?_ | (with_reducible first | refine brT (by assumption) ?_ | refine brF (by assumption) ?_ | refine brDT (by omega) ?_ | refine brDF (by omega) ?_ | refine brET (by omega) ?_ | refine brEF (by omega) ?_ | refine brNET (by omega) ?_ | refine brNEF (by omega) ?_ | refine brNot ?_)); conv => whnf))
  refine DrawH.plan seat_ok (.take 0 (.take 1 (.take 2 (.take 3 (.take 4 (.take 5 (.take 6 (.take 7 (.take 8 (.take 9 (.take 10 (.take 11 (.perform 12 none (.take 13 (.perform 14 none Plan.done))))))))))))))) 0 (by kernel_rfl) ?_
  conv => whnf
  repeat' (first | (refine quo_u32 (by omega) ?_; conv => whnf) | (refine WrapH.is _ (wrap_u32 (by omega) (by omega)) ?_; conv => whnf) | (refine ldI _ (small_ld (by omega)) ?_; conv => whnf) | (refine Req.mk ⟨by omega, Int.lt_of_lt_of_le (b := 200) (by omega) (by decide +kernel)⟩ ?_; conv => whnf) | (refine WrapH.is _ (wrap_u8 (by omega) (by omega)) ?_; conv => whnf) | ((first | refine zq1 (by omega) ?_ | refine zq2 (by omega) ?_ | refine NumH.rem (by omega) ?_ | refine zq4 (by omega) ?_ | refine zq5 (by omega) ?_ | refine zq6 ?_ | refine Req.mk (by omega) ?_ | refine Req.mk (by dsimp only; omega) ?_ | refine Req.mk (show pendP _ _ by repeat' constructor) ?_ | (with_reducible first | refine brT (by assumption) ?_ | refine brF (by assumption) ?_ | refine brDT (by omega) ?_ | refine brDF (by omega) ?_ | refine brET (by omega) ?_ | refine brEF (by omega) ?_ | refine brNET (by omega) ?_ | refine brNEF (by omega) ?_ | refine brNot ?_)); conv => whnf))
  refine DrawH.plan seat_ok (.take 0 (.take 1 (.take 2 (.take 3 (.take 4 (.take 5 (.take 6 (.take 7 (.take 8 (.take 9 (.take 10 (.take 11 (.perform 12 none (.take 13 (.perform 14 none Plan.done))))))))))))))) 0 (by kernel_rfl) ?_
  conv => whnf
  repeat' (first | (refine quo_u32 (by omega) ?_; conv => whnf) | (refine WrapH.is _ (wrap_u32 (by omega) (by omega)) ?_; conv => whnf) | (refine ldI _ (small_ld (by omega)) ?_; conv => whnf) | (refine Req.mk ⟨by omega, Int.lt_of_lt_of_le (b := 200) (by omega) (by decide +kernel)⟩ ?_; conv => whnf) | (refine WrapH.is _ (wrap_u8 (by omega) (by omega)) ?_; conv => whnf) | ((first | refine zq1 (by omega) ?_ | refine zq2 (by omega) ?_ | refine NumH.rem (by omega) ?_ | refine zq4 (by omega) ?_ | refine zq5 (by omega) ?_ | refine zq6 ?_ | refine Req.mk (by omega) ?_ | refine Req.mk (by dsimp only; omega) ?_ | refine Req.mk (show pendP _ _ by repeat' constructor) ?_ | (with_reducible first | refine brT (by assumption) ?_ | refine brF (by assumption) ?_ | refine brDT (by omega) ?_ | refine brDF (by omega) ?_ | refine brET (by omega) ?_ | refine brEF (by omega) ?_ | refine brNET (by omega) ?_ | refine brNEF (by omega) ?_ | refine brNot ?_)); conv => whnf))
  refine DrawH.plan seat_ok (.take 0 (.take 1 (.take 2 (.take 3 (.take 4 (.take 5 (.take 6 (.take 7 (.take 8 (.take 9 (.take 10 (.take 11 (.perform 12 none (.take 13 (.perform 14 none Plan.done))))))))))))))) 0 (by kernel_rfl) ?_
  conv => whnf
  repeat' (first | (refine quo_u32 (by omega) ?_; conv => whnf) | (refine WrapH.is _ (wrap_u32 (by omega) (by omega)) ?_; conv => whnf) | (refine ldI _ (small_ld (by omega)) ?_; conv => whnf) | (refine Req.mk ⟨by omega, Int.lt_of_lt_of_le (b := 200) (by omega) (by decide +kernel)⟩ ?_; conv => whnf) | (refine WrapH.is _ (wrap_u8 (by omega) (by omega)) ?_; conv => whnf) | ((first | refine zq1 (by omega) ?_ | refine zq2 (by omega) ?_ | refine NumH.rem (by omega) ?_ | refine zq4 (by omega) ?_ | refine zq5 (by omega) ?_ | refine zq6 ?_ | refine Req.mk (by omega) ?_ | refine Req.mk (by dsimp only; omega) ?_ | refine Req.mk (show pendP _ _ by repeat' constructor) ?_ | (with_reducible first | refine brT (by assumption) ?_ | refine brF (by assumption) ?_ | refine brDT (by omega) ?_ | refine brDF (by omega) ?_ | refine brET (by omega) ?_ | refine brEF (by omega) ?_ | refine brNET (by omega) ?_ | refine brNEF (by omega) ?_ | refine brNot ?_)); conv => whnf))
  refine DrawH.plan seat_ok (.take 0 (.take 1 (.take 2 (.take 3 (.take 4 (.take 5 (.take 6 (.take 7 (.take 8 (.take 9 (.take 10 (.take 11 (.perform 12 none (.take 13 (.perform 14 none Plan.done))))))))))))))) 0 (by kernel_rfl) ?_
  conv => whnf
  repeat' (first | (refine quo_u32 (by omega) ?_; conv => whnf) | (refine WrapH.is _ (wrap_u32 (by omega) (by omega)) ?_; conv => whnf) | (refine ldI _ (small_ld (by omega)) ?_; conv => whnf) | (refine Req.mk ⟨by omega, Int.lt_of_lt_of_le (b := 200) (by omega) (by decide +kernel)⟩ ?_; conv => whnf) | (refine WrapH.is _ (wrap_u8 (by omega) (by omega)) ?_; conv => whnf) | ((first | refine zq1 (by omega) ?_ | refine zq2 (by omega) ?_ | refine NumH.rem (by omega) ?_ | refine zq4 (by omega) ?_ | refine zq5 (by omega) ?_ | refine zq6 ?_ | refine Req.mk (by omega) ?_ | refine Req.mk (by dsimp only; omega) ?_ | refine Req.mk (show pendP _ _ by repeat' constructor) ?_ | (with_reducible first | refine brT (by assumption) ?_ | refine brF (by assumption) ?_ | refine brDT (by omega) ?_ | refine brDF (by omega) ?_ | refine brET (by omega) ?_ | refine brEF (by omega) ?_ | refine brNET (by omega) ?_ | refine brNEF (by omega) ?_ | refine brNot ?_)); conv => whnf))
  refine DrawH.plan seat_ok (.take 0 (.take 1 (.take 2 (.take 3 (.take 4 (.take 5 (.take 6 (.take 7 (.take 8 (.take 9 (.take 10 (.take 11 (.perform 12 none (.take 13 (.perform 14 none Plan.done))))))))))))))) 0 (by kernel_rfl) ?_
  conv => whnf
  repeat' (first | (refine quo_u32 (by omega) ?_; conv => whnf) | (refine WrapH.is _ (wrap_u32 (by omega) (by omega)) ?_; conv => whnf) | (refine ldI _ (small_ld (by omega)) ?_; conv => whnf) | (refine Req.mk ⟨by omega, Int.lt_of_lt_of_le (b := 200) (by omega) (by decide +kernel)⟩ ?_; conv => whnf) | (refine WrapH.is _ (wrap_u8 (by omega) (by omega)) ?_; conv => whnf) | ((first | refine zq1 (by omega) ?_ | refine zq2 (by omega) ?_ | refine NumH.rem (by omega) ?_ | refine zq4 (by omega) ?_ | refine zq5 (by omega) ?_ | refine zq6 ?_ | refine Req.mk (by omega) ?_ | refine Req.mk (by dsimp only; omega) ?_ | refine Req.mk (show pendP _ _ by repeat' constructor) ?_ | (with_reducible first | refine brT (by assumption) ?_ | refine brF (by assumption) ?_ | refine brDT (by omega) ?_ | refine brDF (by omega) ?_ | refine brET (by omega) ?_ | refine brEF (by omega) ?_ | refine brNET (by omega) ?_ | refine brNEF (by omega) ?_ | refine brNot ?_)); conv => whnf))
  refine ⟨rfl, congrArg (fun l => [Chunk.var l _]) ?_⟩
  exact cons_eq (dc_1 (by omega)) (cons_eq (dc_e (by omega)) (cons_eq (dc_o (by omega)) (cons_eq (dc_e (by omega)) (cons_eq (dc_o (by omega)) (cons_eq (dc_e (by omega)) (cons_eq (dc_o (by omega)) (cons_eq (dc_e (by omega)) (cons_eq (dc_o (by omega)) (cons_eq (dc_e (by omega)) (cons_eq (dc_o (by omega)) (cons_eq (dc_e (by omega)) (cons_eq (dc_o (by omega)) (cons_eq (dc_e (by omega)) (cons_eq (dc_o (by omega)) (rfl)))))))))))))))
theorem c_fb (D n : Nat) (hD : 3 ≤ D ∧ D ≤ 15) (hn : n < 10 ^ D) : ACalls seat 42 [.row 0 0 D 24, .int .u64 n] [.var (List.replicate 24 (.int .u8 0)) 76] (fun x h => x = .ret (.tup []) ∧ h = [.var (dcs D n ++ List.replicate (24 - D) (.int .u8 0)) 76]) := by
  match D, hD, hn with
  | 3, _, hn => exact c_fb3 n hn
  | 4, _, hn => exact c_fb4 n hn
  | 5, _, hn => exact c_fb5 n hn
  | 6, _, hn => exact c_fb6 n hn
  | 7, _, hn => exact c_fb7 n hn
  | 8, _, hn => exact c_fb8 n hn
  | 9, _, hn => exact c_fb9 n hn
  | 10, _, hn => exact c_fb10 n hn
  | 11, _, hn => exact c_fb11 n hn
  | 12, _, hn => exact c_fb12 n hn
  | 13, _, hn => exact c_fb13 n hn
  | 14, _, hn => exact c_fb14 n hn
  | 15, _, hn => exact c_fb15 n hn
  | n + 16, h, _ => omega
end Go.Proofs.YtinjgnaimmenbaaDoor
namespace Go.Proofs.YtinjgnaimmenbaaDoor
open Go.Abs
theorem pow_ld {z : Int} {d : Nat} (hz : z.toNat = d) (h : d < 20) : partK false (dropL (ci .u64 powL) (z.toNat * 1)) 0 1 = some (.int .u64 ((10 ^ d : Nat) : Int)) := by
  rw [hz]
  match d, h with
  | 0, _ => rfl
  | 1, _ => rfl
  | 2, _ => rfl
  | 3, _ => rfl
  | 4, _ => rfl
  | 5, _ => rfl
  | 6, _ => rfl
  | 7, _ => rfl
  | 8, _ => rfl
  | 9, _ => rfl
  | 10, _ => rfl
  | 11, _ => rfl
  | 12, _ => rfl
  | 13, _ => rfl
  | 14, _ => rfl
  | 15, _ => rfl
  | 16, _ => rfl
  | 17, _ => rfl
  | 18, _ => rfl
  | 19, _ => rfl
  | n + 20, h => omega
theorem c_numD (n : Nat) (hn : 100 ≤ n ∧ n < 1000000000000000) : ∃ D : Nat, (3 ≤ D ∧ D ≤ 15) ∧ 10 ^ (D - 1) ≤ n ∧ n < 10 ^ D ∧ ACalls seat 41 [.int .u64 n] [] (fun x _ => x = .ret (.int .i64 D)) := by
  obtain ⟨L, hL, h1, h2, cl⟩ := c_len64 n ⟨by omega, hn.2⟩
  obtain ⟨h3, h4, h5⟩ := digs_of hL h1 h2
  have cg := c_log10 L hL.2
  clear h1 h2
  generalize L * 78913 / 262144 = d at *
  have hb : ∀ D, 10 ^ (D - 1) ≤ n → n < 10 ^ D → 3 ≤ D ∧ D ≤ 15 := fun D h1 h2 => by
    constructor
    · apply Nat.le_of_not_lt; intro h
      have := Nat.pow_le_pow_right (show 0 < 10 by decide) (show D ≤ 2 by omega)
      omega
    · apply Nat.le_of_not_lt; intro h
      have := Nat.pow_le_pow_right (show 0 < 10 by decide) (show 15 ≤ D - 1 by omega)
      omega
  have hp := fun {z : Int} (hz : z.toNat = d) => pow_ld hz (show d < 20 by omega)
  have cb := c_bool2 (decide ((n : Int) ≥ ((10 ^ d : Nat) : Int)))
  by_cases g : n < 10 ^ d
  · obtain ⟨g1, g2⟩ := h3 g
    have e : (if decide ((n : Int) ≥ ((10 ^ d : Nat) : Int)) = true then (1 : Int) else 0) = 0 := by
      rw [if_neg]; rw [decide_eq_true_eq]; omega
    rw [e] at cb
    refine ⟨d, hb d g2 g, g2, g, ?_⟩
    clear hb h3 h4 g2 g e
    generalize 10 ^ d = P at *
    refine ACalls.body seat_ok Tryd.func41 rfl rfl ?_
    conv => whnf
    repeat' (first | exact congrArg (fun z => AEnd.ret (.int .i64 z)) (by omega) | (refine CallH.lift seat_g cl (by simp [Closed, ClosedL]) (by simp [Closed, ClosedL]) ?_; conv => whnf) | (refine CallH.lift seat_g cg (by simp [Closed, ClosedL]) (by simp [Closed, ClosedL]) ?_; conv => whnf) | (refine CallH.lift seat_g cb (by simp [Closed, ClosedL]) (by simp [Closed, ClosedL]) ?_; conv => whnf) | (refine ldI _ (hp (by omega)) ?_; conv => whnf) | ((first | refine zq1 (by omega) ?_ | refine zq2 (by omega) ?_ | refine NumH.rem (by omega) ?_ | refine zq4 (by omega) ?_ | refine zq5 (by omega) ?_ | refine zq6 ?_ | refine Req.mk (by omega) ?_ | refine Req.mk (by dsimp only; omega) ?_ | refine Req.mk (show pendP _ _ by repeat' constructor) ?_ | (with_reducible first | refine brT (by assumption) ?_ | refine brF (by assumption) ?_ | refine brDT (by omega) ?_ | refine brDF (by omega) ?_ | refine brET (by omega) ?_ | refine brEF (by omega) ?_ | refine brNET (by omega) ?_ | refine brNEF (by omega) ?_ | refine brNot ?_)); conv => whnf))
  · have e : (if decide ((n : Int) ≥ ((10 ^ d : Nat) : Int)) = true then (1 : Int) else 0) = 1 := by
      rw [if_pos]; rw [decide_eq_true_eq]; omega
    rw [e] at cb
    refine ⟨d + 1, hb (d + 1) (by rw [Nat.add_sub_cancel]; omega) h4, by rw [Nat.add_sub_cancel]; omega, h4, ?_⟩
    clear hb h3 h4 g e
    generalize 10 ^ d = P at *
    refine ACalls.body seat_ok Tryd.func41 rfl rfl ?_
    conv => whnf
    repeat' (first | exact congrArg (fun z => AEnd.ret (.int .i64 z)) (by omega) | (refine CallH.lift seat_g cl (by simp [Closed, ClosedL]) (by simp [Closed, ClosedL]) ?_; conv => whnf) | (refine CallH.lift seat_g cg (by simp [Closed, ClosedL]) (by simp [Closed, ClosedL]) ?_; conv => whnf) | (refine CallH.lift seat_g cb (by simp [Closed, ClosedL]) (by simp [Closed, ClosedL]) ?_; conv => whnf) | (refine ldI _ (hp (by omega)) ?_; conv => whnf) | ((first | refine zq1 (by omega) ?_ | refine zq2 (by omega) ?_ | refine NumH.rem (by omega) ?_ | refine zq4 (by omega) ?_ | refine zq5 (by omega) ?_ | refine zq6 ?_ | refine Req.mk (by omega) ?_ | refine Req.mk (by dsimp only; omega) ?_ | refine Req.mk (show pendP _ _ by repeat' constructor) ?_ | (with_reducible first | refine brT (by assumption) ?_ | refine brF (by assumption) ?_ | refine brDT (by omega) ?_ | refine brDF (by omega) ?_ | refine brET (by omega) ?_ | refine brEF (by omega) ?_ | refine brNET (by omega) ?_ | refine brNEF (by omega) ?_ | refine brNot ?_)); conv => whnf))
set_option maxRecDepth 20000 in
theorem c_fmtI (n : Nat) (hn : n < 1000000000000000) : ACalls seat 34 [.int .u64 n, .int .i64 10] [] (fun x _ => x = .ret (.str (decD n))) := by
  refine ACalls.body seat_ok Tryd.func34 rfl rfl ?_
  by_cases g : n < 100
  · have cs := c_ismall n g
    conv => whnf
    repeat' (first | exact rfl | (refine CallH.lift seat_g cs (by simp [Closed, ClosedL]) (by simp [Closed, ClosedL]) ?_; conv => whnf) | ((first | refine zq1 (by omega) ?_ | refine zq2 (by omega) ?_ | refine NumH.rem (by omega) ?_ | refine zq4 (by omega) ?_ | refine zq5 (by omega) ?_ | refine zq6 ?_ | refine Req.mk (by omega) ?_ | refine Req.mk (by dsimp only; omega) ?_ | refine Req.mk (show pendP _ _ by repeat' constructor) ?_ | (with_reducible first | refine brT (by assumption) ?_ | refine brF (by assumption) ?_ | refine brDT (by omega) ?_ | refine brDF (by omega) ?_ | refine brET (by omega) ?_ | refine brEF (by omega) ?_ | refine brNET (by omega) ?_ | refine brNEF (by omega) ?_ | refine brNot ?_)); conv => whnf))
  · obtain ⟨D, hD, h1, h2, cn⟩ := c_numD n ⟨by omega, hn⟩
    have cf := c_fb D n hD h2
    have hd : decD n = decF D n := by
      obtain ⟨d, rfl⟩ : ∃ d, D = d + 1 := ⟨D - 1, by omega⟩
      exact decF_eq d n (.inr h1) h2
    have hb : bytesK D (((dcs D n ++ List.replicate (24 - D) (AV.int .u8 0)).drop 0).take D) = some (decD n) := by
      rw [hd, List.drop_zero, List.take_left' (dcs_len D n)]; exact dcs_bytes D n
    have hcl : ClosedL (dcs D n ++ List.replicate (24 - D) (AV.int .u8 0)) := ClosedL_iff.2 fun c hc => by
      rcases List.mem_append.1 hc with h | h
      · exact dcs_closed D n c h
      · rw [List.eq_of_mem_replicate h]; simp [Closed]
    have hl : (dcs D n ++ List.replicate (24 - D) (AV.int .u8 0)).length = 24 := by
      rw [List.length_append, dcs_len, List.length_replicate]; omega
    clear hd h1 h2
    generalize dcs D n ++ List.replicate (24 - D) (AV.int .u8 0) = CS at *
    conv => whnf
    repeat' (first | exact rfl | (refine CallH.lift seat_g cn (by simp [Closed, ClosedL]) (by simp [Closed, ClosedL]) ?_; conv => whnf) | (refine CallH.mem1 seat_g 0 cf rfl (by simp [Closed, ClosedL]) hcl (by simp [Closed, ClosedL]) rfl ?_; conv => whnf) | (refine Req.mk ⟨by omega, by omega, by omega, by omega⟩ ?_; conv => whnf) | (refine ldI _ hb ?_; conv => whnf) | ((first | refine zq1 (by omega) ?_ | refine zq2 (by omega) ?_ | refine NumH.rem (by omega) ?_ | refine zq4 (by omega) ?_ | refine zq5 (by omega) ?_ | refine zq6 ?_ | refine Req.mk (by omega) ?_ | refine Req.mk (by dsimp only; omega) ?_ | refine Req.mk (show pendP _ _ by repeat' constructor) ?_ | (with_reducible first | refine brT (by assumption) ?_ | refine brF (by assumption) ?_ | refine brDT (by omega) ?_ | refine brDF (by omega) ?_ | refine brET (by omega) ?_ | refine brEF (by omega) ?_ | refine brNET (by omega) ?_ | refine brNEF (by omega) ?_ | refine brNot ?_)); conv => whnf))
theorem c_fmt (n : Nat) (hn : n < 1000000000000000) : ACalls seat 24 [.int .u64 n, .int .i64 10] [] (fun x _ => x = .ret (.str (decD n))) := by
  refine ACalls.body seat_ok Tryd.func24 rfl rfl ?_
  have c := c_fmtI n hn
  conv => whnf
  refine CallH.lift seat_g c (by simp [Closed, ClosedL]) (by simp [Closed, ClosedL]) ?_
  conv => whnf
  rfl
end Go.Proofs.YtinjgnaimmenbaaDoor
namespace Go.Proofs.YtinjgnaimmenbaaDoor
open Go.Abs
def fracF : Nat → Nat → List UInt8
  | 0, _ => []
  | k + 1, r => if r = 0 then [] else dgB (r * 10 / 65536) :: fracF k (r * 10 % 65536)
theorem fracF_zero (k : Nat) : fracF k 0 = [] := by cases k <;> simp [fracF]
theorem fracF_dig : ∀ (k r : Nat), r < 65536 → digL (fracF k r)
  | 0, _, _ => by simp [fracF, digL]
  | k + 1, r, h => by
    unfold fracF
    split
    · simp [digL]
    · intro b hb
      rcases List.mem_cons.1 hb with rfl | hb
      · exact dgB_kind (by omega)
      · exact fracF_dig k _ (by omega) b hb
theorem fracF_len : ∀ (k r : Nat), (fracF k r).length ≤ k
  | 0, _ => by simp [fracF]
  | k + 1, r => by
    unfold fracF
    split
    · simp
    · have := fracF_len k (r * 10 % 65536); simp; omega
theorem frac_twos {j r : Nat} (h : r % 2 ^ j = 0) (hj : j ≤ 15) : (r * 10 % 65536) % 2 ^ (j + 1) = 0 := by
  have hd : 2 ^ (j + 1) ∣ 65536 := ⟨2 ^ (15 - j), by rw [← Nat.pow_add, show j + 1 + (15 - j) = 16 by omega]⟩
  rw [Nat.mod_mod_of_dvd _ hd]
  obtain ⟨c, hc⟩ := Nat.dvd_of_mod_eq_zero h
  rw [hc, Nat.pow_succ]
  exact Nat.mod_eq_zero_of_dvd ⟨c * 5, by rw [Nat.mul_assoc, Nat.mul_assoc, Nat.mul_left_comm 2 c 5]⟩
theorem frac_val : ∀ (k j r : Nat), k + j = 16 → r < 65536 → r % 2 ^ j = 0 → 65536 * valN (fracF k r) = r * 10 ^ (fracF k r).length
  | 0, j, r, hj, hr, h2 => by
    obtain rfl : j = 16 := by omega
    have : r = 0 := by rw [show (2 : Nat) ^ 16 = 65536 from rfl] at h2; omega
    subst this; simp [fracF, valN]
  | k + 1, j, r, hj, hr, h2 => by
    unfold fracF
    by_cases h : r = 0
    · rw [if_pos h, h]; simp [valN]
    · rw [if_neg h]
      have ih := frac_val k (j + 1) (r * 10 % 65536) (by omega) (by omega) (frac_twos h2 (by omega))
      generalize hf : fracF k (r * 10 % 65536) = f at *
      have e1 : valN (dgB (r * 10 / 65536) :: f) = r * 10 / 65536 * 10 ^ f.length + valN f := by
        have := valN_app [dgB (r * 10 / 65536)] _ f rfl
        rw [List.singleton_append] at this
        rw [this]; congr 2
        unfold valN; simp only [List.foldl_cons, List.foldl_nil]; rw [dgB_nat (by omega)]; omega
      have e2 : r * 10 = 65536 * (r * 10 / 65536) + r * 10 % 65536 := by omega
      rw [e1, Nat.mul_add, ih, List.length_cons, Nat.pow_succ, Nat.mul_comm (10 ^ f.length) 10, ← Nat.mul_assoc, ← Nat.mul_assoc]
      conv => rhs; rw [e2]
      rw [Nat.add_mul]
def prB (m : Nat) : Option (List UInt8) := if m % 65536 > 0 then some (fracF 16 (m % 65536)) else none
def prS (n : Int) : List UInt8 := if n < 0 then [45] else []
def prD (n : Int) : List UInt8 := prS n ++ (decD (n.natAbs / 65536) ++ dotL (prB n.natAbs))
theorem prD_txt (n : Int) : prD n = txt (prS n) (decD (n.natAbs / 65536)) (prB n.natAbs) none := by
  unfold prD txt; simp [expB]
theorem prB_dig (m : Nat) : digL ((prB m).getD []) := by
  unfold prB; split
  · exact fracF_dig _ _ (by omega)
  · simp [digL]
theorem prB_len (m : Nat) : ((prB m).getD []).length ≤ 16 := by
  unfold prB; split
  · exact fracF_len _ _
  · simp
theorem prD_ok (n : Int) : TxtOK (prS n) (decD (n.natAbs / 65536)) (prB n.natAbs) none :=
  ⟨by unfold prS; split <;> simp, decD_dig _, prB_dig _, by have := decD_pos (n.natAbs / 65536); omega, trivial⟩
theorem prB_val (m : Nat) : 65536 * valN ((prB m).getD []) = (m % 65536) * 10 ^ ((prB m).getD []).length := by
  unfold prB; split
  · exact frac_val 16 0 _ rfl (by omega) (Nat.mod_one _)
  · simp [valN]; omega
theorem refV_pr (n : Int) : refV (prS n == [45]) (txtN (decD (n.natAbs / 65536)) (prB n.natAbs)) (txtP (decD (n.natAbs / 65536)) (prB n.natAbs) none) = n := by
  obtain ⟨e1, e2⟩ := txtN_val (A := decD (n.natAbs / 65536)) (B := prB n.natAbs) (decD_dig _) (prB_dig _)
  unfold txtP
  rw [e1, e2, valN_app _ _ _ rfl, valN_decD]
  have hv := prB_val n.natAbs
  generalize (prB n.natAbs).getD [] = f at *
  have hP : (if exDown none = true then 0 - exPow 1000 none else exPow 1000 none) - (f.length : Int) = 0 - f.length := rfl
  rw [hP]
  have hU : upM (n.natAbs / 65536 * 10 ^ f.length + valN f) (0 - f.length) = n.natAbs * 10 ^ f.length := by
    unfold upM
    rw [show (0 - (f.length : Int)).toNat = 0 by omega, Nat.pow_zero, Nat.mul_one, Nat.add_mul, Nat.mul_comm (valN f), hv]
    have h3 : n.natAbs * 10 ^ f.length = (65536 * (n.natAbs / 65536) + n.natAbs % 65536) * 10 ^ f.length := by congr 1; omega
    rw [h3, Nat.add_mul, Nat.mul_right_comm, Nat.mul_comm (n.natAbs / 65536) 65536]
  have hD : dnM (0 - (f.length : Int)) = 10 ^ f.length := by unfold dnM; congr 1; omega
  have hp : 0 < 10 ^ f.length := Nat.pow_pos (by decide)
  unfold refV
  rw [hU, hD, nearM_spec _ _ _ hp]
  have hs : sg ((prS n == [45]) && decide (0 < n.natAbs * 10 ^ f.length)) (n.natAbs * 10 ^ f.length) = n * ((10 ^ f.length : Nat) : Int) := by
    by_cases h : n < 0
    · have h1 : (prS n == [45]) = true := by unfold prS; rw [if_pos h]; rfl
      have h2 : decide (0 < n.natAbs * 10 ^ f.length) = true := decide_eq_true (Nat.mul_pos (by omega) hp)
      rw [h1, h2]
      simp only [Bool.true_and, sg, if_true]
      rw [Int.natCast_mul, ← Int.neg_mul]; congr 1; omega
    · have h1 : (prS n == [45]) = false := by unfold prS; rw [if_neg h]; rfl
      rw [h1]
      simp only [Bool.false_and, sg, Bool.false_eq_true, if_false]
      rw [Int.natCast_mul]; congr 1; omega
  rw [hs]
  have ht : (0 : Int) < ((10 ^ f.length : Nat) : Int) := by omega
  generalize ((10 ^ f.length : Nat) : Int) = t at *
  have e3 : n * (2 * t) = 2 * (n * t) := by rw [← Int.mul_assoc, Int.mul_comm n 2, Int.mul_assoc]
  have e4 : (n + 1) * (2 * t) = 2 * (n * t) + 2 * t := by rw [Int.add_mul, e3, Int.one_mul]
  refine ediv_is (by omega) ?_ ?_
  · rw [e3]; omega
  · rw [e4]; omega
end Go.Proofs.YtinjgnaimmenbaaDoor
namespace Go.Proofs.YtinjgnaimmenbaaDoor
open Go.Abs
theorem and_16 {n : Int} : IntKind.wrap .u64 ((BitVec.ofInt (IntKind.bits .u64) n &&& BitVec.ofInt (IntKind.bits .u64) 65535).toNat : Int) = n % 65536 := by
  show IntKind.wrap .u64 ((BitVec.ofInt 64 n &&& BitVec.ofInt 64 65535).toNat : Int) = _
  rw [and_low 16 (by decide) n 65535 65536 (by decide) (by decide)]
  exact wrap_u64 (by omega) (by omega)
set_option maxRecDepth 20000 in
set_option maxHeartbeats 2000000 in
theorem c_dprint (n : Int) (hn : I64 n) : ACalls seat 11 [.int .i64 n] [] (fun x _ => x = .ret (.str (prD n))) := by
  refine ACalls.bodyS seat_ok Tryd.func11 rfl rfl ?_
  obtain ⟨m, hm⟩ : ∃ m, m = n.natAbs := ⟨_, rfl⟩
  have hmb : m ≤ 9223372036854775808 := by have := hn; unfold I64 at this; omega
  have hnb : -9223372036854775808 ≤ n ∧ n < 9223372036854775808 := by have := hn; unfold I64 at this; omega
  unfold prD
  rw [← hm]
  refine Sat.splitAt seat_ok (fun t h => t = (uu::uu::uu::.int .u64 m::.str (prS n)::uu::uu::uu::uu::uu::uu::uu::uu::uu::uu::uu::uu::uu::uu::uu::uu::uu::uu::uu::uu::uu::uu::uu::uu::uu::uu::uu::uu::uu::uu::uu::uu::uu::[]) ∧ h = []) 3 ?_ ?_
  · unfold prS
    by_cases h : n < 0
    · rw [if_pos h]
      have w1 : IntKind.wrap .u64 n = 18446744073709551616 - (m : Int) := by rw [wrap_u64m]; omega
      have w2 : IntKind.wrap .u64 (0 - (18446744073709551616 - (m : Int))) = m := by rw [wrap_u64m]; omega
      conv => whnf
      repeat' (first | exact ⟨_, keepT_weak (maskOf 38 [3, 4]) _, rfl, rfl⟩ | (refine WrapH.is _ w1 ?_; conv => whnf) | (refine WrapH.is _ w2 ?_; conv => whnf) | ((first | refine zq1 (by omega) ?_ | refine zq2 (by omega) ?_ | refine NumH.rem (by omega) ?_ | refine zq4 (by omega) ?_ | refine zq5 (by omega) ?_ | refine zq6 ?_ | refine Req.mk (by omega) ?_ | refine Req.mk (by dsimp only; omega) ?_ | refine Req.mk (show pendP _ _ by repeat' constructor) ?_ | (with_reducible first | refine brT (by assumption) ?_ | refine brF (by assumption) ?_ | refine brDT (by omega) ?_ | refine brDF (by omega) ?_ | refine brET (by omega) ?_ | refine brEF (by omega) ?_ | refine brNET (by omega) ?_ | refine brNEF (by omega) ?_ | refine brNot ?_)); conv => whnf))
    · rw [if_neg h]
      have w1 : IntKind.wrap .u64 n = m := by rw [wrap_u64m]; omega
      conv => whnf
      repeat' (first | exact ⟨_, keepT_weak (maskOf 38 [3, 4]) _, rfl, rfl⟩ | (refine WrapH.is _ w1 ?_; conv => whnf) | ((first | refine zq1 (by omega) ?_ | refine zq2 (by omega) ?_ | refine NumH.rem (by omega) ?_ | refine zq4 (by omega) ?_ | refine zq5 (by omega) ?_ | refine zq6 ?_ | refine Req.mk (by omega) ?_ | refine Req.mk (by dsimp only; omega) ?_ | refine Req.mk (show pendP _ _ by repeat' constructor) ?_ | (with_reducible first | refine brT (by assumption) ?_ | refine brF (by assumption) ?_ | refine brDT (by omega) ?_ | refine brDF (by omega) ?_ | refine brET (by omega) ?_ | refine brEF (by omega) ?_ | refine brNET (by omega) ?_ | refine brNEF (by omega) ?_ | refine brNot ?_)); conv => whnf))
  rintro _ _ ⟨rfl, rfl⟩
  have hSl : (prS n).length ≤ 1 := by unfold prS; split <;> simp
  generalize prS n = S at *
  have cf := c_fmt (m / 65536) (by omega)
  have hWl := decD_len 14 (m / 65536) (by omega)
  generalize decD (m / 65536) = W at *
  have hsh : (m : Int).fdiv (2 ^ (min ((16 : Int).toNat) (IntKind.bits .u64))) = ((m / 65536 : Nat) : Int) := by
    exact (fdiv_is (c := 65536) rfl (by decide)).trans (by omega)
  have ha : IntKind.wrap .u64 ((BitVec.ofInt (IntKind.bits .u64) (m : Int) &&& BitVec.ofInt (IntKind.bits .u64) 65535).toNat : Int) = ((m % 65536 : Nat) : Int) := by rw [and_16]; omega
  generalize m / 65536 = U at *
  obtain ⟨q, hq⟩ : ∃ q, q = m % 65536 := ⟨_, rfl⟩
  have hqb : q < 65536 := by omega
  rw [← hq] at ha
  unfold prB
  rw [← hq]
  clear hq
  refine codeR_sound seat_ok _ _ _ _ ?_
  by_cases g : q = 0
  · subst g
    rw [if_neg (by decide), show dotL none = [] from rfl, List.append_nil]
    conv => whnf
    repeat' (first | exact rfl | (refine NumH.is _ hsh ?_; conv => whnf) | (refine WrapH.is _ ha ?_; conv => whnf) | (refine CallH.lift seat_g cf (by simp [Closed, ClosedL]) (by simp [Closed, ClosedL]) ?_; conv => whnf) | (refine Req.mk (by simp only [List.length_append]; omega) ?_; conv => whnf) | ((first | refine zq1 (by omega) ?_ | refine zq2 (by omega) ?_ | refine NumH.rem (by omega) ?_ | refine zq4 (by omega) ?_ | refine zq5 (by omega) ?_ | refine zq6 ?_ | refine Req.mk (by omega) ?_ | refine Req.mk (by dsimp only; omega) ?_ | refine Req.mk (show pendP _ _ by repeat' constructor) ?_ | (with_reducible first | refine brT (by assumption) ?_ | refine brF (by assumption) ?_ | refine brDT (by omega) ?_ | refine brDF (by omega) ?_ | refine brET (by omega) ?_ | refine brEF (by omega) ?_ | refine brNET (by omega) ?_ | refine brNEF (by omega) ?_ | refine brNot ?_)); conv => whnf))
  · rw [if_pos (by omega), show S ++ (W ++ dotL (some (fracF 16 q))) = ((S ++ W) ++ [46]) ++ fracF 16 q by simp [dotL]]
    have hHl : ((S ++ W) ++ [46]).length ≤ 20 := by simp only [List.length_append, List.length_cons, List.length_nil]; omega
    conv => whnf
    repeat' (first | (refine NumH.is _ hsh ?_; conv => whnf) | (refine WrapH.is _ ha ?_; conv => whnf) | (refine CallH.lift seat_g cf (by simp [Closed, ClosedL]) (by simp [Closed, ClosedL]) ?_; conv => whnf) | (refine Req.mk (by simp only [List.length_append, List.toList_toArray, List.length_cons, List.length_nil]; omega) ?_; conv => whnf) | ((first | refine zq1 (by omega) ?_ | refine zq2 (by omega) ?_ | refine NumH.rem (by omega) ?_ | refine zq4 (by omega) ?_ | refine zq5 (by omega) ?_ | refine zq6 ?_ | refine Req.mk (by omega) ?_ | refine Req.mk (by dsimp only; omega) ?_ | refine Req.mk (show pendP _ _ by repeat' constructor) ?_ | (with_reducible first | refine brT (by assumption) ?_ | refine brF (by assumption) ?_ | refine brDT (by omega) ?_ | refine brDF (by omega) ?_ | refine brET (by omega) ?_ | refine brEF (by omega) ?_ | refine brNET (by omega) ?_ | refine brNEF (by omega) ?_ | refine brNot ?_)); conv => whnf))
    clear hsh ha cf
    generalize hH : ((S ++ W) ++ [46]) = H at *
    refine Sat.cut (fun x t h => x = .exit 0 ∧ t = (uu::uu::uu::uu::.str (H ++ fracF 16 q)::uu::uu::uu::uu::uu::uu::uu::uu::uu::uu::uu::uu::uu::uu::uu::uu::uu::uu::uu::uu::uu::uu::uu::uu::uu::uu::uu::uu::uu::uu::uu::uu::uu::[])) ?_ ?_
    · refine Sat.invP seat_ok seat_g (maskOf 38 [4, 5]) 0 (fun μ t h => ∃ (k j r : Nat) (z : Int) (s : List UInt8), k + j = 16 ∧ r < 65536 ∧ r % 2 ^ j = 0 ∧ z = r ∧ H ++ fracF 16 q = s ++ fracF k r ∧ μ = k ∧ t = (uu::uu::uu::uu::.str s::.int .u64 z::uu::uu::uu::uu::uu::uu::uu::uu::uu::uu::uu::uu::uu::uu::uu::uu::uu::uu::uu::uu::uu::uu::uu::uu::uu::uu::uu::uu::uu::uu::uu::uu::[]) ∧ h = [])
        ?_ ⟨_, _, WeakL.of_eq (by rw [← hH]; rfl), 16, 0, q, q, H, rfl, hqb, Nat.mod_one _, rfl, rfl, rfl, rfl, rfl⟩ ?_
      · rintro _ _ _ ⟨k, j, r, z, s, -, -, -, -, -, -, rfl, rfl⟩
        exact ⟨rfl, (by simp [IdsL, Ids, IdsH, IdsC, lv_ids, ci_ids]), (by simp [IdsL, Ids, IdsH, IdsC, lv_ids, ci_ids])⟩
      rintro k _ _ ⟨_, j, r, z, s, hkj, hr, h2, hz, hd, rfl, rfl, rfl⟩
      have hsl := congrArg List.length hd
      have hf16 := fracF_len 16 q
      rw [List.length_append, List.length_append] at hsl
      by_cases g : r = 0
      · have g1 : ¬ (z > 0) := by omega
        rw [g, fracF_zero, List.append_nil] at hd
        rw [hd]
        conv => whnf
        repeat' ((first | refine zq1 (by omega) ?_ | refine zq2 (by omega) ?_ | refine NumH.rem (by omega) ?_ | refine zq4 (by omega) ?_ | refine zq5 (by omega) ?_ | refine zq6 ?_ | refine Req.mk (by omega) ?_ | refine Req.mk (by dsimp only; omega) ?_ | refine Req.mk (show pendP _ _ by repeat' constructor) ?_ | (with_reducible first | refine brT (by assumption) ?_ | refine brF (by assumption) ?_ | refine brDT (by omega) ?_ | refine brDF (by omega) ?_ | refine brET (by omega) ?_ | refine brEF (by omega) ?_ | refine brNET (by omega) ?_ | refine brNEF (by omega) ?_ | refine brNot ?_)); conv => whnf)
        exact ⟨_, keepT_weak (maskOf 38 [4]) _, rfl, rfl⟩
      · have g1 : z > 0 := by omega
        obtain ⟨k, rfl⟩ : ∃ i, k = i + 1 := by
          cases k with
          | succ i => exact ⟨i, rfl⟩
          | zero => exfalso; have : j = 16 := by omega
                    subst this; rw [show (2 : Nat) ^ 16 = 65536 from rfl] at h2; omega
        have hd2 : H ++ fracF 16 q = (s ++ [dgB (r * 10 / 65536)]) ++ fracF k (r * 10 % 65536) := by rw [hd]; simp [fracF, g]
        have hsh : (z * 10).fdiv (2 ^ (min ((16 : Int).toNat) (IntKind.bits .u64))) = ((r * 10 / 65536 : Nat) : Int) := by
          exact (fdiv_is (c := 65536) rfl (by decide)).trans (by omega)
        have ha : IntKind.wrap .u64 ((BitVec.ofInt (IntKind.bits .u64) (z * 10) &&& BitVec.ofInt (IntKind.bits .u64) 65535).toNat : Int) = ((r * 10 % 65536 : Nat) : Int) := by rw [and_16, hz]; omega
        have hw : IntKind.wrap .u8 (48 + ((r * 10 / 65536 : Nat) : Int)) = ((48 + r * 10 / 65536 : Nat) : Int) := by
          rw [wrap_u8m]
          have : r * 10 / 65536 ≤ 9 := by omega
          omega
        have ht := frac_twos h2 (by omega)
        have h9 : r * 10 / 65536 ≤ 9 := by omega
        have h10 : r * 10 % 65536 < 65536 := by omega
        have hzb : 0 ≤ z ∧ z < 65536 := by omega
        clear hd h2 hz
        generalize r * 10 / 65536 = a at *
        generalize r * 10 % 65536 = b at *
        conv => whnf
        repeat' (first | exact ⟨_, _, Nat.lt_succ_self k, WeakL.of_eq rfl, k, j + 1, b, b, s ++ [dgB a], by omega, h10, ht, rfl, hd2, rfl, rfl, rfl⟩ | (refine NumH.is _ hsh ?_; conv => whnf) | (refine WrapH.is _ ha ?_; conv => whnf) | (refine WrapH.is _ hw ?_; conv => whnf) | (refine Req.mk (by simp only [List.length_append, List.length_cons, List.length_nil]; omega) ?_; conv => whnf) | ((first | refine zq1 (by omega) ?_ | refine zq2 (by omega) ?_ | refine NumH.rem (by omega) ?_ | refine zq4 (by omega) ?_ | refine zq5 (by omega) ?_ | refine zq6 ?_ | refine Req.mk (by omega) ?_ | refine Req.mk (by dsimp only; omega) ?_ | refine Req.mk (show pendP _ _ by repeat' constructor) ?_ | (with_reducible first | refine brT (by assumption) ?_ | refine brF (by assumption) ?_ | refine brDT (by omega) ?_ | refine brDF (by omega) ?_ | refine brET (by omega) ?_ | refine brEF (by omega) ?_ | refine brNET (by omega) ?_ | refine brNEF (by omega) ?_ | refine brNot ?_)); conv => whnf))
    · rintro _ _ _ ⟨rfl, rfl⟩
      conv => whnf
      rfl
end Go.Proofs.YtinjgnaimmenbaaDoor
