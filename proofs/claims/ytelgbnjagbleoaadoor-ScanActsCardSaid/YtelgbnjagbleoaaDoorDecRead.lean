/- The program's reading of a number's text. Conditions: the text is one, and not too long. -/
import Derived.Test.YtelgbnjagbleoaaDoorDecScan2
import Derived.Test.YtelgbnjagbleoaaDoorAbsD
import Derived.Test.YtelgbnjagbleoaaDoorBits
set_option linter.unusedSimpArgs false
set_option linter.unusedVariables false
set_option linter.deprecated false
namespace Go.Proofs.YtelgbnjagbleoaaDoor
open Go.Abs
structure RS where
  below : Bool
  ds : List Int
  pt : Int
  seen : Bool
def dsF (ds : List Int) (c : Int) : List Int := if c ≠ 48 ∨ 0 < ds.length then ds ++ [c - 48] else ds
def ptF (seen : Bool) (ds : List Int) (pt : Int) : Int := if seen = false then (if 0 < ds.length then pt + 1 else pt) else (if ds.length = 0 then pt - 1 else pt)
def rdStep (r : RS) (b : UInt8) : RS :=
  if kindN b.toNat = 0 then ⟨r.below, dsF r.ds b.toNat, ptF r.seen (dsF r.ds b.toNat) r.pt, r.seen⟩
  else if kindN b.toNat = 1 then ⟨r.below, r.ds, r.pt, true⟩
  else if kindN b.toNat = 3 then ⟨(b.toNat : Int) == 45, r.ds, r.pt, r.seen⟩
  else r
def rdM (l : List UInt8) : RS := l.foldl rdStep ⟨false, [], 0, false⟩
def powF (cap : Int) (p : Int) (C : List UInt8) : Int := C.foldl (fun p c => if cap < 10 * p + ((c.toNat : Int) - 48) then cap else 10 * p + ((c.toNat : Int) - 48)) p
/-- noughts behind are taken off -/
def stripL (l : List Int) : List Int := (l.reverse.dropWhile (· == 0)).reverse
theorem stripL_last (l : List Int) (x : Int) : stripL (l ++ [x]) = if x = 0 then stripL l else l ++ [x] := by
  unfold stripL
  rw [List.reverse_append]
  by_cases h : x = 0 <;> simp [h]
theorem rdStep_len (r : RS) (b : UInt8) : (rdStep r b).ds.length ≤ r.ds.length + 1 ∧ (-(r.pt.natAbs : Int) - 1 ≤ (rdStep r b).pt ∧ (rdStep r b).pt ≤ r.pt.natAbs + 1) := by
  have hd : ∀ c, (dsF r.ds c).length ≤ r.ds.length + 1 := fun c => by unfold dsF; split <;> simp
  have hp : ∀ ds, -(r.pt.natAbs : Int) - 1 ≤ ptF r.seen ds r.pt ∧ ptF r.seen ds r.pt ≤ r.pt.natAbs + 1 := fun ds => by unfold ptF; repeat' split
                                                                                                                       all_goals omega
  unfold rdStep
  split
  · exact ⟨hd _, hp _⟩
  · split
    · exact ⟨Nat.le_succ _, by simp only; omega⟩
    · split
      · exact ⟨Nat.le_succ _, by simp only; omega⟩
      · exact ⟨Nat.le_succ _, by omega⟩
theorem rdM_snoc (l : List UInt8) (b : UInt8) : rdM (l ++ [b]) = rdStep (rdM l) b := by simp [rdM]
theorem rdM_bd : ∀ (n : Nat) (l : List UInt8), l.length = n → (rdM l).ds.length ≤ n ∧ (-(n : Int) ≤ (rdM l).pt ∧ (rdM l).pt ≤ n)
  | 0, l, h => by
    obtain rfl := List.length_eq_zero_iff.1 h
    exact ⟨Nat.le_refl _, by simp [rdM]⟩
  | n + 1, l, h => by
    have hne : l ≠ [] := by intro h2; rw [h2] at h; simp at h
    have e := (List.dropLast_concat_getLast hne).symm
    have hl : l.dropLast.length = n := by rw [List.length_dropLast]; omega
    have ih := rdM_bd n _ hl
    rw [e, rdM_snoc]
    have := rdStep_len (rdM l.dropLast) (l.getLast hne)
    omega
theorem powF_snoc (cap p : Int) (C : List UInt8) (c : UInt8) : powF cap p (C ++ [c]) = if cap < 10 * powF cap p C + ((c.toNat : Int) - 48) then cap else 10 * powF cap p C + ((c.toNat : Int) - 48) := by unfold powF; rw [List.foldl_append]; rfl
theorem powF_bd {cap : Int} (hc : 0 ≤ cap) : ∀ (n : Nat) (C : List UInt8), C.length = n → (∀ c ∈ C, kindN c.toNat = 0) → 0 ≤ powF cap 0 C ∧ powF cap 0 C ≤ cap
  | 0, C, h, _ => by
    obtain rfl := List.length_eq_zero_iff.1 h
    simpa [powF] using hc
  | n + 1, C, h, hk => by
    have hne : C ≠ [] := by intro h2; rw [h2] at h; simp at h
    have e := (List.dropLast_concat_getLast hne).symm
    have hl : C.dropLast.length = n := by rw [List.length_dropLast]; omega
    have ih := powF_bd hc n _ hl (fun c h => hk c (List.dropLast_subset _ h))
    have h0 := kindN_cases (C.getLast hne).toNat
    have h1 := hk _ (List.getLast_mem hne)
    rw [e, powF_snoc]
    split <;> omega
/-- a text that is one: what is ahead of the letter, and behind it the sign and the digits -/
def expB : Option (UInt8 × List UInt8 × List UInt8) → List UInt8
  | none => []
  | some (e, sg, C) => e :: (sg ++ C)
def exOK : Option (UInt8 × List UInt8 × List UInt8) → Prop
  | none => True
  | some (e, sg, C) => kindN e.toNat = 2 ∧ (sg = [] ∨ sg = [43] ∨ sg = [45]) ∧ C ≠ [] ∧ ∀ c ∈ C, kindN c.toNat = 0
def exPow (cap : Int) : Option (UInt8 × List UInt8 × List UInt8) → Int
  | none => 0
  | some (_, sg, C) => powF cap 0 C
def exDown : Option (UInt8 × List UInt8 × List UInt8) → Bool
  | none => false
  | some (_, sg, _) => sg == [45]
def numV (r : RS) (pow : Int) (down : Bool) : AV := .agg [.bool r.below, .vec (ci .u8 (stripL r.ds)) (stripL r.ds).length none, .int .i64 (r.pt + if down then 0 - pow else pow)]
end Go.Proofs.YtelgbnjagbleoaaDoor
