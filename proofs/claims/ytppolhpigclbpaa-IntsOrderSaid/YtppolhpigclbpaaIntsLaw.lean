/- Plain law of whole numbers of 32 bits: what the instructions of one and two numbers give, by 64 bits and by 32 alike; shifts, sums, products, quotients and tests as they are said. Conditions: the numbers are of 32 bits where it is said. -/
import Derived.Test.YtppolhpigclbpaaWords
namespace Go.Proofs.Ytppolhpigclbpaa
open Go.RowKit

/-- A number of 32 bits. -/
def In32 (a : Int) : Prop := -2147483648 ≤ a ∧ a ≤ 2147483647
theorem wrap32_mod (n : Int) : wrap32 n = (n + 2147483648) % 4294967296 - 2147483648 := by
  unfold wrap32
  omega
theorem wrap32_in (n : Int) : In32 (wrap32 n) := by
  rw [wrap32_mod]
  unfold In32
  omega
theorem wrap32_of {n : Int} (h : In32 n) : wrap32 n = n := by
  rw [wrap32_mod]
  unfold In32 at h
  omega
theorem wrap32_congr {m n : Int} (h : (m - n) % 4294967296 = 0) : wrap32 m = wrap32 n := by
  rw [wrap32_mod, wrap32_mod]
  omega
theorem wrap32_wrap64 (n : Int) : wrap32 (wrap64 n) = wrap32 n := by
  unfold wrap32 wrap64
  omega
theorem ofInt_mod (a : Int) : (BitVec.ofInt 64 a).setWidth 32 = BitVec.ofInt 32 a := by
  apply BitVec.eq_of_toNat_eq
  rw [BitVec.toNat_setWidth, BitVec.toNat_ofInt, BitVec.toNat_ofInt]
  omega
theorem i64_wrap32 (x : BitVec 64) : wrap32 (IntKind.i64.wrap (x.toNat : Int)) = IntKind.i32.wrap ((x.setWidth 32).toNat : Int) := by
  rw [IntKind.wrap_i64, IntKind.wrap_i32, BitVec.toNat_setWidth, wrap32_mod]
  omega
theorem low_and (a b : Int) : wrap32 (bits .and .i64 a b) = bits .and .i32 a b := by
  show wrap32 (IntKind.i64.wrap ((BitVec.ofInt 64 a &&& BitVec.ofInt 64 b).toNat : Int)) = IntKind.i32.wrap ((BitVec.ofInt 32 a &&& BitVec.ofInt 32 b).toNat : Int)
  rw [i64_wrap32, BitVec.setWidth_and, ofInt_mod, ofInt_mod]
theorem low_or (a b : Int) : wrap32 (bits .or .i64 a b) = bits .or .i32 a b := by
  show wrap32 (IntKind.i64.wrap ((BitVec.ofInt 64 a ||| BitVec.ofInt 64 b).toNat : Int)) = IntKind.i32.wrap ((BitVec.ofInt 32 a ||| BitVec.ofInt 32 b).toNat : Int)
  rw [i64_wrap32, BitVec.setWidth_or, ofInt_mod, ofInt_mod]
theorem low_xor (a b : Int) : wrap32 (bits .xor .i64 a b) = bits .xor .i32 a b := by
  show wrap32 (IntKind.i64.wrap ((BitVec.ofInt 64 a ^^^ BitVec.ofInt 64 b).toNat : Int)) = IntKind.i32.wrap ((BitVec.ofInt 32 a ^^^ BitVec.ofInt 32 b).toNat : Int)
  rw [i64_wrap32, BitVec.setWidth_xor, ofInt_mod, ofInt_mod]
/-- The five lowest bits. -/
theorem mask31_64 (b : Int) : bits .and .i64 b 31 = b % 32 := by
  show IntKind.i64.wrap ((BitVec.ofInt 64 b &&& BitVec.ofInt 64 31).toNat : Int) = b % 32
  rw [BitVec.toNat_and, BitVec.toNat_ofInt, show (BitVec.ofInt 64 31).toNat = 31 from by decide, nat_mask5, IntKind.wrap_i64]
  omega
theorem mask31_32 (b : Int) : bits .and .i32 b 31 = b % 32 := by
  show IntKind.i32.wrap ((BitVec.ofInt 32 b &&& BitVec.ofInt 32 31).toNat : Int) = b % 32
  rw [BitVec.toNat_and, BitVec.toNat_ofInt, show (BitVec.ofInt 32 31).toNat = 31 from by decide, nat_mask5, IntKind.wrap_i32]
  omega
theorem mask32_64 (a : Int) : bits .and .i64 a 4294967295 = a % 4294967296 := by
  show IntKind.i64.wrap ((BitVec.ofInt 64 a &&& BitVec.ofInt 64 4294967295).toNat : Int) = a % 4294967296
  rw [BitVec.toNat_and, BitVec.toNat_ofInt, show (BitVec.ofInt 64 4294967295).toNat = 2 ^ 32 - 1 from by decide +kernel, Nat.and_two_pow_sub_one_eq_mod, IntKind.wrap_i64]
  omega
theorem shr_in {a : Int} (h : In32 a) (S : Nat) : In32 (a / 2 ^ S) := by
  unfold In32 at *
  have hp : (0 : Int) < 2 ^ S := Int.pow_pos (by omega)
  constructor
  · exact Int.le_ediv_of_mul_le hp (by omega)
  · have h1 : a / 2 ^ S ≤ if 0 ≤ a then a else 0 := by
      split
      · exact Int.ediv_le_self _ (by assumption)
      · exact Int.ediv_nonpos_of_nonpos_of_neg (by omega) hp
    split at h1 <;> omega

/-- What an instruction of two numbers gives. -/
def sh (b : Int) : Nat := (b % 32).toNat
def twoV (op a b : Int) : Int × Bool :=
  if op = 8 then (wrap32 (a + b), true) else if op = 9 then (wrap32 (a - b), true) else if op = 10 then (wrap32 (a * b), true)
  else if op = 11 then (if b = 0 then (0, false) else (wrap32 (a.tdiv b), true)) else if op = 12 then (if b = 0 then (0, false) else (a.tmod b, true))
  else if op = 14 then (bits .and .i32 a b, true) else if op = 15 then (bits .or .i32 a b, true) else if op = 16 then (bits .xor .i32 a b, true)
  else if op = 17 then (wrap32 (a * 2 ^ sh b), true) else if op = 18 then (a / 2 ^ sh b, true) else if op = 19 then (wrap32 (a % 4294967296 / 2 ^ sh b), true)
  else (0, false)
theorem twoV_no {op a b : Int} (h : op ≠ 8 ∧ op ≠ 9 ∧ op ≠ 10 ∧ op ≠ 11 ∧ op ≠ 12 ∧ op ≠ 14 ∧ op ≠ 15 ∧ op ≠ 16 ∧ op ≠ 17 ∧ op ≠ 18 ∧ op ≠ 19) : twoV op a b = (0, false) := by
  obtain ⟨h1, h2, h3, h4, h5, h6, h7, h8, h9, h10, h11⟩ := h
  simp [twoV, h1, h2, h3, h4, h5, h6, h7, h8, h9, h10, h11]
theorem sh_lt (b : Int) : sh b < 32 := by unfold sh; omega
theorem sh_32 (b : Int) : bits .and .i32 b 31 = (sh b : Int) := by rw [mask31_32]; unfold sh; omega
theorem sh_64 (b : Int) : bits .and .i64 b 31 = (sh b : Int) := by rw [mask31_64]; unfold sh; omega
theorem neg_div (a : Int) : a.tdiv (-1) = -a := by rw [Int.tdiv_neg, Int.tdiv_one]
theorem neg_mod (a : Int) : a.tmod (-1) = 0 := by rw [Int.tmod_neg, Int.tmod_one]
theorem tmod_in {a b : Int} (hb : In32 b) (h : b ≠ 0) : In32 (a.tmod b) := by
  unfold In32 at *
  have h1 := Int.lt_tmod_of_pos a (b := b)
  have h2 := Int.tmod_lt_of_pos a (b := b)
  have h3 : a.tmod b = a.tmod (-b) := (Int.tmod_neg a b).symm
  rcases Int.lt_or_gt_of_ne h with hn | hp
  · have h4 := Int.lt_tmod_of_pos a (b := -b) (by omega)
    have h5 := Int.tmod_lt_of_pos a (b := -b) (by omega)
    omega
  · have h4 := h1 (by omega)
    have h5 := h2 (by omega)
    omega
/-- Whether numbers stand so. -/
def goesO (op b : Int) : Int × Int := if 21 ≤ op ∧ op ≤ 26 then (op + 6, 0) else (op, b)
def cmpV (op a b : Int) : Bool :=
  if op = 27 then (a == b) else if op = 28 then (a != b) else if op = 29 then decide (a < b) else if op = 30 then decide (b ≤ a) else if op = 31 then decide (b < a) else if op = 32 then decide (a ≤ b) else false
def goesV (op a b : Int) : Bool := cmpV (goesO op b).1 a (goesO op b).2
theorem cmpV_no {op a b : Int} (h : op ≠ 27 ∧ op ≠ 28 ∧ op ≠ 29 ∧ op ≠ 30 ∧ op ≠ 31 ∧ op ≠ 32) : cmpV op a b = false := by
  obtain ⟨h1, h2, h3, h4, h5, h6⟩ := h
  simp [cmpV, h1, h2, h3, h4, h5, h6]
theorem d_eq (a b : Int) : (a - b == 0) = (a == b) := by rw [Bool.eq_iff_iff]; simp; omega
theorem d_ne (a b : Int) : (a - b != 0) = (a != b) := by rw [Bool.eq_iff_iff]; simp; omega
theorem d_lt (a b : Int) : decide (a - b < 0) = decide (a < b) := by rw [decide_eq_decide]; omega
theorem d_ge (a b : Int) : decide (0 ≤ a - b) = decide (b ≤ a) := by rw [decide_eq_decide]; omega
theorem d_gt (a b : Int) : decide (0 < a - b) = decide (b < a) := by rw [decide_eq_decide]; omega
theorem d_le (a b : Int) : decide (a - b ≤ 0) = decide (a ≤ b) := by rw [decide_eq_decide]; omega
end Go.Proofs.Ytppolhpigclbpaa
