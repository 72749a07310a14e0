/- TopBinary, run by the kernel; its bits. Conditions: none. -/
import Derived.Test.YtfbdfgbhmpfjcaaGreatDoorRow
set_option linter.unusedVariables false
set_option linter.unusedSimpArgs false
set_option linter.constructorNameAsVariable false
set_option linter.unusedSectionVars false
namespace Go.Proofs.YtfbdfgbhmpfjcaaGreatDoor
open Go Go.Proofs Go.Proofs.YtfbdfgbhmpfjcaaGreatDoor.Ev
set_option linter.unusedVariables false
namespace Bin
noncomputable def yB (n : Nat) : SE := Nat.rec (motive := fun _ => SE) (.var 0) (fun _ y => .conv .i32 (.bin .shr .u32 (.conv .u32 y) (.lit 1))) n
noncomputable def bM (n : Nat) : SE := .bin .and .i32 (yB n) (.lit 1)
noncomputable def onesM (n : Nat) : SE := Nat.rec (motive := fun _ => SE) (.lit 0) (fun m s => .bin .add .i32 s (bM m)) n
noncomputable def twM (n : Nat) (t : SE) : SE := Nat.rec (motive := fun _ => SE) (.lit 0) (fun _ _ => .bin .shl .i32 t (.lit 1)) n
noncomputable def turnM (n : Nat) : SE := Nat.rec (motive := fun _ => SE) (.lit 0) (fun m t => .bin .or .i32 (twM m t) (bM m)) n
noncomputable def bL (n : Nat) : SE := .bin .and .u32 (.bin .shr .u32 (.conv .u32 (.var 0)) (.lit (Int.ofNat n))) (.lit 1)
noncomputable def onesL (n : Nat) : SE := Nat.rec (motive := fun _ => SE) (.lit 0) (fun m s => .bin .add .i32 s (.conv .i32 (bL m))) n
noncomputable def twL (n : Nat) (t : SE) : SE := Nat.rec (motive := fun _ => SE) (.lit 0) (fun _ _ => .bin .shl .u32 t (.lit 1)) n
noncomputable def turnL (n : Nat) : SE := Nat.rec (motive := fun _ => SE) (.lit 0) (fun m t => .bin .or .u32 (twL m t) (bL m)) n
noncomputable def aBinary : List As := [⟨.neq, onesM 32, onesL 32, false⟩, ⟨.neq, turnM 32, .conv .i32 (turnL 32), false⟩]
theorem u32_eq (z : Int) : IntKind.wrap .u32 z = z % 4294967296 := by simp [IntKind.wrap, IntKind.bits, IntKind.signed]
theorem i32_eq (z : Int) : IntKind.wrap .i32 z = if 2147483648 ≤ z % 4294967296 then z % 4294967296 - 4294967296 else z % 4294967296 := by simp [IntKind.wrap, IntKind.bits, IntKind.signed]
theorem i32_mod (z : Int) : IntKind.wrap .i32 z % 4294967296 = z % 4294967296 := by
  rw [i32_eq]
  split <;> omega
theorem i32_congr {a b : Int} (h : a % 4294967296 = b % 4294967296) : IntKind.wrap .i32 a = IntKind.wrap .i32 b := by
  rw [i32_eq, i32_eq, h]
theorem ofInt_congr {a b : Int} (h : a % 4294967296 = b % 4294967296) : BitVec.ofInt 32 a = BitVec.ofInt 32 b := by
  apply BitVec.eq_of_toNat_eq
  rw [BitVec.toNat_ofInt, BitVec.toNat_ofInt]
  have e : ((2 ^ 32 : Nat) : Int) = 4294967296 := by decide
  rw [e, h]
theorem and1 (x : Int) : ((BitVec.ofInt 32 x &&& BitVec.ofInt 32 1).toNat : Int) = x % 4294967296 % 2 := by
  rw [BitVec.toNat_and, BitVec.toNat_ofInt, BitVec.toNat_ofInt]
  have e : ((2 ^ 32 : Nat) : Int) = 4294967296 := by decide
  rw [e]
  have e1 : ((1 : Int) % 4294967296).toNat = 1 := by decide
  rw [e1, Nat.and_one_is_mod]
  omega
theorem bv_and_i (x : Int) : bv .and .i32 x 1 = x % 4294967296 % 2 := and1 x
theorem bv_and_u (x : Int) : bv .and .u32 x 1 = x % 4294967296 % 2 := and1 x
/-- The number as it is without a sign, its lowest n bits struck. -/
def hi (σ : Nat → Int) (n : Nat) : Int := (σ 0 % 4294967296) / 2 ^ n
theorem hi_lo (σ : Nat → Int) (n : Nat) : 0 ≤ hi σ n ∧ hi σ n < 4294967296 := by
  unfold hi
  have h1 : 0 ≤ σ 0 % 4294967296 := Int.emod_nonneg _ (by decide)
  have h2 : σ 0 % 4294967296 < 4294967296 := Int.emod_lt_of_pos _ (by decide)
  have hp : (0 : Int) < 2 ^ n := Int.pow_pos (by decide)
  refine ⟨Int.ediv_nonneg h1 (Int.le_of_lt hp), ?_⟩
  refine Int.ediv_lt_of_lt_mul hp ?_
  have h3 : (1 : Int) ≤ 2 ^ n := hp
  calc σ 0 % 4294967296 < 4294967296 := h2
    _ = 4294967296 * 1 := by omega
    _ ≤ 4294967296 * 2 ^ n := Int.mul_le_mul_of_nonneg_left h3 (by decide)
theorem hi_mod (σ : Nat → Int) (n : Nat) : hi σ n % 4294967296 = hi σ n := Int.emod_eq_of_lt (hi_lo σ n).1 (hi_lo σ n).2
theorem hi_succ (σ : Nat → Int) (n : Nat) : hi σ n / 2 = hi σ (n + 1) := by
  unfold hi
  rw [Int.pow_succ, Int.ediv_ediv_of_nonneg (Int.le_of_lt (Int.pow_pos (by decide)))]
theorem y_mod (σ : Nat → Int) (n : Nat) : (yB n).val σ % 4294967296 = hi σ n := by
  induction n with
  | zero => show σ 0 % 4294967296 = _; unfold hi; simp
  | succ n ih =>
    show IntKind.wrap .i32 (binZ .shr .u32 (IntKind.wrap .u32 ((yB n).val σ)) 1) % 4294967296 = _
    rw [i32_mod, u32_eq, ih]
    show (hi σ n).fdiv 2 % 4294967296 = _
    rw [Int.fdiv_eq_ediv_of_nonneg _ (by decide), hi_succ, hi_mod]
theorem bit_small (σ : Nat → Int) (n : Nat) : 0 ≤ hi σ n % 2 ∧ hi σ n % 2 < 2 := by omega
theorem i32_bit {z : Int} (h : 0 ≤ z ∧ z < 2) : IntKind.wrap .i32 z = z := by
  rw [i32_eq]
  split <;> omega
theorem bM_val (σ : Nat → Int) (n : Nat) : (bM n).val σ = hi σ n % 2 := by
  show IntKind.wrap .i32 (bv .and .i32 ((yB n).val σ) 1) = _
  rw [bv_and_i, y_mod, i32_bit (bit_small σ n)]
theorem bL_val (σ : Nat → Int) (n : Nat) (hn : n ≤ 32) : (bL n).val σ = hi σ n % 2 := by
  show IntKind.wrap .u32 (bv .and .u32 ((IntKind.wrap .u32 (σ 0)).fdiv (2 ^ (min (Int.toNat n) 32))) 1) = _
  rw [bv_and_u, u32_eq, u32_eq, Int.toNat_natCast, Nat.min_eq_left hn, Int.fdiv_eq_ediv_of_nonneg _ (Int.le_of_lt (Int.pow_pos (by decide)))]
  show hi σ n % 4294967296 % 2 % 4294967296 = _
  rw [hi_mod]
  omega
theorem ones_eq (σ : Nat → Int) : ∀ n, n ≤ 32 → (onesM n).val σ = (onesL n).val σ := by
  intro n
  induction n with
  | zero => intro _; rfl
  | succ n ih =>
    intro hn
    show IntKind.wrap .i32 ((onesM n).val σ + (bM n).val σ) = IntKind.wrap .i32 ((onesL n).val σ + IntKind.wrap .i32 ((bL n).val σ))
    rw [ih (by omega), bM_val, bL_val σ n (by omega), i32_bit (bit_small σ n)]
theorem turn_eq (σ : Nat → Int) : ∀ n, n ≤ 32 → (turnM n).val σ = IntKind.wrap .i32 ((turnL n).val σ) := by
  intro n
  induction n with
  | zero => intro _; rfl
  | succ n ih =>
    intro hn
    have h := ih (by omega)
    have hs : (twM n (turnM n)).val σ % 4294967296 = (twL n (turnL n)).val σ % 4294967296 := by
      cases n with
      | zero => rfl
      | succ n =>
        show IntKind.wrap .i32 ((turnM (n + 1)).val σ * 2) % 4294967296 = IntKind.wrap .u32 ((turnL (n + 1)).val σ * 2) % 4294967296
        rw [i32_mod, u32_eq, Int.emod_emod_of_dvd _ (Int.dvd_refl _), h]
        have := i32_mod ((turnL (n + 1)).val σ)
        omega
    show IntKind.wrap .i32 ((BitVec.ofInt 32 ((twM n (turnM n)).val σ) ||| BitVec.ofInt 32 ((bM n).val σ)).toNat : Int) = IntKind.wrap .i32 (IntKind.wrap .u32 ((BitVec.ofInt 32 ((twL n (turnL n)).val σ) ||| BitVec.ofInt 32 ((bL n).val σ)).toNat : Int))
    rw [ofInt_congr hs, bM_val, bL_val σ n (by omega)]
    refine i32_congr ?_
    rw [u32_eq, Int.emod_emod_of_dvd _ (Int.dvd_refl _)]
theorem asBinary (σ : Nat → Int) : AsOk σ aBinary := by
  intro x hx
  simp only [aBinary, List.mem_cons, List.not_mem_nil, or_false] at hx
  rcases hx with rfl | rfl
  · show ((onesM 32).val σ != (onesL 32).val σ) = false
    rw [ones_eq σ 32 (Nat.le_refl _)]
    simp
  · show ((turnM 32).val σ != IntKind.wrap .i32 ((turnL 32).val σ)) = false
    rw [turn_eq σ 32 (Nat.le_refl _)]
    simp
set_option maxHeartbeats 0 in
theorem runBinary : runT aBinary [7] 3 [V.s .i32 (.var 0)] = true := by kernel_rfl
end Bin
end Go.Proofs.YtfbdfgbhmpfjcaaGreatDoor
