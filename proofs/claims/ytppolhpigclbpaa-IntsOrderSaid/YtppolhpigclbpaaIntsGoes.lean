/- The walks of ints.Goes and of the reference's: they give the plain law's answers and leave the world alone. Conditions: the two numbers are of 32 bits. -/
import Derived.Test.YtppolhpigclbpaaIntsWalk
import Derived.Deep.RegionWith
namespace Go.Proofs.Ytppolhpigclbpaa
open Go.RowKit
set_option linter.unusedVariables false

theorem goes_21 (a b : Int) (w : World) (ha : In32 a) (hb : In32 b) : Calls Try.prog 20 #[.int .i64 21, .int .i32 a, .int .i32 b] w fun e w' => e = .returned (.bool (goesV 21 a b)) ∧ w = w' := by
  unfold In32 at ha hb
  go_enter Try.func20, Try.ntmps20
  go_wp2_with fail
  go_ret
  exact ⟨rfl, rfl⟩
theorem goes_22 (a b : Int) (w : World) (ha : In32 a) (hb : In32 b) : Calls Try.prog 20 #[.int .i64 22, .int .i32 a, .int .i32 b] w fun e w' => e = .returned (.bool (goesV 22 a b)) ∧ w = w' := by
  unfold In32 at ha hb
  go_enter Try.func20, Try.ntmps20
  go_wp2_with fail
  go_ret
  exact ⟨rfl, rfl⟩
theorem goes_23 (a b : Int) (w : World) (ha : In32 a) (hb : In32 b) : Calls Try.prog 20 #[.int .i64 23, .int .i32 a, .int .i32 b] w fun e w' => e = .returned (.bool (goesV 23 a b)) ∧ w = w' := by
  unfold In32 at ha hb
  go_enter Try.func20, Try.ntmps20
  go_wp2_with fail
  go_ret
  exact ⟨rfl, rfl⟩
theorem goes_24 (a b : Int) (w : World) (ha : In32 a) (hb : In32 b) : Calls Try.prog 20 #[.int .i64 24, .int .i32 a, .int .i32 b] w fun e w' => e = .returned (.bool (goesV 24 a b)) ∧ w = w' := by
  unfold In32 at ha hb
  go_enter Try.func20, Try.ntmps20
  go_wp2_with fail
  go_ret
  exact ⟨rfl, rfl⟩
theorem goes_25 (a b : Int) (w : World) (ha : In32 a) (hb : In32 b) : Calls Try.prog 20 #[.int .i64 25, .int .i32 a, .int .i32 b] w fun e w' => e = .returned (.bool (goesV 25 a b)) ∧ w = w' := by
  unfold In32 at ha hb
  go_enter Try.func20, Try.ntmps20
  go_wp2_with fail
  go_ret
  exact ⟨rfl, rfl⟩
theorem goes_26 (a b : Int) (w : World) (ha : In32 a) (hb : In32 b) : Calls Try.prog 20 #[.int .i64 26, .int .i32 a, .int .i32 b] w fun e w' => e = .returned (.bool (goesV 26 a b)) ∧ w = w' := by
  unfold In32 at ha hb
  go_enter Try.func20, Try.ntmps20
  go_wp2_with fail
  go_ret
  exact ⟨rfl, rfl⟩
theorem goes_27 (a b : Int) (w : World) (ha : In32 a) (hb : In32 b) : Calls Try.prog 20 #[.int .i64 27, .int .i32 a, .int .i32 b] w fun e w' => e = .returned (.bool (goesV 27 a b)) ∧ w = w' := by
  unfold In32 at ha hb
  go_enter Try.func20, Try.ntmps20
  go_wp2_with fail
  go_ret
  exact ⟨rfl, rfl⟩
theorem goes_28 (a b : Int) (w : World) (ha : In32 a) (hb : In32 b) : Calls Try.prog 20 #[.int .i64 28, .int .i32 a, .int .i32 b] w fun e w' => e = .returned (.bool (goesV 28 a b)) ∧ w = w' := by
  unfold In32 at ha hb
  go_enter Try.func20, Try.ntmps20
  go_wp2_with fail
  go_ret
  exact ⟨rfl, rfl⟩
theorem goes_29 (a b : Int) (w : World) (ha : In32 a) (hb : In32 b) : Calls Try.prog 20 #[.int .i64 29, .int .i32 a, .int .i32 b] w fun e w' => e = .returned (.bool (goesV 29 a b)) ∧ w = w' := by
  unfold In32 at ha hb
  go_enter Try.func20, Try.ntmps20
  go_wp2_with fail
  go_ret
  exact ⟨rfl, rfl⟩
theorem goes_30 (a b : Int) (w : World) (ha : In32 a) (hb : In32 b) : Calls Try.prog 20 #[.int .i64 30, .int .i32 a, .int .i32 b] w fun e w' => e = .returned (.bool (goesV 30 a b)) ∧ w = w' := by
  unfold In32 at ha hb
  go_enter Try.func20, Try.ntmps20
  go_wp2_with fail
  go_ret
  exact ⟨rfl, rfl⟩
theorem goes_31 (a b : Int) (w : World) (ha : In32 a) (hb : In32 b) : Calls Try.prog 20 #[.int .i64 31, .int .i32 a, .int .i32 b] w fun e w' => e = .returned (.bool (goesV 31 a b)) ∧ w = w' := by
  unfold In32 at ha hb
  go_enter Try.func20, Try.ntmps20
  go_wp2_with fail
  go_ret
  exact ⟨rfl, rfl⟩
theorem goes_32 (a b : Int) (w : World) (ha : In32 a) (hb : In32 b) : Calls Try.prog 20 #[.int .i64 32, .int .i32 a, .int .i32 b] w fun e w' => e = .returned (.bool (goesV 32 a b)) ∧ w = w' := by
  unfold In32 at ha hb
  go_enter Try.func20, Try.ntmps20
  go_wp2_with fail
  go_ret
  exact ⟨rfl, rfl⟩
theorem goes_no (op a b : Int) (w : World) (ha : In32 a) (hb : In32 b) (h : ∀ k : Int, 21 ≤ k → k ≤ 32 → op ≠ k) : Calls Try.prog 20 #[.int .i64 op, .int .i32 a, .int .i32 b] w fun e w' => e = .returned (.bool (goesV op a b)) ∧ w = w' := by
  unfold In32 at ha hb
  have e27 : (op == 27) = false := by simpa using h 27 (by omega) (by omega)
  have e28 : (op == 28) = false := by simpa using h 28 (by omega) (by omega)
  have e29 : (op == 29) = false := by simpa using h 29 (by omega) (by omega)
  have e30 : (op == 30) = false := by simpa using h 30 (by omega) (by omega)
  have e31 : (op == 31) = false := by simpa using h 31 (by omega) (by omega)
  have e32 : (op == 32) = false := by simpa using h 32 (by omega) (by omega)
  have hv : goesV op a b = false := by
    unfold goesV goesO
    rw [if_neg (fun hh => h op hh.1 (by omega) rfl)]
    exact cmpV_no ⟨h 27 (by omega) (by omega), h 28 (by omega) (by omega), h 29 (by omega) (by omega), h 30 (by omega) (by omega), h 31 (by omega) (by omega), h 32 (by omega) (by omega)⟩
  have HV := hide hv
  clear hv
  by_cases h1 : 21 ≤ op
  · have h2 : ¬ op ≤ 26 := fun hh => h op h1 (by omega) rfl
    clear h
    go_enter Try.func20, Try.ntmps20
    go_wp2_with fail
    go_ret
    exact ⟨by rw [HV.out]; rfl, rfl⟩
  · clear h
    go_enter Try.func20, Try.ntmps20
    go_wp2_with fail
    go_ret
    exact ⟨by rw [HV.out]; rfl, rfl⟩
theorem goes_any (op a b : Int) (w : World) (ha : In32 a) (hb : In32 b) : Calls Try.prog 20 #[.int .i64 op, .int .i32 a, .int .i32 b] w fun e w' => e = .returned (.bool (goesV op a b)) ∧ w = w' := by
  by_cases h21 : op = 21
  · subst h21; exact goes_21 a b w ha hb
  by_cases h22 : op = 22
  · subst h22; exact goes_22 a b w ha hb
  by_cases h23 : op = 23
  · subst h23; exact goes_23 a b w ha hb
  by_cases h24 : op = 24
  · subst h24; exact goes_24 a b w ha hb
  by_cases h25 : op = 25
  · subst h25; exact goes_25 a b w ha hb
  by_cases h26 : op = 26
  · subst h26; exact goes_26 a b w ha hb
  by_cases h27 : op = 27
  · subst h27; exact goes_27 a b w ha hb
  by_cases h28 : op = 28
  · subst h28; exact goes_28 a b w ha hb
  by_cases h29 : op = 29
  · subst h29; exact goes_29 a b w ha hb
  by_cases h30 : op = 30
  · subst h30; exact goes_30 a b w ha hb
  by_cases h31 : op = 31
  · subst h31; exact goes_31 a b w ha hb
  by_cases h32 : op = 32
  · subst h32; exact goes_32 a b w ha hb
  exact goes_no op a b w ha hb (fun k h1 h2 => by omega)
theorem rgoes_21 (a b : Int) (w : World) (ha : In32 a) (hb : In32 b) : Calls Try.prog 21 #[.int .i64 21, .int .i32 a, .int .i32 b] w fun e w' => e = .returned (.bool (goesV 21 a b)) ∧ w = w' := by
  unfold In32 at ha hb
  go_enter Try.func21, Try.ntmps21
  go_wp2_with fail
  go_ret
  exact ⟨rfl, rfl⟩
theorem rgoes_22 (a b : Int) (w : World) (ha : In32 a) (hb : In32 b) : Calls Try.prog 21 #[.int .i64 22, .int .i32 a, .int .i32 b] w fun e w' => e = .returned (.bool (goesV 22 a b)) ∧ w = w' := by
  unfold In32 at ha hb
  go_enter Try.func21, Try.ntmps21
  go_wp2_with fail
  go_ret
  exact ⟨rfl, rfl⟩
theorem rgoes_23 (a b : Int) (w : World) (ha : In32 a) (hb : In32 b) : Calls Try.prog 21 #[.int .i64 23, .int .i32 a, .int .i32 b] w fun e w' => e = .returned (.bool (goesV 23 a b)) ∧ w = w' := by
  unfold In32 at ha hb
  go_enter Try.func21, Try.ntmps21
  go_wp2_with fail
  go_ret
  exact ⟨rfl, rfl⟩
theorem rgoes_24 (a b : Int) (w : World) (ha : In32 a) (hb : In32 b) : Calls Try.prog 21 #[.int .i64 24, .int .i32 a, .int .i32 b] w fun e w' => e = .returned (.bool (goesV 24 a b)) ∧ w = w' := by
  unfold In32 at ha hb
  go_enter Try.func21, Try.ntmps21
  go_wp2_with fail
  go_ret
  exact ⟨rfl, rfl⟩
theorem rgoes_25 (a b : Int) (w : World) (ha : In32 a) (hb : In32 b) : Calls Try.prog 21 #[.int .i64 25, .int .i32 a, .int .i32 b] w fun e w' => e = .returned (.bool (goesV 25 a b)) ∧ w = w' := by
  unfold In32 at ha hb
  go_enter Try.func21, Try.ntmps21
  go_wp2_with fail
  go_ret
  exact ⟨rfl, rfl⟩
theorem rgoes_26 (a b : Int) (w : World) (ha : In32 a) (hb : In32 b) : Calls Try.prog 21 #[.int .i64 26, .int .i32 a, .int .i32 b] w fun e w' => e = .returned (.bool (goesV 26 a b)) ∧ w = w' := by
  unfold In32 at ha hb
  go_enter Try.func21, Try.ntmps21
  go_wp2_with fail
  go_ret
  exact ⟨rfl, rfl⟩
theorem rgoes_27 (a b : Int) (w : World) (ha : In32 a) (hb : In32 b) : Calls Try.prog 21 #[.int .i64 27, .int .i32 a, .int .i32 b] w fun e w' => e = .returned (.bool (goesV 27 a b)) ∧ w = w' := by
  unfold In32 at ha hb
  go_enter Try.func21, Try.ntmps21
  go_wp2_with fail
  go_ret
  exact ⟨ret_bool (d_eq a b), rfl⟩
theorem rgoes_28 (a b : Int) (w : World) (ha : In32 a) (hb : In32 b) : Calls Try.prog 21 #[.int .i64 28, .int .i32 a, .int .i32 b] w fun e w' => e = .returned (.bool (goesV 28 a b)) ∧ w = w' := by
  unfold In32 at ha hb
  go_enter Try.func21, Try.ntmps21
  go_wp2_with fail
  go_ret
  exact ⟨ret_bool (d_ne a b), rfl⟩
theorem rgoes_29 (a b : Int) (w : World) (ha : In32 a) (hb : In32 b) : Calls Try.prog 21 #[.int .i64 29, .int .i32 a, .int .i32 b] w fun e w' => e = .returned (.bool (goesV 29 a b)) ∧ w = w' := by
  unfold In32 at ha hb
  go_enter Try.func21, Try.ntmps21
  go_wp2_with fail
  go_ret
  exact ⟨ret_bool (d_lt a b), rfl⟩
theorem rgoes_30 (a b : Int) (w : World) (ha : In32 a) (hb : In32 b) : Calls Try.prog 21 #[.int .i64 30, .int .i32 a, .int .i32 b] w fun e w' => e = .returned (.bool (goesV 30 a b)) ∧ w = w' := by
  unfold In32 at ha hb
  go_enter Try.func21, Try.ntmps21
  go_wp2_with fail
  go_ret
  exact ⟨rfl, rfl⟩
theorem rgoes_31 (a b : Int) (w : World) (ha : In32 a) (hb : In32 b) : Calls Try.prog 21 #[.int .i64 31, .int .i32 a, .int .i32 b] w fun e w' => e = .returned (.bool (goesV 31 a b)) ∧ w = w' := by
  unfold In32 at ha hb
  go_enter Try.func21, Try.ntmps21
  go_wp2_with fail
  go_ret
  exact ⟨rfl, rfl⟩
theorem rgoes_32 (a b : Int) (w : World) (ha : In32 a) (hb : In32 b) : Calls Try.prog 21 #[.int .i64 32, .int .i32 a, .int .i32 b] w fun e w' => e = .returned (.bool (goesV 32 a b)) ∧ w = w' := by
  unfold In32 at ha hb
  go_enter Try.func21, Try.ntmps21
  go_wp2_with fail
  go_ret
  exact ⟨ret_bool (d_le a b), rfl⟩
theorem rgoes_no (op a b : Int) (w : World) (ha : In32 a) (hb : In32 b) (h : ∀ k : Int, 21 ≤ k → k ≤ 32 → op ≠ k) : Calls Try.prog 21 #[.int .i64 op, .int .i32 a, .int .i32 b] w fun e w' => e = .returned (.bool (goesV op a b)) ∧ w = w' := by
  unfold In32 at ha hb
  have e27 : (op == 27) = false := by simpa using h 27 (by omega) (by omega)
  have e28 : (op == 28) = false := by simpa using h 28 (by omega) (by omega)
  have e29 : (op == 29) = false := by simpa using h 29 (by omega) (by omega)
  have e30 : (op == 30) = false := by simpa using h 30 (by omega) (by omega)
  have e31 : (op == 31) = false := by simpa using h 31 (by omega) (by omega)
  have e32 : (op == 32) = false := by simpa using h 32 (by omega) (by omega)
  have hv : goesV op a b = false := by
    unfold goesV goesO
    rw [if_neg (fun hh => h op hh.1 (by omega) rfl)]
    exact cmpV_no ⟨h 27 (by omega) (by omega), h 28 (by omega) (by omega), h 29 (by omega) (by omega), h 30 (by omega) (by omega), h 31 (by omega) (by omega), h 32 (by omega) (by omega)⟩
  have HV := hide hv
  clear hv
  by_cases h1 : 21 ≤ op
  · have h2 : ¬ op ≤ 26 := fun hh => h op h1 (by omega) rfl
    clear h
    go_enter Try.func21, Try.ntmps21
    go_wp2_with fail
    go_ret
    exact ⟨by rw [HV.out]; rfl, rfl⟩
  · clear h
    go_enter Try.func21, Try.ntmps21
    go_wp2_with fail
    go_ret
    exact ⟨by rw [HV.out]; rfl, rfl⟩
theorem rgoes_any (op a b : Int) (w : World) (ha : In32 a) (hb : In32 b) : Calls Try.prog 21 #[.int .i64 op, .int .i32 a, .int .i32 b] w fun e w' => e = .returned (.bool (goesV op a b)) ∧ w = w' := by
  by_cases h21 : op = 21
  · subst h21; exact rgoes_21 a b w ha hb
  by_cases h22 : op = 22
  · subst h22; exact rgoes_22 a b w ha hb
  by_cases h23 : op = 23
  · subst h23; exact rgoes_23 a b w ha hb
  by_cases h24 : op = 24
  · subst h24; exact rgoes_24 a b w ha hb
  by_cases h25 : op = 25
  · subst h25; exact rgoes_25 a b w ha hb
  by_cases h26 : op = 26
  · subst h26; exact rgoes_26 a b w ha hb
  by_cases h27 : op = 27
  · subst h27; exact rgoes_27 a b w ha hb
  by_cases h28 : op = 28
  · subst h28; exact rgoes_28 a b w ha hb
  by_cases h29 : op = 29
  · subst h29; exact rgoes_29 a b w ha hb
  by_cases h30 : op = 30
  · subst h30; exact rgoes_30 a b w ha hb
  by_cases h31 : op = 31
  · subst h31; exact rgoes_31 a b w ha hb
  by_cases h32 : op = 32
  · subst h32; exact rgoes_32 a b w ha hb
  exact rgoes_no op a b w ha hb (fun k h1 h2 => by omega)

theorem b12_0 (w : World) : Calls Try.prog 16 #[.int .i64 8, .int .i32 2147483647, .int .i32 1] w fun e w' => e = .returned (.tuple #[.int .i32 (-2147483648), .bool true]) ∧ w = w' := by
  have h := two_any 8 2147483647 1 w (by unfold In32; omega) (by unfold In32; omega)
  rw [show twoV 8 2147483647 1 = (-2147483648, true) from by decide +kernel] at h
  exact h
theorem b12_1 (w : World) : Calls Try.prog 16 #[.int .i64 11, .int .i32 1, .int .i32 0] w fun e w' => e = .returned (.tuple #[.int .i32 0, .bool false]) ∧ w = w' :=
  two_any 11 1 0 w (by unfold In32; omega) (by unfold In32; omega)
theorem b12_2 (w : World) : Calls Try.prog 16 #[.int .i64 11, .int .i32 (-2147483648), .int .i32 (-1)] w fun e w' => e = .returned (.tuple #[.int .i32 (-2147483648), .bool true]) ∧ w = w' := by
  have h := two_any 11 (-2147483648) (-1) w (by unfold In32; omega) (by unfold In32; omega)
  rw [show twoV 11 (-2147483648) (-1) = (-2147483648, true) from by decide +kernel] at h
  exact h
theorem b12_3 (w : World) : Calls Try.prog 19 #[.int .i64 13, .int .i32 5] w fun e w' => e = .returned (.int .i32 (-5)) ∧ w = w' := by
  have h := one_any 13 5 w (by unfold In32; omega)
  rw [show oneV 13 5 = -5 from by decide +kernel] at h
  exact h
theorem b12_4 (w : World) : Calls Try.prog 20 #[.int .i64 23, .int .i32 (-1), .int .i32 9] w fun e w' => e = .returned (.bool true) ∧ w = w' :=
  goes_any 23 (-1) 9 w (by unfold In32; omega) (by unfold In32; omega)
theorem b12_5 (w : World) : Calls Try.prog 20 #[.int .i64 29, .int .i32 9, .int .i32 9] w fun e w' => e = .returned (.bool false) ∧ w = w' :=
  goes_any 29 9 9 w (by unfold In32; omega) (by unfold In32; omega)
theorem begun12_any (w : World) : Calls Try.prog 15 #[] w fun e w' => e = .returned (.bool true) ∧ w = w' := by
  have B0 := hide (b12_0 w)
  have B1 := hide (b12_1 w)
  have B2 := hide (b12_2 w)
  have B3 := hide (b12_3 w)
  have B4 := hide (b12_4 w)
  have B5 := hide (b12_5 w)
  go_enter Try.func15, Try.ntmps15
  go_wp2_with fail
  refine B0.out.mono ?_
  rintro e w' ⟨rfl, rfl⟩
  go_wp2_with fail
  refine B1.out.mono ?_
  rintro e w' ⟨rfl, rfl⟩
  go_wp2_with fail
  refine B2.out.mono ?_
  rintro e w' ⟨rfl, rfl⟩
  go_wp2_with (first
    | (go_at_call 19; refine B3.out.mono ?_; rintro e w' ⟨rfl, rfl⟩)
    | (go_at_call_of 20 (Value.int .i64 23); refine B4.out.mono ?_; rintro e w' ⟨rfl, rfl⟩)
    | (go_at_call_of 20 (Value.int .i64 29); refine B5.out.mono ?_; rintro e w' ⟨rfl, rfl⟩))
  go_ret
  exact ⟨rfl, rfl⟩
end Go.Proofs.Ytppolhpigclbpaa
