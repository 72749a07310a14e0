/- The walks of ints.Two, One, Goes, of the reference's Two, Wrap, Goes: they give the plain law's answers and leave the world alone. Conditions: the two numbers are of 32 bits. -/
import Derived.Test.YtppolhpigclbpaaRows
import Derived.Test.YtppolhpigclbpaaIntsLaw
namespace Go.Proofs.Ytppolhpigclbpaa
open Go.RowKit
set_option linter.unusedVariables false

theorem ret_two {k : IntKind} {a b : Int} {x y : Bool} (h : a = b) (h' : x = y) : Ending.returned (.tuple #[.int k a, .bool x]) = .returned (.tuple #[.int k b, .bool y]) := by rw [h, h']
theorem ret_int {k : IntKind} {a b : Int} (h : a = b) : Ending.returned (.int k a) = .returned (.int k b) := by rw [h]
theorem ret_bool {a b : Bool} (h : a = b) : Ending.returned (.bool a) = .returned (.bool b) := by rw [h]
theorem wrap_any (n : Int) (w : World) : Calls Try.prog 18 #[.int .i64 n] w fun e w' => e = .returned (.int .i32 (wrap32 n)) ∧ w = w' := by
  go_enter Try.func18, Try.ntmps18
  go_wp2
  go_ret
  refine ⟨ret_int ?_, rfl⟩
  show wrap32 (IntKind.u64.wrap n % 4294967296) = wrap32 n
  rw [IntKind.wrap_u64, wrap32_mod, wrap32_mod]
  omega
theorem two_8 (a b : Int) (w : World) (ha : In32 a) (hb : In32 b) : Calls Try.prog 16 #[.int .i64 8, .int .i32 a, .int .i32 b] w fun e w' => e = .returned (.tuple #[.int .i32 (twoV 8 a b).1, .bool (twoV 8 a b).2]) ∧ w = w' := by
  unfold In32 at ha hb
  go_enter Try.func16, Try.ntmps16
  go_wp2_with fail
  go_ret2
  exact ⟨rfl, rfl⟩
theorem two_9 (a b : Int) (w : World) (ha : In32 a) (hb : In32 b) : Calls Try.prog 16 #[.int .i64 9, .int .i32 a, .int .i32 b] w fun e w' => e = .returned (.tuple #[.int .i32 (twoV 9 a b).1, .bool (twoV 9 a b).2]) ∧ w = w' := by
  unfold In32 at ha hb
  go_enter Try.func16, Try.ntmps16
  go_wp2_with fail
  go_ret2
  exact ⟨rfl, rfl⟩
theorem two_10 (a b : Int) (w : World) (ha : In32 a) (hb : In32 b) : Calls Try.prog 16 #[.int .i64 10, .int .i32 a, .int .i32 b] w fun e w' => e = .returned (.tuple #[.int .i32 (twoV 10 a b).1, .bool (twoV 10 a b).2]) ∧ w = w' := by
  unfold In32 at ha hb
  go_enter Try.func16, Try.ntmps16
  go_wp2_with fail
  go_ret2
  exact ⟨rfl, rfl⟩
theorem two_14 (a b : Int) (w : World) (ha : In32 a) (hb : In32 b) : Calls Try.prog 16 #[.int .i64 14, .int .i32 a, .int .i32 b] w fun e w' => e = .returned (.tuple #[.int .i32 (twoV 14 a b).1, .bool (twoV 14 a b).2]) ∧ w = w' := by
  unfold In32 at ha hb
  go_enter Try.func16, Try.ntmps16
  go_wp2_with fail
  go_ret2
  exact ⟨rfl, rfl⟩
theorem two_15 (a b : Int) (w : World) (ha : In32 a) (hb : In32 b) : Calls Try.prog 16 #[.int .i64 15, .int .i32 a, .int .i32 b] w fun e w' => e = .returned (.tuple #[.int .i32 (twoV 15 a b).1, .bool (twoV 15 a b).2]) ∧ w = w' := by
  unfold In32 at ha hb
  go_enter Try.func16, Try.ntmps16
  go_wp2_with fail
  go_ret2
  exact ⟨rfl, rfl⟩
theorem two_16 (a b : Int) (w : World) (ha : In32 a) (hb : In32 b) : Calls Try.prog 16 #[.int .i64 16, .int .i32 a, .int .i32 b] w fun e w' => e = .returned (.tuple #[.int .i32 (twoV 16 a b).1, .bool (twoV 16 a b).2]) ∧ w = w' := by
  unfold In32 at ha hb
  go_enter Try.func16, Try.ntmps16
  go_wp2_with fail
  go_ret2
  exact ⟨rfl, rfl⟩
theorem two_17 (a b : Int) (w : World) (ha : In32 a) (hb : In32 b) : Calls Try.prog 16 #[.int .i64 17, .int .i32 a, .int .i32 b] w fun e w' => e = .returned (.tuple #[.int .i32 (twoV 17 a b).1, .bool (twoV 17 a b).2]) ∧ w = w' := by
  unfold In32 at ha hb
  have k1 := sh_32 b
  have hS := sh_lt b
  go_enter Try.func16, Try.ntmps16
  go_wp2_with fail
  go_ret2
  exact ⟨rfl, rfl⟩
theorem two_18 (a b : Int) (w : World) (ha : In32 a) (hb : In32 b) : Calls Try.prog 16 #[.int .i64 18, .int .i32 a, .int .i32 b] w fun e w' => e = .returned (.tuple #[.int .i32 (twoV 18 a b).1, .bool (twoV 18 a b).2]) ∧ w = w' := by
  unfold In32 at ha hb
  have k1 := sh_32 b
  have hS := sh_lt b
  go_enter Try.func16, Try.ntmps16
  go_wp2_with fail
  go_ret2
  exact ⟨rfl, rfl⟩
theorem two_19 (a b : Int) (w : World) (ha : In32 a) (hb : In32 b) : Calls Try.prog 16 #[.int .i64 19, .int .i32 a, .int .i32 b] w fun e w' => e = .returned (.tuple #[.int .i32 (twoV 19 a b).1, .bool (twoV 19 a b).2]) ∧ w = w' := by
  unfold In32 at ha hb
  have k1 := sh_32 b
  have hS := sh_lt b
  go_enter Try.func16, Try.ntmps16
  go_wp2_with fail
  go_ret2
  exact ⟨rfl, rfl⟩

theorem divided_no (op a : Int) (w : World) : Calls Try.prog 46 #[.int .i64 op, .int .i32 a, .int .i32 0] w fun e w' => e = .returned (.tuple #[.int .i32 0, .bool false]) ∧ w = w' := by
  go_enter Try.func46, Try.ntmps46
  go_wp2_with fail
  go_ret2
  exact ⟨rfl, rfl⟩
theorem divided_11 (a b : Int) (w : World) (ha : In32 a) (hb : In32 b) (hb0 : b ≠ 0) : Calls Try.prog 46 #[.int .i64 11, .int .i32 a, .int .i32 b] w fun e w' => e = .returned (.tuple #[.int .i32 (wrap32 (a.tdiv b)), .bool true]) ∧ w = w' := by
  unfold In32 at ha hb
  by_cases h1 : b = -1
  · subst h1
    go_enter Try.func46, Try.ntmps46
    go_wp2_with fail
    go_ret2
    exact ⟨ret_two (by rw [neg_div]) rfl, rfl⟩
  · go_enter Try.func46, Try.ntmps46
    go_wp2_with fail
    go_ret2
    exact ⟨rfl, rfl⟩
theorem divided_12 (a b : Int) (w : World) (ha : In32 a) (hb : In32 b) (hb0 : b ≠ 0) : Calls Try.prog 46 #[.int .i64 12, .int .i32 a, .int .i32 b] w fun e w' => e = .returned (.tuple #[.int .i32 (a.tmod b), .bool true]) ∧ w = w' := by
  unfold In32 at ha hb
  by_cases h1 : b = -1
  · subst h1
    go_enter Try.func46, Try.ntmps46
    go_wp2_with fail
    go_ret2
    exact ⟨ret_two (by rw [neg_mod]) rfl, rfl⟩
  · go_enter Try.func46, Try.ntmps46
    go_wp2_with fail
    go_ret2
    exact ⟨rfl, rfl⟩
theorem two_11 (a b : Int) (w : World) (ha : In32 a) (hb : In32 b) : Calls Try.prog 16 #[.int .i64 11, .int .i32 a, .int .i32 b] w fun e w' => e = .returned (.tuple #[.int .i32 (twoV 11 a b).1, .bool (twoV 11 a b).2]) ∧ w = w' := by
  by_cases h0 : b = 0
  · subst h0
    have C := hide (divided_no 11 a w)
    go_enter Try.func16, Try.ntmps16
    go_wp2_with (go_at_call 46; refine C.out.mono ?_; rintro e w' ⟨rfl, rfl⟩)
    go_ret2
    exact ⟨rfl, rfl⟩
  · have C := hide (divided_11 a b w ha hb h0)
    have hv : twoV 11 a b = (wrap32 (a.tdiv b), true) := by simp [twoV, h0]
    have HV := hide hv
    clear hv
    go_enter Try.func16, Try.ntmps16
    go_wp2_with (go_at_call 46; refine C.out.mono ?_; rintro e w' ⟨rfl, rfl⟩)
    go_ret2
    exact ⟨by rw [HV.out]; rfl, rfl⟩
theorem two_12 (a b : Int) (w : World) (ha : In32 a) (hb : In32 b) : Calls Try.prog 16 #[.int .i64 12, .int .i32 a, .int .i32 b] w fun e w' => e = .returned (.tuple #[.int .i32 (twoV 12 a b).1, .bool (twoV 12 a b).2]) ∧ w = w' := by
  by_cases h0 : b = 0
  · subst h0
    have C := hide (divided_no 12 a w)
    go_enter Try.func16, Try.ntmps16
    go_wp2_with (go_at_call 46; refine C.out.mono ?_; rintro e w' ⟨rfl, rfl⟩)
    go_ret2
    exact ⟨rfl, rfl⟩
  · have C := hide (divided_12 a b w ha hb h0)
    have hv : twoV 12 a b = (a.tmod b, true) := by simp [twoV, h0]
    have HV := hide hv
    clear hv
    go_enter Try.func16, Try.ntmps16
    go_wp2_with (go_at_call 46; refine C.out.mono ?_; rintro e w' ⟨rfl, rfl⟩)
    go_ret2
    exact ⟨by rw [HV.out]; rfl, rfl⟩
theorem two_no (op a b : Int) (w : World) (h : op ≠ 8 ∧ op ≠ 9 ∧ op ≠ 10 ∧ op ≠ 11 ∧ op ≠ 12 ∧ op ≠ 14 ∧ op ≠ 15 ∧ op ≠ 16 ∧ op ≠ 17 ∧ op ≠ 18 ∧ op ≠ 19) : Calls Try.prog 16 #[.int .i64 op, .int .i32 a, .int .i32 b] w fun e w' => e = .returned (.tuple #[.int .i32 (twoV op a b).1, .bool (twoV op a b).2]) ∧ w = w' := by
  have hv := hide (twoV_no (a := a) (b := b) h)
  obtain ⟨h8, h9, h10, h11, h12, h14, h15, h16, h17, h18, h19⟩ := h
  have e8 : (op == 8) = false := by simpa using h8
  have e9 : (op == 9) = false := by simpa using h9
  have e10 : (op == 10) = false := by simpa using h10
  have e11 : (op == 11) = false := by simpa using h11
  have e12 : (op == 12) = false := by simpa using h12
  have e14 : (op == 14) = false := by simpa using h14
  have e15 : (op == 15) = false := by simpa using h15
  have e16 : (op == 16) = false := by simpa using h16
  have e17 : (op == 17) = false := by simpa using h17
  have e18 : (op == 18) = false := by simpa using h18
  have e19 : (op == 19) = false := by simpa using h19
  clear h8 h9 h10 h11 h12 h14 h15 h16 h17 h18 h19
  go_enter Try.func16, Try.ntmps16
  go_wp2_with fail
  go_ret2
  exact ⟨by rw [hv.out]; rfl, rfl⟩
theorem two_any (op a b : Int) (w : World) (ha : In32 a) (hb : In32 b) : Calls Try.prog 16 #[.int .i64 op, .int .i32 a, .int .i32 b] w fun e w' => e = .returned (.tuple #[.int .i32 (twoV op a b).1, .bool (twoV op a b).2]) ∧ w = w' := by
  by_cases h8 : op = 8
  · subst h8; exact two_8 a b w ha hb
  by_cases h9 : op = 9
  · subst h9; exact two_9 a b w ha hb
  by_cases h10 : op = 10
  · subst h10; exact two_10 a b w ha hb
  by_cases h11 : op = 11
  · subst h11; exact two_11 a b w ha hb
  by_cases h12 : op = 12
  · subst h12; exact two_12 a b w ha hb
  by_cases h14 : op = 14
  · subst h14; exact two_14 a b w ha hb
  by_cases h15 : op = 15
  · subst h15; exact two_15 a b w ha hb
  by_cases h16 : op = 16
  · subst h16; exact two_16 a b w ha hb
  by_cases h17 : op = 17
  · subst h17; exact two_17 a b w ha hb
  by_cases h18 : op = 18
  · subst h18; exact two_18 a b w ha hb
  by_cases h19 : op = 19
  · subst h19; exact two_19 a b w ha hb
  exact two_no op a b w ⟨h8, h9, h10, h11, h12, h14, h15, h16, h17, h18, h19⟩

/-! The reference's. -/
theorem rtwo_8 (a b : Int) (w : World) (ha : In32 a) (hb : In32 b) : Calls Try.prog 17 #[.int .i64 8, .int .i32 a, .int .i32 b] w fun e w' => e = .returned (.tuple #[.int .i32 (twoV 8 a b).1, .bool (twoV 8 a b).2]) ∧ w = w' := by
  have HA := hide ha
  unfold In32 at ha hb
  have k1 := sh_64 b
  have hS := sh_lt b
  go_enter Try.func17, Try.ntmps17
  go_wp2_with (go_at_call 18; refine (wrap_any _ _).mono ?_; rintro e w' ⟨rfl, rfl⟩)
  go_ret2
  exact ⟨ret_two (rfl) rfl, rfl⟩
theorem rtwo_9 (a b : Int) (w : World) (ha : In32 a) (hb : In32 b) : Calls Try.prog 17 #[.int .i64 9, .int .i32 a, .int .i32 b] w fun e w' => e = .returned (.tuple #[.int .i32 (twoV 9 a b).1, .bool (twoV 9 a b).2]) ∧ w = w' := by
  have HA := hide ha
  unfold In32 at ha hb
  have k1 := sh_64 b
  have hS := sh_lt b
  go_enter Try.func17, Try.ntmps17
  go_wp2_with (go_at_call 18; refine (wrap_any _ _).mono ?_; rintro e w' ⟨rfl, rfl⟩)
  go_ret2
  exact ⟨ret_two (rfl) rfl, rfl⟩
theorem rtwo_10 (a b : Int) (w : World) (ha : In32 a) (hb : In32 b) : Calls Try.prog 17 #[.int .i64 10, .int .i32 a, .int .i32 b] w fun e w' => e = .returned (.tuple #[.int .i32 (twoV 10 a b).1, .bool (twoV 10 a b).2]) ∧ w = w' := by
  have HA := hide ha
  unfold In32 at ha hb
  have k1 := sh_64 b
  have hS := sh_lt b
  go_enter Try.func17, Try.ntmps17
  go_wp2_with (go_at_call 18; refine (wrap_any _ _).mono ?_; rintro e w' ⟨rfl, rfl⟩)
  go_ret2
  exact ⟨ret_two (by rw [wrap32_wrap64]; rfl) rfl, rfl⟩
theorem rtwo_14 (a b : Int) (w : World) (ha : In32 a) (hb : In32 b) : Calls Try.prog 17 #[.int .i64 14, .int .i32 a, .int .i32 b] w fun e w' => e = .returned (.tuple #[.int .i32 (twoV 14 a b).1, .bool (twoV 14 a b).2]) ∧ w = w' := by
  have HA := hide ha
  unfold In32 at ha hb
  have k1 := sh_64 b
  have hS := sh_lt b
  go_enter Try.func17, Try.ntmps17
  go_wp2_with (go_at_call 18; refine (wrap_any _ _).mono ?_; rintro e w' ⟨rfl, rfl⟩)
  go_ret2
  exact ⟨ret_two (by rw [low_and]; rfl) rfl, rfl⟩
theorem rtwo_15 (a b : Int) (w : World) (ha : In32 a) (hb : In32 b) : Calls Try.prog 17 #[.int .i64 15, .int .i32 a, .int .i32 b] w fun e w' => e = .returned (.tuple #[.int .i32 (twoV 15 a b).1, .bool (twoV 15 a b).2]) ∧ w = w' := by
  have HA := hide ha
  unfold In32 at ha hb
  have k1 := sh_64 b
  have hS := sh_lt b
  go_enter Try.func17, Try.ntmps17
  go_wp2_with (go_at_call 18; refine (wrap_any _ _).mono ?_; rintro e w' ⟨rfl, rfl⟩)
  go_ret2
  exact ⟨ret_two (by rw [low_or]; rfl) rfl, rfl⟩
theorem rtwo_16 (a b : Int) (w : World) (ha : In32 a) (hb : In32 b) : Calls Try.prog 17 #[.int .i64 16, .int .i32 a, .int .i32 b] w fun e w' => e = .returned (.tuple #[.int .i32 (twoV 16 a b).1, .bool (twoV 16 a b).2]) ∧ w = w' := by
  have HA := hide ha
  unfold In32 at ha hb
  have k1 := sh_64 b
  have hS := sh_lt b
  go_enter Try.func17, Try.ntmps17
  go_wp2_with (go_at_call 18; refine (wrap_any _ _).mono ?_; rintro e w' ⟨rfl, rfl⟩)
  go_ret2
  exact ⟨ret_two (by rw [low_xor]; rfl) rfl, rfl⟩
theorem rtwo_17 (a b : Int) (w : World) (ha : In32 a) (hb : In32 b) : Calls Try.prog 17 #[.int .i64 17, .int .i32 a, .int .i32 b] w fun e w' => e = .returned (.tuple #[.int .i32 (twoV 17 a b).1, .bool (twoV 17 a b).2]) ∧ w = w' := by
  have HA := hide ha
  unfold In32 at ha hb
  have k1 := sh_64 b
  have hS := sh_lt b
  go_enter Try.func17, Try.ntmps17
  go_wp2_with (go_at_call 18; refine (wrap_any _ _).mono ?_; rintro e w' ⟨rfl, rfl⟩)
  go_ret2
  exact ⟨ret_two (by rw [wrap32_wrap64]; rfl) rfl, rfl⟩
theorem rtwo_18 (a b : Int) (w : World) (ha : In32 a) (hb : In32 b) : Calls Try.prog 17 #[.int .i64 18, .int .i32 a, .int .i32 b] w fun e w' => e = .returned (.tuple #[.int .i32 (twoV 18 a b).1, .bool (twoV 18 a b).2]) ∧ w = w' := by
  have HA := hide ha
  unfold In32 at ha hb
  have k1 := sh_64 b
  have hS := sh_lt b
  go_enter Try.func17, Try.ntmps17
  go_wp2_with (go_at_call 18; refine (wrap_any _ _).mono ?_; rintro e w' ⟨rfl, rfl⟩)
  go_ret2
  exact ⟨ret_two (by rw [wrap32_of (shr_in HA.out _)]; rfl) rfl, rfl⟩
theorem rtwo_19 (a b : Int) (w : World) (ha : In32 a) (hb : In32 b) : Calls Try.prog 17 #[.int .i64 19, .int .i32 a, .int .i32 b] w fun e w' => e = .returned (.tuple #[.int .i32 (twoV 19 a b).1, .bool (twoV 19 a b).2]) ∧ w = w' := by
  have HA := hide ha
  unfold In32 at ha hb
  have k1 := sh_64 b
  have hS := sh_lt b
  go_enter Try.func17, Try.ntmps17
  go_wp2_with (go_at_call 18; refine (wrap_any _ _).mono ?_; rintro e w' ⟨rfl, rfl⟩)
  go_ret2
  exact ⟨ret_two (by rw [mask32_64]; rfl) rfl, rfl⟩
theorem rtwo_11 (a b : Int) (w : World) (ha : In32 a) (hb : In32 b) : Calls Try.prog 17 #[.int .i64 11, .int .i32 a, .int .i32 b] w fun e w' => e = .returned (.tuple #[.int .i32 (twoV 11 a b).1, .bool (twoV 11 a b).2]) ∧ w = w' := by
  have HA := hide ha
  have HB := hide hb
  unfold In32 at ha hb
  have k1 := sh_64 b
  have hS := sh_lt b
  by_cases h0 : b = 0
  · have hv : twoV 11 a b = (0, false) := by simp [twoV, h0]
    have HV := hide hv
    clear hv
    go_enter Try.func17, Try.ntmps17
    go_wp2_with (go_at_call 18; refine (wrap_any _ _).mono ?_; rintro e w' ⟨rfl, rfl⟩)
    go_ret2
    exact ⟨by rw [HV.out]; rfl, rfl⟩
  · have hv : twoV 11 a b = (wrap32 (a.tdiv b), true) := by simp [twoV, h0]
    have HV := hide hv
    clear hv
    go_enter Try.func17, Try.ntmps17
    go_wp2_with (go_at_call 18; refine (wrap_any _ _).mono ?_; rintro e w' ⟨rfl, rfl⟩)
    go_ret2
    refine ⟨?_, rfl⟩
    rw [HV.out]
    exact ret_two (wrap32_wrap64 _) rfl
theorem rtwo_12 (a b : Int) (w : World) (ha : In32 a) (hb : In32 b) : Calls Try.prog 17 #[.int .i64 12, .int .i32 a, .int .i32 b] w fun e w' => e = .returned (.tuple #[.int .i32 (twoV 12 a b).1, .bool (twoV 12 a b).2]) ∧ w = w' := by
  have HA := hide ha
  have HB := hide hb
  unfold In32 at ha hb
  have k1 := sh_64 b
  have hS := sh_lt b
  by_cases h0 : b = 0
  · have hv : twoV 12 a b = (0, false) := by simp [twoV, h0]
    have HV := hide hv
    clear hv
    go_enter Try.func17, Try.ntmps17
    go_wp2_with (go_at_call 18; refine (wrap_any _ _).mono ?_; rintro e w' ⟨rfl, rfl⟩)
    go_ret2
    exact ⟨by rw [HV.out]; rfl, rfl⟩
  · have hv : twoV 12 a b = (a.tmod b, true) := by simp [twoV, h0]
    have HV := hide hv
    clear hv
    go_enter Try.func17, Try.ntmps17
    go_wp2_with (go_at_call 18; refine (wrap_any _ _).mono ?_; rintro e w' ⟨rfl, rfl⟩)
    go_ret2
    refine ⟨?_, rfl⟩
    rw [HV.out]
    exact ret_two (wrap32_of (tmod_in HB.out h0)) rfl
theorem rtwo_no (op a b : Int) (w : World) (ha : In32 a) (hb : In32 b) (h : op ≠ 8 ∧ op ≠ 9 ∧ op ≠ 10 ∧ op ≠ 11 ∧ op ≠ 12 ∧ op ≠ 14 ∧ op ≠ 15 ∧ op ≠ 16 ∧ op ≠ 17 ∧ op ≠ 18 ∧ op ≠ 19) : Calls Try.prog 17 #[.int .i64 op, .int .i32 a, .int .i32 b] w fun e w' => e = .returned (.tuple #[.int .i32 (twoV op a b).1, .bool (twoV op a b).2]) ∧ w = w' := by
  unfold In32 at ha hb
  have k1 := sh_64 b
  have hS := sh_lt b
  have hv := hide (twoV_no (a := a) (b := b) h)
  obtain ⟨h8, h9, h10, h11, h12, h14, h15, h16, h17, h18, h19⟩ := h
  have e8 : (op == 8) = false := by simpa using h8
  have e9 : (op == 9) = false := by simpa using h9
  have e10 : (op == 10) = false := by simpa using h10
  have e11 : (op == 11) = false := by simpa using h11
  have e12 : (op == 12) = false := by simpa using h12
  have e14 : (op == 14) = false := by simpa using h14
  have e15 : (op == 15) = false := by simpa using h15
  have e16 : (op == 16) = false := by simpa using h16
  have e17 : (op == 17) = false := by simpa using h17
  have e18 : (op == 18) = false := by simpa using h18
  have e19 : (op == 19) = false := by simpa using h19
  clear h8 h9 h10 h11 h12 h14 h15 h16 h17 h18 h19
  go_enter Try.func17, Try.ntmps17
  go_wp2_with fail
  go_ret2
  exact ⟨by rw [hv.out]; rfl, rfl⟩
theorem rtwo_any (op a b : Int) (w : World) (ha : In32 a) (hb : In32 b) : Calls Try.prog 17 #[.int .i64 op, .int .i32 a, .int .i32 b] w fun e w' => e = .returned (.tuple #[.int .i32 (twoV op a b).1, .bool (twoV op a b).2]) ∧ w = w' := by
  by_cases h8 : op = 8
  · subst h8; exact rtwo_8 a b w ha hb
  by_cases h9 : op = 9
  · subst h9; exact rtwo_9 a b w ha hb
  by_cases h10 : op = 10
  · subst h10; exact rtwo_10 a b w ha hb
  by_cases h11 : op = 11
  · subst h11; exact rtwo_11 a b w ha hb
  by_cases h12 : op = 12
  · subst h12; exact rtwo_12 a b w ha hb
  by_cases h14 : op = 14
  · subst h14; exact rtwo_14 a b w ha hb
  by_cases h15 : op = 15
  · subst h15; exact rtwo_15 a b w ha hb
  by_cases h16 : op = 16
  · subst h16; exact rtwo_16 a b w ha hb
  by_cases h17 : op = 17
  · subst h17; exact rtwo_17 a b w ha hb
  by_cases h18 : op = 18
  · subst h18; exact rtwo_18 a b w ha hb
  by_cases h19 : op = 19
  · subst h19; exact rtwo_19 a b w ha hb
  exact rtwo_no op a b w ha hb ⟨h8, h9, h10, h11, h12, h14, h15, h16, h17, h18, h19⟩

def oneV (op a : Int) : Int := if op = 13 then wrap32 (-a) else 0
theorem one_any (op a : Int) (w : World) (ha : In32 a) : Calls Try.prog 19 #[.int .i64 op, .int .i32 a] w fun e w' => e = .returned (.int .i32 (oneV op a)) ∧ w = w' := by
  unfold In32 at ha
  by_cases h : op = 13
  · subst h
    go_enter Try.func19, Try.ntmps19
    go_wp2_with fail
    go_ret
    exact ⟨rfl, rfl⟩
  · have he : (op != 13) = true := by simpa using h
    have hv := hide (show oneV op a = 0 by unfold oneV; rw [if_neg h])
    go_enter Try.func19, Try.ntmps19
    go_wp2_with fail
    go_ret
    exact ⟨by rw [hv.out]; rfl, rfl⟩
end Go.Proofs.Ytppolhpigclbpaa
