/- The walks of the five laws of ints: whatever numbers come in, each call returns true and leaves what was there as it was. Conditions: the numbers fit their kinds. -/
import Derived.Test.YtppolhpigclbpaaIntsGoes
namespace Go.Proofs.Ytppolhpigclbpaa
open Go.RowKit
set_option linter.unusedVariables false

theorem in32_of {a : Int} (h : (Lit.int .i32 a).wf = true) : In32 a := by
  have := bounds_i32 h
  unfold In32
  omega

set_option maxHeartbeats 1000000 in
theorem intsAll_walk (a0 : Int) (a1 : Int) (a2 : Int) (w0 : (Lit.int .i64 a0).wf = true) (w1 : (Lit.int .i32 a1).wf = true) (w2 : (Lit.int .i32 a2).wf = true) (w : World) :
    Calls Try.prog 3 #[.int .i64 a0, .int .i32 a1, .int .i32 a2] w fun e w' => e = .returned (.bool true) ∧ Below w.heap.size w w' := by
  have h1 := in32_of w1
  have h2 := in32_of w2
  clear w0 w1 w2
  have B := hide (begun12_any w)
  have T1 := hide (two_any a0 a1 a2 w h1 h2)
  have T2 := hide (rtwo_any a0 a1 a2 w h1 h2)
  have G1 := hide (goes_any a0 a1 a2 w h1 h2)
  have G2 := hide (rgoes_any a0 a1 a2 w h1 h2)
  have o1 := one_any a0 a1 w h1
  generalize (twoV a0 a1 a2).1 = x at *
  generalize (twoV a0 a1 a2).2 = y at *
  generalize goesV a0 a1 a2 = g at *
  have W1 := hide (wrap_any (-a1) w)
  unfold In32 at h1 h2
  by_cases h13 : a0 = 13
  · subst h13
    rw [show oneV 13 a1 = wrap32 (-a1) from rfl] at o1
    generalize wrap32 (-a1) = z at *
    have O1 := hide o1
    clear o1
    go_enter Try.func3, Try.ntmps3
    go_wp2_with (first
      | (go_at_call 15; refine B.out.mono ?_; rintro e w' ⟨rfl, rfl⟩)
      | (go_at_call 16; refine T1.out.mono ?_; rintro e w' ⟨rfl, rfl⟩)
      | (go_at_call 17; refine T2.out.mono ?_; rintro e w' ⟨rfl, rfl⟩)
      | (go_at_call 18; refine W1.out.mono ?_; rintro e w' ⟨rfl, rfl⟩)
      | (go_at_call 19; refine O1.out.mono ?_; rintro e w' ⟨rfl, rfl⟩)
      | (go_at_call 20; refine G1.out.mono ?_; rintro e w' ⟨rfl, rfl⟩)
      | (go_at_call 21; refine G2.out.mono ?_; rintro e w' ⟨rfl, rfl⟩))
    go_ret
    exact ⟨ret_bool (by simp), Below.refl _ _⟩
  · have he : (a0 == 13) = false := by simpa using h13
    rw [show oneV a0 a1 = 0 by unfold oneV; rw [if_neg h13]] at o1
    have O1 := hide o1
    clear o1
    go_enter Try.func3, Try.ntmps3
    go_wp2_with (first
      | (go_at_call 15; refine B.out.mono ?_; rintro e w' ⟨rfl, rfl⟩)
      | (go_at_call 16; refine T1.out.mono ?_; rintro e w' ⟨rfl, rfl⟩)
      | (go_at_call 17; refine T2.out.mono ?_; rintro e w' ⟨rfl, rfl⟩)
      | (go_at_call 19; refine O1.out.mono ?_; rintro e w' ⟨rfl, rfl⟩)
      | (go_at_call 20; refine G1.out.mono ?_; rintro e w' ⟨rfl, rfl⟩)
      | (go_at_call 21; refine G2.out.mono ?_; rintro e w' ⟨rfl, rfl⟩))
    go_ret
    exact ⟨ret_bool (by simp), Below.refl _ _⟩

set_option maxHeartbeats 1000000 in
theorem intsEach_walk (a0 : Int) (a1 : Int) (w0 : (Lit.int .i32 a0).wf = true) (w1 : (Lit.int .i32 a1).wf = true) (w : World) :
    Calls Try.prog 4 #[.int .i32 a0, .int .i32 a1] w fun e w' => e = .returned (.bool true) ∧ Below w.heap.size w w' := by
  have h1 := in32_of w0
  have h2 := in32_of w1
  clear w0 w1
  have B := hide (begun12_any w)
  go_enter Try.func4, Try.ntmps4
  go_wp2_with (go_at_call 15; refine B.out.mono ?_; rintro e w' ⟨rfl, rfl⟩)
  go_loop [6] (fun i => ∃ k : Nat, k ≤ 63 ∧ i = .int .i64 k) (fun i => 63 - (intOf i).toNat)
  case atStart => exact ⟨0, by omega, rfl⟩
  case round =>
    obtain ⟨k, hk, rfl⟩ := hrel
    by_cases hlt : k ≤ 62
    · have T1 := hide (two_any (k : Int) a0 a1 w h1 h2)
      have T2 := hide (rtwo_any (k : Int) a0 a1 w h1 h2)
      have G1 := hide (goes_any (k : Int) a0 a1 w h1 h2)
      have G2 := hide (rgoes_any (k : Int) a0 a1 w h1 h2)
      generalize (twoV (k : Int) a0 a1).1 = x at *
      generalize (twoV (k : Int) a0 a1).2 = y at *
      generalize goesV (k : Int) a0 a1 = g at *
      go_wp2_with (first
        | (go_at_call 16; refine T1.out.mono ?_; rintro e w' ⟨rfl, rfl⟩)
        | (go_at_call 17; refine T2.out.mono ?_; rintro e w' ⟨rfl, rfl⟩)
        | (go_at_call 20; refine G1.out.mono ?_; rintro e w' ⟨rfl, rfl⟩)
        | (go_at_call 21; refine G2.out.mono ?_; rintro e w' ⟨rfl, rfl⟩))
      go_round
      case rel => exact ⟨k + 1, by omega, by go_num⟩
      case measure => simp [intOf]; omega
    · go_wp2
      go_ret
      exact ⟨rfl, Below.refl _ _⟩
end Go.Proofs.Ytppolhpigclbpaa
