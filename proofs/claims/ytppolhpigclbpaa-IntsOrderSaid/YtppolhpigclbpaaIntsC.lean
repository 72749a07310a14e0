/- The walks of the last two laws of ints: whatever numbers come in, each call returns true and leaves what was there as it was. Conditions: the numbers fit their kinds. -/
import Derived.Test.YtppolhpigclbpaaIntsB
namespace Go.Proofs.Ytppolhpigclbpaa
open Go.RowKit
set_option linter.unusedVariables false

set_option maxHeartbeats 1000000 in
theorem intsShift_walk (a0 : Int) (a1 : Int) (w0 : (Lit.int .i32 a0).wf = true) (w1 : (Lit.int .i32 a1).wf = true) (w : World) :
    Calls Try.prog 6 #[.int .i32 a0, .int .i32 a1] w fun e w' => e = .returned (.bool true) ∧ Below w.heap.size w w' := by
  have h1 := in32_of w0
  have h2 := in32_of w1
  clear w0 w1
  have B := hide (begun12_any w)
  go_enter Try.func6, Try.ntmps6
  go_wp2_with (go_at_call 15; refine B.out.mono ?_; rintro e w' ⟨rfl, rfl⟩)
  go_loop [6] (fun i => ∃ k : Nat, 17 ≤ k ∧ k ≤ 20 ∧ i = .int .i64 k) (fun i => 20 - (intOf i).toNat)
  case atStart => exact ⟨17, by omega, by omega, rfl⟩
  case round =>
    obtain ⟨k, hk1, hk, rfl⟩ := hrel
    by_cases hlt : k ≤ 19
    · have hs := shift_32 (k := (k : Int)) (by omega) a0 a1 h1
      have t1 := two_any (k : Int) a0 a1 w h1 h2
      have t2 := two_any (k : Int) a0 (wrap32 (a1 + 32)) w h1 (wrap32_in _)
      have t3 := two_any (k : Int) a0 32 w h1 (by unfold In32; omega)
      rw [hs.1] at t2
      rw [hs.2] at t3
      generalize (twoV (k : Int) a0 a1).1 = x at *
      generalize (twoV (k : Int) a0 a1).2 = y1 at *
      generalize (twoV (k : Int) a0 (wrap32 (a1 + 32))).2 = y2 at *
      generalize (twoV (k : Int) a0 32).2 = y3 at *
      have T1 := hide t1
      have T2 := hide t2
      have T3 := hide t3
      clear t1 t2 t3 hs
      go_wp2_with fail
      refine T1.out.mono ?_
      rintro e w' ⟨rfl, rfl⟩
      go_wp2_with fail
      refine T2.out.mono ?_
      rintro e w' ⟨rfl, rfl⟩
      go_wp2_with fail
      refine T3.out.mono ?_
      rintro e w' ⟨rfl, rfl⟩
      go_wp2_with fail
      go_round
      case rel => exact ⟨k + 1, by omega, by omega, by go_num⟩
      case measure => simp [intOf]; omega
    · have hs := shift_by a0 h1
      have t1 := two_any 17 a0 1 w h1 (by unfold In32; omega)
      have t2 := two_any 8 a0 a0 w h1 h1
      have t3 := two_any 19 a0 31 w h1 (by unfold In32; omega)
      have t4 := two_any 18 a0 31 w h1 (by unfold In32; omega)
      obtain ⟨hs1, hs2, hs3⟩ := hs
      rw [hs1] at t1
      generalize (twoV 17 a0 1).2 = y1 at *
      generalize (twoV 8 a0 a0).1 = x2 at *
      generalize (twoV 8 a0 a0).2 = y2 at *
      generalize (twoV 19 a0 31).1 = x3 at *
      generalize (twoV 19 a0 31).2 = y3 at *
      generalize (twoV 18 a0 31).1 = x4 at *
      generalize (twoV 18 a0 31).2 = y4 at *
      have T1 := hide t1
      have T2 := hide t2
      have T3 := hide t3
      have T4 := hide t4
      have H2 := hide hs2
      have H3 := hide hs3
      clear t1 t2 t3 t4 hs1 hs2 hs3
      go_wp2_with fail
      refine T1.out.mono ?_
      rintro e w' ⟨rfl, rfl⟩
      go_wp2_with fail
      refine T2.out.mono ?_
      rintro e w' ⟨rfl, rfl⟩
      go_wp2_with fail
      refine T3.out.mono ?_
      rintro e w' ⟨rfl, rfl⟩
      go_wp2_with fail
      refine T4.out.mono ?_
      rintro e w' ⟨rfl, rfl⟩
      have he2 := H2.out
      have he3 := H3.out
      go_wp2_with fail
      go_ret
      exact ⟨ret_bool (by simp), Below.refl _ _⟩

theorem goes_pair (k : Int) (hk : k = 21 ∨ k = 23 ∨ k = 27 ∨ k = 29) (a b : Int) : goesV (k + 1) a b = !goesV k a b := by
  rcases hk with rfl | rfl | rfl | rfl
  · show (a != 0) = !(a == 0)
    rfl
  · show decide (0 ≤ a) = !decide (a < 0)
    rw [Bool.eq_iff_iff]; simp
  · show (a != b) = !(a == b)
    rfl
  · show decide (b ≤ a) = !decide (a < b)
    rw [Bool.eq_iff_iff]; simp
set_option maxHeartbeats 2000000 in
theorem intsOrder_walk (a0 : Int) (a1 : Int) (w0 : (Lit.int .i32 a0).wf = true) (w1 : (Lit.int .i32 a1).wf = true) (w : World) :
    Calls Try.prog 7 #[.int .i32 a0, .int .i32 a1] w fun e w' => e = .returned (.bool true) ∧ Below w.heap.size w w' := by
  have h1 := in32_of w0
  have h2 := in32_of w1
  clear w0 w1
  have B := hide (begun12_any w)
  go_enter Try.func7, Try.ntmps7
  go_wp2_with (go_at_call 15; refine B.out.mono ?_; rintro e w' ⟨rfl, rfl⟩)
  go_loop [6] (fun i => ∃ k : Nat, k ≤ 6 ∧ i = .int .i64 (21 + 2 * (k : Int))) (fun i => 33 - (intOf i).toNat)
  case atStart => exact ⟨0, by omega, rfl⟩
  case round =>
    obtain ⟨k, hk, rfl⟩ := hrel
    by_cases hlt : k < 6
    · by_cases hp : k = 0 ∨ k = 1 ∨ k = 3 ∨ k = 4
      · have hg := goes_pair (21 + 2 * (k : Int)) (by omega) a0 a1
        have g1 := goes_any (21 + 2 * (k : Int)) a0 a1 w h1 h2
        have g2 := goes_any (21 + 2 * (k : Int) + 1) a0 a1 w h1 h2
        rw [hg] at g2
        generalize goesV (21 + 2 * (k : Int)) a0 a1 = g at *
        clear hg
        rcases hp with rfl | rfl | rfl | rfl
        all_goals
          have G1 := hide g1
          have G2 := hide g2
          clear g1 g2
          cases g
        all_goals
          go_wp2_with fail
          refine G1.out.mono ?_
          rintro e w' ⟨rfl, rfl⟩
          go_wp2_with fail
          refine G2.out.mono ?_
          rintro e w' ⟨rfl, rfl⟩
          go_wp2_with fail
          go_round
        all_goals first
          | (case rel => exact ⟨1, by omega, rfl⟩)
          | (case rel => exact ⟨2, by omega, rfl⟩)
          | (case rel => exact ⟨4, by omega, rfl⟩)
          | (case rel => exact ⟨5, by omega, rfl⟩)
          | (simp [intOf])
      · have hk2 : k = 2 ∨ k = 5 := by omega
        clear hp
        rcases hk2 with rfl | rfl
        · go_wp2_with fail
          go_round
          case rel => exact ⟨3, by omega, rfl⟩
          case measure => simp [intOf]
        · go_wp2_with fail
          go_round
          case rel => exact ⟨6, by omega, rfl⟩
          case measure => simp [intOf]
    · obtain rfl : k = 6 := by omega
      have c1 : Calls Try.prog 20 #[.int .i64 29, .int .i32 a0, .int .i32 a1] w fun e w' => e = .returned (.bool (decide (a0 < a1))) ∧ w = w' := goes_any 29 a0 a1 w h1 h2
      have c2 : Calls Try.prog 20 #[.int .i64 31, .int .i32 a1, .int .i32 a0] w fun e w' => e = .returned (.bool (decide (a0 < a1))) ∧ w = w' := goes_any 31 a1 a0 w h2 h1
      have c3 : Calls Try.prog 20 #[.int .i64 32, .int .i32 a0, .int .i32 a1] w fun e w' => e = .returned (.bool (decide (a0 ≤ a1))) ∧ w = w' := goes_any 32 a0 a1 w h1 h2
      have c4 : Calls Try.prog 20 #[.int .i64 27, .int .i32 a0, .int .i32 a1] w fun e w' => e = .returned (.bool (a0 == a1)) ∧ w = w' := goes_any 27 a0 a1 w h1 h2
      have c5 : Calls Try.prog 20 #[.int .i64 25, .int .i32 a0, .int .i32 a1] w fun e w' => e = .returned (.bool (decide (0 < a0))) ∧ w = w' := goes_any 25 a0 a1 w h1 h2
      have c6 : Calls Try.prog 20 #[.int .i64 31, .int .i32 a0, .int .i32 0] w fun e w' => e = .returned (.bool (decide (0 < a0))) ∧ w = w' := goes_any 31 a0 0 w h1 (by unfold In32; omega)
      have c7 : Calls Try.prog 20 #[.int .i64 26, .int .i32 a0, .int .i32 a1] w fun e w' => e = .returned (.bool (decide (a0 ≤ 0))) ∧ w = w' := goes_any 26 a0 a1 w h1 h2
      rw [show decide (a0 ≤ a1) = (decide (a0 < a1) || (a0 == a1)) from by rw [Bool.eq_iff_iff]; simp; omega] at c3
      rw [show decide (a0 ≤ 0) = !decide (0 < a0) from by rw [Bool.eq_iff_iff]; simp] at c7
      generalize decide (a0 < a1) = p at *
      generalize (a0 == a1) = q at *
      generalize decide (0 < a0) = s at *
      have C1 := hide c1
      have C2 := hide c2
      have C3 := hide c3
      have C4 := hide c4
      have C5 := hide c5
      have C6 := hide c6
      have C7 := hide c7
      clear c1 c2 c3 c4 c5 c6 c7
      cases p <;> cases q <;> cases s
      all_goals
        go_wp2_with (first
          | (go_at_call_of 20 (Value.int .i64 29); refine C1.out.mono ?_; rintro e w' ⟨rfl, rfl⟩)
          | (go_at_call_of 20 (Value.int .i64 32); refine C3.out.mono ?_; rintro e w' ⟨rfl, rfl⟩)
          | (go_at_call_of 20 (Value.int .i64 27); refine C4.out.mono ?_; rintro e w' ⟨rfl, rfl⟩)
          | (go_at_call_of 20 (Value.int .i64 25); refine C5.out.mono ?_; rintro e w' ⟨rfl, rfl⟩)
          | (go_at_call_of 20 (Value.int .i64 26); refine C7.out.mono ?_; rintro e w' ⟨rfl, rfl⟩)
          | (go_at_call_of 20 (Value.int .i32 0); refine C6.out.mono ?_; rintro e w' ⟨rfl, rfl⟩)
          | (go_at_call_of 20 (Value.int .i64 31); refine C2.out.mono ?_; rintro e w' ⟨rfl, rfl⟩))
        go_ret
        exact ⟨ret_bool (by simp), Below.refl _ _⟩
end Go.Proofs.Ytppolhpigclbpaa
