/- The walks of three more laws of ints: whatever numbers come in, each call returns true and leaves what was there as it was. Conditions: the numbers fit their kinds. -/
import Derived.Test.YtppolhpigclbpaaIntsA
namespace Go.Proofs.Ytppolhpigclbpaa
open Go.RowKit
set_option linter.unusedVariables false

theorem sum_back {a b : Int} (ha : In32 a) : wrap32 (wrap32 (a + b) - b) = a := by
  rw [wrap32_mod, wrap32_mod]
  unfold In32 at ha
  omega
theorem sum_none {a : Int} : wrap32 (a + wrap32 (-a)) = 0 := by
  rw [wrap32_mod, wrap32_mod]
  omega
theorem wrap32_mul (m n : Int) : wrap32 (wrap32 m * n) = wrap32 (m * n) := by
  have h : ∃ k, wrap32 m = m + 4294967296 * k := ⟨-((m + 2147483648) / 4294967296), by rw [wrap32_mod]; omega⟩
  obtain ⟨k, hk⟩ := h
  rw [hk, Int.add_mul, Int.mul_assoc]
  generalize k * n = q
  generalize m * n = p
  rw [wrap32_mod, wrap32_mod]
  omega
theorem quot_back {a b : Int} (ha : In32 a) : wrap32 (wrap32 (wrap32 (a.tdiv b) * b) + a.tmod b) = a := by
  rw [wrap32_mul]
  have h := Int.tdiv_mul_add_tmod a b
  generalize a.tdiv b * b = p at *
  generalize a.tmod b = r at *
  rw [wrap32_mod, wrap32_mod]
  unfold In32 at ha
  omega

set_option maxHeartbeats 1000000 in
theorem intsLaws_walk (a0 : Int) (a1 : Int) (w0 : (Lit.int .i32 a0).wf = true) (w1 : (Lit.int .i32 a1).wf = true) (w : World) :
    Calls Try.prog 5 #[.int .i32 a0, .int .i32 a1] w fun e w' => e = .returned (.bool true) ∧ Below w.heap.size w w' := by
  have h1 := in32_of w0
  have h2 := in32_of w1
  clear w0 w1
  have B := hide (begun12_any w)
  have S := hide (two_any 8 a0 a1 w h1 h2)
  have T := hide (two_any 8 a1 a0 w h2 h1)
  have d := two_any 9 (wrap32 (a0 + a1)) a1 w (wrap32_in _) h2
  have M := hide (two_any 10 a0 a1 w h1 h2)
  have N := hide (two_any 10 a1 a0 w h2 h1)
  have O := hide (one_any 13 a0 w h1)
  have z := two_any 8 a0 (wrap32 (-a0)) w h1 (wrap32_in _)
  rw [show twoV 9 (wrap32 (a0 + a1)) a1 = (a0, true) from by
    show (wrap32 (wrap32 (a0 + a1) - a1), true) = _
    rw [sum_back h1]] at d
  rw [show twoV 8 a0 (wrap32 (-a0)) = (0, true) from by
    show (wrap32 (a0 + wrap32 (-a0)), true) = _
    rw [sum_none]] at z
  have hT : twoV 8 a1 a0 = twoV 8 a0 a1 := by
    show (wrap32 (a1 + a0), true) = (wrap32 (a0 + a1), true)
    rw [Int.add_comm]
  have hN : twoV 10 a1 a0 = twoV 10 a0 a1 := by
    show (wrap32 (a1 * a0), true) = (wrap32 (a0 * a1), true)
    rw [Int.mul_comm]
  rw [hT] at T
  rw [hN] at N
  have hS : twoV 8 a0 a1 = (wrap32 (a0 + a1), true) := rfl
  have hM : twoV 10 a0 a1 = (wrap32 (a0 * a1), true) := rfl
  have hO : oneV 13 a0 = wrap32 (-a0) := rfl
  rw [hS] at S T
  rw [hM] at M N
  rw [hO] at O
  have D := hide d
  have Z := hide z
  clear d z hT hN hS hM hO
  have hq : twoV 11 a0 a1 = (if a1 = 0 then (0, false) else (wrap32 (a0.tdiv a1), true)) := rfl
  have hr : twoV 12 a0 a1 = (if a1 = 0 then (0, false) else (a0.tmod a1, true)) := rfl
  have q := two_any 11 a0 a1 w h1 h2
  have r := two_any 12 a0 a1 w h1 h2
  by_cases h0 : a1 = 0
  · rw [hq, if_pos h0] at q
    rw [hr, if_pos h0] at r
    subst h0
    have Q := hide q
    have R := hide r
    have P1 := hide (two_any 10 0 0 w (by unfold In32; omega) (by unfold In32; omega))
    have P2 := hide (two_any 8 0 0 w (by unfold In32; omega) (by unfold In32; omega))
    rw [show twoV 10 0 0 = (0, true) from by decide +kernel] at P1
    rw [show twoV 8 0 0 = (0, true) from by decide +kernel] at P2
    clear q r hq hr
    rw [show a0 + 0 = a0 from by omega, wrap32_of h1] at S T D
    rw [show a0 * 0 = 0 from by omega, show wrap32 0 = 0 from by decide +kernel] at M N
    generalize wrap32 (-a0) = o at *
    go_enter Try.func5, Try.ntmps5
    go_wp2_with fail
    refine B.out.mono ?_
    rintro e w' ⟨rfl, rfl⟩
    go_wp2_with fail
    refine S.out.mono ?_
    rintro e w' ⟨rfl, rfl⟩
    go_wp2_with fail
    refine T.out.mono ?_
    rintro e w' ⟨rfl, rfl⟩
    go_wp2_with fail
    refine D.out.mono ?_
    rintro e w' ⟨rfl, rfl⟩
    go_wp2_with fail
    refine M.out.mono ?_
    rintro e w' ⟨rfl, rfl⟩
    go_wp2_with fail
    refine N.out.mono ?_
    rintro e w' ⟨rfl, rfl⟩
    go_wp2_with fail
    refine O.out.mono ?_
    rintro e w' ⟨rfl, rfl⟩
    go_wp2_with fail
    refine Z.out.mono ?_
    rintro e w' ⟨rfl, rfl⟩
    go_wp2_with fail
    refine Q.out.mono ?_
    rintro e w' ⟨rfl, rfl⟩
    go_wp2_with fail
    refine R.out.mono ?_
    rintro e w' ⟨rfl, rfl⟩
    go_wp2_with fail
    refine P1.out.mono ?_
    rintro e w' ⟨rfl, rfl⟩
    go_wp2_with fail
    refine P2.out.mono ?_
    rintro e w' ⟨rfl, rfl⟩
    go_wp2_with fail
    go_ret
    exact ⟨rfl, Below.refl _ _⟩
  · rw [hq, if_neg h0] at q
    rw [hr, if_neg h0] at r
    have he : (a1 != 0) = true := by simpa using h0
    have hrin := tmod_in (a := a0) h2 h0
    have hb := quot_back (a := a0) (b := a1) h1
    have p1 := two_any 10 (wrap32 (a0.tdiv a1)) a1 w (wrap32_in _) h2
    rw [show twoV 10 (wrap32 (a0.tdiv a1)) a1 = (wrap32 (wrap32 (a0.tdiv a1) * a1), true) from rfl] at p1
    have p2 := two_any 8 (wrap32 (wrap32 (a0.tdiv a1) * a1)) (a0.tmod a1) w (wrap32_in _) hrin
    rw [show twoV 8 (wrap32 (wrap32 (a0.tdiv a1) * a1)) (a0.tmod a1) = (wrap32 (wrap32 (wrap32 (a0.tdiv a1) * a1) + a0.tmod a1), true) from rfl, hb] at p2
    have Q := hide q
    have R := hide r
    have P1 := hide p1
    have P2 := hide p2
    clear q r hq hr p1 p2 hb hrin
    generalize wrap32 (wrap32 (a0.tdiv a1) * a1) = x1 at *
    generalize wrap32 (a0.tdiv a1) = x2 at *
    generalize a0.tmod a1 = x3 at *
    generalize wrap32 (a0 + a1) = x4 at *
    generalize wrap32 (a0 * a1) = x5 at *
    generalize wrap32 (-a0) = x6 at *
    go_enter Try.func5, Try.ntmps5
    go_wp2_with fail
    refine B.out.mono ?_
    rintro e w' ⟨rfl, rfl⟩
    go_wp2_with fail
    refine S.out.mono ?_
    rintro e w' ⟨rfl, rfl⟩
    go_wp2_with fail
    refine T.out.mono ?_
    rintro e w' ⟨rfl, rfl⟩
    go_wp2_with fail
    refine D.out.mono ?_
    rintro e w' ⟨rfl, rfl⟩
    go_wp2_with fail
    refine M.out.mono ?_
    rintro e w' ⟨rfl, rfl⟩
    go_wp2_with fail
    refine N.out.mono ?_
    rintro e w' ⟨rfl, rfl⟩
    go_wp2_with fail
    refine O.out.mono ?_
    rintro e w' ⟨rfl, rfl⟩
    go_wp2_with fail
    refine Z.out.mono ?_
    rintro e w' ⟨rfl, rfl⟩
    go_wp2_with fail
    refine Q.out.mono ?_
    rintro e w' ⟨rfl, rfl⟩
    go_wp2_with fail
    refine R.out.mono ?_
    rintro e w' ⟨rfl, rfl⟩
    go_wp2_with fail
    refine P1.out.mono ?_
    rintro e w' ⟨rfl, rfl⟩
    go_wp2_with fail
    refine P2.out.mono ?_
    rintro e w' ⟨rfl, rfl⟩
    go_wp2_with fail
    go_ret
    exact ⟨ret_bool (by simp), Below.refl _ _⟩

theorem shift_32 {k : Int} (hk : k = 17 ∨ k = 18 ∨ k = 19) (a n : Int) (ha : In32 a) : (twoV k a (wrap32 (n + 32))).1 = (twoV k a n).1 ∧ (twoV k a 32).1 = a := by
  have hs : sh (wrap32 (n + 32)) = sh n := by
    unfold sh
    rw [wrap32_mod]
    omega
  have h0 : sh 32 = 0 := by decide
  have h1 := wrap32_of ha
  rcases hk with rfl | rfl | rfl
  · refine ⟨?_, ?_⟩
    · show wrap32 (a * 2 ^ sh (wrap32 (n + 32))) = wrap32 (a * 2 ^ sh n)
      rw [hs]
    · show wrap32 (a * 2 ^ sh 32) = a
      rw [h0, Int.pow_zero, Int.mul_one, h1]
  · refine ⟨?_, ?_⟩
    · show a / 2 ^ sh (wrap32 (n + 32)) = a / 2 ^ sh n
      rw [hs]
    · show a / 2 ^ sh 32 = a
      rw [h0, Int.pow_zero, Int.ediv_one]
  · refine ⟨?_, ?_⟩
    · show wrap32 (a % 4294967296 / 2 ^ sh (wrap32 (n + 32))) = wrap32 (a % 4294967296 / 2 ^ sh n)
      rw [hs]
    · show wrap32 (a % 4294967296 / 2 ^ sh 32) = a
      rw [h0, Int.pow_zero, Int.ediv_one, wrap32_mod]
      unfold In32 at ha
      omega
theorem shift_by (a : Int) (ha : In32 a) : (twoV 17 a 1).1 = (twoV 8 a a).1 ∧ ((twoV 19 a 31).1 == 1) = decide (a < 0) ∧ ((twoV 18 a 31).1 == -1) = decide (a < 0) := by
  have h1 : sh 1 = 1 := by decide
  have h31 : sh 31 = 31 := by decide
  refine ⟨?_, ?_, ?_⟩
  · show wrap32 (a * 2 ^ sh 1) = wrap32 (a + a)
    rw [h1, show (2 : Int) ^ 1 = 2 from by decide]
    congr 1
    omega
  · show (wrap32 (a % 4294967296 / 2 ^ sh 31) == 1) = decide (a < 0)
    rw [h31, show (2 : Int) ^ 31 = 2147483648 from by decide +kernel, wrap32_mod]
    unfold In32 at ha
    rw [Bool.eq_iff_iff]
    simp
    omega
  · show (a / 2 ^ sh 31 == -1) = decide (a < 0)
    rw [h31, show (2 : Int) ^ 31 = 2147483648 from by decide +kernel]
    unfold In32 at ha
    rw [Bool.eq_iff_iff]
    simp
    omega
end Go.Proofs.Ytppolhpigclbpaa
