/- The walks of the laws HeapNone, HeapSizes, HeapFull. -/
import Derived.Test.YtjjoelhemhnojaaHeapJ
set_option linter.unusedVariables false
namespace Go.Proofs.Ytjjoelhemhnojaa
open Go.RowKit
open Hp

theorem in64_of {n : Int} (h : (Lit.int .i64 n).wf = true) : -9223372036854775808 ≤ n ∧ n ≤ 9223372036854775807 := by
  simp [Lit.wf, IntKind.min, IntKind.max, IntKind.signed, IntKind.bits] at h
  exact h
theorem below_keeps {w w1 w2 : World} (h : Below w.heap.size w w1) (hk : Keeps (fun _ => False) w1 w2) : Below w.heap.size w w2 := h.trans (hk.below h.size fun _ => False.elim)
theorem below_trans {w w1 w2 : World} (h : Below w.heap.size w w1) (h2 : Below w1.heap.size w1 w2) : Below w.heap.size w w2 := h.trans (h2.mono h.size)
set_option maxHeartbeats 1000000 in
theorem heapNone_walk (w : World) : Calls Try.prog 6 #[] w fun e w' => e = .returned (.bool true) ∧ Below w.heap.size w w' := by
  have N0 := hide (none_make w 0 0)
  go_enter Try.func6, Try.ntmps6
  go_wp2_with fail
  refine N0.out.mono ?_
  rintro e w1 ⟨rfl, hk1⟩
  have HK1 := hide hk1
  have B := hide (begun13_any w1)
  clear hk1
  go_wp2_with fail
  refine B.out.mono ?_
  rintro e w2 ⟨rfl, hb2⟩
  have HB2 := hide hb2
  have K1 := hide (none_kind w2 0)
  have K2 := hide (none_len w2 0)
  have K3 := hide (none_get w2 0)
  have K4 := hide (none_put w2 0)
  have K5 := hide (none_has w2 0)
  have K6 := hide (none_used w2)
  have K7 := hide (none_size w2)
  have K8 := hide (none_words w2)
  clear hb2 N0 B
  go_wp2_with (first
    | (go_at_call 24; (with_reducible refine K1.out.mono ?_); rintro e w' ⟨rfl, rfl⟩)
    | (go_at_call 25; (with_reducible refine K2.out.mono ?_); rintro e w' ⟨rfl, rfl⟩)
    | (go_at_call 27; (with_reducible refine K3.out.mono ?_); rintro e w' ⟨rfl, rfl⟩)
    | (go_at_call 18; (with_reducible refine K4.out.mono ?_); rintro e w' ⟨rfl, rfl⟩)
    | (go_at_call 23; (with_reducible refine K5.out.mono ?_); rintro e w' ⟨rfl, rfl⟩)
    | (go_at_call 26; (with_reducible refine K6.out.mono ?_); rintro e w' ⟨rfl, rfl⟩)
    | (go_at_call 21; (with_reducible refine K7.out.mono ?_); rintro e w' ⟨rfl, rfl⟩)
    | (go_at_call 19; (with_reducible refine K8.out.mono ?_); rintro e w' ⟨rfl, rfl⟩))
  go_ret
  exact ⟨rfl, (HK1.out.below (Nat.le_refl _) fun _ => False.elim).trans (HB2.out.mono HK1.out.size)⟩
set_option maxHeartbeats 1000000 in
theorem heapSizes_walk (n : Int) (w0 : (Lit.int .i64 n).wf = true) (w : World) : Calls Try.prog 8 #[.int .i64 n] w fun e w' => e = .returned (.bool true) ∧ Below w.heap.size w w' := by
  have hwf : -9223372036854775808 ≤ n ∧ n ≤ 9223372036854775807 := in64_of w0
  clear w0
  have B := hide (begun13_any w)
  go_enter Try.func8, Try.ntmps8
  go_wp2_with fail
  refine B.out.mono ?_
  rintro e w1 ⟨rfl, hb1⟩
  have HB1 := hide hb1
  have N1 := Solo.new n hb1
  clear hb1 B
  by_cases hs : 100000 < n ∧ n < 1048576
  · obtain ⟨h1, h2⟩ := hs
    clear N1
    go_wp2_with fail
    go_ret
    exact ⟨rfl, HB1.out⟩
  · have hcases : n < 0 ∨ n = 0 ∨ n = 1 ∨ (2 ≤ n ∧ n ≤ 100000) ∨ n = 1048576 ∨ 1048577 ≤ n := by omega
    clear hs
    rcases hcases with h | rfl | rfl | ⟨h1, h2⟩ | rfl | h
    · have hN : clampN n = 0 := by unfold clampN; omega
      rw [hN] at N1
      have N2 := hide N1
      clear N1 hN
      go_wp2_with ((with_reducible refine N2.out.mono ?_); rintro e w2 ⟨rfl, h2⟩; have S2 := hide h2.size; have M2 := hide (h2.make_no 1 0 (.inr (by simp [flat])) (by omega)); clear h2)
      refine M2.out.mono ?_
      rintro e w3 ⟨rfl, h3⟩
      have S3 := hide h3.size
      have HB3 := hide h3.below
      clear h3 S2 M2
      go_wp2_with (go_at_call 21; (with_reducible refine S3.out.mono ?_); rintro e w' ⟨rfl, rfl⟩)
      go_ret
      exact ⟨rfl, HB3.out⟩
    · have hN : clampN 0 = 0 := rfl
      rw [hN] at N1
      have N2 := hide N1
      clear N1 hN
      go_wp2_with ((with_reducible refine N2.out.mono ?_); rintro e w2 ⟨rfl, h2⟩; have S2 := hide h2.size; have M2 := hide (h2.make_no 1 0 (.inr (by simp [flat])) (by omega)); clear h2)
      refine M2.out.mono ?_
      rintro e w3 ⟨rfl, h3⟩
      have S3 := hide h3.size
      have HB3 := hide h3.below
      clear h3 S2 M2
      go_wp2_with (go_at_call 21; (with_reducible refine S3.out.mono ?_); rintro e w' ⟨rfl, rfl⟩)
      go_ret
      exact ⟨rfl, HB3.out⟩
    · have hN : clampN 1 = 1 := rfl
      rw [hN] at N1
      have N2 := hide N1
      clear N1 hN
      go_wp2_with ((with_reducible refine N2.out.mono ?_); rintro e w2 ⟨rfl, h2⟩; have S2 := hide h2.size; have M2 := hide (h2.make_no 1 0 (.inr (by simp [flat])) (by omega)); clear h2)
      refine M2.out.mono ?_
      rintro e w3 ⟨rfl, h3⟩
      have S3 := hide h3.size
      have HB3 := hide h3.below
      clear h3 S2 M2
      go_wp2_with (go_at_call 21; (with_reducible refine S3.out.mono ?_); rintro e w' ⟨rfl, rfl⟩)
      go_ret
      exact ⟨rfl, HB3.out⟩
    · obtain ⟨m, rfl⟩ := Int.eq_ofNat_of_zero_le (show 0 ≤ n by omega)
      have hN : clampN (m : Int) = m := by unfold clampN; omega
      rw [hN] at N1
      have N2 := hide N1
      clear N1 hN
      go_wp2_with ((with_reducible refine N2.out.mono ?_); rintro e w2 ⟨rfl, h2⟩; have M2 := hide (h2.make 1 0 rfl (by simp [flat]; try omega)); clear h2)
      refine M2.out.mono ?_
      rintro e w3 ⟨rfl, h3⟩
      have S3 := hide h3.size
      have U3 := hide h3.used
      rw [show (flat ([] ++ [(1, List.replicate 0 0)])).length = 2 from rfl] at U3
      have HB3 := hide h3.below
      clear h3 M2
      go_wp2_with (first | (go_at_call 21; (with_reducible refine S3.out.mono ?_); rintro e w' ⟨rfl, rfl⟩) | (go_at_call 26; (with_reducible refine U3.out.mono ?_); rintro e w' ⟨rfl, rfl⟩))
      go_ret
      exact ⟨rfl, HB3.out⟩
    · have hN : clampN 1048576 = 1048576 := rfl
      rw [hN] at N1
      have N2 := hide N1
      clear N1 hN
      go_wp2_with ((with_reducible refine N2.out.mono ?_); rintro e w2 ⟨rfl, h2⟩; have M2 := hide (h2.make 1 0 rfl (by simp [flat]; try omega)); clear h2)
      refine M2.out.mono ?_
      rintro e w3 ⟨rfl, h3⟩
      have S3 := hide h3.size
      have U3 := hide h3.used
      rw [show (flat ([] ++ [(1, List.replicate 0 0)])).length = 2 from rfl] at U3
      have HB3 := hide h3.below
      clear h3 M2
      go_wp2_with (first | (go_at_call 21; (with_reducible refine S3.out.mono ?_); rintro e w' ⟨rfl, rfl⟩) | (go_at_call 26; (with_reducible refine U3.out.mono ?_); rintro e w' ⟨rfl, rfl⟩))
      go_ret
      exact ⟨rfl, HB3.out⟩
    · have hN : clampN n = 1048576 := by unfold clampN; omega
      rw [hN] at N1
      have N2 := hide N1
      clear N1 hN
      go_wp2_with ((with_reducible refine N2.out.mono ?_); rintro e w2 ⟨rfl, h2⟩; have M2 := hide (h2.make 1 0 rfl (by simp [flat]; try omega)); clear h2)
      refine M2.out.mono ?_
      rintro e w3 ⟨rfl, h3⟩
      have S3 := hide h3.size
      have U3 := hide h3.used
      rw [show (flat ([] ++ [(1, List.replicate 0 0)])).length = 2 from rfl] at U3
      have HB3 := hide h3.below
      clear h3 M2
      go_wp2_with (first | (go_at_call 21; (with_reducible refine S3.out.mono ?_); rintro e w' ⟨rfl, rfl⟩) | (go_at_call 26; (with_reducible refine U3.out.mono ?_); rintro e w' ⟨rfl, rfl⟩))
      go_ret
      exact ⟨rfl, HB3.out⟩

/-- So many objects of k words, their kinds 0, 1, .. -/
def runs (k : Nat) : Nat → List Hp.Ob
  | 0 => []
  | j + 1 => runs k j ++ [((j : Int), List.replicate k 0)]
theorem runs_length (j k : Nat) : (flat (runs k j)).length = j * (k + 2) := by
  induction j with
  | zero => simp [runs, flat]
  | succ j ih => rw [runs, flat_append, List.length_append, ih, Nat.succ_mul]; simp [flat]
def FullRel (w : World) (p n k : Nat) (i : Value) (wr : World) : Prop := ∃ j : Nat, i = .int .i64 (j : Int) ∧ j * (k + 2) ≤ n ∧ Solo w wr p n (runs k j)
set_option maxHeartbeats 1000000 in
theorem heapFull_walk (n k : Int) (w0 : (Lit.int .i64 n).wf = true) (w1 : (Lit.int .i64 k).wf = true) (w : World) : Calls Try.prog 5 #[.int .i64 n, .int .i64 k] w fun e w' => e = .returned (.bool true) ∧ Below w.heap.size w w' := by
  have hwf := in64_of w0
  have hwf2 := in64_of w1
  clear w0 w1
  have B := hide (begun13_any w)
  by_cases hin : n < 0 ∨ 3000 < n ∨ k < 0 ∨ 1000 < k
  · have hin' : n < 0 ∨ (0 ≤ n ∧ 3000 < n) ∨ (0 ≤ n ∧ n ≤ 3000 ∧ k < 0) ∨ (0 ≤ n ∧ n ≤ 3000 ∧ 0 ≤ k ∧ 1000 < k) := by omega
    clear hin
    go_enter Try.func5, Try.ntmps5
    rcases hin' with h | ⟨h0, h⟩ | ⟨h0, h1, h⟩ | ⟨h0, h1, h2, h⟩
    all_goals
      go_wp2_with (go_at_call 15; (with_reducible refine B.out.mono ?_); rintro e w1 ⟨rfl, hb1⟩; have HB1 := hide hb1; clear hb1)
      go_ret
      exact ⟨rfl, HB1.out⟩
  · have h0 : 0 ≤ n := by omega
    have h1 : n ≤ 3000 := by omega
    have h2 : 0 ≤ k := by omega
    have h3 : k ≤ 1000 := by omega
    clear hin hwf hwf2
    obtain ⟨n, rfl⟩ := Int.eq_ofNat_of_zero_le h0
    obtain ⟨k, rfl⟩ := Int.eq_ofNat_of_zero_le h2
    have hN : clampN (n : Int) = n := by unfold clampN; omega
    have HN := hide hN
    clear hN
    have d1 : decide ((n : Int) < 0) = false := by simp
    have d2 : decide (3000 < (n : Int)) = false := by simp; omega
    have d3 : decide ((k : Int) < 0) = false := by simp
    have d4 : decide (1000 < (k : Int)) = false := by simp; omega
    clear h0 h1 h2 h3
    go_enter Try.func5, Try.ntmps5
    go_wp2_with (first
      | (go_at_call 15; (with_reducible refine B.out.mono ?_); rintro e w1 ⟨rfl, hb1⟩; have N1 := hide (Solo.new (n : Int) hb1); clear hb1)
      | (go_at_call 16; (with_reducible refine N1.out.mono ?_); rintro e w2 ⟨rfl, hs2⟩; rw [HN.out] at hs2; have HS2 := hide hs2; clear hs2))
    have h1 : n ≤ 3000 := by simp at d2; omega
    have h3 : k ≤ 1000 := by simp at d4; omega
    clear B N1 d1 d2 d3 d4
    obtain ⟨M, hM⟩ : ∃ M : Nat, 1600 ≤ M := ⟨1600, Nat.le_refl _⟩
    go_loopw [7] (fun i wr => FullRel w w1.heap.size n k i wr) (fun i _ => M - (intOf i).toNat)
    case atStart => exact ⟨0, rfl, by omega, HS2.out⟩
    case round =>
      obtain ⟨j, rfl, hj, hs⟩ := hrel
      have HS := hide hs
      clear HS2 hs
      have hlen := runs_length j k
      have hj3 : (j : Int) ≤ 1500 := by
        have : j * 2 ≤ j * (k + 2) := Nat.mul_le_mul_left _ (by omega)
        omega
      have hmay : mayO (j : Int) (k : Int) = true := by simp [mayO]; omega
      by_cases hroom : j * (k + 2) + k + 2 ≤ n
      · have hlt : (j : Int) < 1600 := by omega
        have MK := hide (HS.out.make (j : Int) k hmay (by rw [hlen]; omega))
        rw [hlen] at MK
        have HR := hide hroom
        clear hlen hmay hroom HS hj
        generalize hU : j * (k + 2) = U at *
        have HU := hide hU
        clear hU
        go_wp2_with fail
        refine MK.out.mono ?_
        rintro e w3 ⟨rfl, hs3⟩
        have HS3 := hide hs3
        clear hs3
        go_wp2_with fail
        go_roundw
        case rel => exact ⟨j + 1, by go_num, by have := HR.out; rw [Nat.succ_mul, HU.out]; omega, HS3.out⟩
        case measure => simp [intOf]; omega
      · have hlt : (j : Int) < 1600 := by omega
        have MK := hide (HS.out.make_no (j : Int) k (.inr (by rw [hlen]; omega)) (by omega))
        have hprod : IntKind.i64.wrap ((j : Int) * ((k : Int) + 2)) = ((j * (k + 2) : Nat) : Int) := by
          have e : (j : Int) * ((k : Int) + 2) = ((j * (k + 2) : Nat) : Int) := by push_cast; rfl
          rw [e, IntWalk.i64_in _ (by omega)]
        have hlen2 := hlen
        generalize hU : j * (k + 2) = U at *
        have HU := hide hU
        have HP := hide hprod
        clear hU hprod
        go_wp2_with fail
        refine MK.out.mono ?_
        rintro e w3 ⟨rfl, hs3⟩
        have U3 := hide hs3.used
        have HB3 := hide hs3.below
        rw [hlen] at U3
        have hprod := HP.out
        clear hs3 hlen hlen2
        go_wp2_with (go_at_call 26; (with_reducible refine U3.out.mono ?_); rintro e w' ⟨rfl, rfl⟩)
        go_ret
        exact ⟨ret_bool (decide_eq_true (by omega)), HB3.out⟩
end Go.Proofs.Ytjjoelhemhnojaa
