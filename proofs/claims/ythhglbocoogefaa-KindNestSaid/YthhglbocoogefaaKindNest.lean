/- The walk of KindNest: whatever text and number come in, the call returns true and leaves what was there as it was. Conditions: the text's length is a Go length, the number fits. -/
import Derived.Test.YthhglbocoogefaaKindArrays
namespace Go.Proofs.Ythhglbocoogefaa
open Go.RowKit

def nest : Nat → ByteArray → ByteArray
  | 0, s => s
  | k + 1, s => (⟨#[91]⟩ : ByteArray) ++ nest k s
theorem nest_size (k : Nat) (s : ByteArray) : (nest k s).size = s.size + k := by
  induction k with
  | zero => rfl
  | succ k ih => show ((⟨#[91]⟩ : ByteArray) ++ nest k s).size = _; rw [cons_size, ih]; omega
theorem nest_succ (k : Nat) (s : ByteArray) : (nest (k + 1) s).toList = 91 :: (nest k s).toList := cons_toList _
theorem nest_three {k : Nat} (h : 3 ≤ k) (s : ByteArray) : mayB (nest k s).toList = false := by
  match k, h with
  | k + 3, _ => rw [nest_succ, nest_succ, nest_succ]; exact may_three _
set_option maxHeartbeats 1000000 in
theorem kindNest_walk (a0 : ByteArray) (a1 : Int) (w0 : a0.size ≤ maxLen) (w1 : (Lit.int .i64 a1).wf = true) (w : World) :
    Calls Try.prog 13 #[.string a0, .int .i64 a1] w fun e w' => e = .returned (.bool true) ∧ Below w.heap.size w w' := by
  have B := hide (begun3_any w)
  have CU := hide (cut_any a0 9 w w0 (by omega))
  have hz := cutS_size a0 9
  have hwf := bounds_i64 w1
  clear w1
  generalize cutS a0 9 = s at *
  by_cases hA : a1 < 0
  · go_enter Try.func13, Try.ntmps13
    go_wp2_with (first
      | (go_at_call 19; refine B.out.mono ?_; rintro e w' ⟨rfl, rfl⟩)
      | (go_at_call 20; refine CU.out.mono ?_; rintro e w' ⟨rfl, rfl⟩))
    go_ret
    exact ⟨rfl, Below.refl _ _⟩
  by_cases hB : 5 < a1
  · go_enter Try.func13, Try.ntmps13
    go_wp2_with (first
      | (go_at_call 19; refine B.out.mono ?_; rintro e w' ⟨rfl, rfl⟩)
      | (go_at_call 20; refine CU.out.mono ?_; rintro e w' ⟨rfl, rfl⟩))
    go_ret
    exact ⟨rfl, Below.refl _ _⟩
  obtain ⟨n, rfl⟩ := Int.eq_ofNat_of_zero_le (show 0 ≤ a1 by omega)
  go_enter Try.func13, Try.ntmps13
  go_wp2_with (first
    | (go_at_call 19; refine B.out.mono ?_; rintro e w' ⟨rfl, rfl⟩)
    | (go_at_call 20; refine CU.out.mono ?_; rintro e w' ⟨rfl, rfl⟩))
  go_loop [6, 7] (fun t i => ∃ k : Nat, k ≤ n ∧ i = .int .i64 k ∧ t = .string (nest k s)) (fun _ i => n - (intOf i).toNat)
  case atStart => exact ⟨0, Nat.zero_le _, rfl, rfl⟩
  case round =>
    obtain ⟨k, hk, rfl, rfl⟩ := hrel
    by_cases hlt : k < n
    · have HN := hide (show nest (k + 1) s = (⟨#[91]⟩ : ByteArray) ++ nest k s from rfl)
      have hsz := nest_size k s
      go_wp2_with fail
      go_round
      case rel => exact ⟨k + 1, by omega, by go_num, by rw [HN.out]⟩
      case measure => simp [intOf]; omega
    · obtain rfl : k = n := by omega
      have h3 : 3 ≤ k → mayB (nest k s).toList = false := fun h => nest_three h s
      have hs := nest_size k s
      have h1 : 1 ≤ k → ((nest k s).toList.headD 0 == 91) = true := by
        intro h
        obtain ⟨j, rfl⟩ : ∃ j, k = j + 1 := ⟨k - 1, by omega⟩
        rw [nest_succ]
        rfl
      generalize nest k s = t at *
      have hkt : t.size ≤ 1000 := by omega
      have hm : t.size ≤ maxLen := by unfold maxLen; omega
      have he : elemS t = if mayB t.toList && (t.toList.headD 0 == 91) then (t.extract 1 t.size, true) else (⟨#[]⟩, false) := rfl
      have E1 := hide (elem_any t w hkt)
      have m1 := may_any t w hm
      have m2 := rmay_any t w hm
      have F1 := hide (ref_any t w hm)
      have F2 := hide (rref_any t w hm)
      generalize refB t.toList = x5 at *
      have H3 := hide h3
      have HE := hide he
      clear h3 he
      by_cases hk0 : k = 0
      · subst hk0
        clear h1
        generalize mayB t.toList = b at *
        have M1 := hide m1
        have M2 := hide m2
        clear m1 m2
        generalize (elemS t).1 = x6 at *
        generalize (elemS t).2 = x7 at *
        go_wp2_with (first
          | (go_at_call 21; refine E1.out.mono ?_; rintro e w' ⟨rfl, rfl⟩)
          | (go_at_call 27; refine M1.out.mono ?_; rintro e w' ⟨rfl, rfl⟩)
          | (go_at_call 28; refine M2.out.mono ?_; rintro e w' ⟨rfl, rfl⟩)
          | (go_at_call 31; refine F1.out.mono ?_; rintro e w' ⟨rfl, rfl⟩)
          | (go_at_call 32; refine F2.out.mono ?_; rintro e w' ⟨rfl, rfl⟩))
        go_ret
        exact ⟨by simp, Below.refl _ _⟩
      · have h1 := h1 (by omega)
        have hk0' : ((k : Int) == 0) = false := by
          simp only [beq_eq_false_iff_ne, ne_eq]
          omega
        have hp : 1 ≤ t.size := by
          rw [hs]; omega
        rw [h1] at HE
        clear h1
        cases hb : mayB t.toList
        · rw [hb] at HE m1 m2
          have e1 := E1.out
          rw [HE.out] at e1
          have E2 := hide e1
          have M1 := hide m1
          have M2 := hide m2
          clear e1 m1 m2 E1
          go_wp2_with (first
            | (go_at_call 21; refine E2.out.mono ?_; rintro e w' ⟨rfl, rfl⟩)
            | (go_at_call 27; refine M1.out.mono ?_; rintro e w' ⟨rfl, rfl⟩)
            | (go_at_call 28; refine M2.out.mono ?_; rintro e w' ⟨rfl, rfl⟩)
            | (go_at_call 31; refine F1.out.mono ?_; rintro e w' ⟨rfl, rfl⟩)
            | (go_at_call 32; refine F2.out.mono ?_; rintro e w' ⟨rfl, rfl⟩))
          all_goals go_ret
          all_goals exact ⟨by simp, Below.refl _ _⟩
        · have hk3 : (k : Int) < 3 := by
            rcases Nat.lt_or_ge k 3 with h | h
            · omega
            · have := H3.out h
              rw [hb] at this
              cases this
          rw [hb] at HE m1 m2
          have e1 := E1.out
          rw [HE.out] at e1
          have E2 := hide e1
          have M1 := hide m1
          have M2 := hide m2
          clear e1 m1 m2 E1
          go_wp2_with (first
            | (go_at_call 21; refine E2.out.mono ?_; rintro e w' ⟨rfl, rfl⟩)
            | (go_at_call 27; refine M1.out.mono ?_; rintro e w' ⟨rfl, rfl⟩)
            | (go_at_call 28; refine M2.out.mono ?_; rintro e w' ⟨rfl, rfl⟩)
            | (go_at_call 31; refine F1.out.mono ?_; rintro e w' ⟨rfl, rfl⟩)
            | (go_at_call 32; refine F2.out.mono ?_; rintro e w' ⟨rfl, rfl⟩))
          all_goals go_ret
          all_goals exact ⟨by simp, Below.refl _ _⟩
end Go.Proofs.Ythhglbocoogefaa
