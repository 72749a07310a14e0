/- The walk of daguerrelaw3.begun: it returns true and leaves the world alone. No conditions. -/
import Derived.Test.YthhglbocoogefaaKindC
namespace Go.Proofs.Ythhglbocoogefaa
open Go.RowKit

theorem b3_0 (w : World) : Calls Try.prog 21 #[.string ⟨#[91, 91, 65, 98]⟩] w fun e w' => e = .returned (.tuple #[.string ⟨#[91, 65, 98]⟩, .bool true]) ∧ w = w' := by
  have h := elem_any ⟨#[91, 91, 65, 98]⟩ w (by decide)
  rw [show elemS ⟨#[91, 91, 65, 98]⟩ = (⟨#[91, 65, 98]⟩, true) from by unfold elemS; rw [ByteArray.toList_eq]; decide] at h
  exact h
theorem b3_1 (w : World) : Calls Try.prog 21 #[.string ⟨#[65, 98]⟩] w fun e w' => e = .returned (.tuple #[.string ⟨#[]⟩, .bool false]) ∧ w = w' := by
  have h := elem_any ⟨#[65, 98]⟩ w (by decide)
  rw [show elemS ⟨#[65, 98]⟩ = (⟨#[]⟩, false) from by unfold elemS; rw [ByteArray.toList_eq]; decide] at h
  exact h
theorem b3_2 (w : World) : Calls Try.prog 23 #[.string ⟨#[65, 98]⟩] w fun e w' => e = .returned (.bool true) ∧ w = w' := by
  have h := class_any ⟨#[65, 98]⟩ w (by decide)
  rw [ByteArray.toList_eq] at h
  exact h
theorem b3_3 (w : World) : Calls Try.prog 23 #[.string ⟨#[65]⟩] w fun e w' => e = .returned (.bool false) ∧ w = w' := by
  have h := class_any ⟨#[65]⟩ w (by decide)
  rw [ByteArray.toList_eq] at h
  exact h
theorem b3_4 (w : World) : Calls Try.prog 25 #[.string ⟨#[97, 98]⟩] w fun e w' => e = .returned (.bool true) ∧ w = w' := by
  have h := name_any ⟨#[97, 98]⟩ w (by decide)
  rw [ByteArray.toList_eq] at h
  exact h
theorem b3_5 (w : World) : Calls Try.prog 25 #[.string ⟨#[36, 105, 110, 105, 116]⟩] w fun e w' => e = .returned (.bool true) ∧ w = w' := by
  have h := name_any ⟨#[36, 105, 110, 105, 116]⟩ w (by decide)
  rw [ByteArray.toList_eq] at h
  exact h
theorem b3_6 (w : World) : Calls Try.prog 25 #[.string ⟨#[65, 98]⟩] w fun e w' => e = .returned (.bool false) ∧ w = w' := by
  have h := name_any ⟨#[65, 98]⟩ w (by decide)
  rw [ByteArray.toList_eq] at h
  exact h
theorem b3_7 (w : World) : Calls Try.prog 27 #[.string ⟨#[91, 91, 73]⟩] w fun e w' => e = .returned (.bool true) ∧ w = w' := by
  have h := may_any ⟨#[91, 91, 73]⟩ w (by decide)
  rw [ByteArray.toList_eq] at h
  exact h
theorem b3_8 (w : World) : Calls Try.prog 27 #[.string ⟨#[91, 91, 91, 73]⟩] w fun e w' => e = .returned (.bool false) ∧ w = w' := by
  have h := may_any ⟨#[91, 91, 91, 73]⟩ w (by decide)
  rw [ByteArray.toList_eq] at h
  exact h
theorem b3_9 (w : World) : Calls Try.prog 29 #[.string ⟨#[86]⟩] w fun e w' => e = .returned (.bool true) ∧ w = w' := by
  have h := ret_any ⟨#[86]⟩ w (by decide)
  rw [ByteArray.toList_eq] at h
  exact h
theorem b3_10 (w : World) : Calls Try.prog 27 #[.string ⟨#[86]⟩] w fun e w' => e = .returned (.bool false) ∧ w = w' := by
  have h := may_any ⟨#[86]⟩ w (by decide)
  rw [ByteArray.toList_eq] at h
  exact h
theorem b3_11 (w : World) : Calls Try.prog 31 #[.string ⟨#[91, 73]⟩] w fun e w' => e = .returned (.bool true) ∧ w = w' := by
  have h := ref_any ⟨#[91, 73]⟩ w (by decide)
  rw [ByteArray.toList_eq] at h
  exact h
theorem b3_12 (w : World) : Calls Try.prog 31 #[.string ⟨#[73]⟩] w fun e w' => e = .returned (.bool false) ∧ w = w' := by
  have h := ref_any ⟨#[73]⟩ w (by decide)
  rw [ByteArray.toList_eq] at h
  exact h
theorem b3_13 (w : World) : Calls Try.prog 33 #[.string ⟨#[73]⟩] w fun e w' => e = .returned (.string ⟨#[91, 73]⟩) ∧ w = w' := by
  have h := array_any ⟨#[73]⟩ w (by decide)
  rw [show arrS ⟨#[73]⟩ = ⟨#[91, 73]⟩ from by unfold arrS; rw [ByteArray.toList_eq]; decide] at h
  exact h
theorem b3_14 (w : World) : Calls Try.prog 33 #[.string ⟨#[91, 91, 73]⟩] w fun e w' => e = .returned (.string ⟨#[]⟩) ∧ w = w' := by
  have h := array_any ⟨#[91, 91, 73]⟩ w (by decide)
  rw [show arrS ⟨#[91, 91, 73]⟩ = ⟨#[]⟩ from by unfold arrS; rw [ByteArray.toList_eq]; decide] at h
  exact h
set_option maxHeartbeats 1000000 in
theorem begun3_any (w : World) : Calls Try.prog 19 #[] w fun e w' => e = .returned (.bool true) ∧ w = w' := by
  have B0 := hide (b3_0 w)
  have B1 := hide (b3_1 w)
  have B2 := hide (b3_2 w)
  have B3 := hide (b3_3 w)
  have B4 := hide (b3_4 w)
  have B5 := hide (b3_5 w)
  have B6 := hide (b3_6 w)
  have B7 := hide (b3_7 w)
  have B8 := hide (b3_8 w)
  have B9 := hide (b3_9 w)
  have B10 := hide (b3_10 w)
  have B11 := hide (b3_11 w)
  have B12 := hide (b3_12 w)
  have B13 := hide (b3_13 w)
  have B14 := hide (b3_14 w)
  go_enter Try.func19, Try.ntmps19
  go_wp2_with (first
    | (go_at_call_of 21 (Value.string ⟨#[91, 91, 65, 98]⟩); refine B0.out.mono ?_; rintro e w' ⟨rfl, rfl⟩)
    | (go_at_call_of 21 (Value.string ⟨#[65, 98]⟩); refine B1.out.mono ?_; rintro e w' ⟨rfl, rfl⟩)
    | (go_at_call_of 23 (Value.string ⟨#[65, 98]⟩); refine B2.out.mono ?_; rintro e w' ⟨rfl, rfl⟩)
    | (go_at_call_of 23 (Value.string ⟨#[65]⟩); refine B3.out.mono ?_; rintro e w' ⟨rfl, rfl⟩)
    | (go_at_call_of 25 (Value.string ⟨#[97, 98]⟩); refine B4.out.mono ?_; rintro e w' ⟨rfl, rfl⟩)
    | (go_at_call_of 25 (Value.string ⟨#[36, 105, 110, 105, 116]⟩); refine B5.out.mono ?_; rintro e w' ⟨rfl, rfl⟩)
    | (go_at_call_of 25 (Value.string ⟨#[65, 98]⟩); refine B6.out.mono ?_; rintro e w' ⟨rfl, rfl⟩)
    | (go_at_call_of 27 (Value.string ⟨#[91, 91, 73]⟩); refine B7.out.mono ?_; rintro e w' ⟨rfl, rfl⟩)
    | (go_at_call_of 27 (Value.string ⟨#[91, 91, 91, 73]⟩); refine B8.out.mono ?_; rintro e w' ⟨rfl, rfl⟩)
    | (go_at_call_of 29 (Value.string ⟨#[86]⟩); refine B9.out.mono ?_; rintro e w' ⟨rfl, rfl⟩)
    | (go_at_call_of 27 (Value.string ⟨#[86]⟩); refine B10.out.mono ?_; rintro e w' ⟨rfl, rfl⟩)
    | (go_at_call_of 31 (Value.string ⟨#[91, 73]⟩); refine B11.out.mono ?_; rintro e w' ⟨rfl, rfl⟩)
    | (go_at_call_of 31 (Value.string ⟨#[73]⟩); refine B12.out.mono ?_; rintro e w' ⟨rfl, rfl⟩)
    | (go_at_call_of 33 (Value.string ⟨#[73]⟩); refine B13.out.mono ?_; rintro e w' ⟨rfl, rfl⟩)
    | (go_at_call_of 33 (Value.string ⟨#[91, 91, 73]⟩); refine B14.out.mono ?_; rintro e w' ⟨rfl, rfl⟩))
  go_ret
  exact ⟨rfl, rfl⟩
end Go.Proofs.Ythhglbocoogefaa
