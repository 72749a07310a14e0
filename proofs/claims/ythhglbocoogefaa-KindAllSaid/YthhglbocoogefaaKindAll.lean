/- The walk of KindAll: whatever text comes in, the call returns true and leaves what was there as it was. Conditions: the text's length is a Go length. -/
import Derived.Test.YthhglbocoogefaaKindD
namespace Go.Proofs.Ythhglbocoogefaa
open Go.RowKit

set_option maxHeartbeats 1000000 in
theorem kindAll_walk (a0 : ByteArray) (w0 : a0.size ≤ maxLen) (w : World) :
    Calls Try.prog 9 #[.string a0] w fun e w' => e = .returned (.bool true) ∧ Below w.heap.size w w' := by
  have B := hide (begun3_any w)
  have CU := hide (cut_any a0 15 w w0 (by omega))
  have hz := cutS_size a0 15
  generalize cutS a0 15 = s at *
  have hm : s.size ≤ maxLen := by unfold maxLen; omega
  have hk : s.size ≤ 1000 := by omega
  have E1 := hide (elem_any s w hk)
  have E2 := hide (relem_any s w hk)
  have C1 := hide (class_any s w hm)
  have C2 := hide (rclass_any s w hm)
  have N1 := hide (name_any s w hm)
  have N2 := hide (rname_any s w hm)
  have M1 := hide (may_any s w hm)
  have M2 := hide (rmay_any s w hm)
  have R1 := hide (ret_any s w hm)
  have R2 := hide (rret_any s w hm)
  have F1 := hide (ref_any s w hm)
  have F2 := hide (rref_any s w hm)
  have A1 := hide (array_any s w hk)
  have A2 := hide (rarray_any s w hk)
  generalize classB s.toList = x1 at *
  generalize nameB s.toList = x2 at *
  generalize mayB s.toList = x3 at *
  generalize retB s.toList = x4 at *
  generalize refB s.toList = x5 at *
  generalize (elemS s).1 = x6 at *
  generalize (elemS s).2 = x7 at *
  generalize arrS s = x8 at *
  go_enter Try.func9, Try.ntmps9
  go_wp2_with (first
    | (go_at_call 19; refine B.out.mono ?_; rintro e w' ⟨rfl, rfl⟩)
    | (go_at_call 20; refine CU.out.mono ?_; rintro e w' ⟨rfl, rfl⟩)
    | (go_at_call 21; refine E1.out.mono ?_; rintro e w' ⟨rfl, rfl⟩)
    | (go_at_call 22; refine E2.out.mono ?_; rintro e w' ⟨rfl, rfl⟩)
    | (go_at_call 23; refine C1.out.mono ?_; rintro e w' ⟨rfl, rfl⟩)
    | (go_at_call 24; refine C2.out.mono ?_; rintro e w' ⟨rfl, rfl⟩)
    | (go_at_call 25; refine N1.out.mono ?_; rintro e w' ⟨rfl, rfl⟩)
    | (go_at_call 26; refine N2.out.mono ?_; rintro e w' ⟨rfl, rfl⟩)
    | (go_at_call 27; refine M1.out.mono ?_; rintro e w' ⟨rfl, rfl⟩)
    | (go_at_call 28; refine M2.out.mono ?_; rintro e w' ⟨rfl, rfl⟩)
    | (go_at_call 29; refine R1.out.mono ?_; rintro e w' ⟨rfl, rfl⟩)
    | (go_at_call 30; refine R2.out.mono ?_; rintro e w' ⟨rfl, rfl⟩)
    | (go_at_call 31; refine F1.out.mono ?_; rintro e w' ⟨rfl, rfl⟩)
    | (go_at_call 32; refine F2.out.mono ?_; rintro e w' ⟨rfl, rfl⟩)
    | (go_at_call 33; refine A1.out.mono ?_; rintro e w' ⟨rfl, rfl⟩)
    | (go_at_call 34; refine A2.out.mono ?_; rintro e w' ⟨rfl, rfl⟩))
  go_ret
  exact ⟨by simp, Below.refl _ _⟩
end Go.Proofs.Ythhglbocoogefaa
