/- The walk of the law FrameNone. -/
import Derived.Test.YtppolhpigclbpaaFrameL
set_option linter.unusedVariables false
namespace Go.Proofs.Ytppolhpigclbpaa
open Go.RowKit

set_option maxHeartbeats 2000000 in
theorem frameNone_walk (w : World) : Calls Try.prog 10 #[] w fun e w' => e = .returned (.bool true) ∧ Below w.heap.size w w' := by
  have G0 := hide (none_goto w 3)
  have C0 := hide (none_clear w)
  have S0 := hide (none_setrefs (w.alloc (.cells #[.int .i64 1] 3)) (some ⟨w.heap.size, 0, none⟩) 1 1 (by omega))
  have k1 := (Keeps.refl (fun _ => False) w).alloc (.cells #[.int .i64 1] 3)
  have K1 := hide k1
  have L0 := hide (none_load (w.alloc (.cells #[.int .i64 1] 3)) 0)
  clear k1
  go_enter Try.func10, Try.ntmps10
  go_wp2_with (first
    | (go_at_call 34; (with_reducible refine G0.out.mono ?_); rintro e w' ⟨rfl, rfl⟩)
    | (go_at_call 33; (with_reducible refine C0.out.mono ?_); rintro e w' ⟨rfl, rfl⟩)
    | (go_at_call 27; (with_reducible refine S0.out.mono ?_); rintro e w' ⟨rfl, rfl⟩)
    | (go_at_call 29; (with_reducible refine L0.out.mono ?_); rintro e w2 ⟨rfl, k2⟩; have K2 := hide (K1.out.trans (k2.alloc (.cells #[.bool false, .int .i32 0] 39))); have P2 := hide (none_pop (w2.alloc (.cells #[.bool false, .int .i32 0] 39)) 0); have B2 := hide (begun15_any (w2.alloc (.cells #[.bool false, .int .i32 0] 39))); clear k2)
    | (go_at_call 30; (with_reducible refine P2.out.mono ?_); rintro e w' ⟨rfl, rfl⟩)
    | (go_at_call 22; (with_reducible refine B2.out.mono ?_); rintro e w3 ⟨rfl, b3⟩; have B3 := hide (below_trans (K2.out.below (Nat.le_refl _) fun _ => False.elim) b3); have S3 := hide (none_store w3 0 (false, 0)); clear b3)
    | (go_at_call 32; (with_reducible refine S3.out.mono ?_); rintro e w4 ⟨rfl, k4⟩; have B4 := hide (below_keeps B3.out k4); have P4 := hide (none_push w4 none 0 0); clear k4)
    | (go_at_call 25; (with_reducible refine P4.out.mono ?_); rintro e w5 ⟨rfl, k5⟩; have B5 := hide (below_keeps B4.out k5); have M5 := hide (none_method w5); have Q5 := hide (none_pc w5); have D5 := hide (none_depth w5); have R5 := hide (none_refs w5); clear k5)
    | (go_at_call 37; (with_reducible refine M5.out.mono ?_); rintro e w' ⟨rfl, rfl⟩)
    | (go_at_call 36; (with_reducible refine Q5.out.mono ?_); rintro e w' ⟨rfl, rfl⟩)
    | (go_at_call 35; (with_reducible refine D5.out.mono ?_); rintro e w' ⟨rfl, rfl⟩)
    | (go_at_call 26; (with_reducible refine R5.out.mono ?_); rintro e w' ⟨rfl, rfl⟩))
  go_ret
  exact ⟨rfl, B5.out⟩
end Go.Proofs.Ytppolhpigclbpaa
