/- The walk of the law CopyNone. -/
import Derived.Test.YtjjoelhemhnojaaCopyD
set_option linter.unusedVariables false
namespace Go.Proofs.Ytjjoelhemhnojaa
open Go.RowKit Go.Instr
open Hp Cp

set_option maxHeartbeats 2000000 in
theorem copyNone_walk (w : World) : Calls Try.prog 12 #[] w fun e w' => e = .returned (.bool true) ∧ Below w.heap.size w w' := by
  have hka : Keeps (fun _ => False) w (w.alloc (.cells #[.int .i64 1] 3)) := (Keeps.refl _ w).alloc _
  have hsz : (w.alloc (.cells #[.int .i64 1] 3)).heap.size = w.heap.size + 1 := by simp
  have n0 := Solo.new (W0 := w) (w := w.alloc (.cells #[.int .i64 1] 3)) 20 (hka.below (Nat.le_refl _) fun _ => False.elim)
  rw [show clampN 20 = 20 from rfl, hsz] at n0
  have N0 := hide n0
  have C0 := hide (none_copy (w.alloc (.cells #[.int .i64 1] 3)) (.func (.func 32) #[] #[]) (.slice (some ⟨w.heap.size, 0, none⟩) 1 1))
  clear hka hsz n0
  go_enter Try.func12, Try.ntmps12
  go_upto_region 3 with (first | (go_at_call 31; (with_reducible refine C0.out.mono ?_); rintro e w' ⟨rfl, rfl⟩) | (go_at_call 16; (with_reducible refine N0.out.mono ?_); rintro e w1 ⟨rfl, hin1⟩; have HIN1 := hide hin1; clear hin1))
  have M1 := hide (HIN1.out.make 2 1 rfl (by simp [flat]))
  rw [show (flat []).length = 0 from rfl] at M1
  clear HIN1
  go_wp2_with fail
  refine M1.out.mono ?_
  rintro e w2 ⟨rfl, hin2⟩
  have M2 := hide (hin2.make 2 0 rfl (by simp [flat]))
  rw [show (flat ([] ++ [(2, List.replicate 1 0)])).length = 3 from rfl] at M2
  clear hin2
  go_wp2_with fail
  refine M2.out.mono ?_
  rintro e w3 ⟨rfl, hin3⟩
  have M4 := hide (hin3.put 0 0 4 (by decide +kernel))
  rw [show Hp.put ([] ++ [(2, List.replicate 1 0)] ++ [(2, List.replicate 0 0)]) 0 0 4 = [(2, [4]), (2, [])] from rfl] at M4
  clear hin3
  go_wp2_with fail
  refine M4.out.mono ?_
  rintro e w5 ⟨rfl, hin5⟩
  have hka : Keeps (fun _ => False) w5 (w5.alloc (.cells #[.int .i64 0] 3)) := (Keeps.refl _ w5).alloc _
  have hs5 := new_sees w5 #[.int .i64 0] 3
  have hsz5 : (w5.alloc (.cells #[.int .i64 0] 3)).heap.size = w5.heap.size + 1 := by simp
  have m5 := (hin5.keeps hka).copy (R := fun _ _ => false) (roots := [0]) (cap := 1) (by unfold inI32; decide +kernel) (by simpa using hs5) (by omega) .nilFunc (.inl ⟨rfl, fun _ _ => rfl⟩)
  rw [show copyO [(2, [4]), (2, [])] (fun _ _ => false) [0] = [(2, [4])] from by decide +kernel, hsz5] at m5
  have M5 := hide m5
  clear hin5 hka hs5 m5 hsz5
  go_wp2_with fail
  refine M5.out.mono ?_
  rintro e w6 ⟨A, c, rfl, _, _, hg6, hin6, hk6⟩
  have B := hide (begun14_any w6)
  have HG6 := hide hg6
  clear hg6 hin6 hk6 N0 M1 M2 M4 M5
  go_wp2_with fail
  refine B.out.mono ?_
  rintro e w7 ⟨rfl, hb7⟩
  have hg7 := HG6.out.keeps (keeps_of_below hb7)
  have L1 := hide (none_live w7 (.func (.func 32) #[] #[]) (.slice none 0 0))
  have K1 := hide hg7.used
  have K5 := hide (hg7.get 0 0)
  have HB := hide hg7.below
  rw [show (flat [(2, [4])]).length = 3 from rfl] at K1
  rw [show getO [(2, [4])] 0 0 = 4 from rfl] at K5
  clear hb7 hg7 B HG6
  go_wp2_with (first
    | (go_at_call 36; (with_reducible refine L1.out.mono ?_); rintro e w' ⟨rfl, rfl⟩)
    | (go_at_call 26; (with_reducible refine K1.out.mono ?_); rintro e w' ⟨rfl, rfl⟩)
    | (go_at_call 27; (with_reducible refine K5.out.mono ?_); rintro e w' ⟨rfl, rfl⟩))
  go_ret
  exact ⟨rfl, HB.out⟩
end Go.Proofs.Ytjjoelhemhnojaa
