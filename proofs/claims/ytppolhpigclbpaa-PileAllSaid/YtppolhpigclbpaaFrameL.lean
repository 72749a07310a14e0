/- The walk of the frame laws' first look. -/
import Derived.Test.YtppolhpigclbpaaFrameK
set_option linter.unusedVariables false
namespace Go.Proofs.Ytppolhpigclbpaa
open Go.RowKit

set_option maxHeartbeats 4000000 in
set_option maxRecDepth 100000 in
theorem begun15_any (w : World) : Calls Try.prog 22 #[] w fun e w' => e = .returned (.bool true) ∧ Below w.heap.size w w' := by
  have s0 := sees_new w [(false, 5), (true, 4)] #[.bool false, .int .i32 5, .bool true, .int .i32 4] 2 rfl rfl
  have k0 := (Keeps.refl (fun _ => False) w).alloc (.cells #[.bool false, .int .i32 5, .bool true, .int .i32 4] 39)
  have N0 := hide (Fr.new (k0.below (Nat.le_refl _) fun _ => False.elim) 7 3 2 (C := w.heap.size + 1) (by simp) (c := 2) s0 (by omega) (by omega) (by omega))
  rw [show (w.alloc (.cells #[.bool false, .int .i32 5, .bool true, .int .i32 4] 39)).heap.size = w.heap.size + 1 from by simp] at N0
  clear s0 k0
  go_enter Try.func22, Try.ntmps22
  go_wp2_with fail
  refine N0.out.mono ?_
  rintro e w1 ⟨rfl, f1, _⟩
  have L1 := hide (f1.load (i := 2) (v := (false, 0)) rfl)
  clear f1 N0
  go_wp2_with fail
  refine L1.out.mono ?_
  rintro e w2 ⟨rfl, f2, _⟩
  -- v lies in block w2.heap.size
  have k3 := (Keeps.refl (fun _ => False) w2).alloc (.cells #[.bool false, .int .i32 0] 39)
  have f3 := f2.none_ k3
  have sv := f2.safe_new (w2 := w2.alloc (.cells #[.bool false, .int .i32 0] 39)) (by simp)
  have hv := heap_alloc_new w2 (Go.Obj.cells #[.bool false, .int .i32 0] 39)
  -- what is pushed lies in the block behind it
  have k4 := (Keeps.refl (fun _ => False) (w2.alloc (.cells #[.bool false, .int .i32 0] 39))).alloc (.cells #[.bool false, .int .i32 1, .bool true, .int .i32 0] 39)
  have f4 := f3.none_ k4
  have sv4 := sv.more k4.size
  have hv4 := (k4.block _ sv.2 id).trans hv
  have s4 := sees_new (w2.alloc (.cells #[.bool false, .int .i32 0] 39)) [(false, 1), (true, 0)] #[.bool false, .int .i32 1, .bool true, .int .i32 0] 2 rfl rfl
  have P4 := hide (f4.push (c := 2) s4 (fun e => by cases e) (by simp))
  rw [show (w2.alloc (.cells #[.bool false, .int .i32 0] 39)).heap.size = w2.heap.size + 1 from by simp] at P4
  have SV4 := hide sv4
  have HV4 := hide hv4
  clear L1 f2 k3 f3 sv hv k4 f4 sv4 hv4 s4
  go_wp2_with fail
  refine P4.out.mono ?_
  rintro e w5 ⟨rfl, f5, k5⟩
  have sv5 := SV4.out.grown k5.size
  have hv5 := SV4.out.kept k5 HV4.out
  have k6 := (Keeps.refl (fun _ => False) w5).alloc (.cells #[.bool false, .int .i32 0] 39)
  have f6 := f5.none_ k6
  have sv6 := sv5.more k6.size
  have hv6 := (k6.block _ sv5.2 id).trans hv5
  have P6 := hide (f6.pushNo (some ⟨w5.heap.size, 0, none⟩) 1 1 (by simp))
  have SV6 := hide sv6
  have HV6 := hide hv6
  clear f5 k5 sv5 hv5 k6 f6 sv6 hv6 P4 SV4 HV4
  go_wp2_with fail
  refine P6.out.mono ?_
  rintro e w7 ⟨rfl, f7, k7⟩
  have sv7 := SV6.out.more k7.size
  have hv7 := (k7.block _ SV6.out.2 id).trans HV6.out
  have R7 := hide (f7.refs (by unfold inI32; decide))
  have F7 := hide f7
  have SV7 := hide sv7
  have HV7 := hide hv7
  clear f7 k7 sv7 hv7 SV6 HV6 P6
  generalize grownF (fun k => w.heap.size + 1 ≤ k ∧ k < w1.heap.size) ((w2.alloc (.cells #[.bool false, .int .i32 0] 39)).alloc (.cells #[.bool false, .int .i32 1, .bool true, .int .i32 0] 39)) w5 = F at *
  rw [show nums ([(false, 5), (true, 4)] ++ List.replicate (3 - 2) (false, 0) ++ ([] ++ [(false, 1), (true, 0)])) = [4, 0] from rfl, show ([4, 0] : List Int).length = 2 from rfl, show ([4, 0] : List Int).map (fun n => Value.int .i64 (n - 1)) = [.int .i64 3, .int .i64 (-1)] from rfl] at R7
  go_wp2_with fail
  refine R7.out.mono ?_
  rintro e w8 ⟨A8, c8, rfl, o8, f8, k8⟩
  have sv8 := SV7.out.more k8.size
  have hv8 := (k8.block _ SV7.out.2 id).trans HV7.out
  have hr8 : ∀ g, (Value.slice A8 2 c8).ownBlock = some g → ¬ F g := fun g hg hf => by
    have h1 := ownBlock_ge o8 g hg
    have h2 := (F7.out.fr.low g hf).2
    omega
  have k9 := (Keeps.refl (fun _ => False) w8).alloc (.cells #[.int .i64 9, .int .i64 (-1)] 3)
  have f9 := f8.none_ k9
  have sv9 := sv8.more k9.size
  have hv9 := (k9.block _ sv8.2 id).trans hv8
  have o9 := Safe.row o8 (fun _ _ => id) k9
  have s9 := new_sees w8 #[.int .i64 9, .int .i64 (-1)] 3
  have S9 := hide (f9.setRefs (C := w8.heap.size + 1) (n := 2) (c := 2) (A := some ⟨w8.heap.size, 0, none⟩) (xs := [9, -1]) s9 (by simp) (fun b o e hf => by cases e; have := (f8.fr.low _ hf).2; omega) rfl (by decide))
  have SV9 := hide sv9
  have HV9 := hide hv9
  have HR9 := hide hr8
  have HO9 := hide o9
  clear o8 f8 k8 sv8 hv8 hr8 k9 f9 sv9 hv9 o9 s9 R7 F7 SV7 HV7
  rw [show turn ([(false, 5), (true, 4)] ++ List.replicate (3 - 2) (false, 0)) (([9, -1] : List Int).map (· + 1)) = [(false, 5), (true, 10), (false, 0)] from rfl, show turn ([] ++ [(false, 1), (true, 0)]) ((([9, -1] : List Int).map (· + 1)).drop (nums ([(false, 5), (true, 4)] ++ List.replicate (3 - 2) (false, 0))).length) = [(false, 1), (true, 0)] from rfl] at S9
  go_wp2_with fail
  refine S9.out.mono ?_
  rintro e w10 ⟨rfl, f10, k10⟩
  have sv10 := SV9.out.more k10.size
  have hv10 := SV9.out.kept k10 HV9.out
  have o10 := Safe.row HO9.out HR9.out k10
  have L10 := hide (f10.load (i := 1) (v := (true, 10)) rfl)
  have SV10 := hide sv10
  have HV10 := hide hv10
  have HO10 := hide o10
  clear f10 k10 sv10 hv10 o10 S9 SV9 HV9 HO9
  go_wp2_with fail
  refine L10.out.mono ?_
  rintro e w11 ⟨rfl, f11, k11⟩
  have k12 := k11.alloc (.cells #[.bool true, .int .i32 10] 39)
  have f12 := f11.none_ ((Keeps.refl (fun _ => False) w11).alloc (.cells #[.bool true, .int .i32 10] 39))
  have sv12 := SV10.out.more k12.size
  have hv12 := (k12.block _ SV10.out.2 id).trans HV10.out
  have o12 := Safe.row HO10.out (fun _ _ => id) k12
  have sw12 := f11.safe_new (w2 := w11.alloc (.cells #[.bool true, .int .i32 10] 39)) (by simp)
  have hw12 := heap_alloc_new w11 (Go.Obj.cells #[.bool true, .int .i32 10] 39)
  have P12 := hide (f12.pop (a := 0) (n := 2) rfl)
  have SV12 := hide sv12
  have HV12 := hide hv12
  have HO12 := hide o12
  have SW12 := hide sw12
  have HW12 := hide hw12
  clear f11 k11 k12 f12 sv12 hv12 o12 sw12 hw12 L10 SV10 HV10 HO10
  go_wp2_with fail
  refine P12.out.mono ?_
  rintro e w13 ⟨v13, rfl, o13, f13, k13⟩
  have hv13 := SV12.out.kept k13 HV12.out
  have hw13 := SW12.out.kept k13 HW12.out
  have or13 := Safe.row HO12.out HR9.out k13
  have D13 := hide (depth_in f13.fr)
  have M13 := hide (method_in f13.fr)
  have C13 := hide (pc_in f13.fr)
  have B13 := hide f13.below
  obtain ⟨g8, c8', hg8, _⟩ := or13.form (by omega)
  obtain ⟨g9, c9, rfl, _⟩ := o13.form (by omega)
  cases hg8
  have e1 := cell_of_row w13 _ 0 _ 39 (0, 0) hv13
  have e2 := cell_of_row w13 _ 1 _ 39 (0, 0) hv13
  have e3 := cell_of_row w13 _ 1 _ 39 (0, 0) hw13
  have e4 := or13.cellAt 0 (by omega)
  have e5 := or13.cellAt 1 (by omega)
  have e6 := o13.cellAt 1 (by omega)
  have e7 := o13.cellAt 2 (by omega)
  rw [show (#[Value.bool false, .int .i32 0] : Array Value)[0]? = some (.bool false) from rfl] at e1
  rw [show (#[Value.bool false, .int .i32 0] : Array Value)[1]? = some (.int .i32 0) from rfl] at e2
  rw [show (#[Value.bool true, .int .i32 10] : Array Value)[1]? = some (.int .i32 10) from rfl] at e3
  rw [show ([Value.int .i64 3, .int .i64 (-1)] : List Value)[0]? = some (.int .i64 3) from rfl] at e4
  rw [show ([Value.int .i64 3, .int .i64 (-1)] : List Value)[1]? = some (.int .i64 (-1)) from rfl] at e5
  rw [show (vCells (([(false, 1), (true, 0)] : List V).drop 0))[1]? = some (.int .i32 1) from rfl] at e6
  rw [show (vCells (([(false, 1), (true, 0)] : List V).drop 0))[2]? = some (.bool true) from rfl] at e7
  rw [show ((([(false, 1), (true, 0)] : List V).take 0).length : Int) = 0 from rfl] at D13
  clear o13 f13 k13 hv13 hw13 or13 P12 SV12 HV12 HO12 SW12 HW12 HR9
  go_wp2_with (first
    | (go_at_call 37; (with_reducible refine M13.out.mono ?_); rintro e w' ⟨rfl, rfl⟩)
    | (go_at_call 36; (with_reducible refine C13.out.mono ?_); rintro e w' ⟨rfl, rfl⟩)
    | (go_at_call 35; (with_reducible refine D13.out.mono ?_); rintro e w' ⟨rfl, rfl⟩))
  go_ret
  exact ⟨rfl, B13.out⟩
end Go.Proofs.Ytppolhpigclbpaa
