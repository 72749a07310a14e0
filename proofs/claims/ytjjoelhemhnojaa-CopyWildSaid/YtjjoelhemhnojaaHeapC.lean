/- The walks of the heap's New and Words, and of all methods at no heap. -/
import Derived.Test.YtjjoelhemhnojaaHeapB
set_option linter.unusedVariables false
namespace Go.Proofs.Ytjjoelhemhnojaa
open Go.RowKit
open Hp

theorem none_has (w : World) (a : Int) : Calls Try.prog 23 #[.pointer none, .int .i64 a] w fun e w' => e = .returned (.bool false) ∧ w = w' := by
  go_enter Try.func23, Try.ntmps23
  go_wp2_with fail
  go_ret
  exact ⟨rfl, rfl⟩
theorem none_kind (w : World) (a : Int) : Calls Try.prog 24 #[.pointer none, .int .i64 a] w fun e w' => e = .returned (.int .i64 (-1)) ∧ w = w' := by
  have C := hide (none_has w a)
  go_enter Try.func24, Try.ntmps24
  go_wp2_with (go_at_call 23; refine C.out.mono ?_; rintro e w' ⟨rfl, rfl⟩)
  go_ret
  exact ⟨rfl, rfl⟩
theorem none_len (w : World) (a : Int) : Calls Try.prog 25 #[.pointer none, .int .i64 a] w fun e w' => e = .returned (.int .i64 0) ∧ w = w' := by
  have C := hide (none_has w a)
  go_enter Try.func25, Try.ntmps25
  go_wp2_with (go_at_call 23; refine C.out.mono ?_; rintro e w' ⟨rfl, rfl⟩)
  go_ret
  exact ⟨rfl, rfl⟩
theorem none_get (w : World) (a : Int) : Calls Try.prog 27 #[.pointer none, .int .i64 a, .int .i64 0] w fun e w' => e = .returned (.int .i32 0) ∧ w = w' := by
  have C := hide (none_len w a)
  go_enter Try.func27, Try.ntmps27
  go_wp2_with (go_at_call 25; refine C.out.mono ?_; rintro e w' ⟨rfl, rfl⟩)
  go_ret
  exact ⟨rfl, rfl⟩
theorem none_put (w : World) (a : Int) : Calls Try.prog 18 #[.pointer none, .int .i64 a, .int .i64 0, .int .i32 1] w fun e w' => e = .returned (.bool false) ∧ w = w' := by
  have C := hide (none_len w a)
  go_enter Try.func18, Try.ntmps18
  go_wp2_with (go_at_call 25; refine C.out.mono ?_; rintro e w' ⟨rfl, rfl⟩)
  go_ret
  exact ⟨rfl, rfl⟩
theorem none_used (w : World) : Calls Try.prog 26 #[.pointer none] w fun e w' => e = .returned (.int .i64 0) ∧ w = w' := by
  go_enter Try.func26, Try.ntmps26
  go_wp2_with fail
  go_ret
  exact ⟨rfl, rfl⟩
theorem none_size (w : World) : Calls Try.prog 21 #[.pointer none] w fun e w' => e = .returned (.int .i64 0) ∧ w = w' := by
  go_enter Try.func21, Try.ntmps21
  go_wp2_with fail
  go_ret
  exact ⟨rfl, rfl⟩
theorem none_words (w : World) : Calls Try.prog 19 #[.pointer none] w fun e w' => e = .returned (.slice none 0 0) ∧ w = w' := by
  go_enter Try.func19, Try.ntmps19
  go_wp2_with fail
  go_ret
  exact ⟨rfl, rfl⟩
theorem alloc_eq (w : World) {a b : Int} (h : a = b) : w.alloc (.cells #[.int .i64 a, .slice none 0 0, .slice none 0 0] 66) = w.alloc (.cells #[.int .i64 b, .slice none 0 0, .slice none 0 0] 66) := by rw [h]
def clampN (n : Int) : Nat := (min (max n 0) 1048576).toNat
theorem new_any (n : Int) (w : World) (B : Nat) (hB : B ≤ w.heap.size) : Calls Try.prog 16 #[.int .i64 n] w fun e w' => e = .returned (.pointer (some ⟨w.heap.size, 0, none⟩)) ∧ HeapIn w' B (fun k => k = w.heap.size) w.heap.size (clampN n) [] ∧ Keeps (fun _ => False) w w' := by
  have hk : ∀ W : World, W = w.alloc (.cells #[.int .i64 (clampN n : Int), .slice none 0 0, .slice none 0 0] 66) → HeapIn W B (fun k => k = w.heap.size) w.heap.size (clampN n) [] ∧ Keeps (fun _ => False) w W := by
    rintro W rfl
    have hs : (w.alloc (.cells #[.int .i64 (clampN n : Int), .slice none 0 0, .slice none 0 0] 66)).heap.size = w.heap.size + 1 := by simp
    refine ⟨⟨fun o ho => (List.not_mem_nil ho).elim, by simp [flat], by unfold clampN; omega, ⟨hB, rfl⟩, fun k hk => ?_, _, _, heap_alloc_new w _, World.ownsRow_nil _ _ _ _, World.ownsRow_nil _ _ _ _, fun g hg => (by cases hg), fun g hg => (by cases hg)⟩, (Keeps.refl _ w).alloc _⟩
    subst hk
    exact ⟨hB, by rw [hs]; omega⟩
  have hc : (clampN n : Int) = min (max n 0) 1048576 := by unfold clampN; omega
  rw [hc] at hk
  have HK := hide hk
  clear hk
  generalize clampN n = N at *
  go_enter Try.func16, Try.ntmps16
  go_wp2_with fail
  all_goals
    go_ret
    exact ⟨rfl, HK.out _ (alloc_eq w (by omega))⟩
end Go.Proofs.Ytjjoelhemhnojaa
