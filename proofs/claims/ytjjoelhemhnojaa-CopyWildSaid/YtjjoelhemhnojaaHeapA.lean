/- The walks of the heap's small methods. -/
import Derived.Test.YtjjoelhemhnojaaRows
import Derived.Test.YtjjoelhemhnojaaHeapMem
import Derived.Deep.RegionWith
set_option linter.unusedVariables false
namespace Go.Proofs.Ytjjoelhemhnojaa
open Go.RowKit
open Hp

theorem ret_int {k : IntKind} {a b : Int} (h : a = b) : Ending.returned (.int k a) = .returned (.int k b) := by rw [h]
theorem ret_bool {a b : Bool} (h : a = b) : Ending.returned (.bool a) = .returned (.bool b) := by rw [h]
def mayO (k n : Int) : Bool := decide (0 ≤ k) && decide (k ≤ 10000) && decide (0 ≤ n) && decide (n ≤ 1000)
theorem may_any (k n : Int) (w : World) : Calls Try.prog 37 #[.int .i64 k, .int .i64 n] w fun e w' => e = .returned (.bool (mayO k n)) ∧ w = w' := by
  have hm : mayO k n = (decide (0 ≤ k) && decide (k ≤ 10000) && decide (0 ≤ n) && decide (n ≤ 1000)) := rfl
  generalize mayO k n = r at *
  cases h1 : decide (0 ≤ k) <;> cases h2 : decide (k ≤ 10000) <;> cases h3 : decide (0 ≤ n) <;> cases h4 : decide (n ≤ 1000)
  all_goals
    rw [h1, h2, h3, h4] at hm
    subst hm
    simp only [decide_eq_true_eq, decide_eq_false_iff_not] at h1 h2 h3 h4
    go_enter Try.func37, Try.ntmps37
    go_wp2_with fail
    go_ret
    exact ⟨rfl, rfl⟩
section
variable {w : World} {B p N : Nat} {F : Nat → Prop} {objs : List Hp.Ob}
theorem size_in (h : HeapIn w B F p N objs) : Calls Try.prog 21 #[.pointer (some ⟨p, 0, none⟩)] w fun e w' => e = .returned (.int .i64 (N : Int)) ∧ w = w' := by
  obtain ⟨A, c, A2, c2, h0, h1, h2, hw, hs, hc⟩ := h.reads
  clear hw hs h hc
  go_enter Try.func21, Try.ntmps21
  go_wp2_with fail
  go_ret
  exact ⟨rfl, rfl⟩
theorem used_in (h : HeapIn w B F p N objs) : Calls Try.prog 26 #[.pointer (some ⟨p, 0, none⟩)] w fun e w' => e = .returned (.int .i64 ((flat objs).length : Int)) ∧ w = w' := by
  obtain ⟨A, c, A2, c2, h0, h1, h2, hw, hs, hc⟩ := h.reads
  clear hw hs h hc
  go_enter Try.func26, Try.ntmps26
  go_wp2_with fail
  go_ret
  exact ⟨rfl, rfl⟩
theorem has_in (h : HeapIn w B F p N objs) (at' : Int) : Calls Try.prog 23 #[.pointer (some ⟨p, 0, none⟩), .int .i64 at'] w fun e w' => e = .returned (.bool (lookO objs at').isSome) ∧ w = w' := by
  obtain ⟨A, c, A2, c2, h0, h1, h2, hw, hs, hc⟩ := h.reads
  have hle := h.le
  have hmost := h.most
  cases hl : lookO objs at' with
  | some o =>
    obtain ⟨n, rfl, hle', hm, _⟩ := look_some _ hl
    obtain ⟨b, off, u, hA, hb, hu, hcell⟩ := hs.at_ (k := n) (by omega)
    rw [List.getElem?_map, hm] at hu
    cases hu
    subst hA
    generalize (flat objs).length = L at *
    clear hw hs h hc hl hm
    go_enter Try.func23, Try.ntmps23
    go_wp2_with fail
    go_ret
    exact ⟨rfl, rfl⟩
  | none =>
    rcases look_none _ hl with hn | hn | ⟨n, rfl, hm⟩
    · generalize (flat objs).length = L at *
      clear hw hs h hc hl
      go_enter Try.func23, Try.ntmps23
      go_wp2_with fail
      go_ret
      exact ⟨rfl, rfl⟩
    · generalize (flat objs).length = L at *
      clear hw hs h hc hl
      go_enter Try.func23, Try.ntmps23
      go_wp2_with fail
      go_ret
      exact ⟨rfl, rfl⟩
    · have hlt : n < (flat objs).length := by
        rw [← marks_length]
        exact (List.getElem?_eq_some_iff.1 hm).1
      obtain ⟨b, off, u, hA, hb, hu, hcell⟩ := hs.at_ (k := n) hlt
      rw [List.getElem?_map, hm] at hu
      cases hu
      subst hA
      generalize (flat objs).length = L at *
      clear hw hs h hc hl hm
      go_enter Try.func23, Try.ntmps23
      go_wp2_with fail
      go_ret
      exact ⟨rfl, rfl⟩
end
end Go.Proofs.Ytjjoelhemhnojaa
