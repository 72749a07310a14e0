/- The walk of the heap's Make. -/
import Derived.Test.YtjjoelhemhnojaaHeapD
import Derived.Test.YtjjoelhemhnojaaZeros
set_option linter.unusedVariables false
namespace Go.Proofs.Ytjjoelhemhnojaa
open Go.RowKit
open Hp

theorem quiet_l {P : Program} {f : FuncId} {args : Array Value} {w : World} {n : Nat} {v : Value}
    (h : Calls P f args (w.drewN n) fun e w' => e = .returned v ∧ w.drewN n = w') : Calls P f args (w.drewN n) fun e w'' => e = .returned v ∧ ∃ m, w'' = w.drewN m :=
  h.mono fun _ _ ⟨he, hm⟩ => ⟨he, n, hm.symm⟩
theorem none_make (w : World) (k n : Int) : Calls Try.prog 17 #[.pointer none, .int .i64 k, .int .i64 n] w fun e w' => e = .returned (.tuple #[.int .i64 (-1), .bool false]) ∧ Keeps (fun _ => False) w w' := by
  go_enter Try.func17, Try.ntmps17
  go_wp2
  go_quiet (fail)
  go_wp2
  go_ret2
  exact ⟨rfl, (Keeps.refl _ w).drewN _⟩
theorem make_no {w : World} {B p N : Nat} {F : Nat → Prop} {objs : List Hp.Ob} (h : HeapIn w B F p N objs) (k n : Int) (hno : mayO k n = false ∨ (N : Int) - (flat objs).length < n + 2) (hn : n ≤ 100000000 ∧ -100000000 ≤ n) :
    Calls Try.prog 17 #[.pointer (some ⟨p, 0, none⟩), .int .i64 k, .int .i64 n] w fun e w' => e = .returned (.tuple #[.int .i64 (-1), .bool false]) ∧ Keeps (fun _ => False) w w' := by
  obtain ⟨A, c, A2, c2, h0, h1, h2, hw, hs, hc⟩ := h.reads
  have hle := h.le
  have hmost := h.most
  have hm := fun W => may_any k n W
  generalize (flat objs).length = L at *
  clear hw hs h hc
  generalize mayO k n = r at *
  have C := fun W => hide (hm W)
  clear hm
  cases r
  · clear hno
    go_enter Try.func17, Try.ntmps17
    go_wp2
    go_quiet ((go_at_call 37; exact quiet_l (C _).out))
    go_wp2
    go_ret2
    exact ⟨rfl, (Keeps.refl _ w).drewN _⟩
  · have hno : (N : Int) - L < n + 2 := by simpa using hno
    go_enter Try.func17, Try.ntmps17
    go_wp2
    go_quiet ((go_at_call 37; exact quiet_l (C _).out))
    go_wp2
    go_ret2
    exact ⟨rfl, (Keeps.refl _ w).drewN _⟩
end Go.Proofs.Ytjjoelhemhnojaa
