/- The walks of slices.Clone and of the heap's Words. -/
import Derived.Test.YtjjoelhemhnojaaHeapC
set_option linter.unusedVariables false
namespace Go.Proofs.Ytjjoelhemhnojaa
open Go.RowKit
open Hp

theorem Try.info21 : (Try.prog.info? 21).map (fun i => (i.zero, i.size, i.bytes)) = some (some (.int .i32 0), 1, 4) := by kernel_rfl
theorem Try.info4 : (Try.prog.info? 4).map (fun i => (i.zero, i.size, i.bytes)) = some (some (.bool false), 1, 1) := by kernel_rfl
theorem ownsRow_less {w : World} {base base' : Nat} {e : TypeId} {size n : Nat} {v : Value} {xs : List Value} (h : w.ownsRow base e size v n xs) (hb : base' ≤ base) : w.ownsRow base' e size v n xs := by
  obtain ⟨h1, h2⟩ := h
  refine ⟨h1, ?_⟩
  rcases h2 with h2 | ⟨g, cap, cur, hv, hg, h3⟩
  · exact .inl h2
  · exact .inr ⟨g, cap, cur, hv, Nat.le_trans hb hg, h3⟩
theorem Keeps.of_grown {F : Nat → Prop} {w w' : World} {row : Option Nat} (hg : w.grownBy w' row) (hr : ∀ g, row = some g → g < w.heap.size → F g) : Keeps F w w' := (Keeps.refl F w).grown hg hr
theorem clone_any (w : World) (B : Nat) (hB : B ≤ w.heap.size) (A : Option Addr) (n c : Nat) (xs : List Int) (hs : Sees w B A n (xs.map (Value.int .i32))) (hc : A = none → c = 0) (hn : n ≤ 2000000000) : Calls Try.prog 38 #[.slice A n c] w fun e w' =>
    ∃ v, e = .returned v ∧ w'.ownsRow w.heap.size 21 1 v n (xs.map (Value.int .i32)) ∧ Keeps (fun _ => False) w w' := by
  rcases A with _ | ad
  · obtain rfl := hc rfl
    have h0 : n = 0 := by
      rcases Nat.eq_zero_or_pos n with h | h
      · exact h
      · obtain ⟨b, off, hA, _⟩ := hs.2 h; cases hA
    subst h0
    have hx : xs = [] := by simpa using hs.1
    subst hx
    clear hs hc
    go_enter Try.func38, Try.ntmps38
    go_wp2_with fail
    rw [Go.Lib.run_eql_slice_nil w 31 21 _ _ _ _ _ Try.underlying31]
    go_simp
    go_wp2_with fail
    go_ret
    exact ⟨_, rfl, World.ownsRow_nil _ _ _ _, Keeps.refl _ _⟩
  · have HS := hide hs
    clear hs hc
    go_enter Try.func38, Try.ntmps38
    obtain ⟨i0, hi0, hz0, hz1, hz2⟩ := info_parts Try.info21
    have HI := hide hi0
    have HZ0 := hide hz0
    have HZ1 := hide hz1
    have HZ2 := hide hz2
    clear hi0 hz0 hz1 hz2
    go_wp2_with fail
    rw [Go.Lib.run_eql_slice_nil w 31 21 _ _ _ _ _ Try.underlying31]
    have hown := World.ownsRow_lit (base := w.heap.size) (e := 21) (size := 1) w #[] 0 (Nat.le_refl _) (by unfold maxLen; omega) rfl
    have hg0 : Keeps (fun _ => False) w (w.alloc (.cells #[] 21)) := (Keeps.refl _ w).alloc _
    have hs1 : w.heap.size ≤ (w.alloc (.cells #[] 21)).heap.size := hg0.size
    have hone : ∀ u ∈ xs.map (Value.int .i32), u.oneCell' = true := by
      intro u hu
      obtain ⟨x, _, rfl⟩ := List.mem_map.1 hu
      rfl
    have hsee := HS.out.alloc hB (.cells #[] 21)
    go_wp2_with (at_builtin; refine wpList_append_sees _ rfl (.tmp 5) (.tmp 6) 31 rfl w.heap.size 21 i0 _ 4 Try.underlying31 HI.out HZ0.out HZ1.out HZ2.out rfl _ 0 [] rfl hown B _ n c _ rfl hsee (fun e => nomatch e) hone (by unfold maxLen; omega) (by omega) hs1 ?_; intro v2 w2 hown2 hg2 hat2)
    go_ret
    refine ⟨_, rfl, by simpa using hown2, hg0.grown hg2 fun g hg hlt => ?_⟩
    have := Option.some.inj (show some w.heap.size = some g from hg)
    omega
theorem words_in {w : World} {B p N : Nat} {F : Nat → Prop} {objs : List Hp.Ob} (h : HeapIn w B F p N objs) : Calls Try.prog 19 #[.pointer (some ⟨p, 0, none⟩)] w fun e w' =>
    ∃ v, e = .returned v ∧ w'.ownsRow w.heap.size 21 1 v (flat objs).length ((flat objs).map (Value.int .i32)) ∧ Keeps (fun _ => False) w w' := by
  obtain ⟨A, c, A2, c2, h0, h1, h2, hw, hs, hc⟩ := h.reads
  have hle := h.le
  have hmost := h.most
  have C := hide (clone_any w w.heap.size (Nat.le_refl _) A (flat objs).length c _ hw hc (by omega))
  generalize (flat objs).map (Value.int .i32) = xs at *
  generalize (flat objs).length = L at *
  clear hw hs h hc
  go_enter Try.func19, Try.ntmps19
  go_wp2_with (go_at_call 38; refine C.out.mono ?_; rintro e w2 ⟨v2, rfl, hown, hk⟩)
  go_ret
  exact ⟨_, rfl, hown, hk⟩
end Go.Proofs.Ytjjoelhemhnojaa
