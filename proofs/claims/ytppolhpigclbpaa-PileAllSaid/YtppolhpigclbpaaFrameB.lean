/- The walks of the frame's has, Load, Store, Clear, and of all small methods at no frame. -/
import Derived.Test.YtppolhpigclbpaaFrameA
import Derived.RegionTactic
import Derived.BigRegion
set_option linter.unusedVariables false
namespace Go.Proofs.Ytppolhpigclbpaa
open Go.RowKit

theorem none_has (w : World) (i : Int) : Calls Try.prog 48 #[.pointer none, .int .i64 i] w fun e w' => e = .returned (.bool false) ∧ w = w' := by
  go_enter Try.func48, Try.ntmps48
  go_wp2_with fail
  go_ret
  exact ⟨rfl, rfl⟩
theorem none_method (w : World) : Calls Try.prog 37 #[.pointer none] w fun e w' => e = .returned (.int .i64 0) ∧ w = w' := by
  go_enter Try.func37, Try.ntmps37
  go_wp2_with fail
  go_ret
  exact ⟨rfl, rfl⟩
theorem none_pc (w : World) : Calls Try.prog 36 #[.pointer none] w fun e w' => e = .returned (.int .i64 0) ∧ w = w' := by
  go_enter Try.func36, Try.ntmps36
  go_wp2_with fail
  go_ret
  exact ⟨rfl, rfl⟩
theorem none_depth (w : World) : Calls Try.prog 35 #[.pointer none] w fun e w' => e = .returned (.int .i64 0) ∧ w = w' := by
  go_enter Try.func35, Try.ntmps35
  go_wp2_with fail
  go_ret
  exact ⟨rfl, rfl⟩
theorem none_goto (w : World) (n : Int) : Calls Try.prog 34 #[.pointer none, .int .i64 n] w fun e w' => e = .returned (.tuple #[]) ∧ w = w' := by
  go_enter Try.func34, Try.ntmps34
  go_wp2_with fail
  go_end0
  exact ⟨rfl, rfl⟩
theorem none_clear (w : World) : Calls Try.prog 33 #[.pointer none] w fun e w' => e = .returned (.tuple #[]) ∧ w = w' := by
  go_enter Try.func33, Try.ntmps33
  go_wp2_with fail
  go_end0
  exact ⟨rfl, rfl⟩
theorem none_load (w : World) (i : Int) : Calls Try.prog 29 #[.pointer none, .int .i64 i] w fun e w' => e = .returned (.tuple #[.agg #[.bool false, .int .i32 0], .bool false]) ∧ Keeps (fun _ => False) w w' := by
  have C := fun W => hide (none_has W i)
  go_enter Try.func29, Try.ntmps29
  go_wp2_with (go_at_call 48; (with_reducible refine (C _).out.mono ?_); rintro e w' ⟨rfl, rfl⟩)
  exact bodyPost_ret (v := .tuple #[.agg #[.bool false, .int .i32 0], .bool false]) (by simp [results, Try.results29, go_sem]) rfl ⟨rfl, (Keeps.refl _ w).alloc _⟩
theorem none_store (w : World) (i : Int) (v : V) : Calls Try.prog 32 #[.pointer none, .int .i64 i, .agg #[.bool v.1, .int .i32 v.2]] w fun e w' => e = .returned (.bool false) ∧ Keeps (fun _ => False) w w' := by
  have C := fun W => hide (none_has W i)
  go_enter Try.func32, Try.ntmps32
  go_wp2_with (go_at_call 48; (with_reducible refine (C _).out.mono ?_); rintro e w' ⟨rfl, rfl⟩)
  go_ret
  exact ⟨rfl, (Keeps.refl _ w).alloc _⟩
section
variable {w w' : World} {B p room : Nat} {F : Nat → Prop} {me pc : Int} {ls st : List V}
theorem has_in (h : FrameIn w B F p me pc room ls st) (i : Int) : Calls Try.prog 48 #[.pointer (some ⟨p, 0, none⟩), .int .i64 i] w fun e w' => e = .returned (.bool (decide (0 ≤ i) && decide (i < (ls.length : Int)))) ∧ w = w' := by
  obtain ⟨A, c, A2, c2, h0, h1, h2, h3, h4, _⟩ := h.reads
  clear h
  generalize ls.length = n at *
  by_cases hi : 0 ≤ i
  · have e1 : decide (0 ≤ i) = true := by simpa using hi
    rw [e1]
    go_enter Try.func48, Try.ntmps48
    go_wp2_with fail
    go_ret
    exact ⟨rfl, rfl⟩
  · have e1 : decide (0 ≤ i) = false := by simpa using hi
    rw [e1]
    clear hi
    go_enter Try.func48, Try.ntmps48
    go_wp2_with fail
    go_ret
    exact ⟨rfl, rfl⟩
theorem load_yes (h : FrameIn w B F p me pc room ls st) {i : Nat} {v : V} (hv : ls[i]? = some v) : Calls Try.prog 29 #[.pointer (some ⟨p, 0, none⟩), .int .i64 (i : Int)] w fun e w' => e = .returned (.tuple #[.agg #[.bool v.1, .int .i32 v.2], .bool true]) ∧ Keeps (fun _ => False) w w' := by
  have hi : i < ls.length := (List.getElem?_eq_some_iff.1 hv).1
  have C := hide (has_in (h.keeps ((Keeps.refl (fun _ => False) w).alloc (.cells #[.bool false, .int .i32 0] 39)) (fun _ _ => id)) (i : Int))
  rw [show (decide ((0 : Int) ≤ (i : Int)) && decide ((i : Int) < (ls.length : Int))) = true from by simp; omega] at C
  obtain ⟨A, c, A2, c2, h0, h1, h2, h3, h4, hA, _⟩ := h.reads
  obtain ⟨b, off, v', rfl, hb, hv', hc0, hc1⟩ := SeesV.at2 hA hi
  rw [hv] at hv'
  cases hv'
  have hi' : (i : Int) < (ls.length : Int) := by omega
  have hp : p < w.heap.size := (h.low p h.here).2
  have hl := h.loc
  clear h hA hv
  generalize ls.length = n at *
  go_enter Try.func29, Try.ntmps29
  go_wp2_with (go_at_call 48; (with_reducible refine C.out.mono ?_); rintro e w' ⟨rfl, rfl⟩)
  exact bodyPost_ret (v := .tuple #[.agg #[.bool v.1, .int .i32 v.2], .bool true]) (by simp [results, Try.results29, go_sem]) rfl ⟨rfl, (Keeps.refl _ w).alloc _⟩
theorem load_no (h : FrameIn w B F p me pc room ls st) (i : Int) (hi : i < 0 ∨ (ls.length : Int) ≤ i) : Calls Try.prog 29 #[.pointer (some ⟨p, 0, none⟩), .int .i64 i] w fun e w' => e = .returned (.tuple #[.agg #[.bool false, .int .i32 0], .bool false]) ∧ Keeps (fun _ => False) w w' := by
  have C := hide (has_in (h.keeps ((Keeps.refl (fun _ => False) w).alloc (.cells #[.bool false, .int .i32 0] 39)) (fun _ _ => id)) i)
  rw [show (decide (0 ≤ i) && decide (i < (ls.length : Int))) = false from by rw [Bool.and_eq_false_iff]; simp; omega] at C
  clear h
  go_enter Try.func29, Try.ntmps29
  go_wp2_with (go_at_call 48; (with_reducible refine C.out.mono ?_); rintro e w' ⟨rfl, rfl⟩)
  exact bodyPost_ret (v := .tuple #[.agg #[.bool false, .int .i32 0], .bool false]) (by simp [results, Try.results29, go_sem]) rfl ⟨rfl, (Keeps.refl _ w).alloc _⟩
theorem store_no (h : FrameIn w B F p me pc room ls st) (i : Int) (v : V) (hi : i < 0 ∨ (ls.length : Int) ≤ i) : Calls Try.prog 32 #[.pointer (some ⟨p, 0, none⟩), .int .i64 i, .agg #[.bool v.1, .int .i32 v.2]] w fun e w' => e = .returned (.bool false) ∧ Keeps (fun _ => False) w w' := by
  have C := hide (has_in (h.keeps ((Keeps.refl (fun _ => False) w).alloc (.cells #[.bool v.1, .int .i32 v.2] 39)) (fun _ _ => id)) i)
  rw [show (decide (0 ≤ i) && decide (i < (ls.length : Int))) = false from by rw [Bool.and_eq_false_iff]; simp; omega] at C
  clear h
  go_enter Try.func32, Try.ntmps32
  go_wp2_with (go_at_call 48; (with_reducible refine C.out.mono ?_); rintro e w' ⟨rfl, rfl⟩)
  go_ret
  exact ⟨rfl, (Keeps.refl _ w).alloc _⟩
/-- A local is set. -/
theorem FrameIn.setLocal (h : FrameIn w B F p me pc room ls st) {i : Nat} (hi : i < ls.length) (v : V) : ∃ g c, w.cell? ⟨p, 3, none⟩ = some (.slice (some ⟨g, 0, none⟩) ls.length c) ∧ g < w.heap.size ∧ (∃ u, w.cell? ⟨g, i * 2, none⟩ = some u) ∧ (∃ u, w.cell? ⟨g, i * 2 + 1, none⟩ = some u) ∧ (∀ j, w.frozen? ⟨g, j, none⟩ = false) ∧
    FrameIn ((w.setCell ⟨g, i * 2, none⟩ (.bool v.1)).setCell ⟨g, i * 2 + 1, none⟩ (.int .i32 v.2)) B F p me pc room (ls.set i v) st ∧ Keeps F w ((w.setCell ⟨g, i * 2, none⟩ (.bool v.1)).setCell ⟨g, i * 2 + 1, none⟩ (.int .i32 v.2)) := by
  obtain ⟨lv, sv, h1, h2, h3, h4, h5, h6⟩ := h.rows
  obtain ⟨g, c, rfl, hg, hgs⟩ := h2.form (by omega)
  have hF : F g := h4 g rfl
  have hK : Keeps F w ((w.setCell ⟨g, i * 2, none⟩ (.bool v.1)).setCell ⟨g, i * 2 + 1, none⟩ (.int .i32 v.2)) := ((Keeps.refl F w).setCell (fun _ => hF) _).setCell (fun _ => hF) _
  have hst1 := h2.stored (i * 2) (.bool v.1)
  have hst2 := hst1.1.stored (i * 2 + 1) (.int .i32 v.2)
  have hl2 := vCells_length ls
  have hgp : g ≠ p := by
    intro e
    obtain ⟨_, _, cur, hc⟩ := own_type3 h2 (g := g) rfl
    subst e
    rw [h1] at hc; cases hc
  have hne : ∀ k, k ≠ g → ((w.setCell ⟨g, i * 2, none⟩ (.bool v.1)).setCell ⟨g, i * 2 + 1, none⟩ (.int .i32 v.2)).heap[k]? = w.heap[k]? := fun k hk => (Below.heap_setCell _ _ _ _ (fun e => hk e)).trans (Below.heap_setCell _ _ _ _ (fun e => hk e))
  refine ⟨g, c, by rw [cell_of_row w p _ _ 70 (0, 0) h1]; rfl, hgs, ⟨_, (h2.cellAt (i * 2) (by omega)).trans (List.getElem?_eq_getElem (by omega))⟩, ⟨_, (h2.cellAt (i * 2 + 1) (by omega)).trans (List.getElem?_eq_getElem (by omega))⟩, fun j => h2.frozenAt j, ⟨fun k hf => ⟨(h.low k hf).1, Nat.lt_of_lt_of_le (h.low k hf).2 hK.size⟩, h.here, by rw [List.length_set]; exact h.loc, h.stk, h.most, _, sv, (hne p (fun e => hgp e.symm)).trans h1, ?_, ?_, h4, h5, h6⟩, hK⟩
  · rw [List.length_set, vCells_set ls i v hi]
    exact hst2.1
  · exact ownsRow_kept h3 fun k hk => hne k (fun e => h6 g rfl (e ▸ hk))
set_option maxHeartbeats 1000000 in
theorem store_yes (h : FrameIn w B F p me pc room ls st) {i : Nat} (hi : i < ls.length) (v : V) : Calls Try.prog 32 #[.pointer (some ⟨p, 0, none⟩), .int .i64 (i : Int), .agg #[.bool v.1, .int .i32 v.2]] w fun e w' => e = .returned (.bool true) ∧ FrameIn w' B F p me pc room (ls.set i v) st ∧ Keeps F w w' := by
  have hA := (Keeps.refl (fun _ => False) w).alloc (.cells #[.bool v.1, .int .i32 v.2] 39)
  have h' := h.keeps hA (fun _ _ => id)
  have C := hide (has_in h' (i : Int))
  rw [show (decide ((0 : Int) ≤ (i : Int)) && decide ((i : Int) < (ls.length : Int))) = true from by simp; omega] at C
  obtain ⟨g, c, d0, hgs, ⟨u1, hu1⟩, ⟨u2, hu2⟩, hz, hset⟩ := h'.setLocal hi v
  have HS := hide hset
  have HA := hide hA
  have hi' : (i : Int) < (ls.length : Int) := by omega
  have hl := h.loc
  clear h h' hA hset
  generalize ls.length = n at *
  go_enter Try.func32, Try.ntmps32
  go_wp2_with (go_at_call 48; (with_reducible refine C.out.mono ?_); rintro e w' ⟨rfl, rfl⟩)
  go_region
  all_goals go_wp2
  all_goals go_ret
  all_goals exact ⟨rfl, HS.out.1.keep (Nat.le_refl _) (fun _ _ => rfl), ((HA.out.more fun _ _ => False.elim).trans HS.out.2).drew⟩
/-- The stack's field is set to another row of the call's own. -/
theorem FrameIn.setStack (h : FrameIn w B F p me pc room ls st) {w2 : World} {F2 : Nat → Prop} {sv : Value} {st2 : List V} (hk : ∀ lv sv0, w.heap[p]? = some (Go.Obj.cells #[.int .i64 me, .int .i64 pc, .int .i64 (room : Int), lv, sv0] 70 (0, 0)) → w.ownsRow B 39 2 lv ls.length (vCells ls) → (∀ g, lv.ownBlock = some g → sv0.ownBlock ≠ some g ∧ F g) → w.ownsRow B 39 2 sv0 st.length (vCells st) →
      (∀ g, lv.ownBlock = some g → w2.heap[g]? = w.heap[g]? ∧ sv.ownBlock ≠ some g) ∧ w2.heap[p]? = w.heap[p]? ∧ (∀ g, sv.ownBlock = some g → F2 g))
    (hs : w.heap.size ≤ w2.heap.size) (hF : ∀ k, F k → F2 k) (hF2 : ∀ k, F2 k → B ≤ k ∧ k < w2.heap.size) (hlen : st2.length ≤ room) (ho : w2.ownsRow B 39 2 sv st2.length (vCells st2)) :
    w2.cell? ⟨p, 4, none⟩ = w.cell? ⟨p, 4, none⟩ ∧ w2.frozen? ⟨p, 4, none⟩ = false ∧ FrameIn (w2.setCell ⟨p, 4, none⟩ sv) B F2 p me pc room ls st2 := by
  obtain ⟨lv, sv0, h1, h2, h3, h4, h5, h6⟩ := h.rows
  obtain ⟨k1, k2, k3⟩ := hk lv sv0 h1 h2 (fun g hg => ⟨h6 g hg, h4 g hg⟩) h3
  have hb : w2.heap[p]? = some (Go.Obj.cells #[.int .i64 me, .int .i64 pc, .int .i64 (room : Int), lv, sv0] 70 (0, 0)) := k2.trans h1
  have hne : ∀ {v : Value} {n : Nat} {xs : List Value}, w2.ownsRow B 39 2 v n xs → ∀ g, v.ownBlock = some g → g ≠ p := by
    intro v n xs ho g hg e
    obtain ⟨_, _, cur, hc⟩ := own_type3 ho hg
    subst e
    rw [hb] at hc; cases hc
  have h2' : w2.ownsRow B 39 2 lv ls.length (vCells ls) := ownsRow_kept h2 fun g hg => (k1 g hg).1
  refine ⟨World.cell?_of_block k2, frozen_of_row w2 p 4 _ 70 hb, fun k hf => ?_, hF p h.here, h.loc, hlen, h.most, lv, sv, heap_setCell_same w2 p 4 _ 70 _ hb, ownsRow_kept h2' fun g hg => Below.heap_setCell _ _ _ _ (hne h2' g hg), ownsRow_kept ho fun g hg => Below.heap_setCell _ _ _ _ (hne ho g hg), fun g hg => hF g (h4 g hg), k3, fun g hg => (k1 g hg).2⟩
  exact ⟨(hF2 k hf).1, by simpa [World.setCell] using (hF2 k hf).2⟩
theorem clear_in (h : FrameIn w B F p me pc room ls st) : Calls Try.prog 33 #[.pointer (some ⟨p, 0, none⟩)] w fun e w' => e = .returned (.tuple #[]) ∧ FrameIn w' B F p me pc room ls [] ∧ Keeps F w w' := by
  obtain ⟨e1, e2, hs⟩ := h.setStack (w2 := w) (F2 := F) (sv := .slice none 0 0) (st2 := []) (fun lv sv0 _ _ _ _ => ⟨fun g hg => ⟨rfl, fun e => by cases e⟩, rfl, fun g hg => by cases hg⟩) (Nat.le_refl _) (fun _ h => h) h.low (by simp) (World.ownsRow_nil _ _ _ _)
  obtain ⟨A, c, A2, c2, h0, h1, h2, h3, h4, _, _, _, hz, _⟩ := h.reads
  have hK : Keeps F w (w.setCell ⟨p, 4, none⟩ (.slice none 0 0)) := (Keeps.refl F w).setCell (fun _ => h.here) _
  have HS := hide hs
  have HK := hide hK
  clear h hs hK e1
  go_enter Try.func33, Try.ntmps33
  go_wp2_with fail
  go_end0
  exact ⟨rfl, HS.out, HK.out⟩
end
end Go.Proofs.Ytppolhpigclbpaa
