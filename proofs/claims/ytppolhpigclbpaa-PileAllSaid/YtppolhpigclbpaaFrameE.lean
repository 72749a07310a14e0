/- The walk of the frame's New. -/
import Derived.Test.YtppolhpigclbpaaFrameD
set_option linter.unusedVariables false
namespace Go.Proofs.Ytppolhpigclbpaa
open Go.RowKit

theorem zeroV (n : Nat) : (madeCells #[.bool false, .int .i32 0] (n * 2)) = (vCells (List.replicate n (false, 0))).toArray := by
  have hl := vCells_length (List.replicate n ((false, 0) : V))
  rw [List.length_replicate] at hl
  apply Array.ext
  · simp [madeCells, hl]
  · intro i h1 h2
    have h2' : i < n * 2 := by simpa [hl] using h2
    have hi2 : i / 2 < n := by omega
    obtain ⟨c0, c1⟩ := vCells_at (List.replicate n ((false, 0) : V)) (i := i / 2) (v := (false, 0)) (by rw [List.getElem?_replicate, if_pos hi2])
    have hm : (madeCells #[.bool false, .int .i32 0] (n * 2))[i] = (#[Value.bool false, Value.int .i32 0] : Array Value)[i % 2]! := by simp [madeCells]
    rw [hm]
    simp only [List.getElem_toArray]
    rcases Nat.mod_two_eq_zero_or_one i with h | h
    · have e : i / 2 * 2 = i := by omega
      rw [e] at c0
      have := (List.getElem?_eq_some_iff.1 c0).2
      rw [this, h]
      rfl
    · have e : i / 2 * 2 + 1 = i := by omega
      rw [e] at c1
      have := (List.getElem?_eq_some_iff.1 c1).2
      rw [this, h]
      rfl
theorem new_no (w : World) (me lc room : Int) (A : Option Addr) (n c : Nat) (h : lc < 0 ∨ 16 < lc ∨ room < 0 ∨ 16 < room ∨ lc < n) : Calls Try.prog 24 #[.int .i64 me, .int .i64 lc, .int .i64 room, .slice A n c] w fun e w' => e = .returned (.pointer none) ∧ w = w' := by
  have hw : lc < 0 ∨ (0 ≤ lc ∧ 16 < lc) ∨ (0 ≤ lc ∧ lc ≤ 16 ∧ room < 0) ∨ (0 ≤ lc ∧ lc ≤ 16 ∧ 0 ≤ room ∧ 16 < room) ∨ (0 ≤ lc ∧ lc ≤ 16 ∧ 0 ≤ room ∧ room ≤ 16 ∧ lc < n) := by omega
  clear h
  rcases hw with h | ⟨h1, h⟩ | ⟨h1, h2, h⟩ | ⟨h1, h2, h3, h⟩ | ⟨h1, h2, h3, h4, h⟩
  · have e1 : decide (lc < 0) = true := by simpa using h
    go_enter Try.func24, Try.ntmps24
    go_wp2_with fail
    go_ret
    exact ⟨rfl, rfl⟩
  · have e1 : decide (lc < 0) = false := by simpa using h1
    have e2 : decide (16 < lc) = true := by simpa using h
    go_enter Try.func24, Try.ntmps24
    go_wp2_with fail
    go_ret
    exact ⟨rfl, rfl⟩
  · have e1 : decide (lc < 0) = false := by simpa using h1
    have e2 : decide (16 < lc) = false := by simpa using h2
    have e3 : decide (room < 0) = true := by simpa using h
    go_enter Try.func24, Try.ntmps24
    go_wp2_with fail
    go_ret
    exact ⟨rfl, rfl⟩
  · have e1 : decide (lc < 0) = false := by simpa using h1
    have e2 : decide (16 < lc) = false := by simpa using h2
    have e3 : decide (room < 0) = false := by simpa using h3
    have e4 : decide (16 < room) = true := by simpa using h
    go_enter Try.func24, Try.ntmps24
    go_wp2_with fail
    go_ret
    exact ⟨rfl, rfl⟩
  · have e1 : decide (lc < 0) = false := by simpa using h1
    have e2 : decide (16 < lc) = false := by simpa using h2
    have e3 : decide (room < 0) = false := by simpa using h3
    have e4 : decide (16 < room) = false := by simpa using h4
    have e5 : decide (lc < (n : Int)) = true := by simpa using h
    go_enter Try.func24, Try.ntmps24
    go_wp2_with fail
    go_ret
    exact ⟨rfl, rfl⟩
set_option maxHeartbeats 1000000 in
theorem new_yes (w : World) (B : Nat) (hB : B ≤ w.heap.size) (me : Int) (lc room : Nat) (C : Nat) (hC : C ≤ w.heap.size) (A : Option Addr) (n c : Nat) (vs : List V) (hv : SeesV w C A n vs) (hl : lc ≤ 16) (hr : room ≤ 16) (hn : n ≤ lc) :
    Calls Try.prog 24 #[.int .i64 me, .int .i64 (lc : Int), .int .i64 (room : Int), .slice A n c] w fun e w' => e = .returned (.pointer (some ⟨w.heap.size + 1, 0, none⟩)) ∧
      FrameIn w' B (fun k => w.heap.size ≤ k ∧ k < w'.heap.size) (w.heap.size + 1) me 0 room (vs ++ List.replicate (lc - n) (false, 0)) [] ∧ Keeps (fun _ => False) w w' := by
  obtain ⟨i0, hi0, hz0, hz1, hz2⟩ := info_parts Try.info39
  have hmk : ∀ W : World, (Instr.makeSlice 29 (.int .i64 (lc : Int)) (.int .i64 (lc : Int))).run Try.prog W = .ok (.slice (some ⟨W.heap.size, 0, none⟩) lc lc) (W.alloc (.cells (vCells (List.replicate lc (false, 0))).toArray 39)) := by
    intro W
    have := run_make (P := Try.prog) W 29 39 i0 _ Try.underlying29 hi0 hz0 .i64 .i64 lc lc (by omega) (by omega) (by rw [hz2]; omega) (by omega)
    rw [hz1] at this
    simp only [Int.toNat_natCast] at this
    rw [this]
    show Result.ok _ (W.alloc (.cells (madeCells #[.bool false, .int .i32 0] (lc * 2)) 39)) = _
    rw [zeroV]
  have HI := hide hi0
  have HZ1 := hide hz1
  have e1 : decide ((lc : Int) < 0) = false := by simp
  have e2 : decide (16 < (lc : Int)) = false := by simp; omega
  have e3 : decide ((room : Int) < 0) = false := by simp
  have e4 : decide (16 < (room : Int)) = false := by simp; omega
  have e5 : decide ((lc : Int) < (n : Int)) = false := by simp; omega
  have hk1 := ((Keeps.refl (fun _ => False) w).alloc (.cells (vCells (List.replicate lc (false, 0))).toArray 39)).alloc (.cells #[.int .i64 me, .int .i64 0, .int .i64 (room : Int), .slice (some ⟨w.heap.size, 0, none⟩) lc lc, .slice none 0 0] 70)
  have hg0 : ((w.alloc (Go.Obj.cells (vCells (List.replicate lc (false, 0))).toArray 39)).alloc (Go.Obj.cells #[.int .i64 me, .int .i64 0, .int .i64 (room : Int), .slice (some ⟨w.heap.size, 0, none⟩) lc lc, .slice none 0 0] 70)).heap[w.heap.size]? = some (Go.Obj.cells (vCells (List.replicate lc (false, 0))).toArray 39 (0, 0)) := by
    rw [Below.heap_alloc _ _ _ (by simp)]
    exact heap_alloc_new w _
  have hg1 : ((w.alloc (Go.Obj.cells (vCells (List.replicate lc (false, 0))).toArray 39)).alloc (Go.Obj.cells #[.int .i64 me, .int .i64 0, .int .i64 (room : Int), .slice (some ⟨w.heap.size, 0, none⟩) lc lc, .slice none 0 0] 70)).heap[w.heap.size + 1]? = some (Go.Obj.cells #[.int .i64 me, .int .i64 0, .int .i64 (room : Int), .slice (some ⟨w.heap.size, 0, none⟩) lc lc, .slice none 0 0] 70 (0, 0)) := by
    have := heap_alloc_new (w.alloc (Go.Obj.cells (vCells (List.replicate lc (false, 0))).toArray 39)) (Go.Obj.cells #[.int .i64 me, .int .i64 0, .int .i64 (room : Int), .slice (some ⟨w.heap.size, 0, none⟩) lc lc, .slice none 0 0] 70)
    rw [show (w.alloc (Go.Obj.cells (vCells (List.replicate lc (false, 0))).toArray 39)).heap.size = w.heap.size + 1 from by simp] at this
    exact this
  have hv1 := Keeps.sees hv hC hk1
  have hvl := hv.len
  have hfit : n * 2 ≤ (vCells (List.replicate lc ((false, 0) : V))).toArray.size := by simp [vCells_length]; omega
  have HG0 := hide hg0
  have HG1 := hide hg1
  have HK1 := hide hk1
  have HV1 := hide hv1
  have HVL := hide hvl
  have HFIT := hide hfit
  have HB := hide hB
  clear hi0 hz0 hz1 hz2 hg0 hg1 hk1 hv1 hv hvl hB hfit
  go_enter Try.func24, Try.ntmps24
  go_wp2_with (refine wpList_copy_seesN _ rfl (.tmp 39) (.tmp 40) 29 29 rfl 39 i0 2 Try.underlying29 HI.out HZ1.out w.heap.size lc lc _ 39 (by rfl) HG0.out C A n c _ (by rfl) HV1.out hn (by omega) HFIT.out (vCells_one vs) ?_; intro w3 hg3 hk3)
  go_ret
  have hkA : Keeps (fun k => k = w.heap.size) w w3 := (HK1.out.more fun _ _ => False.elim).trans hk3
  have hlen : (vs ++ List.replicate (lc - n) ((false, 0) : V)).length = lc := by rw [List.length_append, List.length_replicate, HVL.out]; omega
  have hcells : vCells vs ++ (vCells (List.replicate lc ((false, 0) : V))).drop (n * 2) = vCells (vs ++ List.replicate (lc - n) (false, 0)) := by
    rw [← vCells_drop, List.drop_replicate, vCells_append]
  have hg := hg3.out
  rw [hcells] at hg
  have hp := (hk3.block (w.heap.size + 1) (lt_of_heap HG1.out) (fun e => by omega)).trans HG1.out
  have hps := lt_of_heap hp
  refine ⟨rfl, ⟨fun k hk => ⟨Nat.le_trans HB.out hk.1, hk.2⟩, ⟨by omega, hps⟩, by rw [hlen]; exact hl, by simp, hr, _, _, hp, ?_, World.ownsRow_nil _ _ _ _, fun g hg => ?_, fun g hg => (by cases hg), fun g hg e => (by cases e)⟩, hkA.more fun k hk e => by omega⟩
  · rw [hlen]
    refine ⟨by rw [vCells_length, hlen], .inr ⟨w.heap.size, lc, _, rfl, HB.out, hg, Nat.le_refl _, by unfold maxLen; omega, ?_, ?_⟩⟩
    · simp [vCells_length, hlen]
    · rw [List.take_of_length_le]
      rw [vCells_length, hlen]
      exact Nat.le_refl _
  · cases hg
    exact ⟨Nat.le_refl _, by show w.heap.size < w3.heap.size; omega⟩
end Go.Proofs.Ytppolhpigclbpaa
