/- The walk of Names: each name of api has the document's number: the call returns true and leaves what was there as it was. No conditions. -/
import Derived.Test.YthhglbocoogefaaRows
import Derived.Test.YthhglbocoogefaaWords
namespace Go.Proofs.Ythhglbocoogefaa
open Go.RowKit

/-- The document's numbers. -/
def nums : List Int := [0, 1, 2, 3, 4, 5, 6, 7, 8, 9, 10, 16, 8, 8, 4, 6, 100, 16, 16, 6, 8, 6000, 64, 1048576, 1000, 1073741824, 500, 1048576, 1, 2, 3, 4, 5, 6, 7, 8, 9, 10, 11, 12, 13, 14, 15, 16, 17, 18, 19, 20, 21, 22, 23, 24, 25, 26, 27, 28, 29, 30, 31, 32, 33, 34, 35, 36, 37, 38, 39, 40, 41, 42, 43, 44, 45, 46, 47, 48, 49, 50, 51, 52, 53, 54, 55, 56, 57, 58, 59, 60, 61, 1, 2, 3, 4, 5, 6]
def nums_cells (f : Int → Value) : List Value := nums.map f
theorem nums_len : nums.length = 95 := by decide +kernel
theorem nums_at {k : Nat} (hk : k < 95) : ∃ z, (nums.map (Value.int .i64))[k]? = some (.int .i64 z) := by
  have h : k < nums.length := by rw [nums_len]; exact hk
  exact ⟨nums[k], by rw [List.getElem?_map, List.getElem?_eq_getElem h]; rfl⟩

/-- An operation without a guard that gives a value. -/
theorem wpList_run {P : Program} {ops : Array Oper} {Q : Exit → Act → World → Prop} {a : Act} {w w' : World} {rest : List Oper} {o : Oper} {v : Value} (hg : o.guard = none)
    (hr : (execOp a.eval o).run P w = .ok (.value v) w') (h : wpList P ops Q rest (a.put o.dst v) w') : wpList P ops Q (o :: rest) a w := by
  refine wpList_plain hg fun K hK => ?_
  unfold Oper.wp
  rw [hr]
  exact hK _ _ h
/-- The same, where a block is laid: the world behind it is any that is as the old one below it and shows the cells. -/
theorem wpList_lays {P : Program} {ops : Array Oper} {Q : Exit → Act → World → Prop} {a : Act} {w : World} {rest : List Oper} {o : Oper} {xs : List Value} {t : TypeId} {n : Nat} (hg : o.guard = none)
    (hn : xs.length = n) (hr : (execOp a.eval o).run P w = .ok (.value (.slice (some ⟨w.heap.size, 0, none⟩) n n)) (w.alloc (.cells xs.toArray t)))
    (h : ∀ w', Below w.heap.size w w' → w'.heap.size = w.heap.size + 1 → Sees w' (w.heap.size + 1) (some ⟨w.heap.size, 0, none⟩) n xs → wpList P ops Q rest (a.put o.dst (.slice (some ⟨w.heap.size, 0, none⟩) n n)) w') :
    wpList P ops Q (o :: rest) a w := by
  refine wpList_run hg hr (h _ ((Below.refl _ _).alloc (Nat.le_refl _) _) (by simp) ⟨hn, fun _ => ⟨w.heap.size, 0, rfl, by omega, fun j u hu => ?_⟩⟩)
  rw [Nat.zero_add, World.cell?_alloc_mark]
  simpa using hu

set_option maxHeartbeats 400000 in
set_option maxRecDepth 100000 in
theorem names_walk (w : World) : Calls Try.prog 3 #[] w fun e w' => e = .returned (.bool true) ∧ Below w.heap.size w w' := by
  go_enter Try.func3, Try.ntmps3
  iterate 11 go_step
  refine wpList_lays (xs := nums.map (Value.int .i64)) (t := 3) (n := 95) ?g (by rw [List.length_map, nums_len]) (by kernel_rfl) ?_; case g => rfl
  intro w1 hb1 hz1 hs1
  iterate 8 go_step
  refine wpList_lays (xs := nums.map (Value.int .i64)) (t := 3) (n := 95) ?g (by rw [List.length_map, nums_len]) (by kernel_rfl) ?_; case g => rfl
  intro w2 hb2 hz2 hs2
  have hsa := hs1.below (hb2.mono (by omega))
  have hba : Below w.heap.size w w2 := hb1.trans (hb2.mono (by omega))
  clear hb1 hs1 hb2 hz1 hz2
  go_wp2
  go_loopw [3] (fun i wr => ∃ k : Nat, k ≤ 95 ∧ i = .int .i64 k ∧ Below w.heap.size w wr ∧ Sees wr (w.heap.size + 1) (some ⟨w.heap.size, 0, none⟩) 95 (nums.map (Value.int .i64)) ∧ Sees wr (w1.heap.size + 1) (some ⟨w1.heap.size, 0, none⟩) 95 (nums.map (Value.int .i64))) (fun i _ => 95 - (intOf i).toNat)
  case atStart => exact ⟨0, by omega, rfl, hba, hsa, hs2⟩
  case round =>
    obtain ⟨k, hk, rfl, hb, h1, h2⟩ := hrel
    clear hba hsa hs2
    by_cases hlt : k < 95
    · obtain ⟨z, hz⟩ := nums_at hlt
      obtain ⟨_, _, u1, e1, _, hu1, hc1⟩ := h1.at_ hlt
      obtain ⟨_, _, u2, e2, _, hu2, hc2⟩ := h2.at_ hlt
      cases e1; cases e2
      rw [hz] at hu1 hu2
      cases hu1; cases hu2
      rw [Nat.zero_add] at hc1 hc2
      clear hz
      have hi : (k : Int) < (95 : Int) := by omega
      go_wp2
      go_quiet (fail)
      go_wp2
      go_roundw
      case rel => exact ⟨k + 1, by omega, by go_num, bel_drewN hb _, h1, h2⟩
      case measure => simp [intOf]; omega
    · obtain rfl : k = 95 := by omega
      go_wp2
      go_ret
      exact ⟨rfl, hb⟩
end Go.Proofs.Ythhglbocoogefaa
