/- The walk of KindBytes: whatever two bytes come in, the call returns true and leaves what was there as it was. Conditions: the numbers are bytes. -/
import Derived.Test.YthhglbocoogefaaKindD
namespace Go.Proofs.Ythhglbocoogefaa
open Go.RowKit

/-- A text made of a block of bytes that was just laid. -/
theorem conv_new (W : World) (g : Nat) (hg : g = W.heap.size) (cs : Array Value) (l : List UInt8) (n : Nat) (hn : l.length = n) (hcs : cs.toList = l.map fun c => Value.int .u8 (c.toNat : Int)) :
    (convert 24 9 (.slice (some ⟨g, 0, none⟩) n n)).run Try.prog (W.alloc (.cells cs 5)) = .ok (.string ⟨l.toArray⟩) (W.alloc (.cells cs 5)) := by
  subst hg
  subst hn
  refine run_convert_bytes_back (P := Try.prog) (W.alloc (.cells cs 5)) 24 9 5 ⟨W.heap.size, 0, none⟩ l.length l Try.underlying24 Try.underlying5 Try.underlying9 fun j hj => ?_
  have h1 : (W.alloc (.cells cs 5)).cell? ⟨W.heap.size, j, none⟩ = some (.int .u8 (l[j].toNat : Int)) := by
    rw [World.cell?_alloc_mark, ← Array.getElem?_toList, hcs, List.getElem?_map, List.getElem?_eq_getElem hj]
    rfl
  unfold Addr.add
  split
  · rename_i h0
    subst h0
    exact h1
  · simpa using h1
theorem byte_of {a : Int} (h : 0 ≤ a ∧ a ≤ 255) : ∃ c : UInt8, a = (c.toNat : Int) := ⟨UInt8.ofNat a.toNat, by simp; omega⟩

def strs (c d : UInt8) : List ByteArray := [⟨#[c]⟩, ⟨#[c, d]⟩, ⟨#[65, c]⟩, ⟨#[97, c, d]⟩, ⟨#[91, c, d]⟩, ⟨#[91, 91, 65, c]⟩]
theorem quiet_l {P : Program} {f : FuncId} {args : Array Value} {w : World} {n : Nat} {v : Value}
    (h : Calls P f args (w.drewN n) fun e w' => e = .returned v ∧ w.drewN n = w') : Calls P f args (w.drewN n) fun e w'' => e = .returned v ∧ ∃ m, w'' = w.drewN m :=
  h.mono fun _ _ ⟨he, hm⟩ => ⟨he, n, hm.symm⟩
set_option maxHeartbeats 1000000 in
theorem kindBytes_walk (a0 : Int) (a1 : Int) (w0 : (Lit.int .u8 a0).wf = true) (w1 : (Lit.int .u8 a1).wf = true) (w : World) :
    Calls Try.prog 10 #[.int .u8 a0, .int .u8 a1] w fun e w' => e = .returned (.bool true) ∧ Below w.heap.size w w' := by
  have B := hide (begun3_any w)
  obtain ⟨c, rfl⟩ := byte_of (bounds_u8 w0)
  obtain ⟨d, rfl⟩ := byte_of (bounds_u8 w1)
  clear w0 w1
  have k1 := fun (W : World) (g : Nat) (hg : g = W.heap.size) => conv_new W g hg #[.int .u8 (c.toNat : Int)] [c] 1 rfl rfl
  have k2 := fun (W : World) (g : Nat) (hg : g = W.heap.size) => conv_new W g hg #[.int .u8 (c.toNat : Int), .int .u8 (d.toNat : Int)] [c, d] 2 rfl rfl
  have k3 := fun (W : World) (g : Nat) (hg : g = W.heap.size) => conv_new W g hg #[.int .u8 65, .int .u8 (c.toNat : Int)] [65, c] 2 rfl rfl
  have k4 := fun (W : World) (g : Nat) (hg : g = W.heap.size) => conv_new W g hg #[.int .u8 97, .int .u8 (c.toNat : Int), .int .u8 (d.toNat : Int)] [97, c, d] 3 rfl rfl
  have k5 := fun (W : World) (g : Nat) (hg : g = W.heap.size) => conv_new W g hg #[.int .u8 91, .int .u8 (c.toNat : Int), .int .u8 (d.toNat : Int)] [91, c, d] 3 rfl rfl
  have k6 := fun (W : World) (g : Nat) (hg : g = W.heap.size) => conv_new W g hg #[.int .u8 91, .int .u8 91, .int .u8 65, .int .u8 (c.toNat : Int)] [91, 91, 65, c] 4 rfl rfl
  go_enter Try.func10, Try.ntmps10
  go_wp2_with (go_at_call 19; refine B.out.mono ?_; rintro e w' ⟨rfl, rfl⟩)
  clear k1 k2 k3 k4 k5 k6
  have hs0 : ∀ W : World, W.heap.size = w.heap.size + 1 + 1 + 1 + 1 + 1 + 1 → Sees (W.alloc (.cells ((strs c d).map Value.string).toArray 9)) (w.heap.size + 7) (some ⟨w.heap.size + 1 + 1 + 1 + 1 + 1 + 1, 0, none⟩) 6 ((strs c d).map Value.string) := by
    intro W hW
    refine ⟨by simp [strs], fun _ => ⟨_, 0, rfl, by omega, fun j u hu => ?_⟩⟩
    rw [Nat.zero_add, ← hW, World.cell?_alloc_mark]
    simpa using hu
  go_loopw [7] (fun i wr => ∃ k : Nat, k ≤ 6 ∧ i = .int .i64 k ∧ Below w.heap.size w wr ∧ Sees wr (w.heap.size + 7) (some ⟨w.heap.size + 1 + 1 + 1 + 1 + 1 + 1, 0, none⟩) 6 ((strs c d).map Value.string)) (fun i _ => 6 - (intOf i).toNat)
  case atStart =>
    refine ⟨0, by omega, rfl, ?_, hs0 _ (by simp)⟩
    exact (((((((Below.refl _ _).alloc (by simp) _).alloc (by simp <;> omega) _).alloc (by simp <;> omega) _).alloc (by simp <;> omega) _).alloc (by simp <;> omega) _).alloc (by simp <;> omega) _).alloc (by simp <;> omega) _
  case round =>
    obtain ⟨k, hk, rfl, hb, hs⟩ := hrel
    clear hs0
    by_cases hlt : k < 6
    · obtain ⟨_, _, u, e1, _, hu, hc⟩ := hs.at_ hlt
      cases e1
      rw [Nat.zero_add] at hc
      have hx : ∃ x : ByteArray, u = .string x ∧ x.size ≤ 4 := by
        rw [List.getElem?_map] at hu
        cases hx : (strs c d)[k]? with
        | none => rw [hx] at hu; cases hu
        | some x =>
          rw [hx] at hu
          cases hu
          refine ⟨x, rfl, ?_⟩
          have hm := List.mem_of_getElem? hx
          simp [strs] at hm
          rcases hm with rfl | rfl | rfl | rfl | rfl | rfl <;> simp [ByteArray.size]
      obtain ⟨x, rfl, hx4⟩ := hx
      have hm : x.size ≤ maxLen := by unfold maxLen; omega
      have C1 := fun W => hide (class_any x W hm)
      have C2 := fun W => hide (rclass_any x W hm)
      have N1 := fun W => hide (name_any x W hm)
      have N2 := fun W => hide (rname_any x W hm)
      have M1 := fun W => hide (may_any x W hm)
      have M2 := fun W => hide (rmay_any x W hm)
      have F1 := fun W => hide (ref_any x W hm)
      have F2 := fun W => hide (rref_any x W hm)
      generalize classB x.toList = x1 at *
      generalize nameB x.toList = x2 at *
      generalize mayB x.toList = x3 at *
      generalize refB x.toList = x5 at *
      have hi : (k : Int) < (6 : Int) := by omega
      clear hu
      go_wp2
      go_quiet ((first
        | (go_at_call 23; exact quiet_l (C1 _).out)
        | (go_at_call 24; exact quiet_l (C2 _).out)
        | (go_at_call 25; exact quiet_l (N1 _).out)
        | (go_at_call 26; exact quiet_l (N2 _).out)
        | (go_at_call 27; exact quiet_l (M1 _).out)
        | (go_at_call 28; exact quiet_l (M2 _).out)
        | (go_at_call 31; exact quiet_l (F1 _).out)
        | (go_at_call 32; exact quiet_l (F2 _).out)))
      go_wp2
      go_roundw
      case rel => exact ⟨k + 1, by omega, by go_num, bel_drewN hb _, hs.drewN _⟩
      case measure => simp [intOf]; omega
    · obtain rfl : k = 6 := by omega
      go_wp2
      go_ret
      exact ⟨rfl, hb⟩
end Go.Proofs.Ythhglbocoogefaa
