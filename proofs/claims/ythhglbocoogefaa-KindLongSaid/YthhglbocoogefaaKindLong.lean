/- The walk of KindLong: whatever number and truth come in, the call returns true and leaves what was there as it was. Conditions: the number fits. -/
import Derived.Test.YthhglbocoogefaaKindBytes
namespace Go.Proofs.Ythhglbocoogefaa
open Go.RowKit

def longC (g : Bool) (k : Nat) : UInt8 := if k = 0 ∧ g = true then 65 else UInt8.ofNat (97 + k % 26)
def longL (g : Bool) : Nat → List UInt8
  | 0 => []
  | k + 1 => longL g k ++ [longC g k]
def longS (g : Bool) (k : Nat) : ByteArray := ⟨(longL g k).toArray⟩
theorem longS_succ (g : Bool) (k : Nat) : longS g (k + 1) = longS g k ++ ⟨#[longC g k]⟩ := by
  unfold longS
  apply ByteArray.ext
  simp [longL]
theorem longS_toList (g : Bool) (k : Nat) : (longS g k).toList = longL g k := by
  rw [ByteArray.toList_eq]
  rfl
theorem longL_length (g : Bool) (k : Nat) : (longL g k).length = k := by
  induction k with
  | zero => rfl
  | succ k ih => simp [longL, ih]
theorem longS_size (g : Bool) (k : Nat) : (longS g k).size = k := by rw [← size_toList, longS_toList, longL_length]
def longT (g : Bool) (n : Nat) : Bool := classB (longL g n) == (g && decide (2 ≤ n) && decide (n ≤ 8)) && nameB (longL g n) == (!g && decide (1 ≤ n) && decide (n ≤ 8))
theorem long_all : ∀ n, n ≤ 20 → longT true n = true ∧ longT false n = true := by
  have h : (List.range 21).all (fun n => longT true n && longT false n) = true := by decide +kernel
  intro n hn
  rw [List.all_eq_true] at h
  have := h n (by simp; omega)
  simpa using this
theorem long_is (g : Bool) (n : Nat) (hn : n ≤ 20) : classB (longL g n) = (g && decide (2 ≤ n) && decide (n ≤ 8)) ∧ nameB (longL g n) = (!g && decide (1 ≤ n) && decide (n ≤ 8)) := by
  have h : longT g n = true := by cases g; exact (long_all n hn).2; exact (long_all n hn).1
  unfold longT at h
  simpa using h

set_option maxHeartbeats 1000000 in
theorem kindLong_walk (a0 : Int) (a1 : Bool) (w0 : (Lit.int .i64 a0).wf = true) (w : World) :
    Calls Try.prog 12 #[.int .i64 a0, .bool a1] w fun e w' => e = .returned (.bool true) ∧ Below w.heap.size w w' := by
  have B := hide (begun3_any w)
  have hwf := bounds_i64 w0
  clear w0
  by_cases hA : a0 < 0
  · go_enter Try.func12, Try.ntmps12
    go_wp2_with (go_at_call 19; refine B.out.mono ?_; rintro e w' ⟨rfl, rfl⟩)
    go_ret
    exact ⟨rfl, Below.refl _ _⟩
  by_cases hB : 20 < a0
  · go_enter Try.func12, Try.ntmps12
    go_wp2_with (go_at_call 19; refine B.out.mono ?_; rintro e w' ⟨rfl, rfl⟩)
    go_ret
    exact ⟨rfl, Below.refl _ _⟩
  obtain ⟨n, rfl⟩ := Int.eq_ofNat_of_zero_le (show 0 ≤ a0 by omega)
  go_enter Try.func12, Try.ntmps12
  go_wp2_with (go_at_call 19; refine B.out.mono ?_; rintro e w' ⟨rfl, rfl⟩)
  go_loopw [6, 7] (fun t i wr => ∃ k : Nat, k ≤ n ∧ i = .int .i64 k ∧ t = .string (longS a1 k) ∧ Below w.heap.size w wr) (fun _ i _ => n - (intOf i).toNat)
  case atStart => exact ⟨0, Nat.zero_le _, rfl, rfl, Below.refl _ _⟩
  case round =>
    obtain ⟨k, hk, rfl, rfl, hbr⟩ := hrel
    by_cases hlt : k < n
    · have hsz := longS_size a1 k
      by_cases hk0 : k = 0
      · subst hk0
        cases a1
        · have k1 := fun (W : World) (g : Nat) (hg : g = W.heap.size) => conv_new W g hg #[.int .u8 97] [97] 1 rfl rfl
          have HS := hide (longS_succ false 0)
          go_wp2_with fail
          go_roundw
          case rel => exact ⟨1, by omega, rfl, by rw [HS.out]; rfl, hbr.alloc hbr.size _⟩
          case measure => simp [intOf]; omega
        · have k1 := fun (W : World) (g : Nat) (hg : g = W.heap.size) => conv_new W g hg #[.int .u8 65] [65] 1 rfl rfl
          have HS := hide (longS_succ true 0)
          go_wp2_with fail
          go_roundw
          case rel => exact ⟨1, by omega, rfl, by rw [HS.out]; rfl, hbr.alloc hbr.size _⟩
          case measure => simp [intOf]; omega
      · have hcc : longC a1 k = UInt8.ofNat (97 + k % 26) := by unfold longC; rw [if_neg (fun h => hk0 h.1)]
        have hcn : ((UInt8.ofNat (97 + k % 26)).toNat : Int) = 97 + (k : Int) % 26 := by
          simp
          omega
        have k1 := fun (W : World) (g : Nat) (hg : g = W.heap.size) => conv_new W g hg #[.int .u8 (97 + (k : Int) % 26)] [longC a1 k] 1 rfl (by rw [hcc]; simp only [List.map_cons, List.map_nil, hcn])
        have HS := hide (longS_succ a1 k)
        have hkz : ((k : Int) == 0) = false := by
          simp only [beq_eq_false_iff_ne, ne_eq]
          omega
        clear hcc hcn
        go_wp2_with fail
        go_roundw
        case rel => exact ⟨k + 1, by omega, by go_num, by rw [HS.out], hbr.alloc hbr.size _⟩
        case measure => simp [intOf]; omega
    · obtain rfl : k = n := by omega
      have hz := longS_size a1 k
      have hm : (longS a1 k).size ≤ maxLen := by rw [hz]; unfold maxLen; omega
      have hl := long_is a1 k (by omega)
      have c1 := class_any _ wr hm
      have n1 := name_any _ wr hm
      rw [longS_toList, hl.1] at c1
      rw [longS_toList, hl.2] at n1
      have C1 := hide c1
      have N1 := hide n1
      clear c1 n1 hl
      generalize longS a1 k = t at *
      by_cases h2 : 2 ≤ k <;> by_cases h8 : k ≤ 8 <;> by_cases h1 : 1 ≤ k <;> cases a1
      all_goals first | (exfalso; omega) | skip
      all_goals
        have C2 := C1.out
        have N2 := N1.out
        clear C1 N1
        simp only [h1, h2, h8, decide_true, decide_false, Bool.and_true, Bool.and_false, Bool.not_true, Bool.not_false] at C2 N2
        have C1 := hide C2
        have N1 := hide N2
        clear C2 N2
        go_wp2_with (first
          | (go_at_call 23; refine C1.out.mono ?_; rintro e w' ⟨rfl, rfl⟩)
          | (go_at_call 25; refine N1.out.mono ?_; rintro e w' ⟨rfl, rfl⟩))
      all_goals go_ret
      all_goals first
        | exact ⟨rfl, hbr⟩
        | exact ⟨ret_bool (by simp; omega), hbr⟩
end Go.Proofs.Ythhglbocoogefaa
