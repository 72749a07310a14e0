/- The walk of KindArrays: whatever text comes in, the call returns true and leaves what was there as it was. Conditions: the text's length is a Go length. -/
import Derived.Test.YthhglbocoogefaaKindD
namespace Go.Proofs.Ythhglbocoogefaa
open Go.RowKit

theorem may_three (l : List UInt8) : mayB (91 :: 91 :: 91 :: l) = false := by
  have h : mayB (91 :: 91 :: 91 :: l) = ((91 :: l) == [73] || classB (91 :: l)) := rfl
  rw [h]
  have h1 : ((91 :: l : List UInt8) == [73]) = false := by simp
  have h2 : classB (91 :: l) = false := by
    unfold classB wordB
    simp [okB, smB, grB, dgB]
  rw [h1, h2]
  rfl
theorem arr_no {s : ByteArray} (h : mayB (91 :: s.toList) = false) : arrS s = ⟨#[]⟩ := by
  unfold arrS
  rw [h]
  simp
theorem arr_yes {s : ByteArray} (h : mayB (91 :: s.toList) = true) : arrS s = (⟨#[91]⟩ : ByteArray) ++ s := by
  unfold arrS
  rw [h, may_cons h]
  rfl
set_option maxHeartbeats 1000000 in
theorem kindArrays_walk (a0 : ByteArray) (w0 : a0.size ≤ maxLen) (w : World) :
    Calls Try.prog 11 #[.string a0] w fun e w' => e = .returned (.bool true) ∧ Below w.heap.size w w' := by
  have B := hide (begun3_any w)
  have CU := hide (cut_any a0 12 w w0 (by omega))
  have hz := cutS_size a0 12
  generalize cutS a0 12 = s at *
  have hk : s.size ≤ 1000 := by omega
  have a1 := array_any s w hk
  cases hm : mayB (91 :: s.toList)
  · rw [arr_no hm] at a1
    have A1 := hide a1
    have m1 := may_any ((⟨#[91]⟩ : ByteArray) ++ s) w (by rw [cons_size]; unfold maxLen; omega)
    rw [cons_toList, hm] at m1
    have M1 := hide m1
    clear a1 m1 hm
    go_enter Try.func11, Try.ntmps11
    go_wp2_with (first
      | (go_at_call 19; refine B.out.mono ?_; rintro e w' ⟨rfl, rfl⟩)
      | (go_at_call 20; refine CU.out.mono ?_; rintro e w' ⟨rfl, rfl⟩)
      | (go_at_call 33; refine A1.out.mono ?_; rintro e w' ⟨rfl, rfl⟩)
      | (go_at_call 27; refine M1.out.mono ?_; rintro e w' ⟨rfl, rfl⟩))
    go_ret
    exact ⟨rfl, Below.refl _ _⟩
  · rw [arr_yes hm] at a1
    have ha := cons_toList s
    have haz := cons_size s
    generalize (⟨#[91]⟩ : ByteArray) ++ s = a at *
    have hka : a.size ≤ 1000 := by omega
    have e1 := elem_any a w hka
    have f1 := ref_any a w (by unfold maxLen; omega)
    have a2 := array_any a w hka
    have he : elemS a = (a.extract 1 a.size, true) := by
      unfold elemS
      rw [ha, hm]
      rfl
    have hf : refB a.toList = true := by
      unfold refB
      rw [ha, hm]
      rfl
    rw [he] at e1
    rw [hf] at f1
    have hx : (a.extract 1 a.size).toList = s.toList := by
      rw [Lib.extract_toList, ← ByteArray.toList_eq, ha, List.drop_succ_cons, List.drop_zero, List.take_of_length_le]
      rw [size_toList]; omega
    have hxb : ((a.extract 1 a.size).toList == s.toList) = true := by rw [hx]; simp
    generalize a.extract 1 a.size = x at *
    have hne : a.toList.isEmpty = false := by rw [ha]; rfl
    have hne2 : (!a.toList.isEmpty) = true := by rw [hne]; rfl
    have hne3 : (a.toList = []) = False := by rw [ha]; simp
    have E1 := hide e1
    have F1 := hide f1
    have A1 := hide a1
    clear e1 f1 a1 he hf hx
    cases hm2 : mayB (91 :: a.toList)
    · rw [arr_no hm2] at a2
      have A2 := hide a2
      clear a2 ha hm hm2
      go_enter Try.func11, Try.ntmps11
      go_wp2_with (first
        | (go_at_call 19; refine B.out.mono ?_; rintro e w' ⟨rfl, rfl⟩)
        | (go_at_call 20; refine CU.out.mono ?_; rintro e w' ⟨rfl, rfl⟩)
        | (go_at_call_of 33 (Value.string s); refine A1.out.mono ?_; rintro e w' ⟨rfl, rfl⟩)
        | (go_at_call_of 33 (Value.string a); refine A2.out.mono ?_; rintro e w' ⟨rfl, rfl⟩)
        | (go_at_call 21; refine E1.out.mono ?_; rintro e w' ⟨rfl, rfl⟩)
        | (go_at_call 31; refine F1.out.mono ?_; rintro e w' ⟨rfl, rfl⟩))
      go_ret
      exact ⟨rfl, Below.refl _ _⟩
    · rw [arr_yes hm2] at a2
      have hb := cons_toList a
      have hbz := cons_size a
      generalize (⟨#[91]⟩ : ByteArray) ++ a = b at *
      have a3 := array_any b w (by omega)
      rw [arr_no (by rw [hb, ha]; exact may_three _)] at a3
      have hnb : b.toList.isEmpty = false := by rw [hb]; rfl
      have hnb2 : (!b.toList.isEmpty) = true := by rw [hnb]; rfl
      have hnb3 : (b.toList = []) = False := by rw [hb]; simp
      have A2 := hide a2
      have A3 := hide a3
      clear a2 a3 ha hb hm hm2
      go_enter Try.func11, Try.ntmps11
      go_wp2_with (first
        | (go_at_call 19; refine B.out.mono ?_; rintro e w' ⟨rfl, rfl⟩)
        | (go_at_call 20; refine CU.out.mono ?_; rintro e w' ⟨rfl, rfl⟩)
        | (go_at_call_of 33 (Value.string s); refine A1.out.mono ?_; rintro e w' ⟨rfl, rfl⟩)
        | (go_at_call_of 33 (Value.string a); refine A2.out.mono ?_; rintro e w' ⟨rfl, rfl⟩)
        | (go_at_call_of 33 (Value.string b); refine A3.out.mono ?_; rintro e w' ⟨rfl, rfl⟩)
        | (go_at_call 21; refine E1.out.mono ?_; rintro e w' ⟨rfl, rfl⟩)
        | (go_at_call 31; refine F1.out.mono ?_; rintro e w' ⟨rfl, rfl⟩))
      go_ret
      exact ⟨rfl, Below.refl _ _⟩
end Go.Proofs.Ythhglbocoogefaa
