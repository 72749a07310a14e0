/- The walks of package kind's Ret, Ref, Elem and Array: each gives the plain function of the text's bytes and leaves the world alone. Conditions: a text's length is a Go length. -/
import Derived.Test.YthhglbocoogefaaKindA
namespace Go.Proofs.Ythhglbocoogefaa
open Go.RowKit

def retB (l : List UInt8) : Bool := l == [86] || mayB l
def refB (l : List UInt8) : Bool := !(l == [73]) && mayB l
theorem ret_any (s : ByteArray) (w : World) (hs : s.size ≤ maxLen) : Calls Try.prog 29 #[.string s] w fun e w' => e = .returned (.bool (retB s.toList)) ∧ w = w' := by
  have cm := may_any s w hs
  have hr : retB s.toList = (s.toList == [86] || mayB s.toList) := rfl
  generalize mayB s.toList = b at *
  have CM := hide cm
  have HR := hide hr
  clear cm hr
  cases hq : (s.toList == [86])
  all_goals
    have HQ := hide hq
    go_enter Try.func29, Try.ntmps29
    go_wp2_with (go_at_call 27; refine CM.out.mono ?_; rintro e w' ⟨rfl, rfl⟩)
    go_ret
    exact ⟨ret_bool (by rw [HR.out, HQ.out]; rfl), rfl⟩
theorem ref_any (s : ByteArray) (w : World) (hs : s.size ≤ maxLen) : Calls Try.prog 31 #[.string s] w fun e w' => e = .returned (.bool (refB s.toList)) ∧ w = w' := by
  have cm := may_any s w hs
  have hr : refB s.toList = (!(s.toList == [73]) && mayB s.toList) := rfl
  generalize mayB s.toList = b at *
  have CM := hide cm
  have HR := hide hr
  clear cm hr
  cases hq : (s.toList == [73])
  all_goals
    have HQ := hide hq
    go_enter Try.func31, Try.ntmps31
    go_wp2_with (go_at_call 27; refine CM.out.mono ?_; rintro e w' ⟨rfl, rfl⟩)
    go_ret
    exact ⟨ret_bool (by rw [HR.out, HQ.out]; rfl), rfl⟩
theorem may_pos {s : ByteArray} (h : mayB s.toList = true) : 0 < s.size := by
  rw [← size_toList]
  rcases hl : s.toList with _ | ⟨c, l⟩
  · rw [hl] at h; cases h
  · simp
theorem cons_toList (s : ByteArray) : ((⟨#[91]⟩ : ByteArray) ++ s).toList = 91 :: s.toList := by
  rw [ByteArray.toList_eq, ByteArray.toList_eq]
  simp
theorem cons_size (s : ByteArray) : ((⟨#[91]⟩ : ByteArray) ++ s).size = s.size + 1 := by
  rw [← size_toList, cons_toList, List.length_cons, size_toList]
def arrS (s : ByteArray) : ByteArray := if mayB s.toList && mayB (91 :: s.toList) then (⟨#[91]⟩ : ByteArray) ++ s else ⟨#[]⟩
theorem array_any (s : ByteArray) (w : World) (hs : s.size ≤ 1000) : Calls Try.prog 33 #[.string s] w fun e w' => e = .returned (.string (arrS s)) ∧ w = w' := by
  have c1 := may_any s w (by unfold maxLen; omega)
  have c2 := may_any ((⟨#[91]⟩ : ByteArray) ++ s) w (by rw [cons_size]; unfold maxLen; omega)
  have ha : arrS s = if mayB s.toList && mayB (91 :: s.toList) then (⟨#[91]⟩ : ByteArray) ++ s else ⟨#[]⟩ := rfl
  rw [cons_toList] at c2
  generalize mayB s.toList = b1 at *
  generalize mayB (91 :: s.toList) = b2 at *
  have HA := hide ha
  have C1 := hide c1
  have C2 := hide c2
  clear ha c1 c2
  cases b1 <;> cases b2
  all_goals
    go_enter Try.func33, Try.ntmps33
    go_wp2_with (first
      | (go_at_call_of 27 (Value.string s); refine C1.out.mono ?_; rintro e w' ⟨rfl, rfl⟩)
      | (go_at_call_of 27 (Value.string ((⟨#[91]⟩ : ByteArray) ++ s)); refine C2.out.mono ?_; rintro e w' ⟨rfl, rfl⟩))
    go_ret
    exact ⟨by rw [HA.out]; rfl, rfl⟩
theorem byte_ne (c : UInt8) (n : Nat) (hn : n < 256) : (((c.toNat : Nat) : Int) != (n : Int)) = !(c == UInt8.ofNat n) := by
  rw [Bool.eq_iff_iff]
  simp only [bne_iff_ne, ne_eq, Bool.not_eq_true', beq_eq_false_iff_ne]
  refine not_congr ⟨fun h => ?_, fun h => by rw [h]; simp; omega⟩
  apply UInt8.toNat_inj.1
  simp
  omega
def elemS (s : ByteArray) : ByteArray × Bool := if mayB s.toList && (s.toList.headD 0 == 91) then (s.extract 1 s.size, true) else (⟨#[]⟩, false)
theorem elem_any (s : ByteArray) (w : World) (hs : s.size ≤ 1000) : Calls Try.prog 21 #[.string s] w fun e w' => e = .returned (.tuple #[.string (elemS s).1, .bool (elemS s).2]) ∧ w = w' := by
  have c1 := may_any s w (by unfold maxLen; omega)
  have he : elemS s = if mayB s.toList && (s.toList.headD 0 == 91) then (s.extract 1 s.size, true) else (⟨#[]⟩, false) := rfl
  cases hm : mayB s.toList
  · rw [hm] at c1 he
    have HE := hide he
    have C1 := hide c1
    clear he c1
    go_enter Try.func21, Try.ntmps21
    go_wp2_with (go_at_call 27; refine C1.out.mono ?_; rintro e w' ⟨rfl, rfl⟩)
    go_ret2
    exact ⟨by rw [HE.out]; rfl, rfl⟩
  · have hp := may_pos hm
    obtain ⟨c, hc, hh⟩ := head_toList s hp
    have hb := byte_ne c 91 (by omega)
    rw [hm, hh] at he
    rw [hm] at c1
    have C1 := hide c1
    clear c1 hh
    have hb' : (((c.toNat : Nat) : Int) != 91) = !(c == 91) := hb
    clear hb
    have hp1 : 1 ≤ s.size := hp
    cases hq : (c == 91)
    all_goals
      rw [hq] at hb' he
      have HE := hide he
      clear he hq
      go_enter Try.func21, Try.ntmps21
      go_wp2_with (go_at_call 27; refine C1.out.mono ?_; rintro e w' ⟨rfl, rfl⟩)
      go_ret2
      exact ⟨by rw [HE.out]; rfl, rfl⟩
end Go.Proofs.Ythhglbocoogefaa
