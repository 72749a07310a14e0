/- The walks of package kind's small functions and of the reference's: each gives the plain function of the text's bytes and leaves the world alone. Conditions: a text's length is a Go length. -/
import Derived.Test.YthhglbocoogefaaRows
import Derived.Test.YthhglbocoogefaaWords
import Derived.Lib.Strings
import Derived.Deep.RegionWith
namespace Go.Proofs.Ythhglbocoogefaa
open Go.RowKit

def smB (c : UInt8) : Bool := decide (97 ≤ c.toNat) && decide (c.toNat ≤ 122)
def grB (c : UInt8) : Bool := decide (65 ≤ c.toNat) && decide (c.toNat ≤ 90)
def dgB (c : UInt8) : Bool := decide (48 ≤ c.toNat) && decide (c.toNat ≤ 57)
theorem ret_bool {a b : Bool} (h : a = b) : Ending.returned (.bool a) = .returned (.bool b) := by rw [h]
theorem two_tests {a b x : Nat} (h : (a : Int) ≤ (x : Int)) : decide ((x : Int) ≤ (b : Int)) = (decide (a ≤ x) && decide (x ≤ b)) := by
  have h1 : a ≤ x := by omega
  simp [h1]
theorem two_tests' {a b x : Nat} (h : (x : Int) < (a : Int)) : false = (decide (a ≤ x) && decide (x ≤ b)) := by
  have h1 : ¬ a ≤ x := by omega
  simp [h1]

theorem small_any (c : UInt8) (w : World) : Calls Try.prog 40 #[.int .u8 (c.toNat : Int)] w fun e w' => e = .returned (.bool (smB c)) ∧ w = w' := by
  go_enter Try.func40, Try.ntmps40
  go_wp2
  all_goals go_ret
  · exact ⟨ret_bool (two_tests (a := 97) (b := 122) (by assumption)), rfl⟩
  · exact ⟨ret_bool (two_tests' (a := 97) (b := 122) (by assumption)), rfl⟩
theorem great_any (c : UInt8) (w : World) : Calls Try.prog 36 #[.int .u8 (c.toNat : Int)] w fun e w' => e = .returned (.bool (grB c)) ∧ w = w' := by
  go_enter Try.func36, Try.ntmps36
  go_wp2
  all_goals go_ret
  · exact ⟨ret_bool (two_tests (a := 65) (b := 90) (by assumption)), rfl⟩
  · exact ⟨ret_bool (two_tests' (a := 65) (b := 90) (by assumption)), rfl⟩
theorem digit_any (c : UInt8) (w : World) : Calls Try.prog 42 #[.int .u8 (c.toNat : Int)] w fun e w' => e = .returned (.bool (dgB c)) ∧ w = w' := by
  go_enter Try.func42, Try.ntmps42
  go_wp2
  all_goals go_ret
  · exact ⟨ret_bool (two_tests (a := 48) (b := 57) (by assumption)), rfl⟩
  · exact ⟨ret_bool (two_tests' (a := 48) (b := 57) (by assumption)), rfl⟩
theorem rgreat_any (c : UInt8) (w : World) : Calls Try.prog 37 #[.int .u8 (c.toNat : Int)] w fun e w' => e = .returned (.bool (grB c)) ∧ w = w' := by
  go_enter Try.func37, Try.ntmps37
  go_wp2
  all_goals go_ret
  · exact ⟨ret_bool (two_tests (a := 65) (b := 90) (by assumption)), rfl⟩
  · exact ⟨ret_bool (two_tests' (a := 65) (b := 90) (by assumption)), rfl⟩
theorem rlittle_any (c : UInt8) (w : World) : Calls Try.prog 38 #[.int .u8 (c.toNat : Int)] w fun e w' => e = .returned (.bool (smB c)) ∧ w = w' := by
  go_enter Try.func38, Try.ntmps38
  go_wp2
  all_goals go_ret
  · exact ⟨ret_bool (two_tests (a := 97) (b := 122) (by assumption)), rfl⟩
  · exact ⟨ret_bool (two_tests' (a := 97) (b := 122) (by assumption)), rfl⟩
theorem rdigit_any (c : UInt8) (w : World) : Calls Try.prog 39 #[.int .u8 (c.toNat : Int)] w fun e w' => e = .returned (.bool (dgB c)) ∧ w = w' := by
  go_enter Try.func39, Try.ntmps39
  go_wp2
  all_goals go_ret
  · exact ⟨ret_bool (two_tests (a := 48) (b := 57) (by assumption)), rfl⟩
  · exact ⟨ret_bool (two_tests' (a := 48) (b := 57) (by assumption)), rfl⟩

def okB (c : UInt8) : Bool := smB c || grB c || dgB c
def wordB (l : List UInt8) : Bool := l.all okB && (!l.isEmpty && decide (l.length ≤ 8))
theorem all_take (l : List UInt8) (k : Nat) (c : UInt8) (h : l[k]? = some c) : (l.take (k + 1)).all okB = ((l.take k).all okB && okB c) := by
  rw [List.take_add_one, h, List.all_append]
  simp
theorem all_of_no (l : List UInt8) (k : Nat) (c : UInt8) (h : l[k]? = some c) (hc : okB c = false) : l.all okB = false := by
  rw [List.all_eq_false]
  exact ⟨c, List.mem_of_getElem? h, by simp [hc]⟩

theorem size_toList (s : ByteArray) : s.toList.length = s.size := by rw [ByteArray.toList_eq]; simp
theorem word_yes {s : ByteArray} (h : s.toList.all okB = true) : (!s.toList.isEmpty && decide ((s.size : Int) ≤ 8)) = wordB s.toList := by
  unfold wordB
  rw [h, size_toList]
  simp only [Bool.true_and]
  congr 1
  rw [decide_eq_decide]
  omega
set_option maxHeartbeats 400000 in
theorem word_any (s : ByteArray) (w : World) (hs : s.size ≤ maxLen) : Calls Try.prog 35 #[.string s] w fun e w' => e = .returned (.bool (wordB s.toList)) ∧ w = w' := by
  unfold maxLen at hs
  go_enter Try.func35, Try.ntmps35
  go_wp2_with fail
  go_loop [6] (fun i => ∃ k : Nat, k ≤ s.size ∧ i = .int .i64 k ∧ Hid ((s.toList.take k).all okB = true)) (fun i => s.size - (intOf i).toNat)
  case atStart => exact ⟨0, Nat.zero_le _, rfl, rfl⟩
  case round =>
    obtain ⟨k, hk, rfl, hok⟩ := hrel
    by_cases hlt : k < s.size
    · have hg : s.toList[k]? = some s[k] := by
        rw [ByteArray.toList_eq, List.getElem?_eq_getElem (by simpa using hlt)]
        rfl
      have HG := hide hg
      clear hg
      have c1 := small_any s[k] w
      have c2 := great_any s[k] w
      have c3 := digit_any s[k] w
      have hokc : okB s[k] = (smB s[k] || grB s[k] || dgB s[k]) := rfl
      generalize smB s[k] = b1 at *
      generalize grB s[k] = b2 at *
      generalize dgB s[k] = b3 at *
      have C1 := hide c1
      have C2 := hide c2
      have C3 := hide c3
      have HOK := hide hokc
      clear c1 c2 c3 hokc
      cases b1 <;> cases b2 <;> cases b3
      all_goals
        go_wp2_with (first
          | (go_at_call 40; refine C1.out.mono ?_; rintro e w' ⟨rfl, rfl⟩)
          | (go_at_call 36; refine C2.out.mono ?_; rintro e w' ⟨rfl, rfl⟩)
          | (go_at_call 42; refine C3.out.mono ?_; rintro e w' ⟨rfl, rfl⟩))
      all_goals first
        | (go_round
           case rel => exact ⟨k + 1, by omega, by go_num, by
             have h1 := all_take s.toList k s[k] HG.out
             rw [hok.out, HOK.out] at h1
             exact h1⟩
           case measure => simp [intOf]; omega)
        | (go_ret
           refine ⟨ret_bool ?_, rfl⟩
           have h1 := all_of_no s.toList k s[k] HG.out HOK.out
           unfold wordB
           rw [h1]
           rfl)
    · obtain rfl : k = s.size := by omega
      have hall : s.toList.all okB = true := by
        have h1 := hok.out
        rwa [List.take_of_length_le (by rw [ByteArray.toList_eq]; simp)] at h1
      have HALL := hide hall
      clear hall
      go_wp2_with fail
      · go_ret
        exact ⟨ret_bool rfl, rfl⟩
      · go_ret
        exact ⟨ret_bool (word_yes HALL.out), rfl⟩

def classB (l : List UInt8) : Bool := wordB l && (decide (1 < l.length) && grB (l.headD 0))
theorem head_toList (s : ByteArray) (h : 0 < s.size) : ∃ c, s[0] = c ∧ s.toList.headD 0 = c := by
  refine ⟨s[0], rfl, ?_⟩
  rw [ByteArray.toList_eq]
  obtain ⟨⟨l⟩⟩ := s
  cases l with
  | nil => exact absurd h (by simp [ByteArray.size])
  | cons c l => rfl
theorem class_any (s : ByteArray) (w : World) (hs : s.size ≤ maxLen) : Calls Try.prog 23 #[.string s] w fun e w' => e = .returned (.bool (classB s.toList)) ∧ w = w' := by
  have cw := word_any s w hs
  unfold maxLen at hs
  have hcl : classB s.toList = (wordB s.toList && (decide (1 < s.size) && grB (s.toList.headD 0))) := by unfold classB; rw [size_toList]
  generalize wordB s.toList = b at *
  have CW := hide cw
  clear cw
  cases b
  · have HCL := hide hcl
    clear hcl
    go_enter Try.func23, Try.ntmps23
    go_wp2_with (go_at_call 35; refine CW.out.mono ?_; rintro e w' ⟨rfl, rfl⟩)
    go_ret
    exact ⟨ret_bool (by rw [HCL.out]; rfl), rfl⟩
  · by_cases h1 : 1 < s.size
    · obtain ⟨c, hc, hh⟩ := head_toList s (by omega)
      rw [hh] at hcl
      have HCL := hide hcl
      have CG := hide (great_any c w)
      clear hcl hh
      go_enter Try.func23, Try.ntmps23
      go_wp2_with (first
        | (go_at_call 35; refine CW.out.mono ?_; rintro e w' ⟨rfl, rfl⟩)
        | (go_at_call 36; refine CG.out.mono ?_; rintro e w' ⟨rfl, rfl⟩))
      go_ret
      exact ⟨ret_bool (by rw [HCL.out]; simp [h1]), rfl⟩
    · have HCL := hide hcl
      clear hcl
      go_enter Try.func23, Try.ntmps23
      go_wp2_with (go_at_call 35; refine CW.out.mono ?_; rintro e w' ⟨rfl, rfl⟩)
      go_ret
      exact ⟨ret_bool (by rw [HCL.out]; simp [h1]), rfl⟩

def initL : List UInt8 := [36, 105, 110, 105, 116]
def nameB (l : List UInt8) : Bool := l == initL || (wordB l && smB (l.headD 0))
theorem word_pos {s : ByteArray} (h : wordB s.toList = true) : 0 < s.size := by
  rw [← size_toList]
  rcases hl : s.toList with _ | ⟨c, l⟩
  · rw [hl] at h; cases h
  · simp
theorem name_any (s : ByteArray) (w : World) (hs : s.size ≤ maxLen) : Calls Try.prog 25 #[.string s] w fun e w' => e = .returned (.bool (nameB s.toList)) ∧ w = w' := by
  have cw := word_any s w hs
  unfold maxLen at hs
  have hcl : nameB s.toList = ((s.toList == [36, 105, 110, 105, 116]) || (wordB s.toList && smB (s.toList.headD 0))) := rfl
  cases hq : (s.toList == [36, 105, 110, 105, 116])
  · rw [hq] at hcl
    cases hb : wordB s.toList
    · rw [hb] at hcl cw
      have CW := hide cw
      have HCL := hide hcl
      clear cw hcl hb
      go_enter Try.func25, Try.ntmps25
      go_wp2_with (go_at_call 35; refine CW.out.mono ?_; rintro e w' ⟨rfl, rfl⟩)
      go_ret
      exact ⟨ret_bool (by rw [HCL.out]; rfl), rfl⟩
    · have hp := word_pos hb
      rw [hb] at hcl cw
      obtain ⟨c, hc, hh⟩ := head_toList s hp
      rw [hh] at hcl
      have CW := hide cw
      have CG := hide (small_any c w)
      have HCL := hide hcl
      clear cw hcl hb hh
      go_enter Try.func25, Try.ntmps25
      go_wp2_with (first
        | (go_at_call 35; refine CW.out.mono ?_; rintro e w' ⟨rfl, rfl⟩)
        | (go_at_call 40; refine CG.out.mono ?_; rintro e w' ⟨rfl, rfl⟩))
      go_ret
      exact ⟨ret_bool (by rw [HCL.out]; rfl), rfl⟩
  · rw [hq] at hcl
    have HCL := hide hcl
    clear hcl cw
    go_enter Try.func25, Try.ntmps25
    go_wp2_with fail
    go_ret
    exact ⟨ret_bool (by rw [HCL.out]; rfl), rfl⟩

/-! Prefixes. -/
def trimL (l : List UInt8) : List UInt8 := if l.headD 0 == 91 then l.tail else l
def trimS (s : ByteArray) : ByteArray := if s.toList.headD 0 == 91 then s.extract 1 s.size else s
theorem trimS_toList (s : ByteArray) : (trimS s).toList = trimL s.toList := by
  unfold trimS trimL
  split
  · rw [Lib.extract_toList, ByteArray.toList_eq]
    simp
    rw [List.take_of_length_le (by simp)]
  · rfl
theorem trimS_size (s : ByteArray) : (trimS s).size ≤ s.size := by
  unfold trimS
  split
  · simp
  · omega
theorem ext_one {s : ByteArray} (h : 0 < s.size) : ((s.extract 0 1).toList == [91]) = (s.toList.headD 0 == 91) := by
  rw [Lib.extract_toList, ← ByteArray.toList_eq]
  have hl := size_toList s
  generalize s.toList = l at *
  cases l with
  | nil => simp at hl; omega
  | cons c l =>
    show ((c :: List.take 0 l) == [91]) = (c == 91)
    cases hc : (c == 91) <;> simp_all
theorem hasPrefix_any (s : ByteArray) (w : World) (hs : s.size ≤ maxLen) : Calls Try.prog 44 #[.string s, .string ⟨#[91]⟩] w fun e w' => e = .returned (.bool (s.toList.headD 0 == 91)) ∧ w = w' := by
  unfold maxLen at hs
  by_cases h0 : s.size = 0
  · have hn : s.toList = [] := List.eq_nil_of_length_eq_zero (by rw [size_toList]; exact h0)
    go_enter Try.func44, Try.ntmps44
    go_wp2_with fail
    go_ret
    exact ⟨ret_bool (by rw [hn]; rfl), rfl⟩
  · have he := hide (ext_one (s := s) (by omega))
    go_enter Try.func44, Try.ntmps44
    go_wp2_with fail
    go_ret
    exact ⟨ret_bool he.out, rfl⟩
theorem trim_any (s : ByteArray) (w : World) (hs : s.size ≤ maxLen) : Calls Try.prog 43 #[.string s, .string ⟨#[91]⟩] w fun e w' => e = .returned (.string (trimS s)) ∧ w = w' := by
  have ch := hasPrefix_any s w hs
  unfold maxLen at hs
  have ht : trimS s = if (s.toList.headD 0 == 91) then s.extract 1 s.size else s := rfl
  have hp : (s.toList.headD 0 == 91) = true → 1 ≤ s.size := by
    intro h
    rw [← size_toList]
    cases hl : s.toList with
    | nil => rw [hl] at h; cases h
    | cons c l => simp
  generalize (s.toList.headD 0 == 91) = b at *
  have CH := hide ch
  have HT := hide ht
  clear ch ht
  cases b
  · clear hp
    go_enter Try.func43, Try.ntmps43
    go_wp2_with (go_at_call 44; refine CH.out.mono ?_; rintro e w' ⟨rfl, rfl⟩)
    go_ret
    exact ⟨by rw [HT.out]; rfl, rfl⟩
  · have h1 := hp rfl
    clear hp
    go_enter Try.func43, Try.ntmps43
    go_wp2_with (go_at_call 44; refine CH.out.mono ?_; rintro e w' ⟨rfl, rfl⟩)
    go_ret
    exact ⟨by rw [HT.out]; rfl, rfl⟩
theorem trim2_any (s : ByteArray) (w : World) (hs : s.size ≤ maxLen) : Calls Try.prog 41 #[.string s, .string ⟨#[91]⟩] w fun e w' => e = .returned (.string (trimS s)) ∧ w = w' := by
  have CH := hide (trim_any s w hs)
  go_enter Try.func41, Try.ntmps41
  go_wp2_with (go_at_call 43; refine CH.out.mono ?_; rintro e w' ⟨rfl, rfl⟩)
  go_ret
  exact ⟨rfl, rfl⟩

def mayB (l : List UInt8) : Bool := trimL (trimL l) == [73] || classB (trimL (trimL l))
theorem may_any (s : ByteArray) (w : World) (hs : s.size ≤ maxLen) : Calls Try.prog 27 #[.string s] w fun e w' => e = .returned (.bool (mayB s.toList)) ∧ w = w' := by
  have h1 := trimS_size s
  have h2 := trimS_size (trimS s)
  have C1 := hide (trim2_any s w hs)
  have C2 := hide (trim2_any (trimS s) w (by omega))
  have c3 := class_any (trimS (trimS s)) w (by omega)
  have hm : mayB s.toList = ((trimS (trimS s)).toList == [73] || classB (trimS (trimS s)).toList) := by
    rw [trimS_toList, trimS_toList]; rfl
  generalize trimS (trimS s) = t at *
  generalize trimS s = u at *
  have HM := hide hm
  clear hm
  cases hq : (t.toList == [73])
  · have HQ := hide hq
    have C3 := hide c3
    clear c3
    go_enter Try.func27, Try.ntmps27
    go_wp2_with (first
      | (go_at_call_of 41 (Value.string s); refine C1.out.mono ?_; rintro e w' ⟨rfl, rfl⟩)
      | (go_at_call_of 41 (Value.string u); refine C2.out.mono ?_; rintro e w' ⟨rfl, rfl⟩)
      | (go_at_call 23; refine C3.out.mono ?_; rintro e w' ⟨rfl, rfl⟩))
    go_ret
    exact ⟨ret_bool (by rw [HM.out, HQ.out]; rfl), rfl⟩
  · have HQ := hide hq
    clear c3
    go_enter Try.func27, Try.ntmps27
    go_wp2_with (first
      | (go_at_call_of 41 (Value.string s); refine C1.out.mono ?_; rintro e w' ⟨rfl, rfl⟩)
      | (go_at_call_of 41 (Value.string u); refine C2.out.mono ?_; rintro e w' ⟨rfl, rfl⟩))
    go_ret
    exact ⟨ret_bool (by rw [HM.out, HQ.out]; rfl), rfl⟩
end Go.Proofs.Ythhglbocoogefaa
