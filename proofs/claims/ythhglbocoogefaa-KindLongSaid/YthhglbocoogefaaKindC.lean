/- The walks of the reference's functions on texts: each gives the same plain function as package kind's and leaves the world alone. Conditions: a text's length is a Go length. -/
import Derived.Test.YthhglbocoogefaaKindB
namespace Go.Proofs.Ythhglbocoogefaa
open Go.RowKit

/-- The first byte by itself, the others any of the three. -/
def preB (hd : UInt8 → Bool) : List UInt8 → Bool
  | [] => true
  | c :: t => hd c && t.all okB
theorem pre_take (hd : UInt8 → Bool) (l : List UInt8) (k : Nat) (c : UInt8) (h : l[k]? = some c) :
    preB hd (l.take (k + 1)) = (preB hd (l.take k) && (if k = 0 then hd c else okB c)) := by
  cases l with
  | nil => simp at h
  | cons d t =>
    cases k with
    | zero =>
      simp at h
      subst h
      simp [preB]
    | succ k =>
      simp at h
      have h1 := all_take t k c h
      simp [preB, h1, Bool.and_assoc]
theorem pre_no (hd : UInt8 → Bool) (l : List UInt8) (k : Nat) (c : UInt8) (h : l[k]? = some c) (hc : (if k = 0 then hd c else okB c) = false) : preB hd l = false := by
  cases l with
  | nil => simp at h
  | cons d t =>
    cases k with
    | zero =>
      simp at h hc
      subst h
      simp [preB, hc]
    | succ k =>
      simp at h hc
      have h1 := all_of_no t k c h hc
      simp [preB, h1]
theorem ok_of_gr {c : UInt8} (h : grB c = true) : okB c = true := by unfold okB; rw [h]; simp
theorem ok_of_sm {c : UInt8} (h : smB c = true) : okB c = true := by unfold okB; rw [h]; rfl
theorem class_pre (l : List UInt8) : (preB grB l && (decide (2 ≤ l.length) && decide (l.length ≤ 8))) = classB l := by
  unfold classB wordB
  cases l with
  | nil => simp [preB]
  | cons c t =>
    simp only [preB, List.all_cons, List.headD_cons, List.isEmpty_cons, Bool.not_false, Bool.true_and, List.length_cons]
    cases hg : grB c
    · simp
    · rw [ok_of_gr hg]
      rw [Bool.eq_iff_iff]
      cases t.all okB <;> simp
      omega
theorem name_pre (l : List UInt8) : (preB smB l && (decide (1 ≤ l.length) && decide (l.length ≤ 8))) = (wordB l && smB (l.headD 0)) := by
  unfold wordB
  cases l with
  | nil => simp [preB]
  | cons c t =>
    simp only [preB, List.all_cons, List.headD_cons, List.isEmpty_cons, Bool.not_false, Bool.true_and, List.length_cons]
    cases hg : smB c
    · simp
    · rw [ok_of_sm hg]
      rw [Bool.eq_iff_iff]
      cases t.all okB <;> simp

set_option maxHeartbeats 1000000 in
theorem rclass_pre (s : ByteArray) (w : World) (hs : s.size ≤ maxLen) : Calls Try.prog 24 #[.string s] w fun e w' => e = .returned (.bool (preB grB s.toList && (decide (2 ≤ s.size) && decide (s.size ≤ 8)))) ∧ w = w' := by
  unfold maxLen at hs
  go_enter Try.func24, Try.ntmps24
  go_wp2_with fail
  go_loop [3] (fun i => ∃ k : Nat, k ≤ s.size ∧ i = .int .i64 k ∧ Hid (preB grB (s.toList.take k) = true)) (fun i => s.size - (intOf i).toNat)
  case atStart => exact ⟨0, Nat.zero_le _, rfl, rfl⟩
  case round =>
    obtain ⟨k, hk, rfl, hok⟩ := hrel
    by_cases hlt : k < s.size
    · have hg : s.toList[k]? = some s[k] := by
        rw [ByteArray.toList_eq, List.getElem?_eq_getElem (by simpa using hlt)]
        rfl
      obtain ⟨c, hc⟩ : ∃ c, s[k] = c := ⟨_, rfl⟩
      rw [hc] at hg
      have hp := pre_take grB s.toList k c hg
      have hn := pre_no grB s.toList k c hg
      clear hg
      have c1 := rgreat_any c w
      have c2 := rlittle_any c w
      have c3 := rdigit_any c w
      by_cases hk0 : k = 0
      · subst hk0
        rw [if_pos rfl] at hp hn
        have HP := hide hp
        have HN := hide hn
        clear hp hn
        cases h1 : grB c
        all_goals
          rw [h1] at c1
          have H1 := hide h1
          have C1 := hide c1
          clear h1 c1 c2 c3
          go_wp2_with (go_at_call 37; refine C1.out.mono ?_; rintro e w' ⟨rfl, rfl⟩)
        · go_ret
          refine ⟨ret_bool ?_, rfl⟩
          rw [HN.out H1.out]
          rfl
        · go_round
          case rel => exact ⟨1, by omega, rfl, by rw [HP.out, hok.out, H1.out]; rfl⟩
          case measure => simp [intOf]; omega
      · rw [if_neg hk0] at hp hn
        have HP := hide hp
        have HN := hide hn
        clear hp hn
        have hkz : ((k : Int) == 0) = false := by
          simp only [beq_eq_false_iff_ne, ne_eq]
          omega
        cases h1 : grB c <;> cases h2 : smB c <;> cases h3 : dgB c
        all_goals
          have hb : okB c = (smB c || grB c || dgB c) := rfl
          rw [h1, h2, h3] at hb
          rw [h1] at c1
          rw [h2] at c2
          rw [h3] at c3
          have HB := hide hb
          have C1 := hide c1
          have C2 := hide c2
          have C3 := hide c3
          clear h1 h2 h3 c1 c2 c3 hb
          go_wp2_with (first
            | (go_at_call 37; refine C1.out.mono ?_; rintro e w' ⟨rfl, rfl⟩)
            | (go_at_call 38; refine C2.out.mono ?_; rintro e w' ⟨rfl, rfl⟩)
            | (go_at_call 39; refine C3.out.mono ?_; rintro e w' ⟨rfl, rfl⟩))
        · go_ret
          refine ⟨ret_bool ?_, rfl⟩
          rw [HN.out HB.out]
          rfl
        all_goals
          go_round
          case rel => exact ⟨k + 1, by omega, by go_num, by rw [HP.out, hok.out, HB.out]; rfl⟩
          case measure => simp [intOf]; omega
    · obtain rfl : k = s.size := by omega
      have hall : preB grB s.toList = true := by
        have h1 := hok.out
        rwa [List.take_of_length_le (by rw [ByteArray.toList_eq]; simp)] at h1
      have HALL := hide hall
      clear hall
      by_cases hlo : 2 ≤ s.size
      · go_wp2_with fail
        go_ret
        refine ⟨ret_bool ?_, rfl⟩
        rw [HALL.out]
        (try rw [decide_eq_true hlo])
        simp only [Bool.true_and]
        exact decide_eq_decide.2 (by omega)
      · go_wp2_with fail
        go_ret
        refine ⟨ret_bool ?_, rfl⟩
        first
          | rfl
          | (rw [HALL.out, decide_eq_false hlo]; rfl)

set_option maxHeartbeats 1000000 in
theorem rname_pre (s : ByteArray) (w : World) (hs : s.size ≤ maxLen) (hi : (s.toList == [36, 105, 110, 105, 116]) = false) : Calls Try.prog 26 #[.string s] w fun e w' => e = .returned (.bool (preB smB s.toList && (decide (1 ≤ s.size) && decide (s.size ≤ 8)))) ∧ w = w' := by
  unfold maxLen at hs
  go_enter Try.func26, Try.ntmps26
  go_wp2_with fail
  go_loop [3] (fun i => ∃ k : Nat, k ≤ s.size ∧ i = .int .i64 k ∧ Hid (preB smB (s.toList.take k) = true)) (fun i => s.size - (intOf i).toNat)
  case atStart => exact ⟨0, Nat.zero_le _, rfl, rfl⟩
  case round =>
    obtain ⟨k, hk, rfl, hok⟩ := hrel
    by_cases hlt : k < s.size
    · have hg : s.toList[k]? = some s[k] := by
        rw [ByteArray.toList_eq, List.getElem?_eq_getElem (by simpa using hlt)]
        rfl
      obtain ⟨c, hc⟩ : ∃ c, s[k] = c := ⟨_, rfl⟩
      rw [hc] at hg
      have hp := pre_take smB s.toList k c hg
      have hn := pre_no smB s.toList k c hg
      clear hg
      have c1 := rlittle_any c w
      have c2 := rgreat_any c w
      have c3 := rdigit_any c w
      by_cases hk0 : k = 0
      · subst hk0
        rw [if_pos rfl] at hp hn
        have HP := hide hp
        have HN := hide hn
        clear hp hn
        cases h1 : smB c
        all_goals
          rw [h1] at c1
          have H1 := hide h1
          have C1 := hide c1
          clear h1 c1 c2 c3
          go_wp2_with (go_at_call 38; refine C1.out.mono ?_; rintro e w' ⟨rfl, rfl⟩)
        · go_ret
          refine ⟨ret_bool ?_, rfl⟩
          rw [HN.out H1.out]
          rfl
        · go_round
          case rel => exact ⟨1, by omega, rfl, by rw [HP.out, hok.out, H1.out]; rfl⟩
          case measure => simp [intOf]; omega
      · rw [if_neg hk0] at hp hn
        have HP := hide hp
        have HN := hide hn
        clear hp hn
        have hkz : ((k : Int) == 0) = false := by
          simp only [beq_eq_false_iff_ne, ne_eq]
          omega
        cases h1 : smB c <;> cases h2 : grB c <;> cases h3 : dgB c
        all_goals
          have hb : okB c = (smB c || grB c || dgB c) := rfl
          rw [h1, h2, h3] at hb
          rw [h1] at c1
          rw [h2] at c2
          rw [h3] at c3
          have HB := hide hb
          have C1 := hide c1
          have C2 := hide c2
          have C3 := hide c3
          clear h1 h2 h3 c1 c2 c3 hb
          go_wp2_with (first
            | (go_at_call 38; refine C1.out.mono ?_; rintro e w' ⟨rfl, rfl⟩)
            | (go_at_call 37; refine C2.out.mono ?_; rintro e w' ⟨rfl, rfl⟩)
            | (go_at_call 39; refine C3.out.mono ?_; rintro e w' ⟨rfl, rfl⟩))
        · go_ret
          refine ⟨ret_bool ?_, rfl⟩
          rw [HN.out HB.out]
          rfl
        all_goals
          go_round
          case rel => exact ⟨k + 1, by omega, by go_num, by rw [HP.out, hok.out, HB.out]; rfl⟩
          case measure => simp [intOf]; omega
    · obtain rfl : k = s.size := by omega
      have hall : preB smB s.toList = true := by
        have h1 := hok.out
        rwa [List.take_of_length_le (by rw [ByteArray.toList_eq]; simp)] at h1
      have HALL := hide hall
      clear hall
      by_cases hlo : 1 ≤ s.size
      · go_wp2_with fail
        go_ret
        refine ⟨ret_bool ?_, rfl⟩
        rw [HALL.out]
        (try rw [decide_eq_true hlo])
        simp only [Bool.true_and]
        exact decide_eq_decide.2 (by omega)
      · go_wp2_with fail
        go_ret
        refine ⟨ret_bool ?_, rfl⟩
        first
          | rfl
          | (rw [HALL.out, decide_eq_false hlo]; rfl)

theorem rclass_any (s : ByteArray) (w : World) (hs : s.size ≤ maxLen) : Calls Try.prog 24 #[.string s] w fun e w' => e = .returned (.bool (classB s.toList)) ∧ w = w' :=
  (rclass_pre s w hs).mono fun _ _ ⟨he, hw⟩ => ⟨by rw [he, ← class_pre, size_toList], hw⟩
theorem rname_any (s : ByteArray) (w : World) (hs : s.size ≤ maxLen) : Calls Try.prog 26 #[.string s] w fun e w' => e = .returned (.bool (nameB s.toList)) ∧ w = w' := by
  cases hq : (s.toList == [36, 105, 110, 105, 116])
  · refine (rname_pre s w hs hq).mono fun _ _ ⟨he, hw⟩ => ⟨?_, hw⟩
    rw [he]
    have h : nameB s.toList = ((s.toList == [36, 105, 110, 105, 116]) || (wordB s.toList && smB (s.toList.headD 0))) := rfl
    rw [h, hq, ← name_pre, size_toList]
    rfl
  · have h : nameB s.toList = ((s.toList == [36, 105, 110, 105, 116]) || (wordB s.toList && smB (s.toList.headD 0))) := rfl
    rw [hq] at h
    have H := hide h
    clear h
    go_enter Try.func26, Try.ntmps26
    go_wp2_with fail
    go_ret
    exact ⟨ret_bool (by rw [H.out]; rfl), rfl⟩

theorem byte_eq (c : UInt8) (n : Nat) (hn : n < 256) : (((c.toNat : Nat) : Int) == (n : Int)) = (c == UInt8.ofNat n) := by
  have h := byte_ne c n hn
  cases hc : (c == UInt8.ofNat n)
  · rw [hc] at h
    simp only [bne_iff_ne, Bool.not_false] at h
    simpa using h
  · rw [hc] at h
    simpa using h
/-- What the reference's loop has done behind k rounds. -/
def trimK : Nat → ByteArray → ByteArray
  | 0, s => s
  | k + 1, s => trimS (trimK k s)
theorem trimK_size (k : Nat) (s : ByteArray) : (trimK k s).size ≤ s.size := by
  induction k with
  | zero => exact Nat.le_refl _
  | succ k ih => exact Nat.le_trans (trimS_size _) ih
theorem trimS_of_no {s : ByteArray} (h : (s.toList.headD 0 == 91) = false) : trimS s = s := by
  unfold trimS
  rw [h]
  rfl
set_option maxHeartbeats 1000000 in
theorem rmay_any (s : ByteArray) (w : World) (hs : s.size ≤ maxLen) : Calls Try.prog 28 #[.string s] w fun e w' => e = .returned (.bool (mayB s.toList)) ∧ w = w' := by
  have HM : Hid (mayB s.toList = ((trimS (trimS s)).toList == [73] || classB (trimS (trimS s)).toList)) := by
    apply hide
    rw [trimS_toList, trimS_toList]
    rfl
  go_enter Try.func28, Try.ntmps28
  go_wp2_with fail
  go_loop [0, 3] (fun t i => ∃ k : Nat, k ≤ 2 ∧ i = .int .i64 k ∧ t = .string (trimK k s)) (fun _ i => 2 - (intOf i).toNat)
  case atStart => exact ⟨0, Nat.zero_le _, rfl, rfl⟩
  case round =>
    obtain ⟨k, hk, rfl, rfl⟩ := hrel
    have hz := trimK_size k s
    have hkk : trimK (k + 1) s = trimS (trimK k s) := rfl
    have hend : (k = 2 ∨ trimS (trimK k s) = trimK k s) → trimS (trimS s) = trimK k s := by
      intro h
      match k, hk, h with
      | 0, _, .inr h =>
        have h' : trimS s = s := h
        show trimS (trimS s) = s
        rw [h', h']
      | 1, _, .inr h => exact h
      | 2, _, _ => rfl
    generalize trimK k s = u at *
    have HK := hide hkk
    have HE := hide hend
    clear hkk hend
    have hub : u.size ≤ maxLen := by omega
    have HC := hide (rclass_any u w hub)
    have hu63 : u.size ≤ 2 ^ 63 - 1 := by unfold maxLen at hub; exact hub
    by_cases hgo : k < 2 ∧ 0 < u.size ∧ (u.toList.headD 0 == 91) = true
    · obtain ⟨hk2, hp, hh⟩ := hgo
      obtain ⟨c, hc, hhd⟩ := head_toList u hp
      have ht : trimS u = u.extract 1 u.size := by
        unfold trimS
        rw [hh]
        rfl
      rw [hhd] at hh
      have hb := byte_eq c 91 (by omega)
      have hb' : (((c.toNat : Nat) : Int) == 91) = true := hb.trans hh
      have HT := hide ht
      have hp1 : 1 ≤ u.size := hp
      clear hb hh hhd ht
      go_wp2_with fail
      go_round
      case rel => exact ⟨k + 1, by omega, by go_num, by rw [HK.out, HT.out]⟩
      case measure => simp [intOf]; omega
    · have hfin : trimS (trimS s) = u := by
        by_cases hk2 : k < 2
        · refine HE.out (.inr (trimS_of_no ?_))
          by_cases hp : 0 < u.size
          · cases hh : (u.toList.headD 0 == 91)
            · rfl
            · exact (hgo ⟨hk2, hp, hh⟩).elim
          · have hn : u.toList = [] := List.eq_nil_of_length_eq_zero (by rw [size_toList]; omega)
            rw [hn]
            rfl
        · exact HE.out (.inl (by omega))
      have hm := HM.out
      rw [hfin] at hm
      have HF := hide hm
      clear hm hfin HM
      cases hq : (u.toList == [73])
      all_goals
        have HQ := hide hq
        by_cases hk2 : k < 2
        · by_cases hp : 0 < u.size
          · obtain ⟨c, hc, hhd⟩ := head_toList u hp
            have hb := byte_eq c 91 (by omega)
            have hh : (c == 91) = false := by
              cases hh : (c == 91)
              · rfl
              · exact (hgo ⟨hk2, hp, by rw [hhd]; exact hh⟩).elim
            have hb' : (((c.toNat : Nat) : Int) == 91) = false := hb.trans hh
            clear hb hh hhd hgo
            go_wp2_with (go_at_call 24; refine HC.out.mono ?_; rintro e w' ⟨rfl, rfl⟩)
            go_ret
            exact ⟨ret_bool (by rw [HF.out, HQ.out]; rfl), rfl⟩
          · have hp0 : u.size = 0 := by omega
            clear hgo
            go_wp2_with (go_at_call 24; refine HC.out.mono ?_; rintro e w' ⟨rfl, rfl⟩)
            go_ret
            exact ⟨ret_bool (by rw [HF.out, HQ.out]; rfl), rfl⟩
        · clear hgo
          go_wp2_with (go_at_call 24; refine HC.out.mono ?_; rintro e w' ⟨rfl, rfl⟩)
          go_ret
          exact ⟨ret_bool (by rw [HF.out, HQ.out]; rfl), rfl⟩
theorem rret_any (s : ByteArray) (w : World) (hs : s.size ≤ maxLen) : Calls Try.prog 30 #[.string s] w fun e w' => e = .returned (.bool (retB s.toList)) ∧ w = w' := by
  have cm := rmay_any s w hs
  have hr : retB s.toList = (s.toList == [86] || mayB s.toList) := rfl
  generalize mayB s.toList = b at *
  have CM := hide cm
  have HR := hide hr
  clear cm hr
  cases hq : (s.toList == [86])
  all_goals
    have HQ := hide hq
    go_enter Try.func30, Try.ntmps30
    go_wp2_with (go_at_call 28; refine CM.out.mono ?_; rintro e w' ⟨rfl, rfl⟩)
    go_ret
    exact ⟨ret_bool (by rw [HR.out, HQ.out]; rfl), rfl⟩
theorem rref_any (s : ByteArray) (w : World) (hs : s.size ≤ maxLen) : Calls Try.prog 32 #[.string s] w fun e w' => e = .returned (.bool (refB s.toList)) ∧ w = w' := by
  have cm := rmay_any s w hs
  have hr : refB s.toList = (!(s.toList == [73]) && mayB s.toList) := rfl
  generalize mayB s.toList = b at *
  have CM := hide cm
  have HR := hide hr
  clear cm hr
  cases hq : (s.toList == [73])
  all_goals
    have HQ := hide hq
    go_enter Try.func32, Try.ntmps32
    go_wp2_with (go_at_call 28; refine CM.out.mono ?_; rintro e w' ⟨rfl, rfl⟩)
    go_ret
    exact ⟨ret_bool (by rw [HR.out, HQ.out]; rfl), rfl⟩

theorem trim_head {l : List UInt8} (h : (l.headD 0 == 91) = false) : trimL l = l := by
  unfold trimL
  rw [h]
  rfl
theorem may_cons {l : List UInt8} (h : mayB (91 :: l) = true) : mayB l = true := by
  unfold mayB at h ⊢
  rw [show trimL (91 :: l) = l from rfl] at h
  cases hh : ((trimL l).headD 0 == 91)
  · rw [trim_head hh]
    exact h
  · exfalso
    have hg : grB ((trimL l).headD 0) = false := by
      have h1 : (trimL l).headD 0 = 91 := by simpa using hh
      rw [h1]
      rfl
    have hc : classB (trimL l) = false := by
      unfold classB
      rw [hg]
      simp
    rw [hc] at h
    have h2 : trimL l = [73] := by simpa using h
    rw [h2] at hh
    cases hh
theorem rarray_any (s : ByteArray) (w : World) (hs : s.size ≤ 1000) : Calls Try.prog 34 #[.string s] w fun e w' => e = .returned (.string (arrS s)) ∧ w = w' := by
  have c2 := rmay_any ((⟨#[91]⟩ : ByteArray) ++ s) w (by rw [cons_size]; unfold maxLen; omega)
  have ha : arrS s = if mayB (91 :: s.toList) then (⟨#[91]⟩ : ByteArray) ++ s else ⟨#[]⟩ := by
    unfold arrS
    cases h : mayB (91 :: s.toList)
    · simp
    · rw [may_cons h]
      rfl
  rw [cons_toList] at c2
  generalize mayB (91 :: s.toList) = b2 at *
  have HA := hide ha
  have C2 := hide c2
  clear ha c2
  cases b2
  all_goals
    go_enter Try.func34, Try.ntmps34
    go_wp2_with (go_at_call 28; refine C2.out.mono ?_; rintro e w' ⟨rfl, rfl⟩)
    go_ret
    exact ⟨by rw [HA.out]; rfl, rfl⟩
theorem relem_any (s : ByteArray) (w : World) (hs : s.size ≤ 1000) : Calls Try.prog 22 #[.string s] w fun e w' => e = .returned (.tuple #[.string (elemS s).1, .bool (elemS s).2]) ∧ w = w' := by
  have c1 := rmay_any s w (by unfold maxLen; omega)
  have he : elemS s = if mayB s.toList && (s.toList.headD 0 == 91) then (s.extract 1 s.size, true) else (⟨#[]⟩, false) := rfl
  cases hm : mayB s.toList
  · rw [hm] at c1 he
    have HE := hide he
    have C1 := hide c1
    clear he c1
    go_enter Try.func22, Try.ntmps22
    go_wp2_with (go_at_call 28; refine C1.out.mono ?_; rintro e w' ⟨rfl, rfl⟩)
    go_ret2
    exact ⟨by rw [HE.out]; rfl, rfl⟩
  · have hp := may_pos hm
    obtain ⟨c, hc, hh⟩ := head_toList s hp
    have hb := byte_ne c 91 (by omega)
    rw [hm, hh] at he
    rw [hm] at c1
    have C1 := hide c1
    clear c1 hh
    have hb' : (((c.toNat : Nat) : Int) != 91) = !(c == 91) := hb
    clear hb
    have hp1 : 1 ≤ s.size := hp
    cases hq : (c == 91)
    all_goals
      rw [hq] at hb' he
      have HE := hide he
      clear he hq
      go_enter Try.func22, Try.ntmps22
      go_wp2_with (go_at_call 28; refine C1.out.mono ?_; rintro e w' ⟨rfl, rfl⟩)
      go_ret2
      exact ⟨by rw [HE.out]; rfl, rfl⟩
/-- Cut: a text that is cut to n, or stays. -/
def cutS (s : ByteArray) (n : Nat) : ByteArray := if n < s.size then s.extract 0 n else s
theorem cutS_size (s : ByteArray) (n : Nat) : (cutS s n).size ≤ n := by
  unfold cutS
  split
  · simp
    omega
  · omega
theorem cut_any (s : ByteArray) (n : Nat) (w : World) (_hs : s.size ≤ maxLen) (hn : n ≤ 1000) : Calls Try.prog 20 #[.string s, .int .i64 (n : Int)] w fun e w' => e = .returned (.string (cutS s n)) ∧ w = w' := by
  unfold maxLen at _hs
  by_cases hlt : n < s.size
  · have hc := hide (show cutS s n = s.extract 0 n by unfold cutS; rw [if_pos hlt])
    go_enter Try.func20, Try.ntmps20
    go_wp2
    go_ret
    exact ⟨by rw [hc.out]; rfl, rfl⟩
  · have hc := hide (show cutS s n = s by unfold cutS; rw [if_neg hlt])
    go_enter Try.func20, Try.ntmps20
    go_wp2
    go_ret
    exact ⟨by rw [hc.out]; rfl, rfl⟩
end Go.Proofs.Ythhglbocoogefaa
