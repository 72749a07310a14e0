/- The walks of the frame law's eq, Good and refs. -/
import Derived.Test.YtppolhpigclbpaaFrameI
set_option linter.unusedVariables false
namespace Go.Proofs.Ytppolhpigclbpaa
open Go.RowKit

set_option maxHeartbeats 1000000 in
theorem eq_yes (w : World) (A1 A2 : Option Addr) (n c1 c2 C1 C2 : Nat) (vs : List V) (h1 : SeesV w C1 A1 n vs) (h2 : SeesV w C2 A2 n vs) (hn : (n : Int) ≤ 1000) : Calls Try.prog 31 #[.slice A1 n c1, .slice A2 n c2] w fun e w' => e = .returned (.bool true) ∧ ∃ q, w' = w.drewN q := by
  have H1 := hide h1
  have H2 := hide h2
  clear h1 h2
  go_enter Try.func31, Try.ntmps31
  go_wp2
  go_loopw [5] (fun u5 wr => ∃ i : Nat, u5 = .int .i64 (i : Int) ∧ i ≤ n ∧ ∃ q, wr = w.drewN q) (fun u5 _ => n - (intOf u5).toNat)
  case atStart => exact ⟨0, rfl, by omega, 0, rfl⟩
  case round =>
    obtain ⟨i, rfl, hi, q, hq⟩ := hrel
    have HQ := hide hq
    have s1 : SeesV wr C1 A1 n vs := by rw [hq]; exact H1.out.drewN q
    have s2 : SeesV wr C2 A2 n vs := by rw [hq]; exact H2.out.drewN q
    clear hq
    by_cases hlt : i < n
    · obtain ⟨b, off, v, rfl, hb, hv, c0, c1⟩ := s1.at2 hlt
      obtain ⟨b2, off2, v2, rfl, hb2, hv2, c20, c21⟩ := s2.at2 hlt
      rw [hv] at hv2
      cases hv2
      have hlt' : (i : Int) < (n : Int) := by omega
      obtain ⟨r, x⟩ := v
      dsimp only at c0 c1 c20 c21
      clear s1 s2 hv
      go_wp2
      go_quiet (fail)
      go_wp2
      go_roundw
      case rel => exact ⟨i + 1, by go_num, by omega, q + nq, by rw [HQ.out]; exact World.drewN_drewN _ _ _⟩
      case measure => simp [intOf]; omega
    · obtain rfl : i = n := by omega
      clear s1 s2
      go_wp2
      go_ret
      exact ⟨rfl, q, HQ.out⟩
def goodV (v : V) : Bool := !(v.1 && decide (v.2 < 0))
def goodB (l : List V) : Bool := l.all goodV
theorem good_no {l : List V} {i : Nat} {v : V} (hv : l[i]? = some v) (h : goodV v = false) : goodB l = false := by
  unfold goodB
  rw [List.all_eq_false]
  exact ⟨v, List.mem_of_getElem? hv, by rw [h]; decide⟩
theorem good_any (w : World) (A : Option Addr) (n c C : Nat) (vs : List V) (h : SeesV w C A n vs) (hn : (n : Int) ≤ 4611686018427387903) : Calls Try.prog 23 #[.slice A n c] w fun e w' => e = .returned (.bool (goodB vs)) ∧ w = w' := by
  have H := hide h
  have hl := h.len
  have HL := hide hl
  clear h hl
  go_enter Try.func23, Try.ntmps23
  go_wp2
  go_loop [3] (fun u3 => ∃ i : Nat, u3 = .int .i64 (i : Int) ∧ i ≤ n ∧ goodB (vs.take i) = true) (fun u3 => n - (intOf u3).toNat)
  case atStart => exact ⟨0, rfl, by omega, rfl⟩
  case round =>
    obtain ⟨i, rfl, hi, hg⟩ := hrel
    have HG := hide hg
    clear hg
    by_cases hlt : i < n
    · obtain ⟨b, off, v, rfl, hb, hv, c0, c1⟩ := H.out.at2 hlt
      have hlt' : (i : Int) < (n : Int) := by omega
      cases hgv : goodV v
      · have HB := hide (good_no hv hgv)
        have hr : v.1 = true ∧ v.2 < 0 := by simpa [goodV] using hgv
        obtain ⟨r1, r2⟩ := hr
        obtain ⟨r, x⟩ := v
        dsimp only at c0 c1 r1 r2
        subst r1
        have d1 : decide (x < 0) = true := by simpa using r2
        clear hv hgv r2
        go_wp2
        go_ret
        exact ⟨ret_bool (by rw [HB.out]), rfl⟩
      · have HS : goodB (vs.take (i + 1)) = true := by
          rw [take_snoc vs i v hv]
          have := HG.out
          unfold goodB at *
          rw [List.all_append, this]
          simpa using hgv
        have HS2 := hide HS
        clear HS
        obtain ⟨r, x⟩ := v
        dsimp only at c0 c1
        cases r
        · clear hv hgv
          go_wp2
          go_round
          case rel => exact ⟨i + 1, by go_num, by omega, HS2.out⟩
          case measure => simp [intOf]; omega
        · have d1 : decide (x < 0) = false := by simpa [goodV] using hgv
          clear hv hgv
          go_wp2
          go_round
          case rel => exact ⟨i + 1, by go_num, by omega, HS2.out⟩
          case measure => simp [intOf]; omega
    · obtain rfl : i = n := by omega
      go_wp2
      go_ret
      have := HG.out
      rw [List.take_of_length_le (by have := HL.out; omega)] at this
      exact ⟨ret_bool this.symm, rfl⟩
theorem nums_at {l : List V} : ∀ {i : Nat} {v : V}, l[i]? = some v → v.1 = true → (nums l)[(nums (l.take i)).length]? = some v.2 := by
  induction l with
  | nil => intro i v h; simp at h
  | cons u l ih =>
    intro i v h hv
    cases i with
    | zero =>
      simp at h
      subst h
      simp [nums, hv]
    | succ i =>
      simp only [List.getElem?_cons_succ] at h
      simp only [List.take_succ_cons, nums]
      have := ih h hv
      split
      · simpa using this
      · exact this
theorem nums_take {l : List V} {i : Nat} {v : V} (h : l[i]? = some v) : nums (l.take (i + 1)) = nums (l.take i) ++ (if v.1 then [v.2] else []) := by
  rw [take_snoc l i v h, nums_append]
  simp [nums]
section
variable {w : World} {B p room : Nat} {F : Nat → Prop} {me pc : Int} {ls st : List V}
set_option maxHeartbeats 2000000 in
theorem lawRefs_yes (h : FrameIn w B F p me pc room ls st) (hI : ∀ v ∈ ls ++ st, inI32 v.2) {A1 A2 : Option Addr} {c1 c2 C1 C2 : Nat} (h1 : SeesV w C1 A1 ls.length ls) (hc1 : A1 = none → c1 = 0) (h2 : SeesV w C2 A2 st.length st) (hc2 : A2 = none → c2 = 0) (hC1 : C1 ≤ w.heap.size) (hC2 : C2 ≤ w.heap.size) :
    Calls Try.prog 28 #[.pointer (some ⟨p, 0, none⟩), .slice A1 ls.length c1, .slice A2 st.length c2] w fun e w' => e = .returned (.bool true) ∧ Keeps (fun _ => False) w w' := by
  obtain ⟨i0, hi0, hz0, hz1, hz2⟩ := info_parts Try.info39
  have HI := hide hi0
  have HZ0 := hide hz0
  have HZ1 := hide hz1
  have HZ2 := hide hz2
  have hl1 := h.loc
  have hl2 := Nat.le_trans h.stk h.most
  have H := hide h
  have HII := hide hI
  have H1 := hide h1
  have H2 := hide h2
  have HC1 := hide hc1
  have HC2 := hide hc2
  clear hi0 hz0 hz1 hz2 h hI h1 h2 hc1 hc2
  generalize hn1 : ls.length = n1 at *
  generalize hn2 : st.length = n2 at *
  have HN1 := hide hn1
  have HN2 := hide hn2
  clear hn1 hn2
  go_enter Try.func28, Try.ntmps28
  go_upto_region 2 with (first
    | (at_builtin
       refine wpList_append_seesN _ rfl (.const (.slice none 0 0)) (.tmp 11) 29 rfl w.heap.size 39 i0 _ 2 8 Try.underlying29 HI.out HZ0.out HZ1.out HZ2.out (by rfl) (by omega) (.slice none 0 0) 0 [] (by rfl) (World.ownsRow_nil _ _ _ _) C1 A1 n1 c1 _ (by rfl) H1.out HC1.out (vCells_one ls) (by unfold maxLen; omega) (by omega) (Nat.le_refl _) ?_
       intro v2 w2 hown2 hg2 hat2
       have hk2 : Keeps (fun _ => False) w w2 := (Keeps.refl _ w).grown hg2 fun g hg => by cases hg
       have HO2 := hide hown2
       have HK2 := hide hk2
       have HS2 := hide (Keeps.sees H2.out hC2 hk2)
       clear hown2 hg2 hat2 hk2)
    | (at_builtin
       refine wpList_append_seesN _ rfl (.tmp 12) (.tmp 13) 29 rfl w.heap.size 39 i0 _ 2 8 Try.underlying29 HI.out HZ0.out HZ1.out HZ2.out (by rfl) (by omega) v2 (0 + n1) _ (by rfl) HO2.out C2 A2 n2 c2 _ (by rfl) HS2.out HC2.out (vCells_one st) (by unfold maxLen; omega) (by omega) HK2.out.size ?_
       intro v3 w3 hown3 hg3 hat3
       have hk3 : Keeps (fun _ => False) w w3 := HK2.out.grown hg3 fun g hg hlt => by have := ownBlock_ge HO2.out g hg; omega
       obtain ⟨A3, c3, rfl, hx1, hx2, hs3, hx3⟩ := Sees.of_ownN hown3
       have hs3' : SeesV w3 w3.heap.size A3 (n1 + n2) (ls ++ st) := (by unfold SeesV; rw [vCells_append]; simpa using hs3)
       have HS3 := hide hs3'
       have HK3 := hide hk3
       have RF := hide (refs_in (H.out.keeps hk3 fun _ _ => id) HII.out)
       simp only [Nat.zero_add]
       clear hown3 hg3 hat3 hk3 hs3 hs3' hx1 hx2 hx3))
  go_wp2_with (go_at_call 26; (with_reducible refine RF.out.mono ?_); rintro e w4 ⟨v4, rfl, hown4, hk4⟩; obtain ⟨A8, c8, rfl, hs8⟩ := Sees.of_own hown4; have HS8 := hide hs8; have HS3b := hide (Keeps.sees HS3.out (Nat.le_refl _) hk4); have HK4 := hide (HK3.out.trans hk4); clear hown4 hk4 hs8)
  have hall : (ls ++ st).length = n1 + n2 := by rw [List.length_append, HN1.out, HN2.out]
  have HALL := hide hall
  clear hall
  have hml : ((nums (ls ++ st)).length : Int) ≤ 32 := by have := nums_le (ls ++ st); have := HALL.out; omega
  generalize hall2 : ls ++ st = all at *
  generalize hNN : n1 + n2 = N at *
  have hN32 : (N : Int) ≤ 32 := by omega
  clear hNN
  generalize hm : (nums all).length = m at *
  have HM := hide hm
  clear hm hall2
  go_loopw [9, 10] (fun u9 u10 wr => ∃ i : Nat, u10 = .int .i64 (i : Int) ∧ i ≤ N ∧ u9 = .int .i64 ((nums (all.take i)).length : Int) ∧ ∃ q, wr = w4.drewN q) (fun _ u10 _ => N - (intOf u10).toNat)
  case atStart => exact ⟨0, rfl, by omega, rfl, 0, rfl⟩
  case round =>
    obtain ⟨i, rfl, hi, rfl, q, hq⟩ := hrel
    have HQ := hide hq
    have s3 : SeesV wr w3.heap.size A3 N all := by rw [hq]; exact HS3b.out.drewN q
    have s8 : Sees wr w4.heap.size A8 m ((nums all).map fun n => Value.int .i64 (n - 1)) := by rw [hq]; exact HS8.out.drewN q
    clear hq
    by_cases hlt : i < N
    · obtain ⟨b, off, v, rfl, hb, hv, c0, c1⟩ := s3.at2 hlt
      have hlt' : (i : Int) < (N : Int) := by omega
      have hnt := nums_take hv
      have hvb := HII.out v (List.mem_of_getElem? hv)
      unfold inI32 at hvb
      cases hr : v.1
      · rw [hr] at c0 hnt
        have HNT := hide hnt
        clear s3 s8 hv hnt hr
        go_wp2
        go_roundw
        case rel => exact ⟨i + 1, by go_num, by omega, by rw [HNT.out]; simp, q, HQ.out⟩
        case measure => simp [intOf]; omega
      · have hna := nums_at hv hr
        rw [hr] at c0 hnt
        have HNT := hide hnt
        have hkm : (nums (all.take i)).length < m := by have := (List.getElem?_eq_some_iff.1 hna).1; rw [HM.out] at this; exact this
        obtain ⟨b8, off8, u8, rfl, hb8, hu8, hcell8⟩ := s8.at_ hkm
        rw [List.getElem?_map, hna] at hu8
        cases hu8
        generalize hkk : (nums (all.take i)).length = k at *
        have HKK := hide hkk
        have hkm' : (k : Int) < (m : Int) := by omega
        obtain ⟨r, x⟩ := v
        dsimp only at c0 c1 hvb hcell8 hr
        clear s3 s8 hv hnt hr hna hkk
        have e0 : IntKind.i64.wrap x = x := IntWalk.i64_in _ (by omega)
        have e1 : IntKind.i64.wrap (x - 1) = x - 1 := IntWalk.i64_in _ (by omega)
        go_wp2
        go_quiet (fail)
        go_wp2
        go_roundw
        case rel => exact ⟨i + 1, by go_num, by omega, by rw [HNT.out, List.length_append, HKK.out]; simp, q + nq, by rw [HQ.out]; exact World.drewN_drewN _ _ _⟩
        case measure => simp [intOf]; omega
    · obtain rfl : i = N := by omega
      have ht : all.take i = all := List.take_of_length_le (by have := HALL.out; omega)
      rw [ht, HM.out]
      clear s3 s8 ht
      go_wp2
      go_ret
      exact ⟨by simp, by rw [HQ.out]; exact HK4.out.drewN q⟩
end
end Go.Proofs.Ytppolhpigclbpaa
