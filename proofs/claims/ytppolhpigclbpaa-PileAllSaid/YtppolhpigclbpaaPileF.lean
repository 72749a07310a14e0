/- The library's heap: down, Push, Pop walked over a pile's row. -/
import Derived.Test.YtppolhpigclbpaaPileE
set_option linter.unusedVariables false
namespace Go.Proofs.Ytppolhpigclbpaa
open Go.RowKit Go.Instr

/-- What going down holds at each round's head. -/
def DownRel (w : World) (B p b g c n : Nat) (t : T) (ts : List T) (u7 : Value) (wr : World) : Prop :=
  ∃ (i : Nat) (ts' : List T), u7 = .int .i64 (i : Int) ∧ i ≤ n ∧ PileAt wr B p b (.slice (some ⟨g, 0, none⟩) (n + 1) c) ts' ∧ ts'.length = n + 1 ∧ ts'.Perm ts ∧ DownTo ts' i n ∧ at_ ts' n = t ∧ Keeps (fun k => k = g) w wr
set_option maxHeartbeats 2000000 in
theorem heap_down (w : World) (B p b g c n : Nat) (t : T) (ts : List T) (h : PileAt w B p b (.slice (some ⟨g, 0, none⟩) (n + 1) c) ts) (hn : ts.length = n + 1) (hn3 : (n : Int) ≤ 1000) (hd : DownTo ts 0 n) (ht : at_ ts n = t) :
    Calls Try.prog 53 #[.iface 81 (.pointer (some ⟨p, 0, none⟩)), .int .i64 0, .int .i64 (n : Int)] w fun e w' => (∃ x, e = .returned (.bool x)) ∧ ∃ ts', PileAt w' B p b (.slice (some ⟨g, 0, none⟩) (n + 1) c) ts' ∧ ts'.length = n + 1 ∧ ts'.Perm ts ∧ HeapTo ts' n ∧ at_ ts' n = t ∧ Keeps (fun k => k = g) w w' := by
  have H0 : DownRel w B p b g c n t ts (.int .i64 0) w := ⟨0, ts, rfl, by omega, h, hn, List.Perm.refl _, hd, ht, Keeps.refl _ _⟩
  have HH := hide H0
  clear H0 h hn hd ht
  go_enter Try.func53, Try.ntmps53
  go_wp2
  go_loopw [7] (fun u7 wr => DownRel w B p b g c n t ts u7 wr) (fun u7 _ => n + 1 - (intOf u7).toNat)
  case atStart => exact HH.out
  case round =>
    clear HH
    obtain ⟨i, ts', rfl, hi, hp, hl, hpm, hdt, hat, hk⟩ := hrel
    have HD := hide hdt
    have HP := hide hp
    have HL := hide hl
    have HPM := hide hpm
    have HAT := hide hat
    have HK := hide hk
    have hrow := hp.row
    rw [hl] at hrow
    have HROW := hide hrow
    have hcell := hp.cell
    have hap := hp.apart g rfl
    clear hdt hp hl hpm hat hk hrow
    have b1 : (i : Int) ≤ 1000 := by omega
    by_cases h1 : 2 * i + 1 < n
    · obtain ⟨A, c', he, q1, q2, hs, q3⟩ := Sees.of_ownN HROW.out
      cases he
      clear q1 q2 q3
      have HS := hide hs
      have ml : ∀ q, (method 208 81 (.pointer (some ⟨p, 0, none⟩)) "Less").run Try.prog (wr.drewN q) = .ok (71, .slice (some ⟨g, 0, none⟩) (n + 1) c) (wr.drewN q) := fun q => m_less (w := wr.drewN q) hcell
      have ml0 : (method 208 81 (.pointer (some ⟨p, 0, none⟩)) "Less").run Try.prog wr = .ok (71, .slice (some ⟨g, 0, none⟩) (n + 1) c) wr := m_less hcell
      have ms : ∀ q, (method 208 81 (.pointer (some ⟨p, 0, none⟩)) "Swap").run Try.prog (wr.drewN q) = .ok (72, .slice (some ⟨g, 0, none⟩) (n + 1) c) (wr.drewN q) := fun q => m_swap (w := wr.drewN q) hcell
      have d1 : decide ((n : Int) ≤ 2 * (i : Int) + 1) = false := by simp; omega
      have d2 : decide (2 * (i : Int) + 1 < 0) = false := by simp; omega
      clear hs
      have hlow := Lesser.of (ts := ts') h1
      by_cases h2 : 2 * i + 2 < n
      · have d3 : decide (2 * (i : Int) + 1 + 1 < (n : Int)) = true := decide_eq_true (by omega)
        cases hl2 : lessB (at_ ts' (2 * i + 2)) (at_ ts' (2 * i + 1))
        ·
          have HLE := hide (hlow.2.2 h2 hl2)
          clear hlow
          have L1 := row_less wr (some ⟨g, 0, none⟩) (n + 1) c _ (2 * i + 2) (2 * i + 1) ts' HS.out (by omega) (by omega)
          rw [show (((2 * i + 2 : Nat) : Int)) = 2 * (i : Int) + 1 + 1 from by omega, show (((2 * i + 1 : Nat) : Int)) = 2 * (i : Int) + 1 from by omega, hl2] at L1
          have L2 := fun q : Nat => row_less (wr.drewN q) (some ⟨g, 0, none⟩) (n + 1) c _ (2 * i + 1) i ts' HS.out (by omega) (by omega)
          rw [show (((2 * i + 1 : Nat) : Int)) = 2 * (i : Int) + 1 from by omega] at L2
          have S := fun q : Nat => row_swap (wr.drewN q) B (n + 1) c g i (2 * i + 1) ts' HROW.out (by omega) (by omega)
          rw [show (((2 * i + 1 : Nat) : Int)) = 2 * (i : Int) + 1 from by omega] at S
          have hle := HLE.out
          cases hlt : lessB (at_ ts' (2 * i + 1)) (at_ ts' i)
          · have HE := hide (HD.out.halt hle hlt)
            rw [hlt] at L2
            clear S hle
            go_wp2_with (first | (go_at_call 71; (with_reducible refine L1.mono ?_); rintro e w' ⟨rfl, nq1, rfl⟩) | (go_at_call 71; (with_reducible refine (L2 _).mono ?_); rintro e w' ⟨rfl, nq, rfl⟩))
            go_ret
            exact ⟨⟨_, rfl⟩, _, HP.out.none_ ((Keeps.refl _ _).drewN _), HL.out, HPM.out, HE.out, HAT.out, HK.out.drewN _⟩
          · have HE := hide (HD.out.swap hle (by rw [HL.out]; omega) hlt)
            have hji : i < 2 * i + 1 := by omega
            rw [hlt] at L2
            clear hle
            go_wp2_with (first | (go_at_call 71; (with_reducible refine L1.mono ?_); rintro e w' ⟨rfl, nq1, rfl⟩) | (go_at_call 71; (with_reducible refine (L2 _).mono ?_); rintro e w' ⟨rfl, nq, rfl⟩) | (go_at_call 72; (with_reducible refine (S _).mono ?_); rintro e w2 ⟨rfl, o2, k2⟩; have HREL := hide (show DownRel w B p b g c n t ts (.int .i64 (2 * (i : Int) + 1)) w2 from ⟨2 * i + 1, swap ts' i (2 * i + 1), congrArg (Value.int .i64) (by omega), by omega, ⟨(k2.block p (lt_of_heap HP.out.head) (fun e => hap e.symm)).trans HP.out.head, by rw [swap_length, HL.out]; exact o2⟩, by rw [swap_length, HL.out], (swap_perm ts' (by rw [HL.out]; omega) (by rw [HL.out]; omega)).trans HPM.out, HE.out, by rw [swap_at ts' (by rw [HL.out]; omega) (by rw [HL.out]; omega), if_neg (by omega), if_neg (by omega)]; exact HAT.out, (HK.out.drewN _).trans k2⟩); clear o2 k2))
            go_roundw
            case rel => exact HREL.out
            case measure => simp [intOf]; omega
        ·
          have HLE := hide (hlow.2.1 h2 hl2)
          clear hlow
          have L1 := row_less wr (some ⟨g, 0, none⟩) (n + 1) c _ (2 * i + 2) (2 * i + 1) ts' HS.out (by omega) (by omega)
          rw [show (((2 * i + 2 : Nat) : Int)) = 2 * (i : Int) + 1 + 1 from by omega, show (((2 * i + 1 : Nat) : Int)) = 2 * (i : Int) + 1 from by omega, hl2] at L1
          have L2 := fun q : Nat => row_less (wr.drewN q) (some ⟨g, 0, none⟩) (n + 1) c _ (2 * i + 2) i ts' HS.out (by omega) (by omega)
          rw [show (((2 * i + 2 : Nat) : Int)) = 2 * (i : Int) + 1 + 1 from by omega] at L2
          have S := fun q : Nat => row_swap (wr.drewN q) B (n + 1) c g i (2 * i + 2) ts' HROW.out (by omega) (by omega)
          rw [show (((2 * i + 2 : Nat) : Int)) = 2 * (i : Int) + 1 + 1 from by omega] at S
          have hle := HLE.out
          cases hlt : lessB (at_ ts' (2 * i + 2)) (at_ ts' i)
          · have HE := hide (HD.out.halt hle hlt)
            rw [hlt] at L2
            clear S hle
            go_wp2_with (first | (go_at_call 71; (with_reducible refine L1.mono ?_); rintro e w' ⟨rfl, nq1, rfl⟩) | (go_at_call 71; (with_reducible refine (L2 _).mono ?_); rintro e w' ⟨rfl, nq, rfl⟩))
            go_ret
            exact ⟨⟨_, rfl⟩, _, HP.out.none_ ((Keeps.refl _ _).drewN _), HL.out, HPM.out, HE.out, HAT.out, HK.out.drewN _⟩
          · have HE := hide (HD.out.swap hle (by rw [HL.out]; omega) hlt)
            have hji : i < 2 * i + 2 := by omega
            rw [hlt] at L2
            clear hle
            go_wp2_with (first | (go_at_call 71; (with_reducible refine L1.mono ?_); rintro e w' ⟨rfl, nq1, rfl⟩) | (go_at_call 71; (with_reducible refine (L2 _).mono ?_); rintro e w' ⟨rfl, nq, rfl⟩) | (go_at_call 72; (with_reducible refine (S _).mono ?_); rintro e w2 ⟨rfl, o2, k2⟩; have HREL := hide (show DownRel w B p b g c n t ts (.int .i64 (2 * (i : Int) + 1 + 1)) w2 from ⟨2 * i + 2, swap ts' i (2 * i + 2), congrArg (Value.int .i64) (by omega), by omega, ⟨(k2.block p (lt_of_heap HP.out.head) (fun e => hap e.symm)).trans HP.out.head, by rw [swap_length, HL.out]; exact o2⟩, by rw [swap_length, HL.out], (swap_perm ts' (by rw [HL.out]; omega) (by rw [HL.out]; omega)).trans HPM.out, HE.out, by rw [swap_at ts' (by rw [HL.out]; omega) (by rw [HL.out]; omega), if_neg (by omega), if_neg (by omega)]; exact HAT.out, (HK.out.drewN _).trans k2⟩); clear o2 k2))
            go_roundw
            case rel => exact HREL.out
            case measure => simp [intOf]; omega
      · have d3 : decide (2 * (i : Int) + 1 + 1 < (n : Int)) = false := decide_eq_false (by omega)
        have HLE := hide (hlow.1 h2)
        clear hlow
        have L2 := row_less wr (some ⟨g, 0, none⟩) (n + 1) c _ (2 * i + 1) i ts' HS.out (by omega) (by omega)
        rw [show (((2 * i + 1 : Nat) : Int)) = 2 * (i : Int) + 1 from by omega] at L2
        have S := fun q : Nat => row_swap (wr.drewN q) B (n + 1) c g i (2 * i + 1) ts' HROW.out (by omega) (by omega)
        rw [show (((2 * i + 1 : Nat) : Int)) = 2 * (i : Int) + 1 from by omega] at S
        have hle := HLE.out
        cases hlt : lessB (at_ ts' (2 * i + 1)) (at_ ts' i)
        · have HE := hide (HD.out.halt hle hlt)
          rw [hlt] at L2
          clear S hle
          go_wp2_with (first | (go_at_call 71; (with_reducible refine L2.mono ?_); rintro e w' ⟨rfl, nq, rfl⟩))
          go_ret
          exact ⟨⟨_, rfl⟩, _, HP.out.none_ ((Keeps.refl _ _).drewN _), HL.out, HPM.out, HE.out, HAT.out, HK.out.drewN _⟩
        · have HE := hide (HD.out.swap hle (by rw [HL.out]; omega) hlt)
          have hji : i < 2 * i + 1 := by omega
          rw [hlt] at L2
          clear hle
          go_wp2_with (first | (go_at_call 71; (with_reducible refine L2.mono ?_); rintro e w' ⟨rfl, nq, rfl⟩) | (go_at_call 72; (with_reducible refine (S _).mono ?_); rintro e w2 ⟨rfl, o2, k2⟩; have HREL := hide (show DownRel w B p b g c n t ts (.int .i64 (2 * (i : Int) + 1)) w2 from ⟨2 * i + 1, swap ts' i (2 * i + 1), congrArg (Value.int .i64) (by omega), by omega, ⟨(k2.block p (lt_of_heap HP.out.head) (fun e => hap e.symm)).trans HP.out.head, by rw [swap_length, HL.out]; exact o2⟩, by rw [swap_length, HL.out], (swap_perm ts' (by rw [HL.out]; omega) (by rw [HL.out]; omega)).trans HPM.out, HE.out, by rw [swap_at ts' (by rw [HL.out]; omega) (by rw [HL.out]; omega), if_neg (by omega), if_neg (by omega)]; exact HAT.out, (HK.out.drewN _).trans k2⟩); clear o2 k2))
          go_roundw
          case rel => exact HREL.out
          case measure => simp [intOf]; omega
    · have HE := hide (HD.out.leaf (by omega))
      have d1 : decide ((n : Int) ≤ 2 * (i : Int) + 1) = true := decide_eq_true (by omega)
      go_wp2
      go_ret
      exact ⟨⟨_, rfl⟩, _, HP.out, HL.out, HPM.out, HE.out, HAT.out, HK.out⟩
end Go.Proofs.Ytppolhpigclbpaa
