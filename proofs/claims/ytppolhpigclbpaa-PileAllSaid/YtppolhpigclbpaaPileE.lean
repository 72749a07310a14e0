/- The library's heap: up, down, Push, Pop walked over a pile's row. -/
import Derived.Test.YtppolhpigclbpaaPileD
set_option linter.unusedVariables false
namespace Go.Proofs.Ytppolhpigclbpaa
open Go.RowKit Go.Instr

section
variable {p : Nat} {w : World} {lv : Value}
theorem m_push (p : Nat) (w : World) : (method 208 81 (.pointer (some ⟨p, 0, none⟩)) "Push").run Try.prog w = .ok (74, .pointer (some ⟨p, 0, none⟩)) w := by kernel_rfl
theorem m_pop (p : Nat) (w : World) : (method 208 81 (.pointer (some ⟨p, 0, none⟩)) "Pop").run Try.prog w = .ok (73, .pointer (some ⟨p, 0, none⟩)) w := by kernel_rfl
theorem m_len (h : w.cell? ⟨p, 0, none⟩ = some lv) : (method 208 81 (.pointer (some ⟨p, 0, none⟩)) "Len").run Try.prog w = .ok (70, lv) w := by
  have e : (method 208 81 (.pointer (some ⟨p, 0, none⟩)) "Len").run Try.prog w = (loadVar 77 ⟨p, 0, none⟩ >>= fun v => pure ((70 : FuncId), v)).run Try.prog w := by kernel_rfl
  rw [e]
  simp [h, go_sem]
theorem m_less (h : w.cell? ⟨p, 0, none⟩ = some lv) : (method 208 81 (.pointer (some ⟨p, 0, none⟩)) "Less").run Try.prog w = .ok (71, lv) w := by
  have e : (method 208 81 (.pointer (some ⟨p, 0, none⟩)) "Less").run Try.prog w = (loadVar 77 ⟨p, 0, none⟩ >>= fun v => pure ((71 : FuncId), v)).run Try.prog w := by kernel_rfl
  rw [e]
  simp [h, go_sem]
theorem m_swap (h : w.cell? ⟨p, 0, none⟩ = some lv) : (method 208 81 (.pointer (some ⟨p, 0, none⟩)) "Swap").run Try.prog w = .ok (72, lv) w := by
  have e : (method 208 81 (.pointer (some ⟨p, 0, none⟩)) "Swap").run Try.prog w = (loadVar 77 ⟨p, 0, none⟩ >>= fun v => pure ((72 : FuncId), v)).run Try.prog w := by kernel_rfl
  rw [e]
  simp [h, go_sem]
end
theorem PileAt.cell {w : World} {B p b : Nat} {lv : Value} {ts : List T} (h : PileAt w B p b lv ts) : w.cell? ⟨p, 0, none⟩ = some lv := by rw [cell_of_row w p 0 _ 79 (0, 0) h.head]; rfl
theorem par_int (j : Nat) : IntKind.i64.wrap ((j : Int) - 1) = (j : Int) - 1 → Int.tdiv ((j : Int) - 1) 2 = (par j : Int) := by
  intro _
  unfold par
  cases j with
  | zero => rfl
  | succ j => rw [show ((j + 1 : Nat) : Int) - 1 = (j : Int) by omega, show (j + 1 - 1) / 2 = j / 2 by simp]; exact Int.ofNat_tdiv j 2 |>.symm
/-- What going up holds at each round's head. -/
def UpRel (w : World) (B p b g c n : Nat) (ts : List T) (u1 : Value) (wr : World) : Prop :=
  ∃ (j : Nat) (ts' : List T), u1 = .int .i64 (j : Int) ∧ j < n ∧ PileAt wr B p b (.slice (some ⟨g, 0, none⟩) n c) ts' ∧ ts'.length = n ∧ ts'.Perm ts ∧ UpTo ts' j ∧ Keeps (fun k => k = g) w wr
set_option maxHeartbeats 1000000 in
theorem heap_up (w : World) (B p b g c n j0 : Nat) (ts : List T) (h : PileAt w B p b (.slice (some ⟨g, 0, none⟩) n c) ts) (hn : ts.length = n) (hj : j0 < n) (hn3 : (n : Int) ≤ 1000) (hu : UpTo ts j0) :
    Calls Try.prog 52 #[.iface 81 (.pointer (some ⟨p, 0, none⟩)), .int .i64 (j0 : Int)] w fun e w' => e = .returned (.tuple #[]) ∧ ∃ ts', PileAt w' B p b (.slice (some ⟨g, 0, none⟩) n c) ts' ∧ ts'.length = n ∧ ts'.Perm ts ∧ HeapTo ts' n ∧ Keeps (fun k => k = g) w w' := by
  have H0 : UpRel w B p b g c n ts (.int .i64 (j0 : Int)) w := ⟨j0, ts, rfl, hj, h, hn, List.Perm.refl _, hu, Keeps.refl _ _⟩
  have HH := hide H0
  clear H0 h hn hu
  go_enter Try.func52, Try.ntmps52
  go_wp2
  go_loopw [1] (fun u1 wr => UpRel w B p b g c n ts u1 wr) (fun u1 _ => (intOf u1).toNat)
  case atStart => exact HH.out
  case round =>
    clear HH
    obtain ⟨j, ts', rfl, hj, hp, hl, hpm, hut, hk⟩ := hrel
    have hj' : (j : Int) < (n : Int) := by omega
    have hq := par_int j (IntWalk.i64_in _ (by omega))
    have HU := hide hut
    have HP := hide hp
    have HL := hide hl
    have HPM := hide hpm
    have HK := hide hk
    by_cases hz : j = 0
    · subst hz
      have hq0 : Int.tdiv (-1) 2 = 0 := by decide
      have HE := hide (hut.stop (.inl rfl))
      clear hp hl hpm hk hut hq
      go_wp2
      go_end0
      have := HE.out
      rw [HL.out] at this
      exact ⟨rfl, _, HP.out, HL.out, HPM.out, this, HK.out⟩
    · have hpj : par j < j := by unfold par; omega
      have hne : ((par j : Int) == (j : Int)) = false := by simp; omega
      have hrow := hp.row
      rw [hl] at hrow
      obtain ⟨A, c', he, q1, q2, hs, q3⟩ := Sees.of_ownN hrow
      cases he
      clear q1 q2 q3
      have L := hide (row_less wr _ n c _ j (par j) ts' hs hj (by omega))
      have ml := m_less hp.cell
      have ms : ∀ q, (method 208 81 (.pointer (some ⟨p, 0, none⟩)) "Swap").run Try.prog (wr.drewN q) = .ok (72, .slice (some ⟨g, 0, none⟩) n c) (wr.drewN q) := fun q => m_swap (w := wr.drewN q) hp.cell
      cases hlt : lessB (at_ ts' j) (at_ ts' (par j))
      · have HE := hide (hut.stop (.inr hlt))
        rw [hlt] at L
        clear hp hl hpm hk hut hs hrow
        go_wp2_with (go_at_call 71; (with_reducible refine L.out.mono ?_); rintro e w' ⟨rfl, nq, rfl⟩)
        go_end0
        have := HE.out
        rw [HL.out] at this
        exact ⟨rfl, _, HP.out.none_ ((Keeps.refl _ _).drewN _), HL.out, HPM.out, this, HK.out.drewN _⟩
      · have HE := hide (hut.swap (by omega) (by omega) hlt)
        have S := fun q : Nat => hide (row_swap (wr.drewN q) B n c g (par j) j ts' hrow (by omega) hj)
        rw [hlt] at L
        have hap := hp.apart g rfl
        clear hp hl hpm hk hut hs hrow
        go_wp2_with (first | (go_at_call 71; (with_reducible refine L.out.mono ?_); rintro e w' ⟨rfl, nq, rfl⟩) | (go_at_call 72; (with_reducible refine (S _).out.mono ?_); rintro e w2 ⟨rfl, o2, k2⟩; have HREL := hide (show UpRel w B p b g c n ts (.int .i64 (par j : Int)) w2 from ⟨par j, swap ts' (par j) j, rfl, by omega, ⟨(k2.block p (lt_of_heap HP.out.head) (fun e => hap e.symm)).trans HP.out.head, by rw [swap_length, HL.out]; exact o2⟩, by rw [swap_length, HL.out], (swap_perm ts' (by rw [HL.out]; omega) (by rw [HL.out]; exact hj)).trans HPM.out, HE.out, (HK.out.drewN _).trans k2⟩); clear o2 k2))
        go_roundw
        case rel => exact HREL.out
        case measure => simp [intOf]; omega
end Go.Proofs.Ytppolhpigclbpaa
