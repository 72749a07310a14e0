/- What the law FrameAll holds of its frame, its mirror's locals and stack; Good, said of slices of any length. -/
import Derived.Test.YtppolhpigclbpaaFrameP
set_option linter.unusedVariables false
namespace Go.Proofs.Ytppolhpigclbpaa
open Go.RowKit

set_option maxHeartbeats 1000000 in
theorem good_all (w : World) (A : Option Addr) (n c C : Nat) (vs : List V) (h : SeesV w C A n vs) (hn : (n : Int) ≤ 9223372036854775807) : Calls Try.prog 23 #[.slice A n c] w fun e w' => e = .returned (.bool (goodB vs)) ∧ w = w' := by
  have H := hide h
  have hl := h.len
  have HL := hide hl
  clear h hl
  go_enter Try.func23, Try.ntmps23
  go_wp2
  go_loop [3] (fun u3 => ∃ i : Nat, u3 = .int .i64 (i : Int) ∧ i ≤ n ∧ goodB (vs.take i) = true) (fun u3 => n - (intOf u3).toNat)
  case atStart => exact ⟨0, rfl, by omega, rfl⟩
  case round =>
    obtain ⟨i, rfl, hi, hg⟩ := hrel
    have HG := hide hg
    clear hg
    by_cases hlt : i < n
    · obtain ⟨b, off, v, rfl, hb, hv, c0, c1⟩ := H.out.at2 hlt
      have hlt' : (i : Int) < (n : Int) := by omega
      cases hgv : goodV v
      · have HB := hide (good_no hv hgv)
        have hr : v.1 = true ∧ v.2 < 0 := by simpa [goodV] using hgv
        obtain ⟨r1, r2⟩ := hr
        obtain ⟨r, x⟩ := v
        dsimp only at c0 c1 r1 r2
        subst r1
        have d1 : decide (x < 0) = true := by simpa using r2
        clear hv hgv r2
        go_wp2
        go_ret
        exact ⟨ret_bool (by rw [HB.out]), rfl⟩
      · have HS : goodB (vs.take (i + 1)) = true := by
          rw [take_snoc vs i v hv]
          have := HG.out
          unfold goodB at *
          rw [List.all_append, this]
          simpa using hgv
        have HS2 := hide HS
        clear HS
        obtain ⟨r, x⟩ := v
        dsimp only at c0 c1
        cases r
        · clear hv hgv
          go_wp2
          go_round
          case rel => exact ⟨i + 1, by go_num, by omega, HS2.out⟩
          case measure => simp [intOf]; omega
        · have d1 : decide (x < 0) = false := by simpa [goodV] using hgv
          clear hv hgv
          go_wp2
          go_round
          case rel => exact ⟨i + 1, by go_num, by omega, HS2.out⟩
          case measure => simp [intOf]; omega
    · obtain rfl : i = n := by omega
      go_wp2
      go_ret
      have := HG.out
      rw [List.take_of_length_le (by have := HL.out; omega)] at this
      exact ⟨ret_bool this.symm, rfl⟩
/-- The mirror's locals. -/
structure RowAt (w0 w : World) (F : Nat → Prop) (gl lc : Nat) (ls : List V) : Prop where
  len : ls.length = lc
  row : w.ownsRow w0.heap.size 39 2 (.slice (some ⟨gl, 0, none⟩) lc lc) lc (vCells ls)
  safe : Safe F w gl
/-- The mirror's stack. -/
structure StAt (w : World) (F : Nat → Prop) (gl : Nat) (A : Option Addr) (c : Nat) (st : List V) : Prop where
  sees : SeesV w w.heap.size A st.length st
  nil_ : A = none → c = 0
  cap : st.length ≤ c ∧ c ≤ maxLen
  off : ∀ b o, A = some ⟨b, o, none⟩ → Safe F w b ∧ b ≠ gl
section
variable {w0 w w' : World} {F F2 : Nat → Prop} {gl lc : Nat} {ls st : List V} {A : Option Addr} {c : Nat}
theorem RowAt.step (h : RowAt w0 w F gl lc ls) (hk : Keeps F w w') (hS : ∀ b, Safe F w b → Safe F2 w' b) : RowAt w0 w' F2 gl lc ls :=
  ⟨h.len, Safe.row h.row (fun g hg => by cases hg; exact h.safe.1) hk, hS gl h.safe⟩
theorem RowAt.none_ (h : RowAt w0 w F gl lc ls) (hk : Keeps (fun _ => False) w w') : RowAt w0 w' F gl lc ls := h.step (hk.more fun _ _ => False.elim) fun b hb => hb.more hk.size
theorem RowAt.sees (h : RowAt w0 w F gl lc ls) : SeesV w w.heap.size (some ⟨gl, 0, none⟩) lc ls := by
  obtain ⟨A, c, he, _, _, hs, _⟩ := Sees.of_ownN h.row
  cases he
  exact hs
theorem StAt.step (h : StAt w F gl A c st) (hk : Keeps F w w') (hS : ∀ b, Safe F w b → Safe F2 w' b) : StAt w' F2 gl A c st :=
  ⟨(Sees.off h.sees (Nat.le_refl _) hk fun b o e => (h.off b o e).1.1).more hk.size, h.nil_, h.cap, fun b o e => ⟨hS b (h.off b o e).1, (h.off b o e).2⟩⟩
theorem StAt.none_ (h : StAt w F gl A c st) (hk : Keeps (fun _ => False) w w') : StAt w' F gl A c st := h.step (hk.more fun _ _ => False.elim) fun b hb => hb.more hk.size
theorem StAt.nil (w : World) (F : Nat → Prop) (gl : Nat) : StAt w F gl none 0 [] := ⟨Sees.nil_ _ _ _, fun _ => rfl, ⟨Nat.le_refl _, Nat.zero_le _⟩, fun b o e => by cases e⟩
theorem StAt.take (h : StAt w F gl A c st) {k : Nat} (hk : k ≤ st.length) : StAt w F gl A c (st.take k) := by
  have hl : (st.take k).length = k := by rw [List.length_take]; omega
  refine ⟨?_, h.nil_, ⟨by rw [hl]; exact Nat.le_trans hk h.cap.1, h.cap.2⟩, h.off⟩
  rw [hl]
  exact SeesV.take h.sees hk
theorem StAt.of_own {B n : Nat} {v : Value} {vs : List V} (h : w.ownsRow B 39 2 v n (vCells vs)) (hF : ∀ k, F k → k < B) (hg : gl < B) : ∃ A c, v = .slice A vs.length c ∧ StAt w F gl A c vs := by
  obtain ⟨A, c, rfl, h1, h2, hs, hn, hb⟩ := Sees.of_ownN h
  have hl := SeesV.len hs
  subst hl
  refine ⟨A, c, rfl, hs, hn, ⟨h1, h2⟩, fun b o e => ?_⟩
  have hB := (hb b o e).1
  subst e
  exact ⟨⟨fun hf => by have := hF b hf; omega, (own_type3 h (g := b) rfl).2.1⟩, by omega⟩
end
/-- What the law holds at each round's head, and behind each step. -/
def AllRel (w0 : World) (p gl lc room : Nat) (me : Int) (u17 u18 : Value) (w : World) : Prop :=
  ∃ (F : Nat → Prop) (pc : Int) (ls st : List V) (A : Option Addr) (c : Nat), u17 = .slice A st.length c ∧ u18 = .int .i64 pc ∧ (-9223372036854775808 ≤ pc ∧ pc ≤ 9223372036854775807) ∧ Fr w0 w F p me pc room ls st ∧ (∀ v ∈ ls ++ st, inI32 v.2) ∧ RowAt w0 w F gl lc ls ∧ StAt w F gl A c st
/-- The mirror's local is set: what its store does to the world. -/
theorem RowAt.set {w0 w : World} {F : Nat → Prop} {gl lc i : Nat} {ls : List V} (h : RowAt w0 w F gl lc ls) (hi : i < lc) (v : V) : (∃ u, w.cell? ⟨gl, i * 2, none⟩ = some u) ∧ (∃ u, w.cell? ⟨gl, i * 2 + 1, none⟩ = some u) ∧ (∀ j, w.frozen? ⟨gl, j, none⟩ = false) ∧
    RowAt w0 ((w.setCell ⟨gl, i * 2, none⟩ (.bool v.1)).setCell ⟨gl, i * 2 + 1, none⟩ (.int .i32 v.2)) F gl lc (ls.set i v) ∧ Keeps (fun k => k = gl) w ((w.setCell ⟨gl, i * 2, none⟩ (.bool v.1)).setCell ⟨gl, i * 2 + 1, none⟩ (.int .i32 v.2)) := by
  have hl2 := vCells_length ls
  have hl := h.len
  have hst1 := h.row.stored (i * 2) (.bool v.1)
  have hst2 := hst1.1.stored (i * 2 + 1) (.int .i32 v.2)
  have hK : Keeps (fun k => k = gl) w ((w.setCell ⟨gl, i * 2, none⟩ (.bool v.1)).setCell ⟨gl, i * 2 + 1, none⟩ (.int .i32 v.2)) := ((Keeps.refl (fun k => k = gl) w).setCell (q := ⟨gl, i * 2, none⟩) (fun _ => rfl) _).setCell (q := ⟨gl, i * 2 + 1, none⟩) (fun _ => rfl) _
  refine ⟨⟨_, (h.row.cellAt (i * 2) (by omega)).trans (List.getElem?_eq_getElem (by omega))⟩, ⟨_, (h.row.cellAt (i * 2 + 1) (by omega)).trans (List.getElem?_eq_getElem (by omega))⟩, fun j => h.row.frozenAt j, ⟨by rw [List.length_set]; exact hl, ?_, h.safe.more hK.size⟩, hK⟩
  rw [vCells_set ls i v (by omega)]
  exact hst2.1
end Go.Proofs.Ytppolhpigclbpaa
