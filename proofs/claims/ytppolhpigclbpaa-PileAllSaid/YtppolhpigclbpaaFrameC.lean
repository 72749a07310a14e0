/- The walks of the frame's Push, Pop, New and of slices.Clone at values. -/
import Derived.Test.YtppolhpigclbpaaFrameB
set_option linter.unusedVariables false
namespace Go.Proofs.Ytppolhpigclbpaa
open Go.RowKit

theorem Try.info39 : (Try.prog.info? 39).map (fun i => (i.zero, i.size, i.bytes)) = some (some (.agg #[.bool false, .int .i32 0]), 2, 8) := by kernel_rfl
/-- F with what a step has made. -/
def grownF (F : Nat → Prop) (a w : World) : Nat → Prop := fun j => F j ∨ (a.heap.size ≤ j ∧ j < w.heap.size)
section
variable {w w' w2 : World} {B p room : Nat} {F : Nat → Prop} {me pc : Int} {ls st : List V}
theorem FrameIn.restack (h : FrameIn w B F p me pc room ls st) {lv sv sv2 : Value} {w2 : World} {st2 : List V} (h1 : w.heap[p]? = some (Go.Obj.cells #[.int .i64 me, .int .i64 pc, .int .i64 (room : Int), lv, sv] 70 (0, 0))) (h2 : w.ownsRow B 39 2 lv ls.length (vCells ls)) (h3 : w.ownsRow B 39 2 sv st.length (vCells st))
    (h4 : ∀ g, lv.ownBlock = some g → F g) (h5 : ∀ g, sv.ownBlock = some g → F g) (h6 : ∀ g, lv.ownBlock = some g → sv.ownBlock ≠ some g)
    (hg : w.grownBy w2 sv.ownBlock) (hat : sv2.ownBlock = sv.ownBlock ∨ sv2.ownBlock = some w.heap.size ∨ sv2.ownBlock = none) (ho : w2.ownsRow B 39 2 sv2 st2.length (vCells st2)) (hlen : st2.length ≤ room) :
    w2.cell? ⟨p, 4, none⟩ = some sv ∧ w2.frozen? ⟨p, 4, none⟩ = false ∧ FrameIn (w2.setCell ⟨p, 4, none⟩ sv2) B (grownF F w w2) p me pc room ls st2 ∧ Keeps F w (w2.setCell ⟨p, 4, none⟩ sv2) := by
  have hp := (h.low p h.here).2
  have hne1 : ∀ {v : Value} {n : Nat} {xs : List Value}, w.ownsRow B 39 2 v n xs → ∀ g, v.ownBlock = some g → g ≠ p := by
    intro v n xs ho g hg e
    obtain ⟨_, _, cur, hc⟩ := own_type3 ho hg
    subst e
    rw [h1] at hc; cases hc
  have hb := (hg.block p hp (fun e => hne1 h3 p e.symm rfl)).trans h1
  have hne : ∀ {v : Value} {n : Nat} {xs : List Value}, w2.ownsRow B 39 2 v n xs → ∀ g, v.ownBlock = some g → g ≠ p := by
    intro v n xs ho g hg e
    obtain ⟨_, _, cur, hc⟩ := own_type3 ho hg
    subst e
    rw [hb] at hc; cases hc
  have h2' : w2.ownsRow B 39 2 lv ls.length (vCells ls) := ownsRow_kept h2 fun g hgl => hg.block g (own_type3 h2 hgl).2.1 (fun e => h6 g hgl e.symm)
  have hsz := hg.size
  have hK : Keeps F w (w2.setCell ⟨p, 4, none⟩ sv2) := ((Keeps.refl F w).grown hg fun g hgv _ => h5 g hgv).setCell (fun _ => h.here) _
  refine ⟨by rw [cell_of_row w2 p _ _ 70 (0, 0) hb]; rfl, frozen_of_row w2 p 4 _ 70 hb, ⟨fun k hf => ?_, .inl h.here, h.loc, hlen, h.most, lv, sv2, heap_setCell_same w2 p 4 _ 70 _ hb, ownsRow_kept h2' fun g hg => Below.heap_setCell _ _ _ _ (hne h2' g hg), ownsRow_kept ho fun g hg => Below.heap_setCell _ _ _ _ (hne ho g hg), fun g hgl => .inl (h4 g hgl), fun g hgl => ?_, fun g hgl e => ?_⟩, hK⟩
  · have e : (w2.setCell ⟨p, 4, none⟩ sv2).heap.size = w2.heap.size := by simp [World.setCell]
    rcases hf with hf | hf
    · have := h.low k hf
      exact ⟨this.1, by omega⟩
    · have := (h.low p h.here).1
      exact ⟨by omega, by omega⟩
  · rcases hat with e | e | e
    · exact .inl (h5 g (by rw [← e]; exact hgl))
    · have := (own_type3 ho hgl).2.1
      rw [e] at hgl; cases hgl
      exact .inr ⟨Nat.le_refl _, this⟩
    · rw [e] at hgl; cases hgl
  · rcases hat with e' | e' | e'
    · exact h6 g hgl (by rw [← e']; exact e)
    · rw [e'] at e; cases e
      have := (own_type3 h2 hgl).2.1
      omega
    · rw [e'] at e; cases e
theorem FrameIn.regrown (h : FrameIn w' B (grownF F w w2) p me pc room ls st) (hs : w2.heap.size = w'.heap.size) : FrameIn w' B (grownF F w w') p me pc room ls st := by
  unfold grownF at *
  rw [← hs]
  exact h
theorem push_no (h : FrameIn w B F p me pc room ls st) (A : Option Addr) (n c : Nat) (hn : (room : Int) - st.length < n) : Calls Try.prog 25 #[.pointer (some ⟨p, 0, none⟩), .slice A n c] w fun e w' => e = .returned (.bool false) ∧ Keeps (fun _ => False) w w' := by
  obtain ⟨A1, c1, A2, c2, h0, h1, h2, h3, h4, _⟩ := h.reads
  have hr := h.most
  have hs := h.stk
  clear h
  generalize st.length = k at *
  go_enter Try.func25, Try.ntmps25
  go_wp2
  go_quiet (fail)
  go_wp2
  go_ret
  exact ⟨rfl, (Keeps.refl _ w).drewN _⟩
theorem none_push (w : World) (A : Option Addr) (n c : Nat) : Calls Try.prog 25 #[.pointer none, .slice A n c] w fun e w' => e = .returned (.bool false) ∧ Keeps (fun _ => False) w w' := by
  go_enter Try.func25, Try.ntmps25
  go_wp2
  go_quiet (fail)
  go_wp2
  go_ret
  exact ⟨rfl, (Keeps.refl _ w).drewN _⟩
set_option maxHeartbeats 1000000 in
theorem push_yes (h : FrameIn w B F p me pc room ls st) {C : Nat} {A : Option Addr} {n c : Nat} {vs : List V} (hv : SeesV w C A n vs) (hc : A = none → c = 0) (hn : st.length + n ≤ room) : Calls Try.prog 25 #[.pointer (some ⟨p, 0, none⟩), .slice A n c] w fun e w' =>
    e = .returned (.bool true) ∧ FrameIn w' B (grownF F w w') p me pc room ls (st ++ vs) ∧ Keeps F w w' := by
  have hB : B ≤ w.heap.size := by have := h.low p h.here; omega
  obtain ⟨lv, sv, h1, h2, h3, h4, h5, h6⟩ := h.rows
  have hvl := hv.len
  obtain ⟨A2, c2, hsv, _, _, _, hc2, _⟩ := Sees.of_ownN h3
  subst hsv
  have g2 : w.cell? ⟨p, 2, none⟩ = some (.int .i64 (room : Int)) := by rw [cell_of_row w p _ _ 70 (0, 0) h1]; rfl
  have g4 : w.cell? ⟨p, 4, none⟩ = some (.slice A2 st.length c2) := by rw [cell_of_row w p _ _ 70 (0, 0) h1]; rfl
  have hroom := h.most
  have hst := h.stk
  obtain ⟨i0, hi0, hz0, hz1, hz2⟩ := info_parts Try.info39
  have HI := hide hi0
  have HZ0 := hide hz0
  have HZ1 := hide hz1
  have HZ2 := hide hz2
  have HH := hide h
  have H1 := hide h1
  have H2 := hide h2
  have H3 := hide h3
  have H4 := hide h4
  have H5 := hide h5
  have H6 := hide h6
  have HV := hide hv
  have HC := hide hc
  have HVL := hide hvl
  have HB := hide hB
  clear h h1 h2 h3 h4 h5 h6 hi0 hz0 hz1 hz2 hv hc hvl hc2 hB
  generalize hkk : st.length = k at *
  have HKK := hide hkk
  clear hkk
  have hn' : (n : Int) ≤ (room : Int) - (k : Int) := by omega
  go_enter Try.func25, Try.ntmps25
  go_wp2
  go_quiet (fail)
  have hK := (Keeps.refl (fun _ => False) w).drewN nq
  have hrow := ownsRow_kept H3.out (w' := w.drewN nq) (fun g hg => rfl)
  have HR := hide hrow
  clear hrow
  have HV2 := hide (HV.out.drewN nq)
  have HBQ := hide (show B ≤ (w.drewN nq).heap.size from HB.out)
  go_wp2_with (at_builtin
               refine wpList_append_seesN _ rfl (.tmp 26) (.tmp 27) 29 rfl B 39 i0 _ 2 8 Try.underlying29 HI.out HZ0.out HZ1.out HZ2.out (by rfl) (by omega) _ k _ (by rfl) HR.out C A n c _ (by rfl) HV2.out HC.out (vCells_one vs) (by unfold maxLen; omega) (by omega) HBQ.out ?_
               intro v2 w2 hown2 hg2 hat2
               obtain ⟨A3, c3, rfl, _⟩ := Sees.of_ownN hown2
               have hgg : w.grownBy w2 (Value.slice A2 k c2).ownBlock := ⟨hg2.os, hg2.tape, hg2.output, hg2.size, hg2.block⟩
               have hres := HH.out.restack (st2 := st ++ vs) (sv2 := .slice A3 (k + n) c3) H1.out H2.out (by rw [HKK.out]; exact H3.out) H4.out H5.out H6.out hgg (by rcases hat2 with e | e; exact .inl e; exact .inr (.inl e)) (by rw [List.length_append, HKK.out, HVL.out, vCells_append]; exact hown2) (by rw [List.length_append, HKK.out, HVL.out]; omega)
               obtain ⟨r1, r2, r3, r4⟩ := hres
               have HR3 := hide r3
               have HR4 := hide r4
               clear hown2 hg2 hat2 hgg r3 r4)
  go_ret
  refine ⟨rfl, HR3.out.regrown ?_, HR4.out⟩
  simp [World.setCell]
end
end Go.Proofs.Ytppolhpigclbpaa
