/- The walk of CopyTwice. -/
import Derived.Test.YtjjoelhemhnojaaCopyM
import Derived.Test.YtjjoelhemhnojaaCopyLaw5
import Derived.Deep.CutBlock
set_option linter.unusedVariables false
namespace Go.Proofs.Ytjjoelhemhnojaa
open Go.RowKit Go.Instr
open Hp Cp

theorem Solo.words2 {W0 w : World} {p N : Nat} {objs : List Hp.Ob} (h : Solo W0 w p N objs) : Calls Try.prog 19 #[.pointer (some ⟨p, 0, none⟩)] w fun e w' =>
    ∃ A c, e = .returned (.slice A (flat objs).length c) ∧ Sees w' w'.heap.size A (flat objs).length ((flat objs).map (Value.int .i32)) ∧ Solo W0 w' p N objs ∧ Keeps (fun _ => False) w w' := by
  obtain ⟨F, h1, h2⟩ := h
  refine (words_in h1).mono ?_
  rintro e w' ⟨v, rfl, ho, hk⟩
  obtain ⟨A, c, rfl, hA⟩ := Sees.of_own ho
  exact ⟨A, c, rfl, hA, Solo.keeps ⟨F, h1, h2⟩ hk, hk⟩
theorem Solo.room {W0 w : World} {p N : Nat} {objs : List Hp.Ob} (h : Solo W0 w p N objs) : (flat objs).length ≤ N ∧ N ≤ 1048576 := by
  obtain ⟨F, h1, h2⟩ := h
  exact ⟨h1.le, h1.most⟩
theorem pl_some (os : List Hp.Ob) {q : Nat} (h : q < os.length) : (lookO (laidO os) (pl os (q : Int))).isSome = true := by
  rw [laid_look h]; rfl
set_option maxHeartbeats 4000000 in
set_option maxRecDepth 100000 in
theorem copyTwice_walk (A : Option Addr) (n cap : Nat) (os : List Hp.Ob) (root : Int) (w : World) (ho : ObsRow w A n cap os) (w1 : (Lit.int .i64 root).wf = true) : Calls Try.prog 10 #[.slice A n cap, .int .i64 root] w fun e w' => e = .returned (.bool true) ∧ Below w.heap.size w w' := by
  have h2 := in64_of w1
  clear w1
  have B := hide (begun14_any w)
  have HO := hide ho
  clear ho
  go_enter Try.func10, Try.ntmps10
  go_wp2_with fail
  refine B.out.mono ?_
  rintro e wb ⟨rfl, hbb⟩
  have HBB := hide hbb
  have K29 := hide (cut29_any wb w.heap.size A n cap os (HO.out.obs.below hbb) hbb.size HO.out.wide HO.out.few HO.out.lens)
  clear hbb B
  go_wp2_with fail
  refine K29.out.mono ?_
  rintro e wc ⟨v, T, rfl, hcut⟩
  clear K29
  have hcc := cut_cut (min n 20) os (by rw [HO.out.obs.1]; omega) (by omega)
  obtain ⟨A1, c1, rfl, hobs⟩ := hcut.obs
  have HBC := hide (HBB.out.trans (hcut.below.mono HBB.out.size))
  clear hcut HBB HO
  generalize cutL (min n 20) os = ls at *
  have hm20 := hcc.few
  obtain ⟨m, hm⟩ : ∃ m, ls.length = m := ⟨_, rfl⟩
  rw [hm] at hobs hm20 ⊢
  have HM := hide hm
  have HCC := hide hcc
  clear hm hcc
  rcases Nat.eq_zero_or_pos m with rfl | hm1
  · clear hobs
    go_wp2_with fail
    go_ret
    exact ⟨rfl, HBC.out⟩
  have hm1' : (1 : Int) ≤ (m : Int) := by omega
  have hm20' : (m : Int) ≤ 20 := by omega
  have K30 := hide (laid30_any wc wc.heap.size A1 m c1 ls hobs (Nat.le_refl _) HCC.out)
  clear hobs
  have d0 : ((m : Int) == 0) = false := beq_eq_false_iff_ne.2 (by omega)
  obtain ⟨q, hq, hq2⟩ := emod_nat (root.tmod m) m hm1
  have ht := tmod_lo root m hm1
  obtain ⟨ht1, ht2⟩ := ht
  go_wp2_with fail
  refine K30.out.mono ?_
  rintro e wl ⟨v, rfl, hbes⟩
  clear K30
  obtain ⟨A2, c2, rfl, hsee⟩ := Sees.of_own hbes.row
  obtain ⟨b, off, rfl, hcl⟩ := hsee.cells hm1
  have e1 : wl.cell? ⟨b, off + q, none⟩ = some (.int .i64 (pl ls (q : Int))) := hcl q _ (by rw [List.getElem?_map, List.getElem?_range hq2]; rfl)
  have hx := pl_some ls (q := q) (by rw [HM.out]; exact hq2)
  have hI := laid_i32 HCC.out
  have hbd : 0 ≤ pl ls (q : Int) ∧ pl ls (q : Int) ≤ 1000 := ⟨pl_ge (by omega), by have := pl_le HCC.out (y := (q : Int)); omega⟩
  have hsolo := hbes.solo
  generalize pl ls (q : Int) = x at *
  have HLL := hide (show (flat (laidO ls)).length ≤ 300 from hsolo.room.1)
  generalize laidO ls = H at *
  have hka : Keeps (fun _ => False) wl (wl.alloc (.cells #[.int .i64 x] 3)) := (Keeps.refl _ wl).alloc _
  have hs5 := new_sees wl #[.int .i64 x] 3
  have hsz5 : (wl.alloc (.cells #[.int .i64 x] 3)).heap.size = wl.heap.size + 1 := by simp
  have m5 := (hsolo.keeps hka).copy (R := refB) (roots := [x]) (cap := 1) hI (by simpa using hs5) (by omega) _ refs_ok
  rw [moved_one hx, hsz5] at m5
  have M5 := hide m5
  have HI2 := hide (copy_i32 (R := refB) (roots := [x]) hI (by have := HLL.out; omega))
  have HTW := hide (twice_same (R := refB) hx)
  have HC1 := hide (copied_one (R := refB) hx)
  generalize copyO H refB [x] = G at *
  clear hbes hsee hcl hx hI hsolo hka hs5 hsz5 m5
  obtain ⟨hbd1, hbd2⟩ := hbd
  go_wp2_with fail
  refine M5.out.mono ?_
  rintro e w6 ⟨A6, c6, rfl, hsee6, hc06, hg6, hin6, hk6⟩
  have m6 := hg6.copy (R := refB) (roots := [0]) (cap := c6) HI2.out hsee6 (by omega) _ refs_ok
  rw [moved_one HC1.out, HTW.out] at m6
  have M6 := hide m6
  obtain ⟨b6, off6, rfl, hcl6⟩ := hsee6.cells (by omega)
  have e6 := hcl6 0 _ rfl
  rw [Nat.add_zero] at e6
  clear m6 hsee6 hcl6 hg6 hin6 hk6 hc06 M5 e1
  go_wp2_with fail
  refine M6.out.mono ?_
  rintro e w7 ⟨A7, c7, rfl, hsee7, hc07, hf7, hg7, hk7⟩
  obtain ⟨b7, off7, rfl, hcl7⟩ := hsee7.cells (by omega)
  have d7 := hcl7 0 _ rfl
  rw [Nat.add_zero] at d7
  have e7 : w7.cell? ⟨b6, off6, none⟩ = some (.int .i64 0) := (World.cell?_of_block (hk7.block b6 (cell_lt e6) id)).trans e6
  have WF := hide hf7.words2
  have HG := hide hg7
  clear hsee7 hcl7 hf7 hg7 hk7 hc07 M6 e6
  go_wp2_with (first
    | (go_at_call 19
       (with_reducible refine WF.out.mono ?_)
       rintro e w8 ⟨A8, c8, rfl, hs8, hf8, hk8⟩
       have WG := hide ((HG.out.keeps hk8).words2)
       have HS8 := hide hs8
       clear hs8 hf8 hk8)
    | (go_at_call 19
       (with_reducible refine WG.out.mono ?_)
       rintro e w9 ⟨A9, c9, rfl, hs9, hg9, hk9⟩
       have K33 := hide (eq33_same w9 w8.heap.size w9.heap.size A8 A9 _ c8 c9 (flat G) (HS8.out.below (hk9.below (Nat.le_refl _) fun _ => False.elim)) hs9 hk9.size (Nat.le_refl _) (by have := hg9.room; omega))
       have HB9 := hide hg9.below
       clear hs9 hg9 hk9)
    | (go_at_call 33
       (with_reducible refine K33.out.mono ?_)
       rintro e wz ⟨rfl, hkz⟩
       have HBZ := hide (HBC.out.trans ((HB9.out.trans (hkz.below HB9.out.size fun _ => False.elim)).mono HBC.out.size))
       clear hkz))
  go_ret
  exact ⟨rfl, HBZ.out⟩
end Go.Proofs.Ytjjoelhemhnojaa
