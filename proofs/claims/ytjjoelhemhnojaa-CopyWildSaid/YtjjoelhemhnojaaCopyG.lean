/- The walk of the law CopyShared. -/
import Derived.Test.YtjjoelhemhnojaaCopyF
set_option linter.unusedVariables false
namespace Go.Proofs.Ytjjoelhemhnojaa
open Go.RowKit Go.Instr
open Hp Cp

theorem Beside.put {W0 w : World} {p N n : Nat} {objs : List Hp.Ob} {e : TypeId} {v : Value} {xs : List Value} (h : Beside W0 w p N objs e v n xs) (a : Int) (i : Nat) (x : Int) (hin : (i : Int) < lenO objs a) :
    Calls Try.prog 18 #[.pointer (some ⟨p, 0, none⟩), .int .i64 a, .int .i64 (i : Int), .int .i32 x] w fun en w' => en = .returned (.bool true) ∧ Beside W0 w' p N (Hp.put objs a i x) e v n xs := by
  obtain ⟨F, h1, h2, h3, h4⟩ := h
  refine (put_in h1 a i x hin).mono ?_
  rintro en w' ⟨he, hi, hk⟩
  exact ⟨he, F, hi, h2.trans (hk.below h2.size fun k hf => (h1.low k hf).1), ownsRow_kept h3 fun g hg => hk.block g (own_lt h3 hg) (h4 g hg), h4⟩
theorem shared_make (i : Nat) : Hp.put (sharedO i ++ [((2 : Int), List.replicate 1 0)]) (sh i) 0 1 = sharedO (i + 1) := by
  have h := put_at (sharedO i ++ [((2 : Int), List.replicate 1 0)]) (i + 1) 0 1 ((2 : Int), List.replicate 1 0) (by rw [List.getElem?_append_right (by simp [sharedO])]; simp [sharedO])
  have hl : (sharedO i).length = i + 1 := by simp [sharedO]
  have ht : (sharedO i ++ [((2 : Int), List.replicate 1 0)]).take (i + 1) = sharedO i := by
    rw [List.take_append_of_le_length (by omega), ← hl, List.take_length]
  rw [ht, shared_flat, show ((3 * i + 7 : Nat) : Int) = sh i from by unfold sh; omega] at h
  rw [h, List.set_append_right _ _ (by omega), hl, Nat.sub_self]
  unfold sharedO
  rw [List.replicate_succ' (n := i)]
  rfl
theorem shared_len (i : Nat) : lenO (sharedO i ++ [((2 : Int), List.replicate 1 0)]) (sh i) = 1 := by
  have h := look_append (sharedO i) ((2 : Int), List.replicate 1 0) (sh i)
  rw [shared_flat, show ((3 * i + 7 : Nat) : Int) = sh i from by unfold sh; omega, if_pos rfl] at h
  unfold lenO
  rw [h]
  rfl
theorem shared_i32 (n : Nat) : ∀ x ∈ flat (sharedO n), inI32 x := by
  have h2 : ∀ m, ∀ x ∈ flat (List.replicate m ((2 : Int), [(1 : Int)])), inI32 x := by
    intro m
    induction m with
    | zero => intro x hx; exact (List.not_mem_nil hx).elim
    | succ m ih =>
      intro x hx
      simp only [List.replicate_succ, flat, List.cons_append, List.nil_append, List.mem_cons] at hx
      unfold inI32
      rcases hx with rfl | rfl | rfl | hx
      · omega
      · simp
      · omega
      · exact ih x hx
  intro x hx
  simp only [sharedO, flat, List.cons_append, List.nil_append, List.mem_cons] at hx
  rcases hx with rfl | rfl | rfl | rfl | rfl | rfl | rfl | hx
  all_goals first | exact h2 n x hx | (unfold inI32; simp)
theorem shared_moved {n : Nat} (hn : 0 < n) : movedO (sharedO n) refB ((List.range n).map sh) = (List.range n).map fun i => ((3 * i : Nat) : Int) := by
  unfold movedO
  rw [shared_live hn, List.map_map]
  refine List.map_congr_left fun i hi => ?_
  exact shared_off hn (List.mem_range.1 hi)
set_option maxHeartbeats 4000000 in
set_option maxRecDepth 100000 in
theorem copyShared_walk (n : Int) (w : World) (w0 : (Lit.int .i64 n).wf = true) : Calls Try.prog 14 #[.int .i64 n] w fun e w' => e = .returned (.bool true) ∧ Below w.heap.size w w' := by
  have h1 := in64_of w0
  clear w0
  have B := hide (begun14_any w)
  obtain ⟨i0, hi0, hz0, hz1, hz2⟩ := info_parts Try.info3c
  have HJ := hide hi0
  have HZ0 := hide hz0
  have HZ1 := hide hz1
  have HZ2 := hide hz2
  clear hi0 hz0 hz1 hz2
  go_enter Try.func14, Try.ntmps14
  go_wp2_with fail
  refine B.out.mono ?_
  rintro e wb ⟨rfl, hbb⟩
  have HBB := hide hbb
  clear hbb B
  by_cases hin : 1 ≤ n ∧ n ≤ 50
  rotate_left
  · have hcases : n < 1 ∨ (1 ≤ n ∧ 50 < n) := by omega
    clear hin
    rcases hcases with h | ⟨h, h'⟩
    all_goals
      go_wp2_with fail
      go_ret
      exact ⟨rfl, HBB.out⟩
  obtain ⟨hn1, hn2⟩ := hin
  obtain ⟨m, rfl⟩ := Int.eq_ofNat_of_zero_le (show 0 ≤ n by omega)
  have hm1 : 0 < m := by omega
  have hm2 : m ≤ 50 := by omega
  have N0 := hide (Solo.new ((m : Int) * 3 + 7) HBB.out)
  rw [show clampN ((m : Int) * 3 + 7) = 3 * m + 7 from by unfold clampN; omega] at N0
  have d1 : decide ((m : Int) < 1) = false := decide_eq_false (by omega)
  have d2 : decide (50 < (m : Int)) = false := decide_eq_false (by omega)
  go_upto_region 7 with (go_at_call 16; (with_reducible refine N0.out.mono ?_); rintro e wn ⟨rfl, hs⟩; have HS := hide hs; clear hs)
  generalize wb.heap.size = p at *
  have M0 := hide (HS.out.make 1 5 rfl (by simp [flat]; omega))
  rw [show (flat []).length = 0 from rfl] at M0
  clear N0 HS
  go_wp2_with fail
  refine M0.out.mono ?_
  rintro e w1 ⟨rfl, hs1⟩
  have hb1 : Beside w w1 p (3 * m + 7) (sharedO 0) 3 (.slice none 0 0) 0 ((List.range 0).map fun i => Value.int .i64 (sh i)) := by
    obtain ⟨F, f1, f2⟩ := hs1
    exact ⟨F, f1, f2, World.ownsRow_nil _ _ _ _, fun g hg => (by cases hg)⟩
  have HB1 := hide hb1
  clear hs1 hb1 M0
  go_wp2
  go_loopw [7, 8] (fun u7 u8 wr => ∃ i : Nat, u8 = .int .i64 (i : Int) ∧ i ≤ m ∧ Beside w wr p (3 * m + 7) (sharedO i) 3 u7 i ((List.range i).map fun i => Value.int .i64 (sh i))) (fun _ u8 _ => m - (intOf u8).toNat)
  case atStart => exact ⟨0, rfl, by omega, HB1.out⟩
  case round =>
    clear HB1 HBB
    obtain ⟨i, rfl, hi, hs⟩ := hrel
    by_cases hlt : i < m
    · have hlt' : (i : Int) < (m : Int) := by omega
      have hi50 : (i : Int) < 50 := by omega
      have M := hide (hs.make 2 1 rfl (by rw [shared_flat]; omega))
      rw [shared_flat, show ((3 * i + 7 : Nat) : Int) = sh i from by unfold sh; omega, show ((1 : Nat) : Int) = 1 from rfl] at M
      clear hs
      go_wp2_with (first
        | (go_at_call 17; (with_reducible refine M.out.mono ?_); rintro e w2 ⟨rfl, h2⟩; have P := h2.put (sh i) 0 1 (by rw [shared_len]; decide); rw [shared_make, show ((0 : Nat) : Int) = 0 from rfl] at P; have HP := hide P; clear h2 P)
        | (go_at_call 18
           (with_reducible refine HP.out.mono ?_)
           rintro e w3 ⟨rfl, h3⟩
           have h4 := h3.alloc (.cells #[.int .i64 (sh i)] 3)
           have H4 := hide h4
           have HRW := hide h4.row
           have HSZ := hide h4.size
           have HNS := hide (new_sees w3 #[.int .i64 (sh i)] 3)
           clear h3 h4)
        | (at_builtin
           refine wpList_append_sees _ rfl (.tmp 53) (.tmp 55) 41 rfl w.heap.size 3 i0 _ 8 Try.underlying41 HJ.out HZ0.out HZ1.out HZ2.out rfl _ i _ rfl HRW.out (w3.heap.size + 1) _ 1 1 _ rfl HNS.out (fun e => nomatch e) (by intro u hu; rcases List.mem_cons.1 hu with rfl | hu; exact rfl; exact (List.not_mem_nil hu).elim) (by unfold maxLen; omega) (by omega) HSZ.out ?_
           intro v4 w4 hown4 hg4 hat4
           have HE := hide (H4.out.grown (xs2 := (List.range (i + 1)).map fun i => Value.int .i64 (sh i)) (by rw [List.range_succ, List.map_append]; exact hown4) hg4 hat4)
           clear hown4 hg4 hat4))
      go_roundw
      case rel => exact ⟨i + 1, by go_num, by omega, HE.out⟩
      case measure => simp [intOf]; omega
    · obtain rfl : i = m := by omega
      obtain ⟨A, c, rfl, hA⟩ := Sees.of_own hs.row
      have m5 := hs.solo.copy (R := refB) (roots := (List.range i).map sh) (cap := c) (shared_i32 i) (by rw [List.map_map]; exact hA) (by omega) _ refs_ok
      rw [show copyO (sharedO i) refB ((List.range i).map sh) = sharedC i from shared_copy hm1, shared_moved hm1] at m5
      have M5 := hide m5
      clear hs hA m5
      go_wp2_with fail
      refine M5.out.mono ?_
      rintro e w6 ⟨A6, c6, rfl, hsee, hc0, hg6, hin6, hk6⟩
      have U := hide hg6.used
      rw [sharedC_flat] at U
      have K := hide (fun (x : Int) (hx : x = ((3 * i : Nat) : Int)) => show Calls Try.prog 23 #[.pointer (some ⟨wr.heap.size, 0, none⟩), .int .i64 x] w6 (fun e w' => e = .returned (.bool true) ∧ w6 = w') from by
        rw [hx]; have h := hg6.has ((3 * i : Nat) : Int); rw [sharedC_last] at h; exact h)
      have Ln := hide (fun (x : Int) (hx : x = ((3 * i : Nat) : Int)) => show Calls Try.prog 25 #[.pointer (some ⟨wr.heap.size, 0, none⟩), .int .i64 x] w6 (fun e w' => e = .returned (.int .i64 5) ∧ w6 = w') from by
        rw [hx]; have h := hg6.len ((3 * i : Nat) : Int); rw [show lenO (sharedC i) ((3 * i : Nat) : Int) = 5 from by unfold lenO; rw [sharedC_last]; rfl] at h; exact h)
      have HG6 := hide hg6
      have HSE := hide hsee
      have hu : ((3 * i + 7 : Nat) : Int) = (i : Int) * 3 + 7 := by omega
      rw [hu] at U
      clear hsee hc0 hg6 hin6 hk6 M5 hu
      go_upto_block 2 with (first
        | (go_at_call 26; (with_reducible refine U.out.mono ?_); rintro e w' ⟨rfl, rfl⟩)
        | (go_at_call 23; (with_reducible refine (K.out _ (by omega)).mono ?_); rintro e w' ⟨rfl, rfl⟩)
        | (go_at_call 25; (with_reducible refine (Ln.out _ (by omega)).mono ?_); rintro e w' ⟨rfl, rfl⟩))
      generalize wr.heap.size = g at *
      go_wp2
      go_loopw [13] (fun u13 wq => ∃ j : Nat, u13 = .int .i64 (j : Int) ∧ j ≤ i ∧ Solo w wq g (3 * i + 7) (sharedC i) ∧ Sees wq wq.heap.size A6 i (((List.range i).map fun i => ((3 * i : Nat) : Int)).map (Value.int .i64))) (fun u13 _ => i - (intOf u13).toNat)
      case atStart => exact ⟨0, rfl, by omega, HG6.out, HSE.out⟩
      case round =>
        clear HG6 HSE U K Ln
        obtain ⟨j, rfl, hj, hg, hsee⟩ := hrel
        by_cases hlt : j < i
        · have hlt' : (j : Int) < (i : Int) := by omega
          have hi50 : (i : Int) ≤ 50 := by omega
          obtain ⟨b, off, u, rfl, hb, hu, hcell⟩ := hsee.at_ hlt
          rw [List.getElem?_map, List.getElem?_map, List.getElem?_range hlt] at hu
          simp only [Option.map_some, Option.some.injEq] at hu
          subst hu
          rw [show ((3 * j : Nat) : Int) = (j : Int) * 3 from by omega] at hcell
          have G := hide (fun (x : Int) (hx : x = ((3 * j : Nat) : Int)) => show Calls Try.prog 27 #[.pointer (some ⟨g, 0, none⟩), .int .i64 x, .int .i64 0] wr (fun e w' => e = .returned (.int .i32 ((i : Int) * 3 + 1)) ∧ wr = w') from by
            rw [hx]; have h := hg.get ((3 * j : Nat) : Int) 0; rw [show getO (sharedC i) ((3 * j : Nat) : Int) 0 = ((3 * i + 1 : Nat) : Int) from by unfold getO; rw [sharedC_look hlt]; rfl, show ((3 * i + 1 : Nat) : Int) = (i : Int) * 3 + 1 from by omega] at h; exact h)
          have HG := hide hg
          have HSE := hide hsee
          clear hg hsee
          go_wp2_with (go_at_call 27; (with_reducible refine (G.out _ (by omega)).mono ?_); rintro e w' ⟨rfl, rfl⟩)
          go_roundw
          case rel => exact ⟨j + 1, by go_num, by omega, HG.out, HSE.out⟩
          case measure => simp [intOf]; omega
        · obtain rfl : j = i := by omega
          have HB := hide hg.below
          clear hg hsee
          go_wp2
          go_ret
          exact ⟨rfl, HB.out⟩
end Go.Proofs.Ytjjoelhemhnojaa
