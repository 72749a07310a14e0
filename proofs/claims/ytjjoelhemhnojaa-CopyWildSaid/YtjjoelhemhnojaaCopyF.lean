/- The walk of the law CopyRing. -/
import Derived.Test.YtjjoelhemhnojaaCopyD
import Derived.Deep.CutBlock
import Derived.Deep.DeepCutAuto
import Derived.IntWalk
import Derived.Test.YtjjoelhemhnojaaHeapM
set_option linter.unusedVariables false
namespace Go.Proofs.Ytjjoelhemhnojaa
open Go.RowKit Go.Instr
open Hp Cp

theorem nxt_int {n i : Nat} : ((i : Int) + 1) % (n : Int) = (nxt n i : Int) := by unfold nxt; rw [show (i : Int) + 1 = ((i + 1 : Nat) : Int) from rfl]; exact (Int.natCast_emod _ _).symm
theorem nxt_lt {n i : Nat} (h : 0 < n) : nxt n i < n := Nat.mod_lt _ h
theorem ring_zero (n : Nat) : fill (ringO n) 0 0 = List.replicate n ((2 : Int), [(0 : Int)]) := by
  apply List.ext_getElem?
  intro j
  rw [fill_get, List.getElem?_replicate]
  by_cases hj : j < n
  · rw [ring_get hj, if_pos hj]
    simp [dn]
  · rw [List.getElem?_eq_none (by simp [ringO]; omega), if_neg hj]
    rfl
theorem ring_take (n i : Nat) (h : i ≤ n) : (flat ((ringO n).take i)).length = 3 * i := by
  rw [flat_same 1 _ (fun o ho => ring_len n o (List.mem_of_mem_take ho)), List.length_take]
  simp [ringO]
  omega
theorem ring_put {n i : Nat} (h : i < n) : Hp.put (fill (ringO n) i 0) ((3 * i : Nat) : Int) 0 ((3 * nxt n i + 1 : Nat) : Int) = fill (ringO n) (i + 1) 0 := by
  rw [← ring_take n i (by omega), fill_put (ring_get h) rfl]
  exact fill_next (ring_get h) rfl
theorem ring_room {n i : Nat} (h : i < n) : lenO (fill (ringO n) i 0) ((3 * i : Nat) : Int) = 1 := by
  unfold lenO
  rw [← ring_take n i (by omega), fill_look (ring_get h)]
  rfl
theorem ring_i32 {n : Nat} (h : n ≤ 60) : ∀ x ∈ flat (ringO n), inI32 x := by
  have : ∀ (l : List Nat), (∀ i ∈ l, i < n) → ∀ x ∈ flat (l.map fun i => ((2 : Int), [((3 * nxt n i + 1 : Nat) : Int)])), inI32 x := by
    intro l
    induction l with
    | nil => intro _ x hx; exact (List.not_mem_nil hx).elim
    | cons i l ih =>
      intro hl x hx
      have hi := hl i List.mem_cons_self
      have hn : nxt n i < n := nxt_lt (by omega)
      simp only [List.map_cons, flat, List.cons_append, List.nil_append, List.mem_cons] at hx
      unfold inI32
      rcases hx with rfl | rfl | rfl | hx
      · omega
      · simp
      · omega
      · exact ih (fun j hj => hl j (List.mem_cons_of_mem _ hj)) x hx
  exact this _ fun i hi => List.mem_range.1 hi
theorem ring_get0 {n i : Nat} (h : i < n) : getO (ringO n) ((3 * i : Nat) : Int) 0 = ((3 * nxt n i + 1 : Nat) : Int) := by
  unfold getO
  rw [ring_look h]
  rfl
theorem rep_flat (i : Nat) : (flat (List.replicate i ((2 : Int), [(0 : Int)]))).length = 3 * i := by
  rw [flat_same 1 _ (fun o ho => by rw [List.eq_of_mem_replicate ho]; rfl)]
  simp
  omega
theorem ring_copy3 {n r : Nat} (hr : r < n) : copyO (ringO n) refB [3 * (r : Int)] = ringO n ∧ movedO (ringO n) refB [3 * (r : Int)] = [0] := by
  have hn : 0 < n := by omega
  have e : 3 * (r : Int) = rg n r 0 := by
    unfold rg
    rw [Nat.add_zero, Nat.mod_eq_of_lt hr]
    omega
  rw [e]
  refine ⟨ring_copy hn, ?_⟩
  unfold movedO
  rw [ring_live hn, List.map_cons, List.map_nil, ring_off hn hn]
  rfl
theorem copy_neg (H : List Hp.Ob) (R : Int → Nat → Bool) : copyO H R [-1] = [] ∧ movedO H R [-1] = [-1] := by
  have e : liveF H R [-1] = [] := by
    unfold liveF
    rw [List.foldl_cons, List.foldl_nil, add_none (look_neg H (by decide))]
    exact grow_end _ _ _ _ _ (Nat.le_refl _)
  unfold copyO movedO
  rw [e]
  refine ⟨rfl, ?_⟩
  rw [List.map_cons, List.map_nil, new_neg _ _ (by decide)]
theorem copy_nil (H : List Hp.Ob) (R : Int → Nat → Bool) : copyO H R [] = [] := by
  have e : liveF H R [] = [] := by
    unfold liveF
    exact grow_end _ _ _ _ _ (Nat.le_refl _)
  unfold copyO
  rw [e]
  rfl
set_option maxHeartbeats 4000000 in
set_option maxRecDepth 100000 in
theorem copyRing_walk (n root : Int) (w : World) (w0 : (Lit.int .i64 n).wf = true) (w1 : (Lit.int .i64 root).wf = true) : Calls Try.prog 13 #[.int .i64 n, .int .i64 root] w fun e w' => e = .returned (.bool true) ∧ Below w.heap.size w w' := by
  have h1 := in64_of w0
  have h2 := in64_of w1
  clear w0 w1
  have B := hide (begun14_any w)
  go_enter Try.func13, Try.ntmps13
  go_wp2_with fail
  refine B.out.mono ?_
  rintro e wb ⟨rfl, hbb⟩
  have HBB := hide hbb
  clear hbb B
  by_cases hin : 1 ≤ n ∧ n ≤ 60
  rotate_left
  · have hcases : n < 1 ∨ (1 ≤ n ∧ 60 < n) := by omega
    clear hin
    rcases hcases with h | ⟨h, h'⟩
    all_goals
      go_wp2_with fail
      go_ret
      exact ⟨rfl, HBB.out⟩
  obtain ⟨hn1, hn2⟩ := hin
  obtain ⟨m, rfl⟩ := Int.eq_ofNat_of_zero_le (show 0 ≤ n by omega)
  have hm1 : 0 < m := by omega
  have hm2 : m ≤ 60 := by omega
  have N0 := hide (Solo.new ((m : Int) * 3) HBB.out)
  rw [show clampN ((m : Int) * 3) = 3 * m from by unfold clampN; omega] at N0
  have d1 : decide ((m : Int) < 1) = false := decide_eq_false (by omega)
  have d2 : decide (60 < (m : Int)) = false := decide_eq_false (by omega)
  go_upto_block 0 with (go_at_call 16; (with_reducible refine N0.out.mono ?_); rintro e wn ⟨rfl, hs⟩; have HS := hide hs; clear hs)
  generalize wb.heap.size = p at *
  clear N0
  go_wp2
  go_loopw [7] (fun u7 wr => ∃ i : Nat, u7 = .int .i64 (i : Int) ∧ i ≤ m ∧ Solo w wr p (3 * m) (List.replicate i ((2 : Int), [(0 : Int)]))) (fun u7 _ => m - (intOf u7).toNat)
  case atStart => exact ⟨0, rfl, by omega, HS.out⟩
  case round =>
    clear HS HBB
    obtain ⟨i, rfl, hi, hs⟩ := hrel
    by_cases hlt : i < m
    · have hlt' : (i : Int) < (m : Int) := by omega
      have hi60 : (i : Int) < 60 := by omega
      have M := hide (hs.make 2 1 rfl (by rw [rep_flat]; omega))
      rw [rep_flat, show List.replicate i ((2 : Int), [(0 : Int)]) ++ [(2, List.replicate 1 0)] = List.replicate (i + 1) ((2 : Int), [(0 : Int)]) from (List.replicate_succ' (n := i) (a := ((2 : Int), [(0 : Int)]))).symm, show ((1 : Nat) : Int) = 1 from rfl] at M
      clear hs
      go_wp2_with (go_at_call 17; (with_reducible refine M.out.mono ?_); rintro e w2 ⟨rfl, h2⟩; have H2 := hide h2; clear h2)
      go_roundw
      case rel => exact ⟨i + 1, by go_num, by omega, H2.out⟩
      case measure => simp [intOf]; omega
    · obtain rfl : i = m := by omega
      rw [← ring_zero] at hs
      have HS := hide hs
      clear hs
      go_wp2
      go_loopw [10] (fun u10 wq => ∃ j : Nat, u10 = .int .i64 (j : Int) ∧ j ≤ i ∧ Solo w wq p (3 * i) (fill (ringO i) j 0)) (fun u10 _ => i - (intOf u10).toNat)
      case atStart => exact ⟨0, rfl, by omega, HS.out⟩
      case round =>
        clear HS
        obtain ⟨j, rfl, hj, hs⟩ := hrel
        by_cases hlt2 : j < i
        · have hlt' : (j : Int) < (i : Int) := by omega
          have P := hs.put ((3 * j : Nat) : Int) 0 ((3 * nxt i j + 1 : Nat) : Int) (by rw [ring_room hlt2]; omega)
          rw [ring_put hlt2, show ((3 * j : Nat) : Int) = 3 * (j : Int) from by omega, show ((3 * nxt i j + 1 : Nat) : Int) = 3 * (nxt i j : Int) + 1 from by omega, show ((0 : Nat) : Int) = 0 from rfl] at P
          have HP := hide P
          have q1 := nxt_int (n := i) (i := j)
          have q2 : (nxt i j : Int) < 60 := by have := nxt_lt (n := i) (i := j) hm1; omega
          clear hs P
          go_wp2_with (go_at_call 18; (with_reducible refine HP.out.mono ?_); rintro e w2 ⟨rfl, h2⟩; have H2 := hide h2; clear h2)
          go_roundw
          case rel => exact ⟨j + 1, by go_num, by omega, H2.out⟩
          case measure => simp [intOf]; omega
        · obtain rfl : j = i := by omega
          rw [fill_all (ringO j) (by simp [ringO])] at hs
          have HS := hide hs
          clear hs
          obtain ⟨q, hq, hq2⟩ := emod_nat (root.tmod j) j hm1
          have ht := tmod_lo root j hm1
          obtain ⟨ht1, ht2⟩ := ht
          go_wp2_with fail
          have hka : Keeps (fun _ => False) wr (wr.alloc (.cells #[.int .i64 (3 * (q : Int))] 3)) := (Keeps.refl _ wr).alloc _
          have hs5 := new_sees wr #[.int .i64 (3 * (q : Int))] 3
          have hsz5 : (wr.alloc (.cells #[.int .i64 (3 * (q : Int))] 3)).heap.size = wr.heap.size + 1 := by simp
          have m5 := (HS.out.keeps hka).copy (R := refB) (roots := [3 * (q : Int)]) (cap := 1) (ring_i32 hm2) (by simpa using hs5) (by omega) _ refs_ok
          rw [(ring_copy3 hq2).1, (ring_copy3 hq2).2, hsz5] at m5
          refine m5.mono ?_
          rintro e w6 ⟨A, c, rfl, hsee, hc0, hg6, hin6, hk6⟩
          obtain ⟨b, off, rfl, hcl⟩ := hsee.cells (by omega)
          have c6 := hcl 0 _ rfl
          rw [Nat.add_zero] at c6
          have hlt6 : b < w6.heap.size := cell_lt c6
          have hkb : Keeps (fun _ => False) w6 (w6.alloc (.cells #[.int .i64 (-1)] 3)) := (Keeps.refl _ w6).alloc _
          have hs6 := new_sees w6 #[.int .i64 (-1)] 3
          have hsz6 : (w6.alloc (.cells #[.int .i64 (-1)] 3)).heap.size = w6.heap.size + 1 := by simp
          have m6 := (hin6.keeps hkb).copy (R := refB) (roots := [-1]) (cap := 1) (ring_i32 hm2) (by simpa using hs6) (by omega) _ refs_ok
          rw [(copy_neg (ringO j) refB).1, (copy_neg (ringO j) refB).2, hsz6] at m6
          have M6 := hide m6
          have HG6 := hide (hg6.keeps hkb)
          have HKB := hide hkb
          clear hka hs5 hsz5 m5 hsee hc0 hcl hs6 hsz6 hg6 hin6 hk6 hkb m6 HS
          go_wp2_with fail
          refine M6.out.mono ?_
          rintro e w7 ⟨A7, c7, rfl, hsee, hc0, hf7, hin7, hk7⟩
          obtain ⟨b7, off7, rfl, hcl⟩ := hsee.cells (by omega)
          have d7 := hcl 0 _ rfl
          rw [Nat.add_zero] at d7
          have e7 : w7.cell? ⟨b, off, none⟩ = some (.int .i64 0) := (World.cell?_of_block (((HKB.out).trans hk7).block b hlt6 id)).trans c6
          have hg7 := HG6.out.keeps hk7
          have U1 := hide hg7.used
          have U2 := hide hf7.used
          rw [ring_flat] at U1
          rw [show (flat []).length = 0 from rfl] at U2
          have HG7 := hide hg7
          have HIN7 := hide hin7
          clear c6 hsee hc0 hcl hf7 hin7 hk7 hg7 M6 HG6 HKB
          go_upto_block 4 with (first
            | (go_at_call 26; (with_reducible refine U1.out.mono ?_); rintro e w' ⟨rfl, rfl⟩)
            | (go_at_call 26; (with_reducible refine U2.out.mono ?_); rintro e w' ⟨rfl, rfl⟩))
          generalize wr.heap.size + 1 = g at *
          generalize w6.heap.size + 1 = f at *
          go_wp2
          go_loopw [16] (fun u16 wq => ∃ i : Nat, u16 = .int .i64 (i : Int) ∧ i ≤ j ∧ Solo w wq g (3 * j) (ringO j) ∧ Solo w wq p (3 * j) (ringO j)) (fun u16 _ => j - (intOf u16).toNat)
          case atStart => exact ⟨0, rfl, by omega, HG7.out, HIN7.out⟩
          case round =>
            clear HG7 HIN7 e7 d7 U1 U2
            obtain ⟨i, rfl, hi, hg, hin⟩ := hrel
            by_cases hlt : i < j
            · have hlt' : (i : Int) < (j : Int) := by omega
              have G := hide (fun nq : Nat => (hg.drewN nq).get ((3 * i : Nat) : Int) 0)
              rw [ring_get0 hlt, show ((3 * i : Nat) : Int) = 3 * (i : Int) from by omega, show ((3 * nxt j i + 1 : Nat) : Int) = 3 * (nxt j i : Int) + 1 from by omega] at G
              have q1 := nxt_int (n := j) (i := i)
              have q2 : (nxt j i : Int) < 60 := by have := nxt_lt (n := j) (i := i) hm1; omega
              have HG := hide hg
              have HIN := hide hin
              clear hg hin
              go_wp2
              go_quiet ((go_at_call 27; exact quiet_l (G.out _)))
              go_wp2
              go_roundw
              case rel => exact ⟨i + 1, by go_num, by omega, HG.out.drewN _, HIN.out.drewN _⟩
              case measure => simp [intOf]; omega
            · obtain rfl : i = j := by omega
              have hka : Keeps (fun _ => False) wr (wr.alloc (.cells #[.int .i64 (3 * (q : Int))] 3)) := (Keeps.refl _ _).alloc _
              have hs5 := new_sees wr #[.int .i64 (3 * (q : Int))] 3
              have m5 := (hin.keeps hka).live (R := refB) (roots := [3 * (q : Int)]) (cap := 1) (ring_i32 hm2) (by simpa using hs5) (by omega) _ refs_ok
              rw [(ring_copy3 hq2).1, ring_flat, show ((3 * i : Nat) : Int) = 3 * (i : Int) from by omega] at m5
              have M5 := hide m5
              clear hg hin hka hs5 m5
              go_wp2_with (first
                | (go_at_call 36; (with_reducible refine M5.out.mono ?_); rintro e w8 ⟨rfl, h8, k8⟩; have m8 := h8.live (A := none) (n := 0) (cap := 0) (R := refB) (roots := []) (ring_i32 hm2) (Sees.nil_ _ _ _) (by omega) _ refs_ok; rw [copy_nil, show ((flat []).length : Int) = 0 from rfl] at m8; have M8 := hide m8; clear h8 k8 m8)
                | (go_at_call 36; (with_reducible refine M8.out.mono ?_); rintro e w9 ⟨rfl, h9, k9⟩; have HB9 := hide h9.below; clear h9 k9))
              go_ret
              exact ⟨rfl, HB9.out⟩
end Go.Proofs.Ytjjoelhemhnojaa
