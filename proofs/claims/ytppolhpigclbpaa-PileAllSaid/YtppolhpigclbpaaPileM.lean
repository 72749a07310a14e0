/- The walk of PileAll. -/
import Derived.Test.YtppolhpigclbpaaPileL
set_option linter.unusedVariables false
namespace Go.Proofs.Ytppolhpigclbpaa
open Go.RowKit Go.Instr

theorem Try.info57 : (Try.prog.info? 57).map (fun i => (i.zero, i.size, i.bytes)) = some (some (.agg #[.int .i64 0, .int .i64 0, .int .i64 0]), 3, 24) := by kernel_rfl
/-- The pile, what waits, what was had. -/
structure AllSt (W w : World) (F : Nat → Prop) (p : Nat) (ts : List T) (wt : List O3) (hd : List Int) (A : Option Addr) (n c : Nat) (Ah : Option Addr) (k ch : Nat) : Prop where
  pile : PileIn W w F p ts hd
  perm : ts.Perm (wt.map (·.2))
  wrow : w.ownsRow W.heap.size 57 3 (.slice A n c) n (oCells wt)
  hrow : w.ownsRow W.heap.size 3 1 (.slice Ah k ch) k (hd.map (Value.int .i64))
  wsafe : ∀ g, (Value.slice A n c).ownBlock = some g → ¬ F g
  hsafe : ∀ g, (Value.slice Ah k ch).ownBlock = some g → ¬ F g
section
variable {W w w' : World} {F : Nat → Prop} {p n c k ch : Nat} {ts : List T} {wt : List O3} {hd : List Int} {A Ah : Option Addr}
theorem AllSt.wlen (h : AllSt W w F p ts wt hd A n c Ah k ch) : wt.length = n := by have := h.wrow.1; rw [oCells_length] at this; omega
theorem AllSt.hlen (h : AllSt W w F p ts wt hd A n c Ah k ch) : hd.length = k := by have := h.hrow.1; rw [List.length_map] at this; omega
theorem AllSt.tlen (h : AllSt W w F p ts wt hd A n c Ah k ch) : ts.length = n := by rw [h.perm.length_eq, List.length_map, h.wlen]
theorem AllSt.apart (h : AllSt W w F p ts wt hd A n c Ah k ch) : ∀ g, (Value.slice A n c).ownBlock = some g → (Value.slice Ah k ch).ownBlock ≠ some g := by
  intro g hg e
  obtain ⟨_, _, cur, hc⟩ := own_type3 h.wrow hg
  obtain ⟨_, _, cur2, hc2⟩ := own_type3 h.hrow e
  rw [hc] at hc2; cases hc2
theorem AllSt.none_ (h : AllSt W w F p ts wt hd A n c Ah k ch) (hk : Keeps (fun _ => False) w w') : AllSt W w' F p ts wt hd A n c Ah k ch :=
  ⟨h.pile.none_ hk, h.perm, ownsRow_kept h.wrow fun g hg => hk.block g (own_type3 h.wrow hg).2.1 id, ownsRow_kept h.hrow fun g hg => hk.block g (own_type3 h.hrow hg).2.1 id, h.wsafe, h.hsafe⟩
theorem AllSt.sees (h : AllSt W w F p ts wt hd A n c Ah k ch) : SeesO w w.heap.size A n wt ∧ Sees w w.heap.size Ah k (hd.map (Value.int .i64)) ∧ n ≤ c ∧ c ≤ maxLen ∧ (A = none → c = 0) := by
  obtain ⟨A', c', he, h1, h2, hs, hn, _⟩ := Sees.of_ownN h.wrow
  cases he
  obtain ⟨A', c', he, hs2⟩ := Sees.of_own h.hrow
  cases he
  exact ⟨hs, hs2, h1, h2, hn⟩
end
/-- What the law holds behind each step, and at each round's head: at most m wait. -/
def PAll (W : World) (p m : Nat) (u5 u6 : Value) (w : World) : Prop :=
  ∃ F ts wt hd A n c Ah k ch, u5 = .slice A n c ∧ u6 = .slice Ah k ch ∧ n ≤ m ∧ k ≤ m ∧ AllSt W w F p ts wt hd A n c Ah k ch
theorem drop_one {wt : List O3} {k : Nat} (h : k < wt.length) : (wt.map (·.2)).Perm ((atO wt k).2 :: ((wt.take k ++ wt.drop (k + 1)).map (·.2))) := by
  have e : wt = wt.take k ++ atO wt k :: wt.drop (k + 1) := by
    have h1 : wt.drop k = atO wt k :: wt.drop (k + 1) := by
      rw [List.drop_eq_getElem_cons h]
      congr 1
      unfold atO
      rw [List.getD_eq_getElem?_getD, List.getElem?_eq_getElem h]
      rfl
    rw [← h1, List.take_append_drop]
  have h2 : wt.Perm (atO wt k :: (wt.take k ++ wt.drop (k + 1))) := by
    have := (List.perm_middle (l₁ := wt.take k) (a := atO wt k) (l₂ := wt.drop (k + 1)))
    rw [← e] at this
    exact this
  exact h2.map _
/-- Behind a Put: the rows beside the pile. -/
structure Beside2 (W w : World) (F : Nat → Prop) (q : Nat) (kd r x : Int) (wt : List O3) (hd : List Int) (A : Option Addr) (n c : Nat) (Ah : Option Addr) (k ch : Nat) : Prop where
  wrow : w.ownsRow W.heap.size 57 3 (.slice A n c) n (oCells wt)
  hrow : w.ownsRow W.heap.size 3 1 (.slice Ah k ch) k (hd.map (Value.int .i64))
  wsafe : ∀ g, (Value.slice A n c).ownBlock = some g → ¬ F g
  hsafe : ∀ g, (Value.slice Ah k ch).ownBlock = some g → ¬ F g
  hq : w.heap[q]? = some (Go.Obj.cells #[.int .i64 kd, .int .i64 r, .int .i64 x] 57 (0, 0))
  qF : ¬ F q
  qW : (Value.slice A n c).ownBlock ≠ some q
  qH : (Value.slice Ah k ch).ownBlock ≠ some q
theorem Beside2.put {W w w' : World} {F : Nat → Prop} {q : Nat} {kd r x : Int} {wt : List O3} {hd : List Int} {A : Option Addr} {n c : Nat} {Ah : Option Addr} {k ch : Nat} (h : Beside2 W w F q kd r x wt hd A n c Ah k ch) (hk : Keeps F w w') : Beside2 W w' (grownF F w w') q kd r x wt hd A n c Ah k ch :=
  ⟨Safe.row h.wrow h.wsafe hk, Safe.row h.hrow h.hsafe hk, fun g hg hf => hf.elim (h.wsafe g hg) fun hf => by have := (own_type3 h.wrow hg).2.1; omega, fun g hg hf => hf.elim (h.hsafe g hg) fun hf => by have := (own_type3 h.hrow hg).2.1; omega,
    (hk.block q (lt_of_heap h.hq) h.qF).trans h.hq, fun hf => hf.elim h.qF fun hf => by have := lt_of_heap h.hq; omega, h.qW, h.qH⟩
theorem Beside2.step {W w w' : World} {F : Nat → Prop} {q : Nat} {kd r x : Int} {wt : List O3} {hd : List Int} {A : Option Addr} {n c : Nat} {Ah : Option Addr} {k ch : Nat} (h : Beside2 W w F q kd r x wt hd A n c Ah k ch) (hk : Keeps F w w') : Beside2 W w' F q kd r x wt hd A n c Ah k ch :=
  ⟨Safe.row h.wrow h.wsafe hk, Safe.row h.hrow h.hsafe hk, h.wsafe, h.hsafe, (hk.block q (lt_of_heap h.hq) h.qF).trans h.hq, h.qF, h.qW, h.qH⟩
theorem atO_mem {os : List O3} {k : Nat} (h : k < os.length) : atO os k ∈ os := List.mem_of_getElem? (atO_eq h)
theorem mem_atO {os : List O3} {o : O3} (h : o ∈ os) : ∃ k, k < os.length ∧ o = atO os k := by
  obtain ⟨k, hk, rfl⟩ := List.mem_iff_getElem.1 h
  refine ⟨k, hk, ?_⟩
  unfold atO
  rw [List.getD_eq_getElem?_getD, List.getElem?_eq_getElem hk]
  rfl
theorem least_same {ts : List T} {t : T} {ts' : List T} {wt : List O3} {n j : Nat} (hp : ts.Perm (wt.map (·.2))) (hc : ts.Perm (t :: ts')) (hle : ∀ u ∈ ts, le t u) (hn : wt.length = n) (hj : j < n) (hmin : ∀ i, i < n → le (atO wt j).2 (atO wt i).2) : t = (atO wt j).2 ∧ ts'.Perm ((wt.take j ++ wt.drop (j + 1)).map (·.2)) := by
  have e : t = (atO wt j).2 := by
    refine le_antisymm (hle _ (hp.mem_iff.2 (List.mem_map_of_mem (atO_mem (by omega))))) ?_
    have ht : t ∈ wt.map (·.2) := hp.mem_iff.1 (hc.mem_iff.2 (List.mem_cons_self ..))
    obtain ⟨o, ho, rfl⟩ := List.mem_map.1 ht
    obtain ⟨k, hk, rfl⟩ := mem_atO ho
    exact hmin k (by omega)
  refine ⟨e, ?_⟩
  have h1 := (hc.symm.trans hp).trans (drop_one (k := j) (by omega))
  rw [← e] at h1
  exact h1.cons_inv
theorem Beside2.apart {W w : World} {F : Nat → Prop} {q : Nat} {kd r x : Int} {wt : List O3} {hd : List Int} {A : Option Addr} {n c : Nat} {Ah : Option Addr} {k ch : Nat} (h : Beside2 W w F q kd r x wt hd A n c Ah k ch) : ∀ g, (Value.slice A n c).ownBlock = some g → (Value.slice Ah k ch).ownBlock ≠ some g := by
  intro g hg e
  obtain ⟨_, _, cur, hc⟩ := own_type3 h.wrow hg
  obtain ⟨_, _, cur2, hc2⟩ := own_type3 h.hrow e
  rw [hc] at hc2; cases hc2
set_option maxHeartbeats 80000000 in
set_option maxRecDepth 100000 in
theorem pileAll_walk (a0 : Option Addr) (len0 cap0 : Nat) (z0 : List O3) (W : World) (h0 : StepsIn W a0 len0 cap0 z0) : Calls Try.prog 11 #[.slice a0 len0 cap0] W fun e w' => e = .returned (.bool true) ∧ Below W.heap.size W w' := by
  have hlen : (len0 : Int) ≤ 9223372036854775807 := by have h1 := h0.le.1; have h2 := h0.le.2; unfold maxLen at h2; omega
  have B := hide (begun18_any W)
  have HS := hide h0.sees
  obtain ⟨i0, hi0, hx0, hx1, hx2⟩ := info_parts Try.info57
  have HI := hide hi0
  have HZ0 := hide hx0
  have HZ1 := hide hx1
  have HZ2 := hide hx2
  obtain ⟨i3, hi3, hy0, hy1, hy2⟩ := info_parts Try.info3
  have HJ := hide hi3
  have HY0 := hide hy0
  have HY1 := hide hy1
  have HY2 := hide hy2
  clear h0 hi0 hx0 hx1 hx2 hi3 hy0 hy1 hy2
  go_enter Try.func11, Try.ntmps11
  go_upto_region 4 with (go_at_call 38; (with_reducible refine B.out.mono ?_); rintro e w1 ⟨rfl, b1⟩; have B1 := hide b1; clear b1)
  have N := hide (pile_new B1.out)
  go_upto_block 0 with (go_at_call 39; (with_reducible refine N.out.mono ?_); rintro e w2 ⟨rfl, h2, _⟩; have H2 := hide h2; clear h2)
  generalize w1.heap.size + 1 = p at *
  have HB := hide (show PAll W p 0 (.slice none 0 0) (.slice none 0 0) w2 from ⟨_, [], [], [], none, 0, 0, none, 0, 0, rfl, rfl, by omega, by omega, H2.out, List.Perm.refl _, World.ownsRow_nil _ _ _ _, World.ownsRow_nil _ _ _ _, fun g hg => (by cases hg), fun g hg => (by cases hg)⟩)
  clear H2 N B
  go_wp2
  go_loopw [5, 6, 7] (fun u5 u6 u7 wr => ∃ i : Nat, u7 = .int .i64 (i : Int) ∧ i ≤ len0 ∧ (i : Int) ≤ 80 ∧ PAll W p i u5 u6 wr) (fun _ _ u7 _ => len0 - (intOf u7).toNat)
  case atStart => exact ⟨0, rfl, by omega, by omega, HB.out⟩
  case round =>
  clear HB
  obtain ⟨i, rfl, hi, hi80, F, ts, wt, hd, A, n, c, Ah, k, ch, rfl, rfl, hni, hki, hst⟩ := hrel
  by_cases hlt : i < len0
  rotate_left
  · obtain rfl : len0 = i := by omega
    have BE := hide hst.pile.below
    clear hst
    go_wp2
    go_ret
    exact ⟨rfl, BE.out⟩
  have hlt' : (i : Int) < (len0 : Int) := by omega
  by_cases h80 : (i : Int) < 80
  rotate_left
  · have d1 : decide ((i : Int) < 80) = false := decide_eq_false h80
    have BE := hide hst.pile.below
    clear hst
    go_wp2
    go_ret
    exact ⟨rfl, BE.out⟩
  have d1 : decide ((i : Int) < 80) = true := decide_eq_true h80
  obtain ⟨b, off, rfl, hb, c0, c1, c2⟩ := SeesO.at3 (show SeesO wr W.heap.size a0 len0 z0 from HS.out.below hst.pile.below) hlt
  generalize atO z0 i = o at *
  obtain ⟨kd, r, x⟩ := o
  dsimp only at c0 c1 c2
  have hk1 := (Keeps.refl (fun _ => False) wr).alloc (.cells #[.int .i64 kd, .int .i64 r, .int .i64 x] 57)
  have hq := heap_alloc_new wr (Go.Obj.cells #[.int .i64 kd, .int .i64 r, .int .i64 x] 57)
  have HQF := hide (show ¬ F wr.heap.size from fun hf => by have := (hst.pile.low _ hf).2; omega)
  have HQW := hide (show (Value.slice A n c).ownBlock ≠ some wr.heap.size from fun e => by have := (own_type3 hst.wrow e).2.1; omega)
  have HQH := hide (show (Value.slice Ah k ch).ownBlock ≠ some wr.heap.size from fun e => by have := (own_type3 hst.hrow e).2.1; omega)
  have HST := hide (hst.none_ hk1)
  have HQ := hide hq
  clear hst hk1 hq
  go_upto_region 11 with fail
  generalize wr.alloc (Go.Obj.cells #[.int .i64 kd, .int .i64 r, .int .i64 x] 57) = wq at *
  generalize wr.heap.size = q at *
  clear c0 c1 c2
  have q0 : wq.cell? ⟨q, 0, none⟩ = some (.int .i64 kd) := cell_of_row wq q 0 _ 57 (0, 0) HQ.out
  have q1 : wq.cell? ⟨q, 1, none⟩ = some (.int .i64 r) := cell_of_row wq q 1 _ 57 (0, 0) HQ.out
  have q2 : wq.cell? ⟨q, 2, none⟩ = some (.int .i64 x) := cell_of_row wq q 2 _ 57 (0, 0) HQ.out
  go_upto_if 33 with fail
  go_cut [5, 6] (fun u5 u6 wx => PAll W p (i + 1) u5 u6 wx ∧ wx.cell? ⟨q, 2, none⟩ = some (.int .i64 x))
  case first =>
    by_cases hkd : kd = 0
    · subst hkd
      have I := hide (in_any wq Ah k ch wq.heap.size hd x HST.out.sees.2.1 (by omega))
      by_cases hx : x ∈ hd
      · --{known
        rw [decide_eq_true hx] at I
        have P := hide (pile_putNo HST.out.pile hx r)
        clear hx
        go_wp2_with (first | (go_at_call 40; (with_reducible refine I.out.mono ?_); rintro e w' ⟨rfl, rfl⟩) | (go_at_call 41; (with_reducible refine P.out.mono ?_); rintro e w' ⟨rfl, rfl⟩))
        go_meet
        exact ⟨⟨F, ts, wt, hd, A, n, c, Ah, k, ch, rfl, rfl, by omega, by omega, HST.out⟩, q2⟩
      · rw [decide_eq_false hx] at I
        as_aux_lemma =>
        have P := hide (pile_put HST.out.pile hx r (by rw [HST.out.tlen]; omega))
        have HB2 := hide (show Beside2 W wq F q 0 r x wt hd A n c Ah k ch from ⟨HST.out.wrow, HST.out.hrow, HST.out.wsafe, HST.out.hsafe, HQ.out, HQF.out, HQW.out, HQH.out⟩)
        clear hx
        go_upto_region 16 with (first | (go_at_call 40; (with_reducible refine I.out.mono ?_); rintro e w' ⟨rfl, rfl⟩) | (go_at_call 41; (with_reducible refine P.out.mono ?_); rintro e w2 ⟨rfl, k2, ts2, p2, pm2⟩; have HP2 := hide p2; have HPM2 := hide pm2; have HS2 := hide (HB2.out.put k2); have r2 : w2.cell? ⟨q, 2, none⟩ = some (.int .i64 x) := cell_of_row w2 q 2 _ 57 (0, 0) (HB2.out.put k2).hq; clear k2 p2 pm2))
        generalize grownF F wq w2 = F2 at *
        clear q0 q1 q2 I P
        have HO2 := hide (HS2.out.hrow.alloc (.cells #[.int .i64 x] 3))
        have HN2 := hide (new_sees w2 #[.int .i64 x] 3)
        have HBW := hide HP2.out.below.size
        go_upto_region 17 with (at_builtin
                                refine wpList_append_sees _ rfl (.tmp 48) (.tmp 51) 30 rfl W.heap.size 3 i3 _ 8 Try.underlying30 HJ.out HY0.out HY1.out HY2.out (by rfl) _ k _ (by rfl) HO2.out (w2.heap.size + 1) _ 1 1 _ (by rfl) HN2.out (fun e => nomatch e) (by intro u hu; rcases List.mem_cons.1 hu with rfl | hu; exact rfl; exact (List.not_mem_nil hu).elim) (by unfold maxLen; omega) (by omega) (by have := HBW.out; simp; omega) ?_
                                intro v3 w3 hown3 hg3 hat3
                                obtain ⟨Ah3, ch3, rfl, _⟩ := Sees.of_own hown3
                                have k3 : Keeps (fun g => (Value.slice Ah k ch).ownBlock = some g) w2 w3 := ((Keeps.refl _ w2).alloc (.cells #[.int .i64 x] 3)).grown hg3 (fun g hg _ => hg)
                                have hP3 := HP2.out.keep k3 (fun g hg => (own_type3 HS2.out.hrow hg).1) (fun g hf hg => HS2.out.hsafe g hg hf)
                                have hS3 : Beside2 W w3 F2 q 0 r x wt (hd ++ [x]) A n c Ah3 (k + 1) ch3 := ⟨ownsRow_kept HS2.out.wrow fun g hg => k3.block g (own_type3 HS2.out.wrow hg).2.1 (HS2.out.apart g hg), by rw [List.map_append]; exact hown3, HS2.out.wsafe, fun g hg hf => (by rcases hat3 with hat3 | hat3; exact HS2.out.hsafe g (hat3.symm.trans hg) hf; rw [hat3] at hg; cases hg; have h9 := (HP2.out.low _ hf).2; simp at h9; omega), (k3.block q (lt_of_heap HS2.out.hq) HS2.out.qH).trans HS2.out.hq, HS2.out.qF, HS2.out.qW, fun e => (by rcases hat3 with hat3 | hat3; exact HS2.out.qH (hat3.symm.trans e); rw [hat3] at e; cases e; have h9 := lt_of_heap HS2.out.hq; simp at h9; omega)⟩
                                have HP3 := hide hP3
                                have HS3 := hide hS3
                                clear hown3 hg3 hat3 k3 hP3 hS3)
        have r0 : w3.cell? ⟨q, 0, none⟩ = some (.int .i64 0) := cell_of_row w3 q 0 _ 57 (0, 0) HS3.out.hq
        have r1 : w3.cell? ⟨q, 1, none⟩ = some (.int .i64 r) := cell_of_row w3 q 1 _ 57 (0, 0) HS3.out.hq
        have r3 : w3.cell? ⟨q, 2, none⟩ = some (.int .i64 x) := cell_of_row w3 q 2 _ 57 (0, 0) HS3.out.hq
        have HO3 := hide (HS3.out.wrow.alloc (.cells #[.int .i64 0, .int .i64 r, .int .i64 x] 57))
        have HN3 := hide (show Sees (w3.alloc (.cells #[.int .i64 0, .int .i64 r, .int .i64 x] 57)) (w3.heap.size + 1) (some ⟨w3.heap.size, 0, none⟩) (1 * 3) (oCells [(0, r, x)]) from new_sees w3 #[.int .i64 0, .int .i64 r, .int .i64 x] 57)
        have HBW3 := hide HP3.out.below.size
        clear r2 HO2 HN2
        go_wp2_with (at_builtin
                     refine wpList_append_seesN _ rfl (.tmp 53) (.tmp 55) 53 rfl W.heap.size 57 i0 _ 3 24 Try.underlying53 HI.out HZ0.out HZ1.out HZ2.out (by rfl) (by omega) _ n _ (by rfl) HO3.out (w3.heap.size + 1) _ 1 1 _ (by rfl) HN3.out (fun e => nomatch e) (oCells_one _) (by unfold maxLen; omega) (by omega) (by have := HBW3.out; simp; omega) ?_
                     intro v4 w4 hown4 hg4 hat4
                     obtain ⟨A4, c4, rfl, z1, z2, z3, z4, z5⟩ := Sees.of_ownN hown4
                     have k4 : Keeps (fun g => (Value.slice A n c).ownBlock = some g) w3 w4 := ((Keeps.refl _ w3).alloc (.cells #[.int .i64 0, .int .i64 r, .int .i64 x] 57)).grown hg4 (fun g hg _ => hg)
                     have HE := hide (show PAll W p (i + 1) (.slice A4 (n + 1) c4) (.slice Ah3 (k + 1) ch3) w4 ∧ w4.cell? ⟨q, 2, none⟩ = some (.int .i64 x) from ⟨⟨F2, ts2, wt ++ [(0, r, x)], hd ++ [x], A4, n + 1, c4, Ah3, k + 1, ch3, rfl, rfl, by omega, by omega,
                       ⟨HP3.out.keep k4 (fun g hg => (own_type3 HS3.out.wrow hg).1) (fun g hf hg => HS3.out.wsafe g hg hf), HPM2.out.trans (by rw [List.map_append]; exact HST.out.perm.append_right _), by rw [oCells_append]; exact hown4, ownsRow_kept HS3.out.hrow fun g hg => k4.block g (own_type3 HS3.out.hrow hg).2.1 (fun hw => HS3.out.apart g hw hg),
                        fun g hg hf => (by rcases hat4 with hat4 | hat4; exact HS3.out.wsafe g (hat4.symm.trans hg) hf; rw [hat4] at hg; cases hg; have h9 := (HP3.out.low _ hf).2; simp at h9; omega), HS3.out.hsafe⟩⟩,
                       (World.cell?_of_block (k4.block q (lt_of_heap HS3.out.hq) HS3.out.qW)).trans r3⟩)
                     clear hown4 hg4 hat4 z1 z2 z3 z4 z5 k4)
        go_meet
        exact HE.out
    · have hkd' : (kd == 0) = false := by simpa using hkd
      as_aux_lemma =>
      have L := hide (least_any wq A n c wq.heap.size wt HST.out.sees.1 (by omega))
      go_upto_region 19 with (go_at_call 42; (with_reducible refine L.out.mono ?_); rintro e w2 ⟨⟨u, rfl, hu⟩, q', rfl⟩; have HU := hide hu; clear hu)
      have hk2 := (Keeps.refl (fun _ => False) wq).drewN q'
      have HS2 := hide (HST.out.none_ hk2)
      have r2 : (wq.drewN q').cell? ⟨q, 2, none⟩ = some (.int .i64 x) := q2
      have HQ2 := hide (show (wq.drewN q').heap[q]? = some (Go.Obj.cells #[.int .i64 kd, .int .i64 r, .int .i64 x] 57 (0, 0)) from HQ.out)
      clear HST q0 q1 q2 L hk2
      generalize wq.drewN q' = w2 at *
      rcases HU.out with ⟨hn0, rfl⟩ | ⟨j, hj, rfl, hmin⟩
      · --{takeNo
        have hts : ts = [] := List.eq_nil_of_length_eq_zero (by rw [HS2.out.tlen]; exact hn0)
        have P := hide (show Calls Try.prog 43 #[.pointer (some ⟨p, 0, none⟩)] w2 fun e w' => e = .returned (.tuple #[.int .i64 0, .bool false]) ∧ w2 = w' from pile_takeNo (by have := HS2.out.pile; rw [hts] at this; exact this))
        have HE := hide (show PAll W p (i + 1) (.slice A n c) (.slice Ah k ch) w2 from ⟨F, ts, wt, hd, A, n, c, Ah, k, ch, rfl, rfl, by omega, by omega, HS2.out⟩)
        clear hts HU hn0
        go_wp2_with (go_at_call 43; (with_reducible refine P.out.mono ?_); rintro e w' ⟨rfl, rfl⟩)
        go_meet
        exact ⟨HE.out, r2⟩
      · have P := hide (pile_take HS2.out.pile (n := n - 1) (by rw [HS2.out.tlen]; omega) (by omega))
        go_upto_region 20 with (go_at_call 43; (with_reducible refine P.out.mono ?_); rintro e w3 ⟨t, ts3, rfl, hc, hle, p3, k3⟩; have HC := hide hc; have HLE := hide hle; have HP3 := hide p3; have HK3 := hide k3; clear hc hle p3 k3)
        obtain ⟨rfl, hp3⟩ := least_same HS2.out.perm HC.out HLE.out HS2.out.wlen hj hmin
        have HB3 := hide (Beside2.step (show Beside2 W w2 F q kd r x wt hd A n c Ah k ch from ⟨HS2.out.wrow, HS2.out.hrow, HS2.out.wsafe, HS2.out.hsafe, HQ2.out, HQF.out, HQW.out, HQH.out⟩) HK3.out)
        have r3 : w3.cell? ⟨q, 2, none⟩ = some (.int .i64 x) := cell_of_row w3 q 2 _ 57 (0, 0) HB3.out.hq
        obtain ⟨A', c', he, hnc, hcm, hsw, hnil, zz⟩ := Sees.of_ownN HB3.out.wrow
        cases he
        clear zz
        obtain ⟨b3, off3, rfl, _, g0, g1, g2⟩ := SeesO.at3 hsw hj
        obtain ⟨m, rfl⟩ : ∃ m, n = j + 1 + m := ⟨n - (j + 1), by omega⟩
        have hcm' : (c : Int) ≤ 9223372036854775807 := by unfold maxLen at hcm; omega
        have HA1 := hide (show Sees w3.drew w3.heap.size (some ⟨b3, off3, none⟩) (j * 3) (oCells (wt.take j)) from by rw [oCells_take]; exact Sees.upTo hsw (by omega))
        have hfrom := Sees.from_ hsw (k := (j + 1) * 3) (cap := (j + 1 + m) * 3 + 1) (by omega) (by omega)
        rw [if_neg (by omega), ← oCells_drop, show (j + 1 + m) * 3 - (j + 1) * 3 = m * 3 from by omega] at hfrom
        rw [show (some (⟨b3, off3, none⟩ : Addr)).map (fun x => x.add ((j + 1) * 3)) = some ⟨b3, off3 + (j + 1) * 3, none⟩ from congrArg some (add_lit0 b3 off3 _)] at hfrom
        have HFR := hide hfrom
        have ew : IntKind.i64.wrap ((j : Int) + 1) = (j : Int) + 1 := IntWalk.i64_in _ (by omega)
        have s0 : 0 ≤ (j : Int) + 1 := by omega
        have s1 : (j : Int) ≤ (j : Int) + 1 := by omega
        have s2 : j ≤ c := by omega
        have s3 : (j : Int) + 1 ≤ (j : Int) + 1 + (m : Int) := by omega
        have s4 : j + 1 ≤ c := by omega
        have s5 : (j : Int) + 1 ≤ (c : Int) := by omega
        have s6 : j + 1 + m ≤ c := by omega
        have HEND := hide (fun (w5 : World) (A5 : Option Addr) (c5 : Nat) (k5 : Keeps (fun _ => False) w3 w5) (hown5 : w5.ownsRow w3.heap.size 57 3 (.slice A5 (j + m) c5) (j + m) (oCells (wt.take j ++ wt.drop (j + 1)))) => show PAll W p (i + 1) (.slice A5 (j + m) c5) (.slice Ah k ch) w5 ∧ w5.cell? ⟨q, 2, none⟩ = some (.int .i64 x) from
          ⟨⟨F, ts3, _, hd, A5, j + m, c5, Ah, k, ch, rfl, rfl, by omega, by omega, ⟨HP3.out.none_ k5, hp3, ownsRow_less hown5 HP3.out.below.size, ownsRow_kept HB3.out.hrow (fun g hg => k5.block g (own_type3 HB3.out.hrow hg).2.1 id), fun g hg hf => by have h1 := (own_type3 hown5 hg).1; have h2 := (HP3.out.low g hf).2; omega, HB3.out.hsafe⟩⟩, (World.cell?_of_block (k5.block q (lt_of_heap HB3.out.hq) id)).trans r3⟩)
        have hjm : (j : Int) + 1 + (m : Int) ≤ 80 := by omega
        generalize (atO wt j).2 = t at *
        obtain ⟨t1, t2⟩ := t
        dsimp only at g1 g2 ⊢
        clear hsw hfrom hmin hp3 hnil P HU HC HLE HS2 HQ2 r2
        go_upto_region 23 with fail
        have HA2 := hide (show Sees w3 w3.heap.size (if c = j + 1 then some ⟨b3, off3, none⟩ else some ⟨b3, off3 + (j + 1) * 3, none⟩) (m * 3) (oCells (wt.drop (j + 1))) from by
          by_cases hcap : c = j + 1
          · have hm0 : m = 0 := by omega
            have h9 := HFR.out.1
            have hd0 : oCells (wt.drop (j + 1)) = [] := List.eq_nil_of_length_eq_zero (by omega)
            rw [hd0, hm0]
            exact Sees.nil_ _ _ _
          · rw [if_neg hcap]
            exact HFR.out)
        have HNX := hide (show (if c = j + 1 then some ⟨b3, off3, none⟩ else some ⟨b3, off3 + (j + 1) * 3, none⟩) = (none : Option Addr) → c - (j + 1) = 0 from fun e => by split at e <;> cases e)
        clear HFR
        go_region_law ((first
          | (refine step_append_seesN _ rfl (.const (.slice none 0 0)) (.tmp 91) 53 rfl w3.heap.size 57 i0 _ 3 24 Try.underlying53 HI.out HZ0.out HZ1.out HZ2.out (by rfl) (by omega) (.slice none 0 0) 0 [] (by rfl) (World.ownsRow_nil _ _ _ _) w3.heap.size (some ⟨b3, off3, none⟩) j c _ (by rfl) HA1.out (fun e => by cases e) (oCells_one _) (by unfold maxLen; omega) (by omega) (Nat.le_refl _) ?_; intro v4 w4 hown4 hg4 hat4; have k4 : Keeps (fun _ => False) w3 w4 := ((Keeps.refl _ w3).drew).grown hg4 (fun g hg => by cases hg); have HO4 := hide hown4; have HK4 := hide k4; have HA4 := hide (Keeps.sees HA2.out (Nat.le_refl _) k4); clear hown4 hg4 hat4 k4)
          | (refine step_append_seesN _ rfl (.tmp 92) (.tmp 96) 53 rfl w3.heap.size 57 i0 _ 3 24 Try.underlying53 HI.out HZ0.out HZ1.out HZ2.out (by rfl) (by omega) v4 (0 + j) _ (by rfl) HO4.out w3.heap.size (if c = j + 1 then some ⟨b3, off3, none⟩ else some ⟨b3, off3 + (j + 1) * 3, none⟩) m (c - (j + 1)) _ (by rfl) HA4.out HNX.out (oCells_one _) (by unfold maxLen; omega) (by omega) HK4.out.size ?_; intro v5 w5 hown5 hg5 hat5; have k5 : Keeps (fun _ => False) w3 w5 := HK4.out.grown hg5 (fun g hg hlt => by have := ownBlock_ge HO4.out g hg; omega); rw [Nat.zero_add] at hown5; obtain ⟨A5, c5, rfl, z1, z2, z3, z4, z5⟩ := Sees.of_ownN hown5; have HE := hide (HEND.out w5 A5 c5 k5 (by rw [oCells_append]; exact hown5)); clear hown5 hg5 hat5 k5 z1 z2 z3 z4 z5)))
        all_goals go_wp2
        all_goals go_meet
        all_goals exact HE.out
  case rest =>
  as_aux_lemma =>
  clear HST HQ HQF HQW HQH q0 q1 q2 hni hki
  obtain ⟨⟨F2, ts2, wt2, hd2, A2, n2, c2, Ah2, k2, ch2, rfl, rfl, hn2, hk2, hst⟩, q2⟩ := hcut
  have HL := hide (fun m : Nat => pile_len ((hst.none_ ((Keeps.refl (fun _ => False) wc).drewN m)).pile))
  rw [hst.tlen] at HL
  have HH := hide (fun m : Nat => pile_had ((hst.none_ ((Keeps.refl (fun _ => False) wc).drewN m)).pile) x)
  have HN := hide (fun m : Nat => in_any (wc.drewN m) Ah2 k2 ch2 wc.heap.size hd2 x (hst.sees.2.1.drewN m) (by omega))
  have HEND := hide (fun m : Nat => show PAll W p (i + 1) (.slice A2 n2 c2) (.slice Ah2 k2 ch2) (wc.drewN m) from ⟨F2, ts2, wt2, hd2, A2, n2, c2, Ah2, k2, ch2, rfl, rfl, hn2, hk2, hst.none_ ((Keeps.refl _ wc).drewN m)⟩)
  clear hst
  generalize decide (x ∈ hd2) = d at *
  go_upto_region 24 with fail
  go_big_quiet ((first
    | (go_at_call 44; exact quiet_l (HL.out _))
    | (go_at_call 45; exact quiet_l (HH.out _))
    | (go_at_call 40; exact quiet_l (HN.out _))))
  go_wp2
  go_roundw
  case rel => first | exact ⟨i + 1, by go_num, by omega, by omega, HEND.out _⟩ | ((repeat apply Exists.intro); exact ⟨⟨i + 1, by go_num, by omega, by omega, HEND.out _⟩, rfl⟩)
  case measure => simp [intOf]; omega
end Go.Proofs.Ytppolhpigclbpaa
