/- The walk of FrameAll. -/
import Derived.Test.YtppolhpigclbpaaFrameQ
import Derived.StillTailTactics
import Derived.Deep.RegionHeld3
set_option linter.unusedVariables false
namespace Go.Proofs.Ytppolhpigclbpaa
open Go.RowKit

theorem fill_set {ar : List V} {lc i : Nat} {v : V} (hv : ar[i]? = some v) (hi : i < lc) : (ar.take i ++ List.replicate (lc - i) ((false, 0) : V)).set i v = ar.take (i + 1) ++ List.replicate (lc - (i + 1)) (false, 0) := by
  have hl := (List.getElem?_eq_some_iff.1 hv).1
  have ht : (ar.take i).length = i := by rw [List.length_take]; omega
  rw [List.set_append, if_neg (by omega), ht, Nat.sub_self, take_snoc ar i v hv, List.append_assoc, show lc - i = (lc - (i + 1)) + 1 from by omega, List.replicate_succ, List.set_cons_zero]
  rfl
theorem RowAt.made {w0 w2 : World} {F : Nat → Prop} (lc : Nat) (hF : ¬ F w2.heap.size) (hb : w0.heap.size ≤ w2.heap.size) (hm : lc ≤ 16) : RowAt w0 (w2.alloc (.cells (vCells (List.replicate lc (false, 0))).toArray 39)) F w2.heap.size lc (List.replicate lc (false, 0)) := by
  refine ⟨by simp, ⟨by rw [vCells_length]; simp, .inr ⟨w2.heap.size, lc, _, rfl, hb, heap_alloc_new w2 _, Nat.le_refl _, by unfold maxLen; omega, by simp [vCells_length], ?_⟩⟩, hF, by simp⟩
  rw [List.take_of_length_le]
  rw [vCells_length, List.length_replicate]
  exact Nat.le_refl _
theorem StAt.other {w w' : World} {F : Nat → Prop} {gl : Nat} {A : Option Addr} {c : Nat} {st : List V} (h : StAt w F gl A c st) (hk : Keeps (fun k => k = gl) w w') : StAt w' F gl A c st :=
  ⟨(Sees.off h.sees (Nat.le_refl _) hk fun b o e => (h.off b o e).2).more hk.size, h.nil_, h.cap, fun b o e => ⟨(h.off b o e).1.more hk.size, (h.off b o e).2⟩⟩
set_option maxHeartbeats 16000000 in
set_option maxRecDepth 100000 in
theorem frameAll_walk (a0 a1 a2 : Int) (a3 : Option Addr) (len3 cap3 : Nat) (z3 : List V) (a4 : Option Addr) (len4 cap4 : Nat) (z4 : List OpF) (W : World) (h0 : (Lit.int .i64 a0).wf = true) (h1 : (Lit.int .i64 a1).wf = true) (h2 : (Lit.int .i64 a2).wf = true) (h3 : ValsIn W a3 len3 cap3 z3) (h4 : OpsF W a4 len4 cap4 z4) :
    Calls Try.prog 9 #[.int .i64 a0, .int .i64 a1, .int .i64 a2, .slice a3 len3 cap3, .slice a4 len4 cap4] W fun e w' => e = .returned (.bool true) ∧ Below W.heap.size W w' := by
  have BG := hide (begun15_any W)
  have H3 := hide h3
  have H4 := hide h4
  have b0 := in64_of h0
  have b1 := in64_of h1
  have b2 := in64_of h2
  have hc3 := h3.le
  have hc4 := h4.le.1
  have hm3 : (cap3 : Int) ≤ 9223372036854775807 := by have := h3.most; unfold maxLen at this; omega
  have hm4 : (cap4 : Int) ≤ 9223372036854775807 := by have := h4.le.2; unfold maxLen at this; omega
  obtain ⟨b01, b02⟩ := b0
  obtain ⟨b11, b12⟩ := b1
  obtain ⟨b21, b22⟩ := b2
  clear h0 h1 h2 h3 h4
  go_enter Try.func9, Try.ntmps9
  go_upto_if 35 with (go_at_call 22; (with_reducible refine BG.out.mono ?_); rintro e w1 ⟨rfl, b1⟩; have B1 := hide b1; clear b1)
  go_cut [3] from 33 to 37 (fun x wx => ∃ n : Nat, x = .slice a3 n cap3 ∧ wx = w1 ∧ n ≤ len3 ∧ (n : Int) ≤ 20)
  case first =>
    as_aux_lemma =>
    by_cases h20 : (20 : Int) < (len3 : Int)
    · go_wp2
      go_meet
      exact ⟨20, rfl, rfl, by omega, by omega⟩
    · go_wp2
      go_meet
      exact ⟨len3, rfl, rfl, by omega, by omega⟩
  case rest =>
  obtain ⟨n3, rfl, hw, hl3, hs3⟩ := hcut
  obtain ⟨w1', rfl⟩ : ∃ x : World, x = wc := ⟨_, rfl⟩
  subst hw
  have X3 := hide (SeesV.take H3.out.sees hl3)
  have I3 := hide (fun v (hv : v ∈ z3.take n3) => H3.out.ints v (List.mem_of_mem_take hv))
  have N3 := hide H3.out.none_
  have O4 := hide (fun (i : Nat) (h : i < len4) => show ∃ b off o, a4 = some ⟨b, off, none⟩ ∧ z4[i]? = some o ∧ o.ok W ∧ ∀ w : World, Below W.heap.size W w → w.cell? ⟨b, off + i * 3, none⟩ = some (.int .i64 o.kind) ∧ w.cell? ⟨b, off + i * 3 + 1, none⟩ = some (.int .i64 o.i) ∧ w.cell? ⟨b, off + i * 3 + 2, none⟩ = some (.slice o.a o.len o.cap) from by
    obtain ⟨b, off, hA, hb, hc⟩ := H4.out.cells (by omega)
    have ho : z4[i]? = some (z4[i]'(by rw [H4.out.size]; exact h)) := List.getElem?_eq_getElem _
    refine ⟨b, off, _, hA, ho, H4.out.ok _ (List.mem_of_getElem? ho), fun w hw => ?_⟩
    obtain ⟨c0, c1, c2⟩ := hc i _ ho
    exact ⟨(hw.cell (p := ⟨b, off + i * 3, none⟩) hb).trans c0, (hw.cell (p := ⟨b, off + i * 3 + 1, none⟩) hb).trans c1, (hw.cell (p := ⟨b, off + i * 3 + 2, none⟩) hb).trans c2⟩)
  generalize z3.take n3 = ar at *
  clear H3 H4 BG
  go_wp2
  go_loop [12] (fun u => ∃ i : Nat, u = .int .i64 (i : Int) ∧ i ≤ len4) (fun u => len4 - (intOf u).toNat)
  case atStart => exact ⟨0, rfl, by omega⟩
  case round =>
  obtain ⟨i, rfl, hi⟩ := hrel
  by_cases hlt : i < len4
  ·
    as_aux_lemma =>
    obtain ⟨b, off, o, rfl, ho, hok, hcells⟩ := O4.out i hlt
    obtain ⟨c0, c1, c2⟩ := hcells _ B1.out
    have hov := hok.vs
    have G := hide (good_all w1' o.a o.len o.cap W.heap.size o.vs (hov.sees.below B1.out) (by have := hov.le; have := hov.most; unfold maxLen at this; omega))
    have hlt' : (i : Int) < (len4 : Int) := by omega
    clear ho hok hcells hov
    cases hg : goodB o.vs
    · rw [hg] at G
      clear hg
      go_wp2_with (go_at_call 23; (with_reducible refine G.out.mono ?_); rintro e w' ⟨rfl, rfl⟩)
      go_ret
      exact ⟨rfl, B1.out⟩
    · rw [hg] at G
      clear hg
      go_wp2_with (go_at_call 23; (with_reducible refine G.out.mono ?_); rintro e w' ⟨rfl, rfl⟩)
      go_round
      case rel => exact ⟨i + 1, by go_num, by omega⟩
      case measure => simp [intOf]; omega
  obtain rfl : len4 = i := by omega
  have G3 := hide (good_all w1' a3 n3 cap3 W.heap.size _ (X3.out.below B1.out) (by omega))
  cases hg3 : goodB ar
  ·
    as_aux_lemma =>
    rw [hg3] at G3
    clear hg3
    go_wp2_with (go_at_call 23; (with_reducible refine G3.out.mono ?_); rintro e w' ⟨rfl, rfl⟩)
    go_ret
    exact ⟨rfl, B1.out⟩
  rw [hg3] at G3
  clear hg3
  go_upto_region 13 with (go_at_call 23; (with_reducible refine G3.out.mono ?_); rintro e w' ⟨rfl, rfl⟩)
  by_cases m1 : 0 ≤ a1
  rotate_left
  ·
    as_aux_lemma =>
    have N := hide (new_no w1' a0 a1 a2 a3 n3 cap3 (by omega))
    have d1 : decide (0 ≤ a1) = false := decide_eq_false m1
    go_wp2_with (go_at_call 24; (with_reducible refine N.out.mono ?_); rintro e w' ⟨rfl, rfl⟩)
    go_ret
    exact ⟨rfl, B1.out⟩
  by_cases m2 : a1 ≤ 16
  rotate_left
  ·
    as_aux_lemma =>
    have N := hide (new_no w1' a0 a1 a2 a3 n3 cap3 (by omega))
    have d1 : decide (0 ≤ a1) = true := decide_eq_true m1
    have d2 : decide (a1 ≤ 16) = false := decide_eq_false m2
    go_wp2_with (go_at_call 24; (with_reducible refine N.out.mono ?_); rintro e w' ⟨rfl, rfl⟩)
    go_ret
    exact ⟨rfl, B1.out⟩
  by_cases m3 : 0 ≤ a2
  rotate_left
  ·
    as_aux_lemma =>
    have N := hide (new_no w1' a0 a1 a2 a3 n3 cap3 (by omega))
    have d1 : decide (0 ≤ a1) = true := decide_eq_true m1
    have d2 : decide (a1 ≤ 16) = true := decide_eq_true m2
    have d3 : decide (0 ≤ a2) = false := decide_eq_false m3
    go_wp2_with (go_at_call 24; (with_reducible refine N.out.mono ?_); rintro e w' ⟨rfl, rfl⟩)
    go_ret
    exact ⟨rfl, B1.out⟩
  by_cases m4 : a2 ≤ 16
  rotate_left
  ·
    as_aux_lemma =>
    have N := hide (new_no w1' a0 a1 a2 a3 n3 cap3 (by omega))
    have d1 : decide (0 ≤ a1) = true := decide_eq_true m1
    have d2 : decide (a1 ≤ 16) = true := decide_eq_true m2
    have d3 : decide (0 ≤ a2) = true := decide_eq_true m3
    have d4 : decide (a2 ≤ 16) = false := decide_eq_false m4
    go_wp2_with (go_at_call 24; (with_reducible refine N.out.mono ?_); rintro e w' ⟨rfl, rfl⟩)
    go_ret
    exact ⟨rfl, B1.out⟩
  by_cases m5 : (n3 : Int) ≤ a1
  rotate_left
  ·
    as_aux_lemma =>
    have N := hide (new_no w1' a0 a1 a2 a3 n3 cap3 (by omega))
    have d1 : decide (0 ≤ a1) = true := decide_eq_true m1
    have d2 : decide (a1 ≤ 16) = true := decide_eq_true m2
    have d3 : decide (0 ≤ a2) = true := decide_eq_true m3
    have d4 : decide (a2 ≤ 16) = true := decide_eq_true m4
    have d5 : decide ((n3 : Int) ≤ a1) = false := decide_eq_false m5
    go_wp2_with (go_at_call 24; (with_reducible refine N.out.mono ?_); rintro e w' ⟨rfl, rfl⟩)
    go_ret
    exact ⟨rfl, B1.out⟩
  obtain ⟨lc, rfl⟩ : ∃ lc : Nat, a1 = (lc : Int) := ⟨a1.toNat, by omega⟩
  obtain ⟨room, rfl⟩ : ∃ room : Nat, a2 = (room : Int) := ⟨a2.toNat, by omega⟩
  have N := hide (Fr.new B1.out a0 lc room B1.out.size (X3.out.below B1.out) (c := cap3) (by omega) (by omega) (by omega))
  have d1 : decide (0 ≤ (lc : Int)) = true := decide_eq_true m1
  have d2 : decide ((lc : Int) ≤ 16) = true := decide_eq_true m2
  have d3 : decide (0 ≤ (room : Int)) = true := decide_eq_true m3
  have d4 : decide ((room : Int) ≤ 16) = true := decide_eq_true m4
  have d5 : decide ((n3 : Int) ≤ (lc : Int)) = true := decide_eq_true m5
  go_upto_region 19 with (go_at_call 24; (with_reducible refine N.out.mono ?_); rintro e w2 ⟨rfl, f2, k2⟩; have F2 := hide f2; have K2 := hide k2; clear f2 k2)
  have hlc : lc ≤ 16 := by omega
  have hro : room ≤ 16 := by omega
  have hn5 : n3 ≤ lc := by omega
  generalize w1'.heap.size + 1 = p at F2 ⊢
  obtain ⟨F, hF⟩ : ∃ F : Nat → Prop, F = fun k => w1'.heap.size ≤ k ∧ k < w2.heap.size := ⟨_, rfl⟩
  rw [← hF] at F2
  have hr2 := RowAt.made (w0 := W) (w2 := w2) (F := F) lc (by rw [hF]; omega) F2.out.below.size hlc
  have hf2 := F2.out.none_ ((Keeps.refl (fun _ => False) w2).alloc (.cells (vCells (List.replicate lc (false, 0))).toArray 39))
  have hgl : W.heap.size ≤ w2.heap.size := F2.out.below.size
  have hgF : ¬ F w2.heap.size := by rw [hF]; omega
  have HR2 := hide hr2
  have HF2 := hide hf2
  have HGF := hide hgF
  have XL3 := hide X3.out.len
  obtain ⟨i0, hi0, hz0, hz1, hz2⟩ := info_parts Try.info39
  have hmk : ∀ W : World, (Instr.makeSlice 29 (.int .i64 (lc : Int)) (.int .i64 (lc : Int))).run Try.prog W = .ok (.slice (some ⟨W.heap.size, 0, none⟩) lc lc) (W.alloc (.cells (vCells (List.replicate lc (false, 0))).toArray 39)) := by
    intro W
    have := run_make (P := Try.prog) W 29 39 i0 _ Try.underlying29 hi0 hz0 .i64 .i64 lc lc (by omega) (by omega) (by rw [hz2]; omega) (by omega)
    rw [hz1] at this
    simp only [Int.toNat_natCast] at this
    rw [this]
    show Result.ok _ (W.alloc (.cells (madeCells #[.bool false, .int .i32 0] (lc * 2)) 39)) = _
    rw [zeroV]
  have HI := hide hi0
  have HZ0 := hide hz0
  have HZ1 := hide hz1
  have HZ2 := hide hz2
  clear hr2 hf2 hi0 hz0 hz1 hz2 hF hgF F2 K2 N G3 hi hlt
  go_upto_block 2 with fail
  generalize hw3 : w2.alloc (Go.Obj.cells (vCells (List.replicate lc (false, 0))).toArray 39) = w3 at *
  generalize w2.heap.size = gl at *
  clear hw3 hmk d1 d2 d3 d4 d5
  go_wp2
  go_loopw [16] (fun u16 wr => ∃ i : Nat, u16 = .int .i64 (i : Int) ∧ i ≤ n3 ∧ RowAt W wr F gl lc (ar.take i ++ List.replicate (lc - i) (false, 0)) ∧ Keeps (fun k => k = gl) w3 wr) (fun u16 _ => n3 - (intOf u16).toNat)
  case atStart => exact ⟨0, rfl, by omega, HR2.out, Keeps.refl _ _⟩
  case round =>
  obtain ⟨i, rfl, hi, hrow, hkr⟩ := hrel
  have hfr := HF2.out.keepsG hkr (fun k e => by have e' : k = gl := e; omega) (fun k hf e => by have e' : k = gl := e; subst e'; exact HGF.out hf)
  by_cases hlt : i < n3
  ·
    as_aux_lemma =>
    obtain ⟨b, off, v, rfl, hb, hv, c0, c1⟩ := SeesV.at2 (X3.out.below hfr.below) hlt
    have hlt' : (i : Int) < (n3 : Int) := by omega
    have hilc : (i : Int) < (lc : Int) := by omega
    obtain ⟨⟨u1, hu1⟩, ⟨u2, hu2⟩, hz, hrow2, hk2⟩ := hrow.set (i := i) (by omega) v
    rw [fill_set hv (by omega)] at hrow2
    have HRW := hide hrow2
    have HKW := hide (hkr.trans hk2)
    clear hrow hkr hfr hv hrow2 hk2
    go_wp2
    go_roundw
    case rel => exact ⟨i + 1, by go_num, by omega, HRW.out, HKW.out⟩
    case measure => simp [intOf]; omega
  obtain rfl : n3 = i := by omega
  rw [List.take_of_length_le (by rw [XL3.out]; exact Nat.le_refl _)] at hrow
  have hall : AllRel W p gl lc room a0 (.slice none 0 0) (.int .i64 0) wr := by
    refine ⟨F, 0, _, [], none, 0, rfl, rfl, by omega, hfr, ?_, hrow, StAt.nil _ _ _⟩
    intro v hv
    rw [List.append_nil] at hv
    rcases List.mem_append.1 hv with h | h
    · exact I3.out v h
    · rw [List.eq_of_mem_replicate h]; unfold inI32; omega
  have HALL := hide hall
  clear hrow hkr hfr hall HF2 HR2 HGF
  clear hi hlt m1 m3 m5
  go_upto_block 4 with fail
  go_wp2
  go_loopw [17, 18, 19] (fun u17 u18 u19 wx => ∃ j : Nat, u19 = .int .i64 (j : Int) ∧ j ≤ len4 ∧ AllRel W p gl lc room a0 u17 u18 wx) (fun _ _ u19 _ => len4 - (intOf u19).toNat)
  case atStart => exact ⟨0, rfl, by omega, HALL.out⟩
  case round =>
  clear HALL
  obtain ⟨j, rfl, hj, F, pc, ls, st, A, c, rfl, rfl, hpc, hfr, hints, hrow, hst⟩ := hrel
  by_cases hlt : j < len4
  rotate_left
  ·
    as_aux_lemma =>
    obtain rfl : len4 = j := by omega
    have BE := hide hfr.below
    clear hfr hints hrow hst
    go_wp2
    go_ret
    exact ⟨rfl, BE.out⟩
  by_cases h50 : (j : Int) < 50
  rotate_left
  ·
    as_aux_lemma =>
    have hlt' : (j : Int) < (len4 : Int) := by omega
    have e1 : decide ((j : Int) < 50) = false := decide_eq_false h50
    have BE := hide hfr.below
    clear hfr hints hrow hst
    go_wp2
    go_ret
    exact ⟨rfl, BE.out⟩
  have hlt' : (j : Int) < (len4 : Int) := by omega
  have e1 : decide ((j : Int) < 50) = true := decide_eq_true h50
  obtain ⟨b, off, ⟨kd, oi, oa, ol, oc, ov⟩, rfl, ho, ⟨hkd, hoi, hov⟩, hcells⟩ := O4.out j hlt
  obtain ⟨c0, c1, c2⟩ := hcells _ hfr.below
  dsimp only at c0 c1 c2 hkd hoi hov
  have hk1 := (Keeps.refl (fun _ => False) wr).alloc (.cells #[.int .i64 kd, .int .i64 oi, .slice oa ol oc] 45)
  have hq := heap_alloc_new wr (Go.Obj.cells #[.int .i64 kd, .int .i64 oi, .slice oa ol oc] 45)
  have hqF : Safe F (wr.alloc (.cells #[.int .i64 kd, .int .i64 oi, .slice oa ol oc] 45)) wr.heap.size := ⟨fun hf => by have := (hfr.fr.low _ hf).2; omega, by simp⟩
  have hqg : wr.heap.size ≠ gl := by have := hrow.safe.2; omega
  have HFR := hide (hfr.none_ hk1)
  have HROW := hide (hrow.none_ hk1)
  have HST := hide (hst.none_ hk1)
  have HINTS := hide hints
  have HPC := hide hpc
  have HQ := hide hq
  have HQF := hide hqF
  have HKD := hide hkd
  have HOI := hide hoi
  have HOV := hide hov
  clear hpc hfr hints hrow hst hk1 hq hqF ho hkd hoi hov hcells
  go_upto_block 6 with fail
  generalize wr.alloc (Go.Obj.cells #[.int .i64 kd, .int .i64 oi, .slice oa ol oc] 45) = wq at *
  generalize wr.heap.size = q at *
  clear c0 c1 c2
  go_cut [17, 18] (fun u17 u18 wx => AllRel W p gl lc room a0 u17 u18 wx)
  case first =>
    obtain ⟨hk1, hk2⟩ := HKD.out
    obtain ⟨hi1, hi2⟩ := HOI.out
    have q0 : wq.cell? ⟨q, 0, none⟩ = some (.int .i64 kd) := cell_of_row wq q 0 _ 45 (0, 0) HQ.out
    have q1 : wq.cell? ⟨q, 1, none⟩ = some (.int .i64 oi) := cell_of_row wq q 1 _ 45 (0, 0) HQ.out
    have q2 : wq.cell? ⟨q, 2, none⟩ = some (.slice oa ol oc) := cell_of_row wq q 2 _ 45 (0, 0) HQ.out
    by_cases t0 : kd = 0
    · subst t0
      as_aux_lemma =>
      have hoc : (oc : Int) ≤ 9223372036854775807 := by have := HOV.out.most; unfold maxLen at this; omega
      have hol := HOV.out.le
      go_upto_region 34 with fail
      go_cut [21] from 124 to 130 (fun x wx => ∃ n : Nat, x = .slice oa n oc ∧ wx = wq ∧ n ≤ ol ∧ (n : Int) ≤ 20)
      case first =>
        by_cases h20 : (20 : Int) < (ol : Int)
        · go_wp2
          go_meet
          exact ⟨20, rfl, rfl, by omega, by omega⟩
        · go_wp2
          go_meet
          exact ⟨ol, rfl, rfl, by omega, by omega⟩
      case rest =>
      obtain ⟨n, rfl, hw, hnl, hn20⟩ := hcut
      subst hw
      have XW := hide (SeesV.take HOV.out.sees hnl)
      have HVI := hide (fun v (hv : v ∈ ov.take n) => HOV.out.ints v (List.mem_of_mem_take hv))
      generalize ov.take n = vs at *
      have hvl := XW.out.len
      have hro1 := HFR.out.fr.stk
      have hs3 : (st.length : Int) ≤ 16 := by omega
      have HVL := hide hvl
      clear hvl
      by_cases hok : st.length + n ≤ room
      · have P := hide (HFR.out.push (XW.out.below HFR.out.below) HOV.out.none_ hok)
        have d1 : decide ((st.length : Int) + (n : Int) ≤ (room : Int)) = true := decide_eq_true (by omega)
        obtain ⟨m, hm⟩ : ∃ m, (st ++ vs).length = m := ⟨_, rfl⟩
        have HM := hide hm
        have hm2 : 0 + st.length + n = m := by rw [← hm, List.length_append, HVL.out]; omega
        have HM2 := hide hm2
        clear hm hm2
        generalize hsl : st.length = sl at *
        have HSL := hide hsl
        clear hsl hok
        go_upto_region 39 with (go_at_call 25; (with_reducible refine P.out.mono ?_); rintro e w2 ⟨rfl, f2, k2⟩; have HF2 := hide f2; have HK2 := hide k2; clear f2 k2)
        have hrow2 := HROW.out.step HK2.out (fun b hb => hb.grown HK2.out.size)
        have hst2 := HST.out.step HK2.out (fun b hb => hb.grown HK2.out.size)
        generalize grownF F wc w2 = F2 at *
        have hs2 := hst2.sees
        rw [HSL.out] at hs2
        have HS2 := hide hs2
        have HN2 := hide hst2.nil_
        have HROW2 := hide hrow2
        clear hrow2 hst2 hs2 P
        go_wp2_with (first
          | (at_builtin
             refine wpList_append_seesN _ rfl (.const (.slice none 0 0)) (.tmp 144) 29 rfl w2.heap.size 39 i0 _ 2 8 Try.underlying29 HI.out HZ0.out HZ1.out HZ2.out (by rfl) (by omega) (.slice none 0 0) 0 [] (by rfl) (World.ownsRow_nil _ _ _ _) w2.heap.size A sl c _ (by rfl) HS2.out HN2.out (vCells_one _) (by unfold maxLen; omega) (by omega) (Nat.le_refl _) ?_
             intro v3 w3 hown3 hg3 hat3
             have hk3 : Keeps (fun _ => False) w2 w3 := (Keeps.refl _ w2).grown hg3 fun g hg => by cases hg
             have HO3 := hide hown3
             have HK3 := hide hk3
             have XW3 := hide (XW.out.below (HF2.out.none_ hk3).below)
             clear hown3 hg3 hat3 hk3)
          | (at_builtin
             refine wpList_append_seesN _ rfl (.tmp 145) (.tmp 146) 29 rfl w2.heap.size 39 i0 _ 2 8 Try.underlying29 HI.out HZ0.out HZ1.out HZ2.out (by rfl) (by omega) v3 (0 + sl) _ (by rfl) HO3.out W.heap.size oa n oc _ (by rfl) XW3.out HOV.out.none_ (vCells_one _) (by unfold maxLen; omega) (by omega) HK3.out.size ?_
             intro v4 w4 hown4 hg4 hat4
             have hk4 : Keeps (fun _ => False) w2 w4 := HK3.out.grown hg4 fun g hg hlt => by have := ownBlock_ge HO3.out g hg; omega
             rw [HM2.out, List.nil_append, ← vCells_append] at hown4
             obtain ⟨A4, c4, he4, s4⟩ := StAt.of_own hown4 (fun k hf => (HF2.out.fr.low k hf).2) HROW2.out.safe.2
             rw [HM.out] at he4
             subst he4
             have HE := hide (show AllRel W p gl lc room a0 (.slice A4 m c4) (.int .i64 pc) w4 from ⟨F2, pc, ls, st ++ vs, A4, c4, by rw [HM.out], rfl, HPC.out, HF2.out.none_ hk4, fun v hv => (by
               rw [← List.append_assoc] at hv
               exact (List.mem_append.1 hv).elim (HINTS.out v) (HVI.out v)), HROW2.out.none_ hk4, s4⟩)
             clear hown4 hg4 hat4 hk4 s4))
        go_meet
        exact HE.out
      · have P := hide (HFR.out.pushNo oa n oc (by omega))
        have d1 : decide ((st.length : Int) + (n : Int) ≤ (room : Int)) = false := decide_eq_false (by omega)
        go_wp2_with (go_at_call 25; (with_reducible refine P.out.mono ?_); rintro e w2 ⟨rfl, f2, k2⟩; have HE := hide (show AllRel W p gl lc room a0 (.slice A st.length c) (.int .i64 pc) w2 from ⟨F, pc, ls, st, A, c, rfl, rfl, HPC.out, f2, HINTS.out, HROW.out.none_ k2, HST.out.none_ k2⟩); clear f2 k2)
        go_meet
        exact HE.out
    have e0 : (kd == 0) = false := by simpa using t0
    by_cases t1 : kd = 1
    · subst t1
      as_aux_lemma =>
      have hcm := HST.out.cap
      obtain ⟨hcm1, hcm2⟩ := hcm
      have hcm3 : (c : Int) ≤ 9223372036854775807 := by unfold maxLen at hcm2; omega
      have hst16 : st.length ≤ 16 := Nat.le_trans HFR.out.fr.stk (by omega)
      by_cases hin : 0 ≤ oi ∧ oi ≤ (st.length : Int)
      · obtain ⟨n, rfl⟩ : ∃ n : Nat, oi = (n : Int) := ⟨oi.toNat, by omega⟩
        obtain ⟨k, hk⟩ : ∃ k, st.length = k + n := ⟨st.length - n, by omega⟩
        have P := hide (HFR.out.pop hk)
        have hkl : (st.take k).length = k := by rw [List.length_take]; omega
        have HKL := hide hkl
        generalize hsl : st.length = sl at *
        subst hk
        have HK := hide hsl
        clear hsl
        have hn0 : 0 ≤ (n : Int) := by omega
        have d1 : decide (0 ≤ (n : Int)) = true := decide_eq_true hn0
        have d2 : decide ((n : Int) ≤ (k : Int) + (n : Int)) = true := decide_eq_true (by omega)
        clear hkl hin
        go_upto_region 46 with (go_at_call 30; (with_reducible refine P.out.mono ?_); rintro e w2 ⟨v2, rfl, o2, f2, k2⟩; have q1' : w2.cell? ⟨q, 1, none⟩ = some (.int .i64 (n : Int)) := cell_of_row w2 q 1 _ 45 (0, 0) (HQF.out.kept k2 HQ.out); obtain ⟨Av, cv, rfl, z1, z2, hsv, z3, z4⟩ := Sees.of_ownN o2; have HSV := hide hsv; have HF2 := hide f2; have HK2 := hide k2; clear f2 k2 o2 z1 z2 hsv z3 z4)
        have hrow2 := HROW.out.step HK2.out (fun b hb => hb.more HK2.out.size)
        have hst2 := HST.out.step HK2.out (fun b hb => hb.more HK2.out.size)
        have hs2 := hst2.sees
        rw [HK.out] at hs2
        have hfrom := Sees.from_ hs2 (k := k * 2) (cap := (k + n) * 2 + 1) (by omega) (by omega)
        rw [if_neg (by omega), ← vCells_drop, show (k + n) * 2 - k * 2 = n * 2 from by omega] at hfrom
        have HEND := hide (fun nq : Nat => show AllRel W p gl lc room a0 (.slice A k c) (.int .i64 pc) (w2.drewN nq) from ⟨F, pc, ls, st.take k, A, c, by rw [HKL.out], rfl, HPC.out, HF2.out.none_ ((Keeps.refl _ _).drewN nq), fun v hv => HINTS.out v ((List.mem_append.1 hv).elim (fun h => List.mem_append.2 (.inl h)) fun h => List.mem_append.2 (.inr (List.mem_of_mem_take h))), hrow2.none_ ((Keeps.refl _ _).drewN nq), (hst2.take (by rw [HK.out]; omega)).none_ ((Keeps.refl _ _).drewN nq)⟩)
        have HFROM := hide hfrom
        have HNIL := hide hst2.nil_
        clear hrow2 hst2 hs2 hfrom P
        by_cases hcap : c = k
        · have hn0' : n = 0 := by omega
          subst hn0'
          subst hcap
          have E := hide (eq_yes w2 Av A 0 cv 0 w2.heap.size w2.heap.size (st.drop c) HSV.out (by
            show Sees _ _ _ (0 * 2) _
            rw [List.drop_of_length_le (by rw [HK.out]; omega)]
            exact Sees.nil_ _ _ _) (by omega))
          go_wp2_with (go_at_call 31; (with_reducible refine E.out.mono ?_); rintro e w3 ⟨rfl, nq, rfl⟩; have q1'' : (w2.drewN nq).cell? ⟨q, 1, none⟩ = some (.int .i64 ((0 : Nat) : Int)) := q1')
          go_meet
          exact HEND.out _
        · have hcap' : ¬ ((c : Int) = (k : Int)) := by omega
          have E := hide (eq_yes w2 Av (A.map (fun x => x.add (k * 2))) n cv (c - k) w2.heap.size w2.heap.size (st.drop k) HSV.out HFROM.out (by omega))
          go_wp2_with (go_at_call 31; (with_reducible refine E.out.mono ?_); rintro e w3 ⟨rfl, nq, rfl⟩; have q1'' : (w2.drewN nq).cell? ⟨q, 1, none⟩ = some (.int .i64 (n : Int)) := q1')
          go_meet
          exact HEND.out _
      · have P := hide (HFR.out.popNo oi (by omega))
        have HE := hide (show AllRel W p gl lc room a0 (.slice A st.length c) (.int .i64 pc) wq from ⟨F, pc, ls, st, A, c, rfl, rfl, HPC.out, HFR.out, HINTS.out, HROW.out, HST.out⟩)
        by_cases hin0 : 0 ≤ oi
        · have d1 : decide (0 ≤ oi) = true := decide_eq_true hin0
          have d2 : decide (oi ≤ (st.length : Int)) = false := decide_eq_false (by omega)
          clear hin
          go_wp2_with (go_at_call 30; (with_reducible refine P.out.mono ?_); rintro e w2 ⟨rfl, rfl⟩)
          go_meet
          exact HE.out
        · have d1 : decide (0 ≤ oi) = false := decide_eq_false hin0
          clear hin
          go_wp2_with (go_at_call 30; (with_reducible refine P.out.mono ?_); rintro e w2 ⟨rfl, rfl⟩)
          go_meet
          exact HE.out
    have e11 : (kd == 1) = false := by simpa using t1
    by_cases t2 : kd = 2
    · subst t2
      as_aux_lemma =>
      by_cases hin : 0 ≤ oi ∧ oi < (lc : Int)
      · obtain ⟨i, rfl⟩ : ∃ i : Nat, oi = (i : Int) := ⟨oi.toNat, by omega⟩
        obtain ⟨v, hv⟩ : ∃ v, ls[i]? = some v := ⟨_, List.getElem?_eq_getElem (by rw [HROW.out.len]; omega)⟩
        have L := hide (HFR.out.load hv)
        have HV := hide hv
        have hil : i < lc := by omega
        clear hv hin
        have d1 : decide (0 ≤ (i : Int)) = true := decide_eq_true (by omega)
        have d2 : decide ((i : Int) < (lc : Int)) = true := decide_eq_true (by omega)
        have hil' : (i : Int) < (lc : Int) := by omega
        go_upto_region 51 with (go_at_call 29; (with_reducible refine L.out.mono ?_); rintro e w2 ⟨rfl, f2, k2⟩; have HF2 := hide f2; have HK2 := hide k2; clear f2 k2)
        have hk3 := HK2.out.alloc (.cells #[.bool v.1, .int .i32 v.2] 39)
        have hrow3 := HROW.out.none_ hk3
        obtain ⟨bz, oz, v', hz, hbz, hv', c0, c1⟩ := SeesV.at2 hrow3.sees hil
        rw [HV.out] at hv'
        cases hv'
        cases hz
        rw [Nat.zero_add] at c0 c1
        have q1' : (w2.alloc (.cells #[.bool v.1, .int .i32 v.2] 39)).cell? ⟨q, 1, none⟩ = some (.int .i64 (i : Int)) := cell_of_row _ q 1 _ 45 (0, 0) (HQF.out.kept (hk3.more fun _ _ => False.elim) HQ.out)
        have e0 : (w2.alloc (.cells #[.bool v.1, .int .i32 v.2] 39)).cell? ⟨w2.heap.size, 0, none⟩ = some (.bool v.1) := cell_of_row _ _ 0 _ 39 (0, 0) (heap_alloc_new w2 _)
        have e1 : (w2.alloc (.cells #[.bool v.1, .int .i32 v.2] 39)).cell? ⟨w2.heap.size, 1, none⟩ = some (.int .i32 v.2) := cell_of_row _ _ 1 _ 39 (0, 0) (heap_alloc_new w2 _)
        have HEND := hide (fun nq : Nat => show AllRel W p gl lc room a0 (.slice A st.length c) (.int .i64 pc) ((w2.alloc (.cells #[.bool v.1, .int .i32 v.2] 39)).drewN nq) from ⟨F, pc, ls, st, A, c, rfl, rfl, HPC.out, HFR.out.none_ (hk3.drewN nq), HINTS.out, HROW.out.none_ (hk3.drewN nq), HST.out.none_ (hk3.drewN nq)⟩)
        obtain ⟨r, x⟩ := v
        dsimp only at c0 c1 e0 e1 q1' ⊢
        clear hk3 hrow3 L
        go_upto_region 52 with fail
        go_quiet (fail)
        go_wp2
        go_meet
        exact HEND.out _
      · by_cases hin0 : 0 ≤ oi
        ·
          have L := hide (HFR.out.loadNo oi (by rw [HROW.out.len]; omega))
          have d1 : decide (0 ≤ oi) = true := decide_eq_true hin0
          have d2 : decide (oi < (lc : Int)) = false := decide_eq_false (by omega)
          clear hin
          go_upto_region 51 with (go_at_call 29; (with_reducible refine L.out.mono ?_); rintro e w2 ⟨rfl, f2, k2⟩; have HF2 := hide f2; have HK2 := hide k2; clear f2 k2)
          have hk3 := HK2.out.alloc (.cells #[.bool false, .int .i32 0] 39)
          have q1' : (w2.alloc (.cells #[.bool false, .int .i32 0] 39)).cell? ⟨q, 1, none⟩ = some (.int .i64 oi) := cell_of_row _ q 1 _ 45 (0, 0) (HQF.out.kept (hk3.more fun _ _ => False.elim) HQ.out)
          have HEND := hide (fun nq : Nat => show AllRel W p gl lc room a0 (.slice A st.length c) (.int .i64 pc) ((w2.alloc (.cells #[.bool false, .int .i32 0] 39)).drewN nq) from ⟨F, pc, ls, st, A, c, rfl, rfl, HPC.out, HFR.out.none_ (hk3.drewN nq), HINTS.out, HROW.out.none_ (hk3.drewN nq), HST.out.none_ (hk3.drewN nq)⟩)
          clear hk3 L
          go_upto_region 52 with fail
          go_quiet (fail)
          go_wp2
          go_meet
          exact HEND.out _
        ·
          have L := hide (HFR.out.loadNo oi (by rw [HROW.out.len]; omega))
          have d1 : decide (0 ≤ oi) = false := decide_eq_false hin0
          clear hin
          go_upto_region 51 with (go_at_call 29; (with_reducible refine L.out.mono ?_); rintro e w2 ⟨rfl, f2, k2⟩; have HF2 := hide f2; have HK2 := hide k2; clear f2 k2)
          have hk3 := HK2.out.alloc (.cells #[.bool false, .int .i32 0] 39)
          have q1' : (w2.alloc (.cells #[.bool false, .int .i32 0] 39)).cell? ⟨q, 1, none⟩ = some (.int .i64 oi) := cell_of_row _ q 1 _ 45 (0, 0) (HQF.out.kept (hk3.more fun _ _ => False.elim) HQ.out)
          have HEND := hide (fun nq : Nat => show AllRel W p gl lc room a0 (.slice A st.length c) (.int .i64 pc) ((w2.alloc (.cells #[.bool false, .int .i32 0] 39)).drewN nq) from ⟨F, pc, ls, st, A, c, rfl, rfl, HPC.out, HFR.out.none_ (hk3.drewN nq), HINTS.out, HROW.out.none_ (hk3.drewN nq), HST.out.none_ (hk3.drewN nq)⟩)
          clear hk3 L
          go_upto_region 52 with fail
          go_quiet (fail)
          go_wp2
          go_meet
          exact HEND.out _
    have e2 : (kd == 2) = false := by simpa using t2
    by_cases t3 : kd = 3
    · subst t3
      as_aux_lemma =>
      by_cases hol : ol = 0
      · subst hol
        by_cases hin0 : 0 ≤ oi
        · have d1 : decide (0 ≤ oi) = true := decide_eq_true hin0
          by_cases hin1 : oi < (lc : Int)
          · have d2 : decide (oi < (lc : Int)) = true := decide_eq_true hin1
            as_aux_lemma =>
            have HEND := hide (fun nq : Nat => show AllRel W p gl lc room a0 (.slice A st.length c) (.int .i64 pc) (wq.drewN nq) from ⟨F, pc, ls, st, A, c, rfl, rfl, HPC.out, HFR.out.none_ ((Keeps.refl _ _).drewN nq), HINTS.out, HROW.out.none_ ((Keeps.refl _ _).drewN nq), HST.out.none_ ((Keeps.refl _ _).drewN nq)⟩)
            go_upto_region 56 with fail
            go_quiet (fail)
            go_wp2
            go_meet
            exact HEND.out _
          · have d2 : decide (oi < (lc : Int)) = false := decide_eq_false hin1
            as_aux_lemma =>
            have HEND := hide (fun nq : Nat => show AllRel W p gl lc room a0 (.slice A st.length c) (.int .i64 pc) (wq.drewN nq) from ⟨F, pc, ls, st, A, c, rfl, rfl, HPC.out, HFR.out.none_ ((Keeps.refl _ _).drewN nq), HINTS.out, HROW.out.none_ ((Keeps.refl _ _).drewN nq), HST.out.none_ ((Keeps.refl _ _).drewN nq)⟩)
            go_upto_region 56 with fail
            go_quiet (fail)
            go_wp2
            go_meet
            exact HEND.out _
        · have d1 : decide (0 ≤ oi) = false := decide_eq_false hin0
          as_aux_lemma =>
          have HEND := hide (fun nq : Nat => show AllRel W p gl lc room a0 (.slice A st.length c) (.int .i64 pc) (wq.drewN nq) from ⟨F, pc, ls, st, A, c, rfl, rfl, HPC.out, HFR.out.none_ ((Keeps.refl _ _).drewN nq), HINTS.out, HROW.out.none_ ((Keeps.refl _ _).drewN nq), HST.out.none_ ((Keeps.refl _ _).drewN nq)⟩)
          go_upto_region 56 with fail
          go_quiet (fail)
          go_wp2
          go_meet
          exact HEND.out _
      · have d3 : decide (0 < (ol : Int)) = true := decide_eq_true (by omega)
        have hol' : 0 < ol := by omega
        obtain ⟨b0, off0, v, rfl, hb0, hv, c0, c1⟩ := SeesV.at2 (HOV.out.sees.below HFR.out.below) hol'
        rw [Nat.zero_mul, Nat.add_zero] at c0 c1
        have HV := hide hv
        have CB0 := hide (fun (w : World) (hw : Below W.heap.size W w) => show w.cell? ⟨b0, off0, none⟩ = some (.bool v.1) ∧ w.cell? ⟨b0, off0 + 1, none⟩ = some (.int .i32 v.2) from by
          obtain ⟨b9, off9, v9, h9, hb9, hv9, g0, g1⟩ := SeesV.at2 (HOV.out.sees.below hw) hol'
          rw [HV.out] at hv9
          cases hv9
          cases h9
          rw [Nat.zero_mul, Nat.add_zero] at g0 g1
          exact ⟨g0, g1⟩)
        have hvI : inI32 v.2 := HOV.out.ints v (List.mem_of_getElem? hv)
        have HVI := hide hvI
        clear hv hvI
        by_cases hin : 0 ≤ oi ∧ oi < (lc : Int)
        · obtain ⟨i, rfl⟩ : ∃ i : Nat, oi = (i : Int) := ⟨oi.toNat, by omega⟩
          have hil : i < lc := by omega
          have hil' : (i : Int) < (lc : Int) := by omega
          have S := hide ((HFR.out.none_ ((Keeps.refl (fun _ => False) wq).drew)).store (i := i) (by rw [HROW.out.len]; exact hil) v)
          have d1 : decide (0 ≤ (i : Int)) = true := decide_eq_true (by omega)
          have d2 : decide ((i : Int) < (lc : Int)) = true := decide_eq_true (by omega)
          clear hin
          as_aux_lemma =>
          go_upto_region 56 with fail
          go_region_held3 (fun w' => w'.cell? ⟨q, 1, none⟩ = some (.int .i64 (i : Int)) ∧ w'.cell? ⟨q, 2, none⟩ = some (.slice (some ⟨b0, off0, none⟩) ol oc) ∧ w'.cell? ⟨b0, off0, none⟩ = some (.bool v.1) ∧ w'.cell? ⟨b0, off0 + 1, none⟩ = some (.int .i32 v.2)) (go_keep)
            (first | (go_at_call 32; (with_reducible refine S.out.mono ?_); rintro e w2 ⟨rfl, f2, k2⟩; have p1 : w2.cell? ⟨q, 1, none⟩ = some (.int .i64 (i : Int)) := cell_of_row w2 q 1 _ 45 (0, 0) (HQF.out.kept (((Keeps.refl F wq).drew).trans k2) HQ.out); have p2 : w2.cell? ⟨q, 2, none⟩ = some (.slice (some ⟨b0, off0, none⟩) ol oc) := cell_of_row w2 q 2 _ 45 (0, 0) (HQF.out.kept (((Keeps.refl F wq).drew).trans k2) HQ.out); have g0 := (CB0.out w2 f2.below).1; have g1 := (CB0.out w2 f2.below).2; have HF2 := hide f2; have HK2 := hide (((Keeps.refl F wq).drew).trans k2); clear f2 k2))
          go_upto_region 59 with fail
          have hkd : Keeps F wq w2.drew := HK2.out.drew
          have hrow := HROW.out.step (F2 := F) hkd (fun b hb => hb.more hkd.size)
          have hst := HST.out.step (F2 := F) hkd (fun b hb => hb.more hkd.size)
          obtain ⟨⟨u1, hu1⟩, ⟨u2, hu2⟩, hz, hrow2, hk2⟩ := hrow.set hil v
          have HE := hide (show AllRel W p gl lc room a0 (.slice A st.length c) (.int .i64 pc) _ from ⟨F, pc, ls.set i v, st, A, c, rfl, rfl, HPC.out, (HF2.out.none_ ((Keeps.refl _ w2).drew)).keepsG hk2 (fun k e => by have e' : k = gl := e; omega) (fun k hf e => by have e' : k = gl := e; subst e'; exact hrow.safe.1 hf), fun x hx => (List.mem_append.1 hx).elim (fun h => (List.mem_or_eq_of_mem_set h).elim (fun h => HINTS.out x (List.mem_append.2 (.inl h))) fun h => h ▸ HVI.out) (fun h => HINTS.out x (List.mem_append.2 (.inr h))), hrow2, hst.other hk2⟩)
          clear hkd hrow hst hrow2 hk2 S c0 c1 q0 q1 q2
          go_still_tail 8, (by kernel_rfl)
          change wpList _ _ _ _ _ w2.drew
          generalize w2.drew = w3 at *
          go_wp2
          go_meet
          exact HE.out
        · by_cases hin0 : 0 ≤ oi
          · have d1 : decide (0 ≤ oi) = true := decide_eq_true hin0
            have d2 : decide (oi < (lc : Int)) = false := decide_eq_false (by omega)
            as_aux_lemma =>
            have S := hide ((HFR.out.none_ ((Keeps.refl (fun _ => False) wq).drew)).storeNo oi v (by rw [HROW.out.len]; omega))
            clear hin
            go_upto_region 56 with fail
            go_region_held3 (fun w' => w'.cell? ⟨q, 1, none⟩ = some (.int .i64 oi) ∧ w'.cell? ⟨q, 2, none⟩ = some (.slice (some ⟨b0, off0, none⟩) ol oc) ∧ w'.cell? ⟨b0, off0, none⟩ = some (.bool v.1) ∧ w'.cell? ⟨b0, off0 + 1, none⟩ = some (.int .i32 v.2)) (go_keep)
              (first | (go_at_call 32; (with_reducible refine S.out.mono ?_); rintro e w2 ⟨rfl, f2, k2⟩; have p1 : w2.cell? ⟨q, 1, none⟩ = some (.int .i64 oi) := cell_of_row w2 q 1 _ 45 (0, 0) (HQF.out.kept ((((Keeps.refl _ wq).drew).trans k2).more fun _ _ => False.elim) HQ.out); have p2 : w2.cell? ⟨q, 2, none⟩ = some (.slice (some ⟨b0, off0, none⟩) ol oc) := cell_of_row w2 q 2 _ 45 (0, 0) (HQF.out.kept ((((Keeps.refl _ wq).drew).trans k2).more fun _ _ => False.elim) HQ.out); have g0 := (CB0.out w2 f2.below).1; have g1 := (CB0.out w2 f2.below).2; have HE := hide (show AllRel W p gl lc room a0 (.slice A st.length c) (.int .i64 pc) w2 from ⟨F, pc, ls, st, A, c, rfl, rfl, HPC.out, f2, HINTS.out, HROW.out.none_ (((Keeps.refl _ wq).drew).trans k2), HST.out.none_ (((Keeps.refl _ wq).drew).trans k2)⟩); clear f2 k2))
            go_wp2
            go_meet
            exact HE.out
          · have d1 : decide (0 ≤ oi) = false := decide_eq_false hin0
            as_aux_lemma =>
            have S := hide ((HFR.out.none_ ((Keeps.refl (fun _ => False) wq).drew)).storeNo oi v (by rw [HROW.out.len]; omega))
            clear hin
            go_upto_region 56 with fail
            go_region_held3 (fun w' => w'.cell? ⟨q, 1, none⟩ = some (.int .i64 oi) ∧ w'.cell? ⟨q, 2, none⟩ = some (.slice (some ⟨b0, off0, none⟩) ol oc) ∧ w'.cell? ⟨b0, off0, none⟩ = some (.bool v.1) ∧ w'.cell? ⟨b0, off0 + 1, none⟩ = some (.int .i32 v.2)) (go_keep)
              (first | (go_at_call 32; (with_reducible refine S.out.mono ?_); rintro e w2 ⟨rfl, f2, k2⟩; have p1 : w2.cell? ⟨q, 1, none⟩ = some (.int .i64 oi) := cell_of_row w2 q 1 _ 45 (0, 0) (HQF.out.kept ((((Keeps.refl _ wq).drew).trans k2).more fun _ _ => False.elim) HQ.out); have p2 : w2.cell? ⟨q, 2, none⟩ = some (.slice (some ⟨b0, off0, none⟩) ol oc) := cell_of_row w2 q 2 _ 45 (0, 0) (HQF.out.kept ((((Keeps.refl _ wq).drew).trans k2).more fun _ _ => False.elim) HQ.out); have g0 := (CB0.out w2 f2.below).1; have g1 := (CB0.out w2 f2.below).2; have HE := hide (show AllRel W p gl lc room a0 (.slice A st.length c) (.int .i64 pc) w2 from ⟨F, pc, ls, st, A, c, rfl, rfl, HPC.out, f2, HINTS.out, HROW.out.none_ (((Keeps.refl _ wq).drew).trans k2), HST.out.none_ (((Keeps.refl _ wq).drew).trans k2)⟩); clear f2 k2))
            go_wp2
            go_meet
            exact HE.out
    have e3 : (kd == 3) = false := by simpa using t3
    by_cases t4 : kd = 4
    · subst t4
      as_aux_lemma =>
      have C := hide HFR.out.clear
      go_wp2_with (go_at_call 33; (with_reducible refine C.out.mono ?_); rintro e w' ⟨rfl, f', k'⟩; have HE := hide (show AllRel W p gl lc room a0 (.slice none 0 0) (.int .i64 pc) w' from ⟨F, pc, ls, [], none, 0, rfl, rfl, HPC.out, f', fun v hv => HINTS.out v (List.mem_append.2 (.inl (by simpa using hv))), HROW.out.step k' (fun b h => h.more k'.size), StAt.nil _ _ _⟩); clear f' k')
      go_meet
      exact HE.out
    have e4 : (kd == 4) = false := by simpa using t4
    as_aux_lemma =>
    have C := hide (HFR.out.goto_ oi)
    go_wp2_with (go_at_call 34; (with_reducible refine C.out.mono ?_); rintro e w' ⟨rfl, f', k'⟩; have HE := hide (show AllRel W p gl lc room a0 (.slice A st.length c) (.int .i64 oi) w' from ⟨F, oi, ls, st, A, c, rfl, rfl, HOI.out, f', HINTS.out, HROW.out.step k' (fun b h => h.more k'.size), HST.out.step k' (fun b h => h.more k'.size)⟩); have q1' : w'.cell? ⟨q, 1, none⟩ = some (.int .i64 oi) := cell_of_row w' q 1 _ 45 (0, 0) (HQF.out.kept k' HQ.out); clear f' k')
    go_meet
    exact HE.out
  case rest =>
  as_aux_lemma =>
  clear HFR HROW HST HINTS HPC HQ HQF HKD HOI HOV hqg
  obtain ⟨F2, pc2, ls2, st2, A2, c2, rfl, rfl, hpc, hfr, hints, hrow, hst⟩ := hcut
  have L := lawRefs_yes hfr.fr hints (A1 := some ⟨gl, 0, none⟩) (c1 := lc) (C1 := wc.heap.size) (A2 := A2) (c2 := c2) (C2 := wc.heap.size) (by rw [hrow.len]; exact hrow.sees) (fun e => by cases e) hst.sees hst.nil_ (Nat.le_refl _) (Nat.le_refl _)
  rw [hrow.len] at L
  have HL := hide L
  have D2 := hide (depth_in hfr.fr)
  have M2 := hide (method_in hfr.fr)
  have P2 := hide (pc_in hfr.fr)
  have HEND := hide (fun (w' : World) (hk : Keeps (fun _ => False) wc w') => show AllRel W p gl lc room a0 (.slice A2 st2.length c2) (.int .i64 pc2) w' from ⟨F2, pc2, ls2, st2, A2, c2, rfl, rfl, hpc, hfr.none_ hk, hints, hrow.none_ hk, hst.none_ hk⟩)
  obtain ⟨hp1, hp2⟩ := hpc
  clear hfr hints hrow hst L
  generalize st2.length = k2 at *
  go_wp2_with (first
    | (go_at_call 35; (with_reducible refine D2.out.mono ?_); rintro e w' ⟨rfl, rfl⟩)
    | (go_at_call 36; (with_reducible refine P2.out.mono ?_); rintro e w' ⟨rfl, rfl⟩)
    | (go_at_call 37; (with_reducible refine M2.out.mono ?_); rintro e w' ⟨rfl, rfl⟩)
    | (go_at_call 28; (with_reducible refine HL.out.mono ?_); rintro e wz ⟨rfl, kz⟩; have HE := hide (HEND.out wz kz); clear kz))
  go_roundw
  case rel => first | exact ⟨j + 1, by go_num, by omega, HE.out⟩ | ((repeat apply Exists.intro); exact ⟨⟨j + 1, by go_num, by omega, HE.out⟩, rfl⟩)
  case measure => simp [intOf]; omega
end Go.Proofs.Ytppolhpigclbpaa
