/- The walk of CopyAll. -/
import Derived.Test.YtjjoelhemhnojaaCopyO
import Derived.Test.YtjjoelhemhnojaaIn
import Derived.Deep.CutBlock
set_option linter.unusedVariables false
namespace Go.Proofs.Ytjjoelhemhnojaa
open Go.RowKit Go.Instr
open Hp Cp

theorem sz_take (os : List Hp.Ob) : ∀ (L : List Int) (i : Nat), szI os (L.take i) ≤ szI os L := by
  intro L
  induction L with
  | nil => intro i; simp
  | cons y L ih =>
    intro i
    cases i with
    | zero => simp [szI]
    | succ i =>
      have := ih i
      simp only [List.take_succ_cons, szI]
      omega
theorem root_in {os : List Hp.Ob} {rs : List Int} (hc : Cut os) (hr : ∀ y ∈ rs, y < (os.length : Int)) {r : Int} (hm : r ∈ rs) (h0 : 0 ≤ r) : r ∈ orderI os rs := by
  obtain ⟨h1, h2⟩ := live_map hc.fine hr
  have := live_roots (H := laidO os) (R := refB) (roots := rs.map (pl os)) (List.mem_map_of_mem hm) (by
    obtain ⟨j, hj⟩ := Int.eq_ofNat_of_zero_le h0
    have := hr r hm
    rw [hj, laid_look (by omega)]; rfl)
  rw [h1] at this
  obtain ⟨z, hz, he⟩ := List.mem_map.1 this
  rw [← pl_inj (h2 z hz).2 (hr r hm) he]; exact hz
set_option maxHeartbeats 8000000 in
set_option maxRecDepth 100000 in
theorem copyAll_walk (A : Option Addr) (n cap : Nat) (os : List Hp.Ob) (AR : Option Addr) (nr cr : Nat) (zs : List Int) (w : World) (ho : ObsRow w A n cap os) (hr : IsRow .i64 w AR nr cr zs) : Calls Try.prog 9 #[.slice A n cap, .slice AR nr cr] w fun e w' => e = .returned (.bool true) ∧ Below w.heap.size w w' := by
  obtain ⟨i0, hi0, hz0, hz1, hz2⟩ := info_parts Try.info3c
  have HJ := hide hi0
  have HZ0 := hide hz0
  have HZ1 := hide hz1
  have HZ2 := hide hz2
  obtain ⟨_, hrm, _, _, hrw, hrs⟩ := hr.cells
  have hnr : (nr : Int) ≤ 9223372036854775807 := by unfold maxLen at hrm; omega
  have hrl : (zs.take nr).length = nr := by have := hrs.1; simpa using this
  have HRB := hide (fun x (hx : x ∈ zs.take nr) => in64_of (hrw x (List.mem_of_mem_take hx)))
  have HRS := hide hrs
  have HRL := hide hrl
  clear hi0 hz0 hz1 hz2 hr hrm hrw hrs hrl
  generalize zs.take nr = R at *
  have B := hide (begun14_any w)
  have HO := hide ho
  clear ho
  go_enter Try.func9, Try.ntmps9
  go_wp2_with fail
  refine B.out.mono ?_
  rintro e wb ⟨rfl, hbb⟩
  have HBB := hide hbb
  have K29 := hide (cut29_any wb w.heap.size A n cap os (HO.out.obs.below hbb) hbb.size HO.out.wide HO.out.few HO.out.lens)
  clear hbb B
  go_wp2_with fail
  refine K29.out.mono ?_
  rintro e wk ⟨v, T, rfl, hcut⟩
  clear K29
  have hcc := cut_cut (min n 20) os (by rw [HO.out.obs.1]; omega) (by omega)
  obtain ⟨A1, c1, rfl, hobs⟩ := hcut.obs
  have HBC := hide (HBB.out.trans (hcut.below.mono HBB.out.size))
  clear hcut HBB HO
  generalize cutL (min n 20) os = ls at *
  have hm20 := hcc.few
  obtain ⟨m, hm⟩ : ∃ m, ls.length = m := ⟨_, rfl⟩
  rw [hm] at hobs hm20 ⊢
  have HM := hide hm
  have HCC := hide hcc
  have HOB := hide hobs
  clear hm hcc
  have hm20' : (m : Int) ≤ 20 := by omega
  have K30 := hide (laid30_any wk wk.heap.size A1 m c1 ls hobs (Nat.le_refl _) HCC.out)
  clear hobs
  go_wp2_with fail
  refine K30.out.mono ?_
  rintro e wl ⟨v, rfl, hbes⟩
  clear K30
  obtain ⟨A2, c2, rfl, hsee⟩ := Sees.of_own hbes.row
  have HSOLO := hide hbes.solo
  have HAT := hide hsee
  have HRS2 := hide (HRS.out.below (HBC.out.trans (HSOLO.out.below.mono HBC.out.size)))
  have HWL := hide (show w.heap.size ≤ wl.heap.size from Nat.le_trans HBC.out.size HSOLO.out.below.size)
  clear hbes hsee
  have HTW := hide (show Two wl wl (.slice none 0 0) (.slice none 0 0) ((rootsI m R).take 0) (((rootsI m R).take 0).map (pl ls)) from ⟨World.ownsRow_nil _ _ _ _, World.ownsRow_nil _ _ _ _, fun g hg => (by cases hg), Keeps.refl _ _⟩)
  go_upto_block 0 with fail
  go_cut [9, 10, 11, 12] from 35 to 82 (fun u9 u10 u11 u12 wx => Two wl wx u9 u10 (rootsI m R) ((rootsI m R).map (pl ls)))
  case first =>
    as_aux_lemma =>
        go_wp2
        go_loopw [9, 10, 11, 12] (fun u9 u10 u11 _ wr => ∃ i : Nat, u11 = .int .i64 (i : Int) ∧ i ≤ nr ∧ i ≤ 10 ∧ (0 < m ∨ i = 0) ∧ Two wl wr u9 u10 ((rootsI m R).take i) (((rootsI m R).take i).map (pl ls))) (fun _ _ u11 _ _ => 10 - (intOf u11).toNat)
        case atStart => exact ⟨0, rfl, by omega, by omega, .inr rfl, HTW.out⟩
        case round =>
          clear HTW
          obtain ⟨i, rfl, hi, hi10, him, htw⟩ := hrel
          by_cases hlt : i < nr ∧ i < 10 ∧ 0 < m
          · obtain ⟨l1, l2, l3⟩ := hlt
            have d1 : (i : Int) < (nr : Int) := by omega
            have d2 : (i : Int) < 10 := by omega
            have d3 : (0 : Int) < (m : Int) := by omega
            obtain ⟨x, hx⟩ : ∃ x, R[i]? = some x := ⟨_, List.getElem?_eq_getElem (by rw [HRL.out]; omega)⟩
            obtain ⟨b6, off6, u6, rfl, hb6, hu6, hcell6⟩ := (Keeps.sees HRS2.out HWL.out htw.kept).at_ l1
            rw [List.getElem?_map, hx] at hu6
            cases hu6
            obtain ⟨hx1, hx2⟩ := HRB.out x (List.mem_of_getElem? hx)
            obtain ⟨ht1, ht2⟩ := tmod_bd x ((m : Int) + 1) (by omega)
            obtain ⟨hb1, hb2⟩ := cutX_bd m x
            have htk := rootsI_take l3 l2 hx
            rw [← cutX_walk m x] at hb1 hb2 htk
            have HLI := hide (show ((rootsI m R).take i).length = i from by rw [List.length_take, rootsI_len, if_neg (by omega), HRL.out]; omega)
            have hla := htw.r
            rw [HLI.out] at hla
            have HTK := hide htk
            have HTR := hide htw
            clear htw hx htk hla
            go_upto_region 11 with fail
            generalize (x.tmod ((m : Int) + 1) + (m : Int) + 1) % ((m : Int) + 1) = cx at *
            have hy1 : -1 ≤ cx - 1 := by omega
            have hy2 : cx - 1 < (m : Int) := by omega
            clear hb1 hb2
            generalize cx - 1 = y at *
            have hka : Keeps (fun _ => False) wr (wr.alloc (.cells #[.int .i64 y] 3)) := (Keeps.refl _ wr).alloc _
            have HTA := hide (HTR.out.none_ hka)
            have hra := HTA.out.r
            rw [HLI.out] at hra
            have HRA := hide hra
            have HSZ := hide HTA.out.kept.size
            have HNS := hide (new_sees wr #[.int .i64 y] 3)
            have HWL2 := HWL
            clear hka hra
            by_cases hneg : y < 0
            · have HPL := hide (show [pl ls y] = [(-1 : Int)] from by rw [pl_neg hneg]; congr 1; omega)
              go_wp2_with (first
                | (at_builtin
                   refine wpList_append_sees _ rfl (.tmp 67) (.tmp 69) 41 rfl wl.heap.size 3 i0 _ 8 Try.underlying41 HJ.out HZ0.out HZ1.out HZ2.out rfl _ i _ rfl HRA.out (wr.heap.size + 1) _ 1 1 _ rfl HNS.out (fun e => nomatch e) (by intro u hu; rcases List.mem_cons.1 hu with rfl | hu; exact rfl; exact (List.not_mem_nil hu).elim) (by unfold maxLen; omega) (by omega) HSZ.out ?_
                   intro v4 w4 hown4 hg4 hat4
                   have h4 := HTA.out.left (v2 := v4) (l2 := (rootsI m R).take (i + 1)) (by rw [HTK.out, List.length_append, HLI.out, List.map_append]; exact hown4) hg4 hat4
                   have hka4 : Keeps (fun _ => False) w4 (w4.alloc (.cells #[.int .i64 (-1)] 3)) := (Keeps.refl _ w4).alloc _
                   have HTB := hide (h4.none_ hka4)
                   have hpb := HTB.out.p
                   rw [List.length_map, HLI.out] at hpb
                   have HPB := hide hpb
                   have HSZ4 := hide HTB.out.kept.size
                   have HNS4 := hide (new_sees w4 #[.int .i64 (-1)] 3)
                   clear h4 hka4 hpb hown4 hg4 hat4)
                | (at_builtin
                   refine wpList_append_sees _ rfl (.tmp 73) (.tmp 74) 41 rfl wl.heap.size 3 i0 _ 8 Try.underlying41 HJ.out HZ0.out HZ1.out HZ2.out rfl _ i _ rfl HPB.out (w4.heap.size + 1) _ 1 1 _ rfl HNS4.out (fun e => nomatch e) (by intro u hu; rcases List.mem_cons.1 hu with rfl | hu; exact rfl; exact (List.not_mem_nil hu).elim) (by unfold maxLen; omega) (by omega) HSZ4.out ?_
                   intro v5 w5 hown5 hg5 hat5
                   have HE := hide (HTB.out.right (v2 := v5) (l2 := ((rootsI m R).take (i + 1)).map (pl ls)) (by rw [HTK.out, List.map_append, List.length_append, List.length_map, HLI.out, List.map_append, List.map_cons, List.map_nil, HPL.out]; exact hown5) hg5 hat5)
                   clear hown5 hg5 hat5))
              go_roundw
              case rel => exact ⟨i + 1, by go_num, by omega, by omega, .inl l3, HE.out⟩
              case measure => simp [intOf]; omega
            · obtain ⟨q, rfl⟩ := Int.eq_ofNat_of_zero_le (show 0 ≤ y by omega)
              have hqm : q < m := by omega
              obtain ⟨bA, offA, uA, rfl, hbA, huA, hcA⟩ := HAT.out.at_ hqm
              rw [List.getElem?_map, List.getElem?_range hqm] at huA
              cases huA
              have HCA := hide (fun (w2 : World) (hk : Keeps (fun _ => False) wl w2) => (show w2.cell? ⟨bA, offA + q, none⟩ = some (.int .i64 (pl ls (q : Int))) from (World.cell?_of_block (hk.block bA hbA id)).trans hcA))
              clear hcA hbA
              go_wp2_with (first
                | (at_builtin
                   refine wpList_append_sees _ rfl (.tmp 67) (.tmp 69) 41 rfl wl.heap.size 3 i0 _ 8 Try.underlying41 HJ.out HZ0.out HZ1.out HZ2.out rfl _ i _ rfl HRA.out (wr.heap.size + 1) _ 1 1 _ rfl HNS.out (fun e => nomatch e) (by intro u hu; rcases List.mem_cons.1 hu with rfl | hu; exact rfl; exact (List.not_mem_nil hu).elim) (by unfold maxLen; omega) (by omega) HSZ.out ?_
                   intro v4 w4 hown4 hg4 hat4
                   have h4 := HTA.out.left (v2 := v4) (l2 := (rootsI m R).take (i + 1)) (by rw [HTK.out, List.length_append, HLI.out, List.map_append]; exact hown4) hg4 hat4
                   have cA4 := HCA.out w4 h4.kept
                   have hka4 : Keeps (fun _ => False) w4 (w4.alloc (.cells #[.int .i64 (pl ls (q : Int))] 3)) := (Keeps.refl _ w4).alloc _
                   have HTB := hide (h4.none_ hka4)
                   have hpb := HTB.out.p
                   rw [List.length_map, HLI.out] at hpb
                   have HPB := hide hpb
                   have HSZ4 := hide HTB.out.kept.size
                   have HNS4 := hide (new_sees w4 #[.int .i64 (pl ls (q : Int))] 3)
                   clear h4 hka4 hpb hown4 hg4 hat4)
                | (at_builtin
                   refine wpList_append_sees _ rfl (.tmp 76) (.tmp 81) 41 rfl wl.heap.size 3 i0 _ 8 Try.underlying41 HJ.out HZ0.out HZ1.out HZ2.out rfl _ i _ rfl HPB.out (w4.heap.size + 1) _ 1 1 _ rfl HNS4.out (fun e => nomatch e) (by intro u hu; rcases List.mem_cons.1 hu with rfl | hu; exact rfl; exact (List.not_mem_nil hu).elim) (by unfold maxLen; omega) (by omega) HSZ4.out ?_
                   intro v5 w5 hown5 hg5 hat5
                   have HE := hide (HTB.out.right (v2 := v5) (l2 := ((rootsI m R).take (i + 1)).map (pl ls)) (by rw [HTK.out, List.map_append, List.length_append, List.length_map, HLI.out, List.map_append, List.map_cons, List.map_nil]; exact hown5) hg5 hat5)
                   clear hown5 hg5 hat5))
              go_roundw
              case rel => exact ⟨i + 1, by go_num, by omega, by omega, .inl l3, HE.out⟩
              case measure => simp [intOf]; omega
          · have hend : R.length ≤ i ∨ 10 ≤ i ∨ m = 0 := by rw [HRL.out]; omega
            rw [rootsI_end hend] at htw
            have HTW := hide htw
            clear htw hend
            have hcs : nr ≤ i ∨ (i < nr ∧ i = 10) ∨ (i < nr ∧ i < 10 ∧ m = 0) := by omega
            rcases hcs with h | ⟨h, rfl⟩ | ⟨h, h', rfl⟩
            all_goals
              go_wp2
              go_meet
              exact HTW.out
  case rest =>
    have hrs := rootsI_bd m R
    have hrl10 : (rootsI m R).length ≤ 10 := by rw [rootsI_len]; split <;> omega
    generalize rootsI m R = rs at *
    have HRI := hide hrs
    have hkp := hcut.kept
    obtain ⟨A9, c9, rfl, hs9⟩ := Sees.of_own hcut.r
    have hp := hcut.p
    rw [List.length_map] at hp
    obtain ⟨A10, c10, rfl, hs10⟩ := Sees.of_own hp
    clear hcut hp hrs
    have HS9 := hide hs9
    have HS10 := hide hs10
    have HKP := hide hkp
    have W1 := hide (HSOLO.out.keeps hkp).words2
    obtain ⟨k, hk⟩ : ∃ k, rs.length = k := ⟨_, rfl⟩
    have HK := hide hk
    rw [hk] at hrl10 HS9 HS10 ⊢
    clear hs9 hs10 hkp hk
    have hk10 : (k : Int) ≤ 10 := by omega
    go_upto_region 17 with (first
      | (go_at_call 19
         (with_reducible refine W1.out.mono ?_)
         rintro e w1 ⟨A13, c13, rfl, hs13, h1, k1⟩
         have M1 := h1.copy (R := refB) (roots := rs.map (pl ls)) (cap := c10) (laid_i32 HCC.out) ((Keeps.sees HS10.out (Nat.le_refl _) k1).more k1.size) (by omega) _ refs_ok
         rw [all_moved HCC.out (by rw [HM.out]; exact HRI.out)] at M1
         have M2 := hide M1
         have HS13 := hide hs13
         have HK1 := hide k1
         clear hs13 h1 k1 M1)
      | (go_at_call 31
         (with_reducible refine M2.out.mono ?_)
         rintro e w2 ⟨A15, c15, rfl, hs15, hc15, hg2, hh2, k2⟩
         have W2 := hide hh2.words2
         have HS15 := hide hs15
         have HG2 := hide hg2
         have HS13b := hide ((Keeps.sees HS13.out (Nat.le_refl _) k2).more k2.size)
         have HK2 := hide (HK1.out.trans k2)
         clear hs15 hc15 hg2 hh2 k2))
    go_upto_block 2 with (first
      | (go_at_call 19
         (with_reducible refine W2.out.mono ?_)
         rintro e w3 ⟨A14, c14, rfl, hs14, h3, k3⟩
         have K33 := hide (eq33_same w3 w3.heap.size w3.heap.size A14 A13 _ c14 c13 (flat (laidO ls)) hs14 ((Keeps.sees HS13b.out (Nat.le_refl _) k3).more k3.size) (Nat.le_refl _) (Nat.le_refl _) (by have := h3.room; omega))
         have H3 := hide h3
         have HK3 := hide (HK2.out.trans k3)
         have HK23 := hide k3
         clear hs14 h3 k3)
      | (go_at_call 33
         (with_reducible refine K33.out.mono ?_)
         rintro e w4 ⟨rfl, k4⟩
         have HK4 := hide (HK3.out.trans k4)
         have HK24 := hide (HK23.out.trans k4)
         have H4 := hide (H3.out.keeps k4)
         have hb4 : Below wk.heap.size wk w4 := H4.out.below
         have K34 := hide (order34_any w4 wk.heap.size A1 m c1 ls (HOB.out.below hb4) hb4.size HCC.out w4.heap.size A9 k c9 rs ((Keeps.sees HS9.out (Nat.le_refl _) HK4.out).more HK4.out.size) (Nat.le_refl _) (by omega) (by rw [HM.out]; exact HRI.out))
         clear k4 hb4)
      | (go_at_call 34
         (with_reducible refine K34.out.mono ?_)
         rintro e w5 ⟨v16, rfl, ho16, k5⟩
         obtain ⟨A16, c16, rfl, hs16⟩ := Sees.of_own ho16
         have HS16 := hide hs16
         have HK5 := hide (HK4.out.trans k5)
         have HK25 := hide (HK24.out.trans k5)
         have H5 := hide (H4.out.keeps k5)
         clear hs16 k5 ho16))
    generalize w1.heap.size = pg at *
    obtain ⟨L, hL⟩ : ∃ L, orderI ls rs = L := ⟨_, rfl⟩
    rw [hL] at HS16 ⊢
    have HL := hide hL
    have HINL := hide (show ∀ y ∈ L, 0 ≤ y ∧ y < (m : Int) from fun y hy => by rw [← hL] at hy; rw [← HM.out]; exact order_in HCC.out (fun z hz => by rw [HM.out]; exact (HRI.out z hz).2) hy)
    have hLn : L.length ≤ 20 := by
      have := order_len HCC.out.fine (rs := rs) (fun z hz => by rw [HM.out]; exact (HRI.out z hz).2)
      rw [hL, HM.out] at this
      omega
    have HSL := hide (show szI ls L ≤ 300 from by
      have h1 := all_size HCC.out (rs := rs) (fun z hz => by rw [HM.out]; exact (HRI.out z hz).2)
      have h2 := copy_le (H := laidO ls) (R := refB) (roots := rs.map (pl ls))
      have h3 := HSOLO.out.room
      rw [hL] at h1
      omega)
    have hLn' : (L.length : Int) ≤ 20 := by omega
    clear hL
    go_cut [17, 18, 19] from 110 to 131 (fun u17 u18 u19 wx => u18 = .int .i64 (szI ls L : Int) ∧ ∃ A17 c17, u17 = .slice A17 L.length c17 ∧ CpAll wk wx ls rs A1 A9 A10 A15 A16 A17 wk.heap.size pg)
    case first =>
      as_aux_lemma =>
        go_wp2
        go_loopw [17, 18, 19] (fun u17 u18 u19 wr => ∃ i : Nat, u19 = .int .i64 (i : Int) ∧ i ≤ L.length ∧ u18 = .int .i64 (szI ls (L.take i) : Int) ∧ wr.ownsRow w5.heap.size 3 1 u17 i (((toI ls L).take i).map (Value.int .i64)) ∧ Keeps (fun _ => False) w5 wr) (fun _ _ u19 _ => L.length - (intOf u19).toNat)
        case atStart => exact ⟨0, rfl, by omega, rfl, World.ownsRow_nil _ _ _ _, Keeps.refl _ _⟩
        case round =>
          obtain ⟨i, rfl, hi, rfl, how, hkw⟩ := hrel
          by_cases hlt : i < L.length
          · obtain ⟨y, hy⟩ : ∃ y, L[i]? = some y := ⟨_, List.getElem?_eq_getElem hlt⟩
            obtain ⟨hy0, hym⟩ := HINL.out y (List.mem_of_getElem? hy)
            obtain ⟨q, rfl⟩ := Int.eq_ofNat_of_zero_le hy0
            obtain ⟨o, ho⟩ : ∃ o, ls[q]? = some o := ⟨_, List.getElem?_eq_getElem (by rw [HM.out]; omega)⟩
            have hoi : objI ls (q : Int) = o := by unfold objI; simp [List.getD_eq_getElem?_getD, ho]
            have hsz := sz_pre (os := ls) hy
            rw [hoi] at hsz
            have hl5 := HCC.out.len o (List.mem_of_getElem? ho)
            obtain ⟨b1, off1, A4, c4, rfl, hb1, _, hcw, _⟩ := HOB.out.at_ ho
            obtain ⟨b16, off16, u16, rfl, hb16, hu16, hc16⟩ := HS16.out.at_ hlt
            rw [List.getElem?_map, hy] at hu16
            cases hu16
            have HC16 := hide (fun (w2 : World) (hk : Keeps (fun _ => False) w5 w2) => (show w2.cell? ⟨b16, off16 + i, none⟩ = some (.int .i64 (q : Int)) from (World.cell?_of_block (hk.block b16 hb16 id)).trans hc16))
            have HC1 := hide (fun (w2 : World) (hk : Keeps (fun _ => False) w5 w2) => (show w2.cell? ⟨b1, off1 + q * 2 + 1, none⟩ = some (.slice A4 o.2.length c4) from ((H5.out.keeps hk).below.cell (p := ⟨b1, off1 + q * 2 + 1, none⟩) hb1).trans hcw))
            have hbd : szI ls (L.take i) ≤ 300 := Nat.le_trans (sz_take ls L i) HSL.out
            have HSZP := hide hsz
            have HTI := hide (toI_take ls hlt)
            have hka : Keeps (fun _ => False) wr (wr.alloc (.cells #[.int .i64 (szI ls (L.take i) : Int)] 3)) := (Keeps.refl _ wr).alloc _
            have HROW := hide (ownsRow_kept how fun g hg => hka.block g (own_lt how hg) id)
            have HKA := hide (hkw.trans hka)
            have HNS := hide (new_sees wr #[.int .i64 (szI ls (L.take i) : Int)] 3)
            have HSZ := hide HKA.out.size
            clear hc16 hcw hsz hka how hkw hy ho hoi hb1 hb16
            generalize szI ls (L.take i) = s at *
            go_wp2_with (at_builtin
                         refine wpList_append_sees _ rfl (.tmp 116) (.tmp 118) 41 rfl w5.heap.size 3 i0 _ 8 Try.underlying41 HJ.out HZ0.out HZ1.out HZ2.out rfl _ i _ rfl HROW.out (wr.heap.size + 1) _ 1 1 _ rfl HNS.out (fun e => nomatch e) (by intro u hu; rcases List.mem_cons.1 hu with rfl | hu; exact rfl; exact (List.not_mem_nil hu).elim) (by unfold maxLen; omega) (by omega) HSZ.out ?_
                         intro v7 w7 hown hg hat
                         have hk7 : Keeps (fun _ => False) w5 w7 := HKA.out.grown hg fun g hgg hlt' => by have := own_ge HROW.out g hgg; omega
                         have c16 := HC16.out w7 hk7
                         have c1 := HC1.out w7 hk7
                         have HE := hide (show w7.ownsRow w5.heap.size 3 1 v7 (i + 1) (((toI ls L).take (i + 1)).map (Value.int .i64)) from by rw [HTI.out, List.map_append]; exact hown)
                         have HK7 := hide hk7
                         clear hown hg hat hk7)
            go_roundw
            case rel => exact ⟨i + 1, by go_num, by omega, by rw [HSZP.out]; go_num, HE.out, HK7.out⟩
            case measure => simp [intOf]; omega
          · obtain rfl : i = L.length := by omega
            rw [List.take_of_length_le (by rw [toI_length]; exact Nat.le_refl _)] at how
            rw [List.take_of_length_le (Nat.le_refl _)]
            obtain ⟨A17, c17, rfl, hs17⟩ := Sees.of_own how
            have hka : CpAll wk wr ls rs A1 A9 A10 A15 A16 A17 wk.heap.size pg := by
              have kx5 : Keeps (fun _ => False) w5 wr := hkw
              have sees2 : ∀ (wa : World) (A : Option Addr) (n : Nat) (xs : List Value), Sees wa wa.heap.size A n xs → Keeps (fun _ => False) wa wr → Sees wr wr.heap.size A n xs := fun wa A n xs h hk => (Keeps.sees h (Nat.le_refl _) hk).more hk.size
              have hob := HOB.out.below ((H5.out.keeps hkw).below)
              refine ⟨?_, ?_, ?_, ?_, ?_, ?_, H5.out.keeps hkw, HG2.out.keeps (HK25.out.trans hkw)⟩
              · rw [HM.out]
                obtain ⟨h1, h2⟩ := hob
                refine ⟨h1, fun hn => ?_⟩
                obtain ⟨b, off, e, hlt, hc⟩ := h2 hn
                refine ⟨b, off, e, Nat.lt_of_lt_of_le hlt (H5.out.keeps hkw).below.size, fun i o ho => ?_⟩
                obtain ⟨c1, A2, c2, c3, c4⟩ := hc i o ho
                exact ⟨c1, A2, c2, c3, c4.more (H5.out.keeps hkw).below.size⟩
              · rw [HK.out]; exact sees2 _ _ _ _ HS9.out (HK5.out.trans hkw)
              · rw [HK.out]; exact sees2 _ _ _ _ HS10.out (HK5.out.trans hkw)
              · rw [HK.out]; exact sees2 _ _ _ _ HS15.out (HK25.out.trans hkw)
              · rw [HL.out]; exact sees2 _ _ _ _ HS16.out hkw
              · rw [HL.out]; exact hs17
            have HALL := hide hka
            clear how hkw hs17 hka
            go_wp2
            go_meet
            exact ⟨rfl, _, _, rfl, HALL.out⟩
    case rest =>
      obtain ⟨rfl, A17, c17, rfl, hall⟩ := hcut
      have HALL := hide hall
      have HRI3 := hide (show ∀ z ∈ rs, z < (ls.length : Int) from fun z hz => by rw [HM.out]; exact (HRI.out z hz).2)
      clear hall
      go_upto_block 4 with fail
      go_cut [20] from 132 to 172 (fun u20 wx => CpAll wk wx ls rs A1 A9 A10 A15 A16 A17 wk.heap.size pg)
      case first =>
        as_aux_lemma =>
          go_wp2
          go_loopw [20] (fun u20 wr => ∃ i : Nat, u20 = .int .i64 (i : Int) ∧ i ≤ k ∧ CpAll wk wr ls rs A1 A9 A10 A15 A16 A17 wk.heap.size pg) (fun u20 _ => k - (intOf u20).toNat)
          case atStart => exact ⟨0, rfl, by omega, HALL.out⟩
          case round =>
            clear HALL
            obtain ⟨i, rfl, hi, hst⟩ := hrel
            by_cases hlt : i < k
            · have hlt' : (i : Int) < (k : Int) := by omega
              have hik : i < rs.length := by rw [HK.out]; exact hlt
              obtain ⟨r, hr⟩ : ∃ r, rs[i]? = some r := ⟨_, List.getElem?_eq_getElem hik⟩
              obtain ⟨hr1, hr2⟩ := HRI.out r (List.mem_of_getElem? hr)
              obtain ⟨b9, off9, u9, rfl, hb9, hu9, hc9⟩ := hst.rts.at_ hik
              rw [List.getElem?_map, hr] at hu9
              cases hu9
              obtain ⟨b15, off15, u15, rfl, hb15, hu15, hc15⟩ := hst.mv.at_ hik
              rw [List.getElem?_map, mvI, List.getElem?_map, hr] at hu15
              have HST := hide hst
              by_cases hneg : r < 0
              · obtain rfl : r = -1 := by omega
                rw [Option.map_some, Option.map_some, if_pos hneg] at hu15
                cases hu15
                clear hst hr hik hb9 hb15 hneg
                go_wp2
                go_quiet (fail)
                go_wp2
                go_roundw
                case rel => exact ⟨i + 1, by go_num, by omega, HST.out.keeps ((Keeps.refl _ _).drewN _)⟩
                case measure => simp [intOf]; omega
              · have hin := root_in HCC.out HRI3.out (List.mem_of_getElem? hr) (by omega)
                rw [Option.map_some, Option.map_some, if_neg hneg, HL.out] at hu15
                cases hu15
                rw [HL.out] at hin
                obtain ⟨q, rfl⟩ := Int.eq_ofNat_of_zero_le (show 0 ≤ r by omega)
                obtain ⟨j, hj1, hj2⟩ := idxI_some _ _ hin
                have hjl := (List.getElem?_eq_some_iff.1 hj2).1
                rw [hj1, show ((j : Int).toNat) = j from rfl] at hc15
                obtain ⟨b17, off17, u17, rfl, hb17, hu17, hc17⟩ := hst.tos.at_ (k := j) (by rw [HL.out]; exact hjl)
                rw [List.getElem?_map, HL.out, toI_at ls hjl] at hu17
                cases hu17
                have K35 := hide (fun nq : Nat => place35_any (wr.drewN nq) (wr.drewN nq).heap.size A16 L.length c16 L (q : Int) (by have := (hst.keeps ((Keeps.refl _ wr).drewN nq)).lv; rw [HL.out] at this; exact this) (by omega))
                rw [hj1] at K35
                have g1 : decide ((q : Int) < 0) = false := decide_eq_false (by omega)
                have g2 : decide (0 ≤ (q : Int)) = true := decide_eq_true (by omega)
                clear hst hr hik hb9 hb15 hin hj1 hj2 hb17 hr1
                generalize szI ls (L.take j) = s at *
                go_wp2
                go_quiet ((go_at_call 35; exact quiet_l (K35.out _)))
                go_wp2
                go_roundw
                case rel => exact ⟨i + 1, by go_num, by omega, HST.out.keeps ((Keeps.refl _ _).drewN _)⟩
                case measure => simp [intOf]; omega
            · obtain rfl : i = k := by omega
              have HST := hide hst
              clear hst
              go_wp2
              go_meet
              exact HST.out
      case rest =>
        have HALL := hide hcut
        clear hcut
        have HG := hide (fun (i : Nat) (y : Int) (h : L[i]? = some y) => show lookO (copyO (laidO ls) refB (rs.map (pl ls))) (szI ls (L.take i) : Int) = some ((objI ls y).1, (objI ls y).2.mapIdx fun k x => allW ls L (objI ls y).1 k x) from by
          have := all_obj HCC.out (rs := rs) (fun z hz => by rw [HM.out]; exact HRI.out z hz) (i := i) (y := y) (by rw [HL.out]; exact h)
          rw [HL.out] at this
          exact this)
        have HGU := hide (show (flat (copyO (laidO ls) refB (rs.map (pl ls)))).length = szI ls L from by rw [all_size HCC.out HRI3.out, HL.out])
        have HCL := hide (fun (y x : Int) (kk : Nat) (hy : y ∈ L) (hx : (objI ls y).2[kk]? = some x) (hk : refB (objI ls y).1 kk = true) (h0 : 0 < x) => show (x - 1) ∈ L from by
          have := order_closed HCC.out HRI3.out (y := y) (by rw [HL.out]; exact hy) hx hk h0
          rw [HL.out] at this
          exact this)
        go_upto_block 6 with fail
        go_cut [21, 22, 23, 24] from 173 to 244 (fun _ _ _ _ wx => CpAll wk wx ls rs A1 A9 A10 A15 A16 A17 wk.heap.size pg)
        case first =>
          as_aux_lemma =>
            go_wp2
            go_loopw [21, 22, 23, 24] (fun u21 _ _ _ wr => ∃ i : Nat, u21 = .int .i64 (i : Int) ∧ i ≤ L.length ∧ CpAll wk wr ls rs A1 A9 A10 A15 A16 A17 wk.heap.size pg) (fun u21 _ _ _ _ => L.length - (intOf u21).toNat)
            case atStart => exact ⟨0, rfl, by omega, HALL.out⟩
            case round =>
              clear HALL
              obtain ⟨i, rfl, hi, hst⟩ := hrel
              by_cases hlt : i < L.length
              · have hlt' : (i : Int) < (L.length : Int) := by omega
                obtain ⟨y, hy⟩ : ∃ y, L[i]? = some y := ⟨_, List.getElem?_eq_getElem hlt⟩
                obtain ⟨hy0, hym⟩ := HINL.out y (List.mem_of_getElem? hy)
                obtain ⟨q, rfl⟩ := Int.eq_ofNat_of_zero_le hy0
                obtain ⟨o, ho⟩ : ∃ o, ls[q]? = some o := ⟨_, List.getElem?_eq_getElem (by rw [HM.out]; omega)⟩
                have hoi : objI ls (q : Int) = o := by unfold objI; simp [List.getD_eq_getElem?_getD, ho]
                have hom := List.mem_of_getElem? ho
                have hl5 := HCC.out.len o hom
                obtain ⟨hk0, hk49⟩ := HCC.out.kd o hom
                have hlk := HG.out i q hy
                rw [hoi] at hlk
                have HCL2 := hide (fun (x : Int) (kk : Nat) (hx : o.2[kk]? = some x) (hk : refB o.1 kk = true) (h0 : 0 < x) => HCL.out q x kk (List.mem_of_getElem? hy) (by rw [hoi]; exact hx) (by rw [hoi]; exact hk) h0)
                obtain ⟨b1, off1, A4, c4, rfl, hb1, hc0, hc1, hs4⟩ := hst.obs.at_ ho
                obtain ⟨b16, off16, u16, rfl, hb16, hu16, hc16⟩ := hst.lv.at_ (k := i) (by rw [HL.out]; exact hlt)
                rw [HL.out, List.getElem?_map, hy] at hu16
                cases hu16
                obtain ⟨b17, off17, u17, rfl, hb17, hu17, hc17⟩ := hst.tos.at_ (k := i) (by rw [HL.out]; exact hlt)
                rw [List.getElem?_map, HL.out, toI_at ls hlt] at hu17
                cases hu17
                have hbd : szI ls (L.take i) ≤ 300 := Nat.le_trans (sz_take ls L i) HSL.out
                have HLK := hide hlk
                have hka : Keeps (fun _ => False) wr (wr.alloc (.cells #[.int .i64 o.1, .slice A4 o.2.length c4] 56)) := (Keeps.refl _ wr).alloc _
                have HST := hide (hst.keeps hka)
                have HB := hide (heap_alloc_new wr (.cells #[.int .i64 o.1, .slice A4 o.2.length c4] 56))
                have HS4 := hide ((Keeps.sees hs4 (Nat.le_refl _) hka).more hka.size)
                have HC17 := hide (fun (w2 : World) (hk : Keeps (fun _ => False) wr w2) => (show w2.cell? ⟨b17, off17 + i, none⟩ = some (.int .i64 (szI ls (L.take i) : Int)) from (World.cell?_of_block (hk.block b17 hb17 id)).trans hc17))
                have HKA := hide hka
                have HOX := hide (fun (x : Int) (kk : Nat) (hx : o.2[kk]? = some x) => HCC.out.fine o hom x (List.mem_of_getElem? hx))
                clear hst hka hlk hoi ho hom hy hb1 hb16 hs4
                go_upto_region 36 with fail
                generalize wr.alloc (.cells #[.int .i64 o.1, .slice A4 o.2.length c4] 56) = wa at *
                generalize wr.heap.size = pb at *
                have K24 := hide (fun nq : Nat => (HST.out.g.drewN nq).kind (szI ls (L.take i) : Int))
                rw [show kindO (copyO (laidO ls) refB (rs.map (pl ls))) (szI ls (L.take i) : Int) = o.1 from by unfold kindO; rw [HLK.out]] at K24
                have K25 := hide (fun nq : Nat => (HST.out.g.drewN nq).len (szI ls (L.take i) : Int))
                rw [show lenO (copyO (laidO ls) refB (rs.map (pl ls))) (szI ls (L.take i) : Int) = (o.2.length : Int) from by unfold lenO; rw [HLK.out]; simp] at K25
                have HGET := hide (fun (x : Int) (kk : Nat) (hx : o.2[kk]? = some x) => show getO (copyO (laidO ls) refB (rs.map (pl ls))) (szI ls (L.take i) : Int) (kk : Int) = allW ls L o.1 kk x from get_word HLK.out (by rw [List.getElem?_mapIdx, hx]; rfl))
                have q0 : wa.cell? ⟨pb, 0, none⟩ = some (.int .i64 o.1) := cell_of_row wa pb 0 _ 56 (0, 0) HB.out
                have q1 : wa.cell? ⟨pb, 1, none⟩ = some (.slice A4 o.2.length c4) := cell_of_row wa pb 1 _ 56 (0, 0) HB.out
                have c17 := HC17.out wa HKA.out
                generalize szI ls (L.take i) = s at *
                go_wp2
                go_quiet ((first | (go_at_call 24; exact quiet_l (K24.out _)) | (go_at_call 25; exact quiet_l (K25.out _))))
                clear q0 q1 c17 hc0 hc1 hc16 hc17
                have hl5' : (o.2.length : Int) ≤ 5 := by omega
                go_wp2
                go_loopw [23, 24] (fun u23 _ wq => ∃ j : Nat, u23 = .int .i64 (j : Int) ∧ j ≤ o.2.length ∧ Keeps (fun _ => False) wa wq) (fun u23 _ _ => o.2.length - (intOf u23).toNat)
                case atStart => exact ⟨0, rfl, by omega, (Keeps.refl _ _).drewN _⟩
                case round =>
                  obtain ⟨j, rfl, hj, hkq⟩ := hrel
                  have HKQ := hide hkq
                  have c17 := HC17.out wr (HKA.out.trans hkq)
                  have hbq : wr.heap[pb]? = some (.cells #[.int .i64 o.1, .slice A4 o.2.length c4] 56 (0, 0)) := (hkq.block pb (lt_of_heap HB.out) id).trans HB.out
                  have q0 : wr.cell? ⟨pb, 0, none⟩ = some (.int .i64 o.1) := cell_of_row wr pb 0 _ 56 (0, 0) hbq
                  have q1 : wr.cell? ⟨pb, 1, none⟩ = some (.slice A4 o.2.length c4) := cell_of_row wr pb 1 _ 56 (0, 0) hbq
                  clear hkq hbq
                  by_cases hlt2 : j < o.2.length
                  · have hlt2' : (j : Int) < (o.2.length : Int) := by omega
                    obtain ⟨x, hx⟩ : ∃ x, o.2[j]? = some x := ⟨_, List.getElem?_eq_getElem hlt2⟩
                    obtain ⟨b6, off6, u6, rfl, hb6, hu6, hcell6⟩ := (Keeps.sees HS4.out (Nat.le_refl _) HKQ.out).at_ hlt2
                    rw [List.getElem?_map, hx] at hu6
                    cases hu6
                    obtain ⟨hx1, hx2⟩ := HOX.out x j hx
                    have hx20 : x ≤ 20 := by have := HM.out; omega
                    have RF := hide (refs_any o.1 j wr hk0 (by omega) (by omega))
                    have K27 := (HST.out.g.keeps HKQ.out).get (s : Int) (j : Int)
                    rw [HGET.out x j hx] at K27
                    cases hR : refB o.1 j
                    · rw [hR] at RF
                      rw [show allW ls L o.1 j x = x from by unfold allW; rw [if_neg (fun h => by rw [hR] at h; exact absurd h.1 (by decide))]] at K27
                      have HK27 := hide K27
                      clear hR hx hx2 hb6 K27
                      go_wp2_with (first
                        | (go_at_call 32; (with_reducible refine RF.out.mono ?_); rintro e w' ⟨rfl, rfl⟩)
                        | (go_at_call 27; (with_reducible refine HK27.out.mono ?_); rintro e w' ⟨rfl, rfl⟩))
                      go_roundw
                      case rel => exact ⟨j + 1, by go_num, by omega, HKQ.out⟩
                      case measure => simp [intOf]; omega
                    · rw [hR] at RF
                      by_cases hx0 : 0 < x
                      · have hin := HCL2.out x j hx hR hx0
                        obtain ⟨jj, hj1, hj2⟩ := idxI_some _ _ hin
                        have hjl := (List.getElem?_eq_some_iff.1 hj2).1
                        obtain ⟨b7, off7, u7, he7, hb7, hu7, hc7⟩ := ((HST.out.keeps HKQ.out).tos).at_ (k := jj) (by rw [HL.out]; exact hjl)
                        cases he7
                        rw [List.getElem?_map, HL.out, toI_at ls hjl] at hu7
                        cases hu7
                        have hbd2 : szI ls (L.take jj) ≤ 300 := Nat.le_trans (sz_take ls L jj) HSL.out
                        have K35 := hide (place35_any wr wr.heap.size (some ⟨b16, off16, none⟩) L.length c16 L (x - 1) (by have := (HST.out.keeps HKQ.out).lv; rw [HL.out] at this; exact this) (by omega))
                        rw [hj1] at K35
                        rw [show allW ls L o.1 j x = (szI ls (L.take jj) : Int) + 1 from by unfold allW; rw [if_pos ⟨hR, hx0⟩, hj1]; rfl] at K27
                        have HK27 := hide K27
                        clear hR hx hx2 hb6 K27 hin hj1 hj2 hb7
                        generalize szI ls (L.take jj) = s2 at *
                        go_wp2_with (first
                          | (go_at_call 32; (with_reducible refine RF.out.mono ?_); rintro e w' ⟨rfl, rfl⟩)
                          | (go_at_call 35; (with_reducible refine K35.out.mono ?_); rintro e w' ⟨rfl, rfl⟩)
                          | (go_at_call 27; (with_reducible refine HK27.out.mono ?_); rintro e w' ⟨rfl, rfl⟩))
                        go_roundw
                        case rel => exact ⟨j + 1, by go_num, by omega, HKQ.out⟩
                        case measure => simp [intOf]; omega
                      · obtain rfl : x = 0 := by omega
                        rw [show allW ls L o.1 j 0 = 0 from by unfold allW; rw [if_neg (fun h => hx0 h.2)]] at K27
                        have HK27 := hide K27
                        clear hR hx hx2 hb6 K27
                        go_wp2_with (first
                          | (go_at_call 32; (with_reducible refine RF.out.mono ?_); rintro e w' ⟨rfl, rfl⟩)
                          | (go_at_call 27; (with_reducible refine HK27.out.mono ?_); rintro e w' ⟨rfl, rfl⟩))
                        go_roundw
                        case rel => exact ⟨j + 1, by go_num, by omega, HKQ.out⟩
                        case measure => simp [intOf]; omega
                  · obtain rfl : j = o.2.length := by omega
                    go_wp2
                    go_roundw
                    case rel => exact ⟨i + 1, by go_num, by omega, HST.out.keeps HKQ.out⟩
                    case measure => simp [intOf]; omega
              · obtain rfl : i = L.length := by omega
                have HST := hide hst
                clear hst
                go_wp2
                go_meet
                exact HST.out
        case rest =>
          have U26 := hide hcut.g.used
          rw [HGU.out] at U26
          have U21 := hide hcut.g.size
          have L36 := hcut.h.live (R := refB) (roots := rs.map (pl ls)) (cap := c10) (laid_i32 HCC.out) hcut.ps (by rw [HK.out]; omega) _ refs_ok
          rw [HGU.out, HK.out] at L36
          have HL36 := hide L36
          clear L36 hcut
          go_wp2_with (first
            | (go_at_call 26; (with_reducible refine U26.out.mono ?_); rintro e w' ⟨rfl, rfl⟩)
            | (go_at_call 21; (with_reducible refine U21.out.mono ?_); rintro e w' ⟨rfl, rfl⟩)
            | (go_at_call 36
               (with_reducible refine HL36.out.mono ?_)
               rintro e wz ⟨rfl, hz, kz⟩
               have HBZ := hide (HBC.out.trans (hz.below.mono HBC.out.size))
               clear hz kz))
          go_ret
          exact ⟨rfl, HBZ.out⟩
end Go.Proofs.Ytjjoelhemhnojaa
