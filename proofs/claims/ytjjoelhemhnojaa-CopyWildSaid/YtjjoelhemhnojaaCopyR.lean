/- The walk of CopyWild. -/
import Derived.Test.YtjjoelhemhnojaaCopyQ
import Derived.Test.YtjjoelhemhnojaaIn
import Derived.Deep.CutBlock
set_option linter.unusedVariables false
namespace Go.Proofs.Ytjjoelhemhnojaa
open Go.RowKit Go.Instr
open Hp Cp

theorem WildSt.atCell {wk wl w : World} {F : Nat → Prop} {p m b off c : Nat} {xs : List Value} {H : List Hp.Ob} {wv : Value} {ws : List Nat} (h : WildSt wk wl w F p (.slice (some ⟨b, off, none⟩) m c) m xs H wv ws) {i : Nat} {u : Value} (hi : i < m) (hx : xs[i]? = some u) : w.cell? ⟨b, off + i, none⟩ = some u := by
  obtain ⟨A, c2, he, hs⟩ := Sees.of_own h.row
  cases he
  obtain ⟨b2, off2, u2, hA, _, hu, hc⟩ := hs.at_ hi
  cases hA
  rw [hx] at hu
  cases hu
  exact hc
set_option maxHeartbeats 8000000 in
set_option maxRecDepth 100000 in
theorem copyWild_walk (A : Option Addr) (n cap : Nat) (os : List Hp.Ob) (AW : Option Addr) (nw cw : Nat) (zw : List Int) (AR : Option Addr) (nr cr : Nat) (zs : List Int) (w : World) (ho : ObsRow w A n cap os) (hw : IsRow .i32 w AW nw cw zw) (hr : IsRow .i64 w AR nr cr zs) : Calls Try.prog 11 #[.slice A n cap, .slice AW nw cw, .slice AR nr cr] w fun e w' => e = .returned (.bool true) ∧ Below w.heap.size w w' := by
  obtain ⟨i0, hi0, hz0, hz1, hz2⟩ := info_parts Try.info3c
  have HJ := hide hi0
  have HZ0 := hide hz0
  have HZ1 := hide hz1
  have HZ2 := hide hz2
  obtain ⟨i6, hi6, hy0, hy1, hy2⟩ := info_parts Try.info62
  have HJ6 := hide hi6
  have HY0 := hide hy0
  have HY1 := hide hy1
  have HY2 := hide hy2
  obtain ⟨_, hrm, _, _, hrw, hrs⟩ := hr.cells
  have hnr : (nr : Int) ≤ 9223372036854775807 := by unfold maxLen at hrm; omega
  have hrl : (zs.take nr).length = nr := by have := hrs.1; simpa using this
  have HRB := hide (fun x (hx : x ∈ zs.take nr) => in64_of (hrw x (List.mem_of_mem_take hx)))
  have HRS := hide hrs
  have HRL := hide hrl
  obtain ⟨_, hwm, _, _, hww, hws⟩ := hw.cells
  have hnw : (nw : Int) ≤ 9223372036854775807 := by unfold maxLen at hwm; omega
  have hwl : (zw.take nw).length = nw := by have := hws.1; simpa using this
  have HWI := hide (fun x (hx : x ∈ zw.take nw) => in32_of (hww x (List.mem_of_mem_take hx)))
  have HWS := hide hws
  have HWN := hide hwl
  clear hi0 hz0 hz1 hz2 hr hrm hrw hrs hrl hi6 hy0 hy1 hy2 hw hwm hww hws hwl
  generalize zs.take nr = R at *
  generalize zw.take nw = W at *
  have B := hide (begun14_any w)
  have HO := hide ho
  clear ho
  go_enter Try.func11, Try.ntmps11
  go_wp2_with fail
  refine B.out.mono ?_
  rintro e wb ⟨rfl, hbb⟩
  have HBB := hide hbb
  have K29 := hide (cut29_any wb w.heap.size A n cap os (HO.out.obs.below hbb) hbb.size HO.out.wide HO.out.few HO.out.lens)
  clear hbb B
  go_wp2_with fail
  refine K29.out.mono ?_
  rintro e wk ⟨v, T, rfl, hcut⟩
  clear K29
  have hcc := cut_cut (min n 20) os (by rw [HO.out.obs.1]; omega) (by omega)
  obtain ⟨A1, c1, rfl, hobs⟩ := hcut.obs
  have HBC := hide (HBB.out.trans (hcut.below.mono HBB.out.size))
  clear hcut HBB HO
  generalize cutL (min n 20) os = ls at *
  have hm20 := hcc.few
  obtain ⟨m, hm⟩ : ∃ m, ls.length = m := ⟨_, rfl⟩
  rw [hm] at hobs hm20 ⊢
  have HM := hide hm
  have HCC := hide hcc
  have HOB := hide hobs
  clear hm hcc
  have hm20' : (m : Int) ≤ 20 := by omega
  have K30 := hide (laid30_any wk wk.heap.size A1 m c1 ls hobs (Nat.le_refl _) HCC.out)
  clear hobs
  go_wp2_with fail
  refine K30.out.mono ?_
  rintro e wl ⟨v, rfl, hbes⟩
  clear K30
  obtain ⟨A2, c2, rfl, _⟩ := Sees.of_own hbes.row
  have hwl : w.heap.size ≤ wk.heap.size := HBC.out.size
  have HWK := hide hwl
  have HRS2 := hide (HRS.out.below HBC.out)
  have HWS2 := hide (HWS.out.below HBC.out)
  obtain ⟨F, hst0⟩ := WildSt.start hbes
  have HST0 := hide hst0
  have HWD0 := hide (show Wild ls (laidO ls) [] 0 from ⟨Like.refl _, laid_i32 HCC.out, fun j hj => (by cases hj)⟩)
  clear hbes hst0 hwl HRS HWS
  go_upto_block 0 with fail
  go_cut [11, 12] from 29 to 80 (fun u11 u12 wx => ∃ H ws i, ws.length ≤ 20 ∧ WildSt wk wl wx F wk.heap.size (.slice A2 m c2) m ((List.range m).map fun i : Nat => Value.int .i64 (pl ls (i : Int))) H u11 ws ∧ Wild ls H ws i)
  case first =>
    as_aux_lemma =>
      go_wp2
      go_loopw [11, 12] (fun u11 u12 wr => ∃ (i : Nat) (H : List Hp.Ob) (ws : List Nat), u12 = .int .i64 (i : Int) ∧ i ≤ m ∧ i ≤ nw ∧ ws.length ≤ i ∧ WildSt wk wl wr F wk.heap.size (.slice A2 m c2) m ((List.range m).map fun i : Nat => Value.int .i64 (pl ls (i : Int))) H u11 ws ∧ Wild ls H ws i) (fun _ u12 _ => m - (intOf u12).toNat)
      case atStart => exact ⟨0, _, _, rfl, by omega, by omega, by simp, HST0.out, HWD0.out⟩
      case round =>
        clear HST0 HWD0
        obtain ⟨i, H, ws, rfl, hi, hiw, hwsl, hst, hwd⟩ := hrel
        by_cases hlt : i < nw ∧ i < m
        · obtain ⟨l1, l2⟩ := hlt
          have d1 : (i : Int) < (nw : Int) := by omega
          have d2 : (i : Int) < (m : Int) := by omega
          obtain ⟨o, ho⟩ : ∃ o, ls[i]? = some o := ⟨_, List.getElem?_eq_getElem (by rw [HM.out]; exact l2)⟩
          obtain ⟨x, hx⟩ : ∃ x, W[i]? = some x := ⟨_, List.getElem?_eq_getElem (by rw [HWN.out]; exact l1)⟩
          have hom := List.mem_of_getElem? ho
          have hl5 := HCC.out.len o hom
          have hxi := HWI.out x (List.mem_of_getElem? hx)
          have hx1 : -2147483648 ≤ x := hxi.1
          have hx2 : x ≤ 2147483647 := hxi.2
          obtain ⟨b1, off1, A4, c4, rfl, hb1, hc0, hc1, hs4⟩ := HOB.out.at_ ho
          have q1 : wr.cell? ⟨b1, off1 + i * 2 + 1, none⟩ = some (.slice A4 o.2.length c4) := (hst.below.cell (p := ⟨b1, off1 + i * 2 + 1, none⟩) hb1).trans hc1
          obtain ⟨b6, off6, u6, rfl, hb6, hu6, hc6⟩ := HWS2.out.at_ l1
          rw [List.getElem?_map, hx] at hu6
          cases hu6
          have HC6 := hide (fun (w2 : World) (hb : Below wk.heap.size wk w2) => (show w2.cell? ⟨b6, off6 + i, none⟩ = some (.int .i32 x) from (hb.cell (p := ⟨b6, off6 + i, none⟩) (Nat.lt_of_lt_of_le hb6 HWK.out)).trans hc6))
          have q6 := HC6.out wr hst.below
          have HWD := hide hwd
          have HO := hide ho
          have HST := hide hst
          have HXI := hide hxi
          have HWL := hide hwsl
          clear hc0 hc1 hs4 hb1 hb6 hc6 hx hom ho hwd hxi
          rcases Nat.eq_zero_or_pos o.2.length with e0 | e0
          · rw [e0] at q1
            clear hst
            go_wp2_with fail
            go_roundw
            case rel => exact ⟨i + 1, H, ws, by go_num, by omega, by omega, by have := HWL.out; omega, HST.out, HWD.out.next⟩
            case measure => simp [intOf]; omega
          · have d3 : (0 : Int) < (o.2.length : Int) := by omega
            have hl5' : (o.2.length : Int) ≤ 5 := by omega
            by_cases hx0 : x = 0
            · subst hx0
              clear hst
              go_wp2_with fail
              go_roundw
              case rel => exact ⟨i + 1, H, ws, by go_num, by omega, by omega, by have := HWL.out; omega, HST.out, HWD.out.next⟩
              case measure => simp [intOf]; omega
            · have d4 : (x == 0) = false := beq_eq_false_iff_ne.2 hx0
              have K := hst.solo.has (x - 1)
              clear hst
              cases hI : (lookO H (x - 1)).isSome
              · rw [hI] at K
                have HK := hide (fun (y : Int) (hy : y = x - 1) => show Calls Try.prog 23 #[.pointer (some ⟨wk.heap.size, 0, none⟩), .int .i64 y] wr (fun e w' => e = .returned (.bool false) ∧ wr = w') from by rw [hy]; exact K)
                have HI := hide hI
                clear K hI
                obtain ⟨p9, hp9, hpl9, hlk9⟩ := HWD.out.obj HO.out
                have hin9 : ((0 : Nat) : Int) < lenO H (pl ls (i : Int)) := by
                  unfold lenO
                  rw [hlk9]
                  show (0 : Int) < (p9.2.length : Int)
                  omega
                have P := (HST.out.none_ ((Keeps.refl (fun _ => False) wr).drew)).put (pl ls (i : Int)) 0 x hin9
                rw [show ((0 : Nat) : Int) = 0 from rfl] at P
                have HPUT := hide P
                have HWP := hide (HWD.out.put HO.out e0 HXI.out (by
                  have := HWD.out.like.look (x - 1)
                  rw [HI.out] at this
                  exact Option.isNone_iff_eq_none.1 (Option.isSome_eq_false_iff.1 this)))
                obtain ⟨A8, c8, he8, hA8⟩ := Sees.of_own HST.out.row
                cases he8
                obtain ⟨b7, off7, u7, hA7, _, hu7, q7⟩ := hA8.at_ l2
                subst hA7
                rw [List.getElem?_map, List.getElem?_range l2] at hu7
                cases hu7
                clear hp9 hpl9 hlk9 hin9 P hA8
                have hplb := pl_le HCC.out (y := (i : Int))
                have hplg := pl_ge (os := ls) (y := (i : Int)) (by omega)
                go_upto_region 11 with (go_at_call 23; (with_reducible refine (HK.out _ (by omega)).mono ?_); rintro e w' ⟨rfl, rfl⟩)
                go_region_held3 (fun w' => w'.cell? ⟨b7, off7 + i, none⟩ = some (.int .i64 (pl ls (i : Int))) ∧ w'.cell? ⟨b6, off6 + i, none⟩ = some (.int .i32 x)) (go_keep)
                  (first | (go_at_call 18; (with_reducible refine HPUT.out.mono ?_); rintro e w2 ⟨rfl, h2⟩; have d0 := h2.atCell l2 (by rw [List.getElem?_map, List.getElem?_range l2]; rfl); have d1 := HC6.out w2 h2.below; have H2 := hide h2; clear h2))
                have H3 := hide (H2.out.none_ ((Keeps.refl (fun _ => False) w2).alloc (.cells #[.int .i64 (i : Int), .int .i64 0] 62)))
                have HRW := hide H3.out.wild
                have HSZ := hide H3.out.size
                have HNS := hide (new_sees w2 #[.int .i64 (i : Int), .int .i64 0] 62)
                go_wp2_with (at_builtin
                             refine wpList_append_seesN _ rfl (.tmp 76) (.tmp 79) 61 rfl wl.heap.size 62 i6 _ 2 16 Try.underlying61 HJ6.out HY0.out HY1.out HY2.out rfl (by omega) _ ws.length _ rfl HRW.out (w2.heap.size + 1) _ 1 1 _ rfl HNS.out (fun e => nomatch e) (by intro u hu; rcases List.mem_cons.1 hu with rfl | hu; exact rfl; rcases List.mem_cons.1 hu with rfl | hu; exact rfl; exact (List.not_mem_nil hu).elim) (by have := HWL.out; unfold maxLen; omega) (by have := HWL.out; omega) HSZ.out ?_
                             intro v4 w4 hown4 hg4 hat4
                             have HE := hide (H3.out.add (w' := w4) (v2 := v4) (ws2 := ws ++ [i]) (by rw [List.length_append, wCells_append]; exact hown4) hg4)
                             clear hown4 hg4 hat4)
                go_roundw
                case rel => exact ⟨i + 1, _, _, by go_num, by omega, by omega, by have := HWL.out; rw [List.length_append]; simp; omega, HE.out, HWP.out⟩
                case measure => simp [intOf]; omega
              · rw [hI] at K
                have HK := hide (fun (y : Int) (hy : y = x - 1) => show Calls Try.prog 23 #[.pointer (some ⟨wk.heap.size, 0, none⟩), .int .i64 y] wr (fun e w' => e = .returned (.bool true) ∧ wr = w') from by rw [hy]; exact K)
                clear K hI
                go_wp2_with (go_at_call 23; (with_reducible refine (HK.out _ (by omega)).mono ?_); rintro e w' ⟨rfl, rfl⟩)
                go_roundw
                case rel => exact ⟨i + 1, H, ws, by go_num, by omega, by omega, by have := HWL.out; omega, HST.out, HWD.out.next⟩
                case measure => simp [intOf]; omega
        · have HE := hide (show ∃ H ws i, ws.length ≤ 20 ∧ WildSt wk wl wr F wk.heap.size (.slice A2 m c2) m ((List.range m).map fun i : Nat => Value.int .i64 (pl ls (i : Int))) H u11 ws ∧ Wild ls H ws i from ⟨H, ws, i, by omega, hst, hwd⟩)
          have hcs : nw ≤ i ∨ (i < nw ∧ i = m) := by omega
          clear hst hwd hlt
          rcases hcs with h | ⟨h, rfl⟩
          all_goals
            go_wp2
            go_meet
            exact HE.out
  case rest =>
    obtain ⟨H, ws, i9, hwn, hst, hwd⟩ := hcut
    generalize wc = wx at *
    have HWD := hide hwd
    have HWN9 := hide hwn
    have HST := hide hst
    obtain ⟨A11, c11, rfl, h111, h112, hs11, h113, h114⟩ := Sees.of_ownN hst.wild
    have HS11 := hide hs11
    obtain ⟨A9, c9, he9, h91, h92, h93, hn2, h94⟩ := Sees.of_ownN hst.row
    cases he9
    have HN2 := hide hn2
    clear hn2 h91 h92 h93 h94
    have HHS := hide hst.solo
    obtain ⟨A8, c8, he8, hs8⟩ := Sees.of_own hst.row
    cases he8
    have HS8 := hide hs8
    have HSZ := hide (show wk.heap.size ≤ wx.heap.size from hst.below.size)
    have HRSX := hide ((HRS2.out.below (hst.below.mono HWK.out)).more (Nat.le_trans HWK.out hst.below.size))
    clear hst hwd hs11 hs8 hwn h111 h112 h113 h114
    go_upto_block 2 with fail
    go_cut [13, 14] from 81 to 97 (fun u13 u14 wy => wy.ownsRow wx.heap.size 3 1 u13 (R.take 6).length ((R.take 6).map (Value.int .i64)) ∧ Keeps (fun _ => False) wx wy)
    case first =>
      as_aux_lemma =>
        go_wp2
        go_loopw [13, 14] (fun u13 u14 wr => ∃ i : Nat, u14 = .int .i64 (i : Int) ∧ i ≤ nr ∧ i ≤ 6 ∧ wr.ownsRow wx.heap.size 3 1 u13 (R.take i).length ((R.take i).map (Value.int .i64)) ∧ Keeps (fun _ => False) wx wr) (fun _ u14 _ => 6 - (intOf u14).toNat)
        case atStart => exact ⟨0, rfl, by omega, by omega, World.ownsRow_nil _ _ _ _, Keeps.refl _ _⟩
        case round =>
          obtain ⟨i, rfl, hi, hi6, how, hkw⟩ := hrel
          by_cases hlt : i < nr ∧ i < 6
          · obtain ⟨l1, l2⟩ := hlt
            have d1 : (i : Int) < (nr : Int) := by omega
            have d2 : (i : Int) < 6 := by omega
            obtain ⟨x, hx⟩ : ∃ x, R[i]? = some x := ⟨_, List.getElem?_eq_getElem (by rw [HRL.out]; omega)⟩
            obtain ⟨b6, off6, u6, rfl, hb6, hu6, hc6⟩ := (Keeps.sees HRSX.out (Nat.le_refl _) hkw).at_ l1
            rw [List.getElem?_map, hx] at hu6
            cases hu6
            have hli : (R.take i).length = i := by rw [List.length_take, HRL.out]; omega
            have HTK := hide (show R.take (i + 1) = R.take i ++ [x] from by rw [List.take_add_one, hx]; rfl)
            rw [hli] at how
            have hka : Keeps (fun _ => False) wr (wr.alloc (.cells #[.int .i64 x] 3)) := (Keeps.refl _ wr).alloc _
            have HROW := hide (ownsRow_kept how fun g hg => hka.block g (own_lt how hg) id)
            have HKA := hide (hkw.trans hka)
            have HNS := hide (new_sees wr #[.int .i64 x] 3)
            have HSZA := hide HKA.out.size
            have HLI := hide hli
            clear how hkw hx hb6 hli
            go_wp2_with (at_builtin
                         refine wpList_append_sees _ rfl (.tmp 91) (.tmp 96) 41 rfl wx.heap.size 3 i0 _ 8 Try.underlying41 HJ.out HZ0.out HZ1.out HZ2.out rfl _ i _ rfl HROW.out (wr.heap.size + 1) _ 1 1 _ rfl HNS.out (fun e => nomatch e) (by intro u hu; rcases List.mem_cons.1 hu with rfl | hu; exact rfl; exact (List.not_mem_nil hu).elim) (by unfold maxLen; omega) (by omega) HSZA.out ?_
                         intro v7 w7 hown hg hat
                         have HK7 := hide (HKA.out.grown hg fun g hgg hlt' => by have := own_ge HROW.out g hgg; omega)
                         have HE := hide (show w7.ownsRow wx.heap.size 3 1 v7 (R.take (i + 1)).length ((R.take (i + 1)).map (Value.int .i64)) from by rw [HTK.out, List.length_append, HLI.out, List.map_append]; exact hown)
                         clear hown hg hat)
            go_roundw
            case rel => exact ⟨i + 1, by go_num, by omega, by omega, HE.out, HK7.out⟩
            case measure => simp [intOf]; omega
          · have het : R.take i = R.take 6 := by
              rcases Nat.lt_or_ge i 6 with h6 | h6
              · rw [List.take_of_length_le (by rw [HRL.out]; omega), List.take_of_length_le (by rw [HRL.out]; omega)]
              · rw [show i = 6 from by omega]
            rw [het] at how
            have HOW := hide how
            have HKW := hide hkw
            clear how hkw het
            have hcs : nr ≤ i ∨ (i < nr ∧ i = 6) := by omega
            clear hlt
            rcases hcs with h | ⟨h, rfl⟩
            · have e1 : decide ((i : Int) < (nr : Int)) = false := decide_eq_false (by omega)
              have e2 : (nr : Int) ≤ (i : Int) := by omega
              clear h
              go_wp2
              go_meet
              exact ⟨HOW.out, HKW.out⟩
            · have e2 : (6 : Int) < (nr : Int) := by omega
              clear h
              go_wp2
              go_meet
              exact ⟨HOW.out, HKW.out⟩
    case rest =>
      obtain ⟨how, hkw⟩ := hcut
      generalize wc = wy at *
      obtain ⟨k, hk⟩ : ∃ k, (R.take 6).length = k := ⟨_, rfl⟩
      have hk6 : k ≤ 6 := by rw [← hk, List.length_take]; omega
      have hk6' : (k : Int) ≤ 6 := by omega
      generalize R.take 6 = rs at *
      rw [hk] at how
      have HK := hide hk
      obtain ⟨A13, c13, rfl, h131, h132, hs13, hn13, h134⟩ := Sees.of_ownN how
      rw [Nat.mul_one] at hs13
      have HN13 := hide hn13
      have HS13 := hide hs13
      have H1 := hide (HHS.out.keeps hkw)
      have HAT := hide ((Keeps.sees HS8.out (Nat.le_refl _) hkw).more hkw.size)
      have HWR := hide ((Keeps.sees HS11.out (Nat.le_refl _) hkw).more hkw.size)
      have HBY := hide (HBC.out.trans (H1.out.below.mono HBC.out.size))
      clear how hkw hs13 hk h131 h132 hn13 h134
      go_upto_region 19 with (first
        | (at_builtin
           refine wpList_append_sees _ rfl (.const (.slice none 0 0)) (.tmp 100) 41 rfl wy.heap.size 3 i0 _ 8 Try.underlying41 HJ.out HZ0.out HZ1.out HZ2.out rfl _ 0 _ rfl (World.ownsRow_nil _ _ _ _) wy.heap.size _ k c13 _ rfl HS13.out HN13.out (by intro u hu; obtain ⟨x, _, rfl⟩ := List.mem_map.1 hu; rfl) (by unfold maxLen; omega) (by omega) (Nat.le_refl _) ?_
           intro v1 w1 hown1 hg1 hat1
           have HK1 := hide ((Keeps.refl (fun _ => False) wy).grown hg1 fun g hg => (by cases hg))
           have HR1 := hide hown1
           have HA1 := hide ((Keeps.sees HAT.out (Nat.le_refl _) HK1.out).more HK1.out.size)
           clear hown1 hg1 hat1)
        | (at_builtin
           refine wpList_append_sees _ rfl (.tmp 101) (.tmp 102) 41 rfl wy.heap.size 3 i0 _ 8 Try.underlying41 HJ.out HZ0.out HZ1.out HZ2.out rfl _ (0 + k) _ rfl HR1.out w1.heap.size _ m c2 _ rfl HA1.out HN2.out (by intro u hu; obtain ⟨x, _, rfl⟩ := List.mem_map.1 hu; rfl) (by unfold maxLen; omega) (by omega) HK1.out.size ?_
           intro v2 w2 hown2 hg2 hat2
           have hk2 : Keeps (fun _ => False) wy w2 := HK1.out.grown hg2 fun g hgg hlt' => by have := own_ge HR1.out g hgg; omega
           have how2 : w2.ownsRow wy.heap.size 3 1 v2 (k + m) ((wildRoots ls rs).map (Value.int .i64)) := by
             have e : (wildRoots ls rs).map (Value.int .i64) = [] ++ rs.map (Value.int .i64) ++ (List.range m).map (fun i : Nat => Value.int .i64 (pl ls (i : Int))) := by
               unfold wildRoots
               rw [HM.out, List.map_append, List.map_map]; rfl
             rw [e]
             rw [Nat.zero_add] at hown2
             exact hown2
           obtain ⟨A12, c12, rfl, hs12⟩ := Sees.of_own how2
           have M3 := hide ((H1.out.keeps hk2).copy (R := refB) (roots := wildRoots ls rs) (cap := c12) HWD.out.i32 hs12 (by omega) _ refs_ok)
           have HK2 := hide hk2
           clear hown2 hg2 hat2 hk2 how2 hs12)
        | (go_at_call 31
           (with_reducible refine M3.out.mono ?_)
           rintro e w3 ⟨A16, c16, rfl, hs16, hc16, hg3, hh3, k3⟩
           have HK3 := hide (HK2.out.trans k3)
           have HS16 := hide hs16
           have HG3 := hide hg3
           have HH3 := hide hh3
           clear hs16 hc16 hg3 hh3 k3))
      generalize w2.heap.size = pg at *
      obtain ⟨mv, hmv⟩ : ∃ mv, movedO H refB (wildRoots ls rs) = mv := ⟨_, rfl⟩
      have hmv2 : mv = (rs ++ (List.range m).map (fun i : Nat => pl ls (i : Int))).map (newO H (liveF H refB (wildRoots ls rs))) := by
        rw [← hmv, ← HM.out]; rfl
      have HGONE := hide (show ∀ (i : Nat) (x : Int), rs[i]? = some x → ∃ y, mv[i]? = some y ∧ decide (y = -1) = decide (idxI ((List.range m).map (fun i : Nat => pl ls (i : Int))) x < 0) from by
        intro i x hx
        have hil := (List.getElem?_eq_some_iff.1 hx).1
        refine ⟨_, by rw [hmv2, List.getElem?_map, List.getElem?_append_left hil, hx]; rfl, ?_⟩
        have := wild_gone HWD.out x (liveF H refB (wildRoots ls rs))
        rw [HM.out] at this
        exact this)
      have HNULL := hide (show ∀ j ∈ ws, ∃ y, j < m ∧ mv[k + j]? = some y ∧ getO (copyO H refB (wildRoots ls rs)) y 0 = 0 from by
        intro j hj
        have hjm : j < m := by
          obtain ⟨_, o, x, ho, _, _⟩ := HWD.out.wild j hj
          have := (List.getElem?_eq_some_iff.1 ho).1
          rw [← ((laid_like ls).trans HWD.out.like).length, HM.out] at this
          exact this
        refine ⟨_, hjm, by rw [hmv2, List.getElem?_map, List.getElem?_append_right (by rw [HK.out]; omega), HK.out, Nat.add_sub_cancel_left, List.getElem?_map, List.getElem?_range hjm]; rfl, wild_null HWD.out hj⟩)
      have HUSED := hide (show (flat (copyO H refB (wildRoots ls rs))).length = (flat H).length from wild_used HWD.out)
      rw [hmv] at HS16
      generalize copyO H refB (wildRoots ls rs) = G at *
      have HALL := hide (show WildAll wk w3 m k ((List.range m).map fun i : Nat => pl ls (i : Int)) rs mv ws H G A2 A11 A13 A16 wk.heap.size pg from
        ⟨by rw [List.map_map]; exact (Keeps.sees HAT.out (Nat.le_refl _) HK3.out).more HK3.out.size, (Keeps.sees HS13.out (Nat.le_refl _) HK3.out).more HK3.out.size, HS16.out, (Keeps.sees HWR.out (Nat.le_refl _) HK3.out).more HK3.out.size, HH3.out, HG3.out⟩)
      have HLM := hide (show mv.length = k + m from by rw [hmv2]; simp [HK.out])
      clear hmv hmv2
      go_upto_block 4 with fail
      go_cut [17] from 119 to 137 (fun _ wx => WildAll wk wx m k ((List.range m).map fun i : Nat => pl ls (i : Int)) rs mv ws H G A2 A11 A13 A16 wk.heap.size pg)
      case first =>
        as_aux_lemma =>
          go_wp2
          go_loopw [17] (fun u17 wr => ∃ i : Nat, u17 = .int .i64 (i : Int) ∧ i ≤ k ∧ WildAll wk wr m k ((List.range m).map fun i : Nat => pl ls (i : Int)) rs mv ws H G A2 A11 A13 A16 wk.heap.size pg) (fun u17 _ => k - (intOf u17).toNat)
          case atStart => exact ⟨0, rfl, by omega, HALL.out⟩
          case round =>
            clear HALL
            obtain ⟨i, rfl, hi, hst⟩ := hrel
            by_cases hlt : i < k
            · have hlt' : (i : Int) < (k : Int) := by omega
              obtain ⟨x, hx⟩ : ∃ x, rs[i]? = some x := ⟨_, List.getElem?_eq_getElem (by rw [HK.out]; exact hlt)⟩
              obtain ⟨y, hy, hgone⟩ := HGONE.out i x hx
              obtain ⟨b9, off9, u9, rfl, hb9, hu9, hc9⟩ := hst.rts.at_ hlt
              rw [List.getElem?_map, hx] at hu9
              cases hu9
              obtain ⟨b15, off15, u15, rfl, hb15, hu15, hc15⟩ := hst.mvs.at_ (k := i) (by omega)
              rw [List.getElem?_map, hy] at hu15
              cases hu15
              have HST := hide hst
              have K35 := hide (fun nq : Nat => place35_any (wr.drewN nq) (wr.drewN nq).heap.size A2 m c2 ((List.range m).map fun i : Nat => pl ls (i : Int)) x ((hst.keeps ((Keeps.refl _ wr).drewN nq)).places) (by omega))
              clear hst hx hy hb9 hb15 hlt
              have e9 : idxI ((List.range m).map fun i : Nat => pl ls (i : Int)) x = idxI ((List.range m).map fun i : Nat => pl ls (i : Int)) x := rfl
              generalize hz : idxI ((List.range m).map fun i : Nat => pl ls (i : Int)) x = z at K35 hgone
              clear hz e9
              by_cases hz0 : z < 0
              · rw [decide_eq_true hz0] at hgone
                obtain rfl : y = -1 := of_decide_eq_true hgone
                have g1 : decide (z < 0) = true := decide_eq_true hz0
                clear hgone
                go_wp2
                go_quiet ((go_at_call 35; exact quiet_l (K35.out _)))
                go_wp2
                go_roundw
                case rel => exact ⟨i + 1, by go_num, by omega, HST.out.keeps ((Keeps.refl _ _).drewN _)⟩
                case measure => simp [intOf]; omega
              · rw [decide_eq_false hz0] at hgone
                have hy0 : y ≠ -1 := of_decide_eq_false hgone
                have g1 : decide (z < 0) = false := decide_eq_false hz0
                have g2 : (y == -1) = false := beq_eq_false_iff_ne.2 hy0
                clear hgone
                go_wp2
                go_quiet ((go_at_call 35; exact quiet_l (K35.out _)))
                go_wp2
                go_roundw
                case rel => exact ⟨i + 1, by go_num, by omega, HST.out.keeps ((Keeps.refl _ _).drewN _)⟩
                case measure => simp [intOf]; omega
            · obtain rfl : i = k := by omega
              have HST := hide hst
              clear hst
              go_wp2
              go_meet
              exact HST.out
      case rest =>
        have HALL2 := hide hcut
        clear hcut
        go_upto_block 6 with fail
        go_cut [18] from 138 to 157 (fun _ wx => WildAll wk wx m k ((List.range m).map fun i : Nat => pl ls (i : Int)) rs mv ws H G A2 A11 A13 A16 wk.heap.size pg)
        case first =>
          as_aux_lemma =>
            go_wp2
            go_loopw [18] (fun u18 wr => ∃ i : Nat, u18 = .int .i64 (i : Int) ∧ i ≤ ws.length ∧ WildAll wk wr m k ((List.range m).map fun i : Nat => pl ls (i : Int)) rs mv ws H G A2 A11 A13 A16 wk.heap.size pg) (fun u18 _ => ws.length - (intOf u18).toNat)
            case atStart => exact ⟨0, rfl, by omega, HALL2.out⟩
            case round =>
              clear HALL2
              obtain ⟨i, rfl, hi, hst⟩ := hrel
              by_cases hlt : i < ws.length
              · have hlt' : (i : Int) < (ws.length : Int) := by omega
                have hw20 := HWN9.out
                obtain ⟨j, hj⟩ : ∃ j, ws[i]? = some j := ⟨_, List.getElem?_eq_getElem hlt⟩
                obtain ⟨y, hjm, hy, hnull⟩ := HNULL.out j (List.mem_of_getElem? hj)
                obtain ⟨b9, off9, u9, rfl, hb9, hu9, hc9⟩ := hst.wild.at_ (k := i * 2) (by omega)
                rw [wCells_at ws hj] at hu9
                cases hu9
                obtain ⟨b15, off15, u15, rfl, hb15, hu15, hc15⟩ := hst.mvs.at_ (k := k + j) (by omega)
                rw [List.getElem?_map, hy] at hu15
                cases hu15
                have HST := hide hst
                have K27 := hst.g.get y 0
                rw [hnull] at K27
                have HK27 := hide K27
                clear hst hy hb9 hb15 K27 hj hnull
                go_wp2_with (go_at_call 27; (with_reducible refine HK27.out.mono ?_); rintro e w' ⟨rfl, rfl⟩)
                go_roundw
                case rel => exact ⟨i + 1, by go_num, by omega, HST.out⟩
                case measure => simp [intOf]; omega
              · obtain rfl : i = ws.length := by omega
                have HST := hide hst
                clear hst
                go_wp2
                go_meet
                exact HST.out
        case rest =>
          have U26 := hide hcut.g.used
          have U26b := hide hcut.h.used
          rw [HUSED.out] at U26
          have HBZ := hide (HBC.out.trans (hcut.h.below.mono HBC.out.size))
          clear hcut
          go_wp2_with (first
            | (go_at_call 26; (with_reducible refine U26.out.mono ?_); rintro e w' ⟨rfl, rfl⟩)
            | (go_at_call 26; (with_reducible refine U26b.out.mono ?_); rintro e w' ⟨rfl, rfl⟩))
          go_ret
          exact ⟨rfl, HBZ.out⟩
end Go.Proofs.Ytjjoelhemhnojaa
