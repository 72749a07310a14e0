/- The walk of laid. -/
import Derived.Test.YtjjoelhemhnojaaCopyI
import Derived.Test.YtjjoelhemhnojaaCopyG
set_option linter.unusedVariables false
namespace Go.Proofs.Ytjjoelhemhnojaa
open Go.RowKit Go.Instr
open Hp Cp

def zeroO (l : List Hp.Ob) : List Hp.Ob := l.map fun o => (o.1, List.replicate o.2.length 0)
theorem zero_flat (l : List Hp.Ob) : (flat (zeroO l)).length = (flat l).length := by
  unfold zeroO
  induction l with
  | nil => rfl
  | cons o l ih => simp only [List.map_cons, flat, List.length_cons, List.length_append, List.length_replicate, ih]
theorem zero_fill (os : List Hp.Ob) : zeroO os = fill (laidO os) 0 0 := by
  apply List.ext_getElem?
  intro j
  unfold zeroO laidO
  rw [fill_get, List.getElem?_map, List.getElem?_map]
  cases os[j]? with
  | none => rfl
  | some o =>
    simp only [Option.map_some, Option.some.injEq, Prod.mk.injEq, true_and]
    apply List.ext_getElem?
    intro k
    rw [List.getElem?_mapIdx, List.getElem?_replicate, List.getElem?_mapIdx]
    by_cases hk : k < o.2.length
    · rw [if_pos hk, List.getElem?_eq_getElem hk]
      simp [dn]
    · rw [if_neg hk, List.getElem?_eq_none (by omega)]
      rfl
theorem cut_flat {os : List Hp.Ob} (h : ∀ o ∈ os, o.2.length ≤ 5) : (flat os).length ≤ 7 * os.length := by
  induction os with
  | nil => exact Nat.le_refl _
  | cons o l ih =>
    have h1 := h o List.mem_cons_self
    have h2 := ih fun p hp => h p (List.mem_cons_of_mem _ hp)
    simp only [flat, List.length_cons, List.length_append]
    omega
theorem pl_le {os : List Hp.Ob} (hc : Cut os) {y : Int} : pl os y ≤ 140 := by
  unfold pl
  split
  · omega
  · have h1 := cut_flat (os := os.take y.toNat) fun o ho => hc.len o (List.mem_of_mem_take ho)
    have h2 := hc.few
    rw [List.length_take] at h1
    omega
theorem pl_ge {os : List Hp.Ob} {y : Int} (h : 0 ≤ y) : 0 ≤ pl os y := by
  unfold pl
  rw [if_neg (by omega)]
  omega
theorem laidW_bd {os : List Hp.Ob} (hc : Cut os) {o : Hp.Ob} (ho : o ∈ os) {k : Nat} {x : Int} (hx : x ∈ o.2) : 0 ≤ laidW os o.1 k x ∧ laidW os o.1 k x ≤ 141 := by
  have h1 := hc.fine o ho x hx
  have h2 := hc.few
  have h3 := pl_le hc (y := x - 1)
  unfold laidW
  split
  · rename_i h
    have h4 := pl_ge (os := os) (y := x - 1) (by omega)
    omega
  · omega
theorem laid_i32 {os : List Hp.Ob} (hc : Cut os) : ∀ x ∈ flat (laidO os), inI32 x := by
  have : ∀ (l : List Hp.Ob), (∀ o ∈ l, o ∈ os) → ∀ x ∈ flat (l.map fun o => (o.1, o.2.mapIdx fun k x => laidW os o.1 k x)), inI32 x := by
    intro l
    induction l with
    | nil => intro _ x hx; exact (List.not_mem_nil hx).elim
    | cons o l ih =>
      intro hl x hx
      have ho := hl o List.mem_cons_self
      simp only [List.map_cons, flat, List.mem_cons, List.mem_append] at hx
      unfold inI32
      rcases hx with rfl | rfl | hx | hx
      · have := hc.kd o ho; omega
      · have := hc.len o ho; simp only [List.length_mapIdx]; omega
      · obtain ⟨k, hk, rfl⟩ := List.mem_mapIdx.1 hx
        have := laidW_bd hc ho (k := k) (x := o.2[k]) (List.getElem_mem _)
        omega
      · exact ih (fun p hp => hl p (List.mem_cons_of_mem _ hp)) x hx
  exact this os fun o ho => ho
set_option maxHeartbeats 4000000 in
set_option maxRecDepth 100000 in
theorem laid30_any (w : World) (C : Nat) (A : Option Addr) (n cap : Nat) (os : List Hp.Ob) (hobs : ObsIn w C A n os) (hC : C ≤ w.heap.size) (hcut : Cut os) :
    Calls Try.prog 30 #[.slice A n cap, .int .i64 300] w fun e w' => ∃ v, e = .returned (.tuple #[.pointer (some ⟨w.heap.size, 0, none⟩), v]) ∧ Beside w w' w.heap.size 300 (laidO os) 3 v n ((List.range n).map fun i : Nat => Value.int .i64 (pl os (i : Int))) := by
  obtain ⟨i0, hi0, hz0, hz1, hz2⟩ := info_parts Try.info3c
  have HJ := hide hi0
  have HZ0 := hide hz0
  have HZ1 := hide hz1
  have HZ2 := hide hz2
  have N0 := hide (Solo.new (W0 := w) (w := w) 300 (Below.refl _ _))
  rw [show clampN 300 = 300 from by decide +kernel] at N0
  have HOB := hide hobs
  have HCUT := hide hcut
  have hon : os.length = n := hobs.1
  have HON := hide hon
  have hn20 : n ≤ 20 := by have := hcut.few; omega
  clear hi0 hz0 hz1 hz2 hobs hcut hon
  go_enter Try.func30, Try.ntmps30
  go_upto_block 0 with (go_at_call 16; (with_reducible refine N0.out.mono ?_); rintro e w1 ⟨rfl, hs1⟩; have HS1 := hide hs1; clear hs1)
  generalize hp : w.heap.size = p at *
  have HP := hide hp
  have HB1 := hide (show Beside w w1 p 300 (zeroO (os.take 0)) 3 (.slice none 0 0) 0 ((List.range 0).map fun i : Nat => Value.int .i64 (pl os (i : Int))) from by
    obtain ⟨F, f1, f2⟩ := HS1.out
    exact ⟨F, f1, f2, World.ownsRow_nil _ _ _ _, fun g hg => (by cases hg)⟩)
  clear N0 HS1 hp
  go_wp2
  go_loopw [7, 8] (fun u7 u8 wr => ∃ i : Nat, u8 = .int .i64 (i : Int) ∧ i ≤ n ∧ Beside w wr p 300 (zeroO (os.take i)) 3 u7 i ((List.range i).map fun i : Nat => Value.int .i64 (pl os (i : Int)))) (fun _ u8 _ => n - (intOf u8).toNat)
  case atStart => exact ⟨0, rfl, by omega, HB1.out⟩
  case round =>
    clear HB1
    obtain ⟨i, rfl, hi, hs⟩ := hrel
    by_cases hlt : i < n
    · have hlt' : (i : Int) < (n : Int) := by omega
      obtain ⟨o, ho⟩ : ∃ o, os[i]? = some o := ⟨_, List.getElem?_eq_getElem (by rw [HON.out]; exact hlt)⟩
      have hom := List.mem_of_getElem? ho
      obtain ⟨b, off, A4, c4, rfl, hb, hc0w, hc1w, hs4⟩ := HOB.out.at_ ho
      have HCELL := hide (fun (w2 : World) (hbel : Below w.heap.size w w2) => (show w2.cell? ⟨b, off + i * 2, none⟩ = some (.int .i64 o.1) ∧ w2.cell? ⟨b, off + i * 2 + 1, none⟩ = some (.slice A4 o.2.length c4) from
        ⟨(hbel.cell (p := ⟨b, off + i * 2, none⟩) (Nat.lt_of_lt_of_le hb (by rw [HP.out]; exact hC))).trans hc0w, (hbel.cell (p := ⟨b, off + i * 2 + 1, none⟩) (Nat.lt_of_lt_of_le hb (by rw [HP.out]; exact hC))).trans hc1w⟩))
      have c0 := (HCELL.out wr hs.solo.below).1
      have c1 := (HCELL.out wr hs.solo.below).2
      obtain ⟨hk0, hk1⟩ := HCUT.out.kd o hom
      have hw5 := HCUT.out.len o hom
      have htk : os.take (i + 1) = os.take i ++ [o] := by
        rw [List.take_add_one, ho]; rfl
      have hfl := cut_flat (os := os.take i) fun o ho => HCUT.out.len o (List.mem_of_mem_take ho)
      rw [List.length_take] at hfl
      have M := (hs.keeps ((Keeps.refl (fun _ => False) wr).drew)).make o.1 o.2.length (by simp [mayO]; omega) (by rw [zero_flat]; omega)
      rw [zero_flat, show zeroO (os.take i) ++ [(o.1, List.replicate o.2.length 0)] = zeroO (os.take (i + 1)) from by rw [htk]; unfold zeroO; rw [List.map_append]; rfl, ← pl_nat] at M
      have HM := hide M
      clear hs ho hom hc0w hc1w hs4 htk hfl M hb
      go_upto_region 6 with fail
      go_region_held3 (fun w' => w'.cell? ⟨b, off + i * 2, none⟩ = some (.int .i64 o.1) ∧ w'.cell? ⟨b, off + i * 2 + 1, none⟩ = some (.slice A4 o.2.length c4)) (go_keep)
        (first | (go_at_call 17; (with_reducible refine HM.out.mono ?_); rintro e w2 ⟨rfl, h2⟩; have d0 := (HCELL.out w2 h2.solo.below).1; have d1 := (HCELL.out w2 h2.solo.below).2; have h3 := h2.alloc (.cells #[.int .i64 (pl os (i : Int))] 3); have H3 := hide h3; have HRW := hide h3.row; have HSZ := hide h3.size; have HNS := hide (new_sees w2 #[.int .i64 (pl os (i : Int))] 3); clear h2 h3))
      go_wp2_with (at_builtin
                   refine wpList_append_sees _ rfl (.tmp 38) (.tmp 40) 41 rfl w.heap.size 3 i0 _ 8 Try.underlying41 HJ.out HZ0.out HZ1.out HZ2.out rfl _ i _ rfl HRW.out (w2.heap.size + 1) _ 1 1 _ rfl HNS.out (fun e => nomatch e) (by intro u hu; rcases List.mem_cons.1 hu with rfl | hu; exact rfl; exact (List.not_mem_nil hu).elim) (by unfold maxLen; omega) (by omega) HSZ.out ?_
                   intro v4 w4 hown4 hg4 hat4
                   have HE := hide (H3.out.grown (xs2 := (List.range (i + 1)).map fun i : Nat => Value.int .i64 (pl os (i : Int))) (by rw [List.range_succ, List.map_append]; exact hown4) hg4 hat4)
                   clear hown4 hg4 hat4)
      go_roundw
      case rel => exact ⟨i + 1, by go_num, by omega, HE.out⟩
      case measure => simp [intOf]; omega
    · obtain rfl : i = n := by omega
      rw [List.take_of_length_le (by rw [HON.out]; exact Nat.le_refl _), zero_fill] at hs
      have HS := hide hs
      obtain ⟨A7, c7, rfl, _⟩ := Sees.of_own hs.row
      clear hs
      go_wp2
      go_loopw [11] (fun u11 wq => ∃ j : Nat, u11 = .int .i64 (j : Int) ∧ j ≤ i ∧ Beside w wq p 300 (fill (laidO os) j 0) 3 (.slice A7 i c7) i ((List.range i).map fun i : Nat => Value.int .i64 (pl os (i : Int)))) (fun u11 _ => i - (intOf u11).toNat)
      case atStart => exact ⟨0, rfl, by omega, HS.out⟩
      case round =>
        clear HS
        obtain ⟨j, rfl, hj, hs⟩ := hrel
        by_cases hlt2 : j < i
        · have hlt' : (j : Int) < (i : Int) := by omega
          obtain ⟨o, ho⟩ : ∃ o, os[j]? = some o := ⟨_, List.getElem?_eq_getElem (by rw [HON.out]; exact hlt2)⟩
          have hom := List.mem_of_getElem? ho
          obtain ⟨b, off, A4, c4, rfl, hb, hc0w, hc1w, hs4⟩ := HOB.out.at_ ho
          have HCELL := hide (fun (w2 : World) (hbel : Below w.heap.size w w2) => (show w2.cell? ⟨b, off + j * 2, none⟩ = some (.int .i64 o.1) ∧ w2.cell? ⟨b, off + j * 2 + 1, none⟩ = some (.slice A4 o.2.length c4) from
            ⟨(hbel.cell (p := ⟨b, off + j * 2, none⟩) (Nat.lt_of_lt_of_le hb (by rw [HP.out]; exact hC))).trans hc0w, (hbel.cell (p := ⟨b, off + j * 2 + 1, none⟩) (Nat.lt_of_lt_of_le hb (by rw [HP.out]; exact hC))).trans hc1w⟩))
          obtain ⟨hk0, hk1⟩ := HCUT.out.kd o hom
          have hw5 := HCUT.out.len o hom
          have hlo : (laidO os)[j]? = some (o.1, o.2.mapIdx fun k x => laidW os o.1 k x) := by
            unfold laidO
            rw [List.getElem?_map, ho]
            rfl
          have HO := hide ho
          have HLO := hide hlo
          have HOM := hide hom
          have HS4 := hide hs4
          have HS := hide hs
          have hpl := pl_le HCUT.out (y := (j : Int))
          have hpg := pl_ge (os := os) (y := (j : Int)) (by omega)
          clear ho hom hc0w hc1w hs4 hlo hs hb
          go_wp2
          go_loopw [12] (fun u12 wq => ∃ k : Nat, u12 = .int .i64 (k : Int) ∧ k ≤ o.2.length ∧ Beside w wq p 300 (fill (laidO os) j k) 3 (.slice A7 i c7) i ((List.range i).map fun i : Nat => Value.int .i64 (pl os (i : Int)))) (fun u12 _ => o.2.length - (intOf u12).toNat)
          case atStart => exact ⟨0, rfl, by omega, HS.out⟩
          case round =>
            clear HS
            obtain ⟨k, rfl, hk, hs⟩ := hrel
            have c0 := (HCELL.out wr hs.solo.below).1
            have c1 := (HCELL.out wr hs.solo.below).2
            by_cases hkl : k < o.2.length
            · have hkl' : (k : Int) < (o.2.length : Int) := by omega
              obtain ⟨x, hx⟩ : ∃ x, o.2[k]? = some x := ⟨_, List.getElem?_eq_getElem hkl⟩
              obtain ⟨b6, off6, u6, rfl, hb6, hu6, hcell6⟩ := (HS4.out.below (w' := wr) (by have := hs.solo.below; exact this.mono (by rw [HP.out]; exact hC))).at_ hkl
              rw [List.getElem?_map, hx] at hu6
              cases hu6
              have RF := hide (refs_any o.1 k wr hk0 (by omega) (by omega))
              have hxm := List.mem_of_getElem? hx
              obtain ⟨hx1, hx2⟩ := HCUT.out.fine o HOM.out x hxm
              have hon20 : (os.length : Int) ≤ 20 := by rw [HON.out]; omega
              have hbd := laidW_bd HCUT.out HOM.out (k := k) hxm
              have hput := fill_put (full := laidO os) (i := j) (m := k) HLO.out (x := laidW os o.1 k x) (by rw [List.getElem?_mapIdx, hx]; rfl)
              rw [laid_flat, ← pl_nat] at hput
              have hin : (k : Int) < lenO (fill (laidO os) j k) (pl os (j : Int)) := by
                unfold lenO
                rw [pl_nat, ← laid_flat, fill_look HLO.out]
                simpa using hkl
              have P := hs.put (pl os (j : Int)) k (laidW os o.1 k x) hin
              rw [hput] at P
              have HPUT := hide P
              obtain ⟨A8, c8, he8, hA8⟩ := Sees.of_own hs.row
              cases he8
              obtain ⟨b7, off7, u7, hA7, _, hu7, hcell7⟩ := hA8.at_ hlt2
              subst hA7
              rw [List.getElem?_map, List.getElem?_range hlt2] at hu7
              cases hu7
              have HX1 := hide (fun (hx0 : 0 < x) => show wr.cell? ⟨b7, off7 + (x.toNat - 1), none⟩ = some (.int .i64 (pl os (x - 1))) from by
                obtain ⟨b9, off9, u9, h9, _, hu9, hc9⟩ := hA8.at_ (k := x.toNat - 1) (by have := HON.out; omega)
                cases h9
                rw [List.getElem?_map, List.getElem?_range (by have := HON.out; omega)] at hu9
                simp only [Option.map_some, Option.some.injEq] at hu9
                rw [hc9, ← hu9]
                congr 3
                omega)
              have HPB := hide (fun (hx0 : 0 < x) => show 0 ≤ pl os (x - 1) ∧ pl os (x - 1) ≤ 140 from ⟨pl_ge (by omega), pl_le HCUT.out⟩)
              clear hx hxm hput hin P hs hA8
              go_upto_if 72 with (go_at_call 32; (with_reducible refine RF.out.mono ?_); rintro e w' ⟨rfl, rfl⟩)
              go_cut [13] (fun u13 wx => u13 = .int .i64 (laidW os o.1 k x) ∧ wr = wx)
              case first =>
                cases hR : refB o.1 k
                · have HT := hide (show laidW os o.1 k x = x from by unfold laidW; rw [if_neg (fun h => by rw [hR] at h; exact absurd h.1 (by decide))])
                  clear hR
                  go_wp2_with fail
                  go_meet
                  exact ⟨by rw [HT.out], rfl⟩
                · by_cases hx0 : 0 < x
                  · have HT := hide (show laidW os o.1 k x = pl os (x - 1) + 1 from by unfold laidW; rw [if_pos ⟨hR, hx0⟩])
                    have hc9 := HX1.out hx0
                    obtain ⟨hp1, hp2⟩ := HPB.out hx0
                    have hx3 : 0 ≤ x - 1 := by omega
                    have hx4 : x - 1 < (i : Int) := by have := HON.out; omega
                    clear hR
                    generalize pl os (x - 1) = y at *
                    go_wp2_with fail
                    go_meet
                    exact ⟨by rw [HT.out], rfl⟩
                  · have HT := hide (show laidW os o.1 k x = x from by unfold laidW; rw [if_neg (fun h => hx0 h.2)])
                    clear hR
                    go_wp2_with fail
                    go_meet
                    exact ⟨by rw [HT.out], rfl⟩
              case rest =>
                obtain ⟨rfl, rfl⟩ := hcut
                obtain ⟨hl1, hl2⟩ := hbd
                generalize laidW os o.1 k x = y at *
                generalize pl os (j : Int) = z at *
                go_wp2_with (go_at_call 18; (with_reducible refine HPUT.out.mono ?_); rintro e w2 ⟨rfl, h2⟩; have H2 := hide h2; clear h2)
                go_roundw
                case rel => first | exact ⟨k + 1, by go_num, by omega, H2.out⟩ | ((repeat apply Exists.intro); exact ⟨⟨k + 1, by go_num, by omega, H2.out⟩, rfl⟩)
                case measure => simp [intOf]; omega
            · obtain rfl : k = o.2.length := by omega
              have hnx : fill (laidO os) j o.2.length = fill (laidO os) (j + 1) 0 := fill_next HLO.out (by simp)
              rw [hnx] at hs
              have HS := hide hs
              clear hs hnx
              go_wp2_with fail
              go_roundw
              case rel => exact ⟨j + 1, by go_num, by omega, HS.out⟩
              case measure => simp [intOf]; omega
        · obtain rfl : j = i := by omega
          rw [fill_all (laidO os) (by rw [laid_length, HON.out]; exact Nat.le_refl _)] at hs
          have HS := hide hs
          clear hs
          go_wp2
          go_ret2
          exact ⟨_, by rw [HP.out]; rfl, by rw [HP.out]; exact HS.out⟩
end Go.Proofs.Ytjjoelhemhnojaa
