/- The walk of cut. -/
import Derived.Test.YtjjoelhemhnojaaCopyK
import Derived.Test.YtjjoelhemhnojaaHeapM
set_option linter.unusedVariables false
namespace Go.Proofs.Ytjjoelhemhnojaa
open Go.RowKit Go.Instr
open Hp Cp

theorem Try.info56 : (Try.prog.info? 56).map (fun i => (i.zero, i.size, i.bytes)) = some (some (.agg #[.int .i64 0, .slice none 0 0]), 2, 32) := by kernel_rfl
def cutK (kd : Int) : Int := kd.tmod 50 % 50
def cutX (m : Nat) (x : Int) : Int := x.tmod ((m : Int) + 1) % ((m : Int) + 1)
def cutW (m : Nat) (ws : List Int) : List Int := (ws.take 5).map (cutX m)
def cutL (m : Nat) (os : List Hp.Ob) : List Hp.Ob := (os.take m).map fun o => (cutK o.1, cutW m o.2)
theorem cutK_bd (kd : Int) : 0 ≤ cutK kd ∧ cutK kd ≤ 49 := by unfold cutK; omega
theorem cutX_bd (m : Nat) (x : Int) : 0 ≤ cutX m x ∧ cutX m x ≤ (m : Int) := by
  unfold cutX
  have h1 := Int.emod_nonneg (x.tmod ((m : Int) + 1)) (show (m : Int) + 1 ≠ 0 by omega)
  have h2 := Int.emod_lt_of_pos (x.tmod ((m : Int) + 1)) (show (0 : Int) < (m : Int) + 1 by omega)
  omega
theorem cutX_walk (m : Nat) (x : Int) : (x.tmod ((m : Int) + 1) + (m : Int) + 1) % ((m : Int) + 1) = cutX m x := by
  unfold cutX
  rw [Int.add_assoc, Int.add_emod_right]
theorem tmod_bd (x d : Int) (hd : 0 < d) : -d < x.tmod d ∧ x.tmod d < d :=
  ⟨Int.lt_tmod_of_pos x hd, Int.tmod_lt_of_pos x hd⟩
theorem cutL_length (m : Nat) (os : List Hp.Ob) (h : m ≤ os.length) : (cutL m os).length = m := by
  unfold cutL; rw [List.length_map, List.length_take]; omega
theorem cutW_length (m : Nat) (ws : List Int) : (cutW m ws).length = min ws.length 5 := by
  unfold cutW; rw [List.length_map, List.length_take]; omega
theorem cutL_take (m : Nat) (os : List Hp.Ob) {i : Nat} {o : Hp.Ob} (hi : i < m) (ho : os[i]? = some o) : (cutL m os).take (i + 1) = (cutL m os).take i ++ [(cutK o.1, cutW m o.2)] := by
  have : (cutL m os)[i]? = some (cutK o.1, cutW m o.2) := by
    unfold cutL
    rw [List.getElem?_map, List.getElem?_take, if_pos hi, ho]; rfl
  rw [List.take_add_one, this]; rfl
theorem cutW_take (m : Nat) (ws : List Int) {k : Nat} {x : Int} (hk : k < 5) (hx : ws[k]? = some x) : (cutW m ws).take (k + 1) = (cutW m ws).take k ++ [cutX m x] := by
  have : (cutW m ws)[k]? = some (cutX m x) := by
    unfold cutW
    rw [List.getElem?_map, List.getElem?_take, if_pos hk, hx]; rfl
  rw [List.take_add_one, this]; rfl
def Wide (os : List Hp.Ob) : Prop := ∀ o ∈ os, (-9223372036854775808 ≤ o.1 ∧ o.1 ≤ 9223372036854775807) ∧ ∀ x ∈ o.2, -9223372036854775808 ≤ x ∧ x ≤ 9223372036854775807
theorem cut_cut (m : Nat) (os : List Hp.Ob) (h : m ≤ os.length) (h2 : m ≤ 20) : Cut (cutL m os) := by
  have hl := cutL_length m os h
  have hm : ∀ o ∈ cutL m os, ∃ p ∈ os, o = (cutK p.1, cutW m p.2) := by
    intro o ho
    unfold cutL at ho
    obtain ⟨p, hp, rfl⟩ := List.mem_map.1 ho
    exact ⟨p, List.mem_of_mem_take hp, rfl⟩
  refine ⟨?_, ?_, ?_, by omega⟩
  · intro o ho x hx
    obtain ⟨p, _, rfl⟩ := hm o ho
    obtain ⟨y, _, rfl⟩ := List.mem_map.1 hx
    rw [hl]
    exact cutX_bd m y
  · intro o ho
    obtain ⟨p, _, rfl⟩ := hm o ho
    exact cutK_bd p.1
  · intro o ho
    obtain ⟨p, _, rfl⟩ := hm o ho
    show (cutW m p.2).length ≤ 5
    rw [cutW_length]; omega
theorem own_same {w : World} {base size n : Nat} {e : TypeId} {v : Value} {xs ys : List Value} (h : w.ownsRow base e size v n xs) (k : w.ownsRow base e size v n ys) : xs = ys := by
  obtain ⟨h1, h2⟩ := h
  obtain ⟨k1, k2⟩ := k
  rcases h2 with ⟨rfl, rfl⟩ | ⟨g, cap, cur, rfl, hb, hh, hnc, hcm, hsz, ht⟩ <;> rcases k2 with ⟨e1, e2⟩ | ⟨g', cap', cur', e1, hb', hh', hnc', hcm', hsz', ht'⟩
  · have a : xs = [] := List.eq_nil_of_length_eq_zero (by simpa using h1)
    have b : ys = [] := List.eq_nil_of_length_eq_zero (by simpa using k1)
    rw [a, b]
  · cases e1
  · cases e1
  · cases e1
    rw [hh] at hh'
    cases hh'
    rw [← ht, ← ht']
theorem own_ltN {w : World} {base size n : Nat} {e : TypeId} {v : Value} {xs : List Value} (h : w.ownsRow base e size v n xs) : ∀ g, v.ownBlock = some g → g < w.heap.size := by
  intro g hg
  rcases h.2 with ⟨he, _⟩ | ⟨g', cap, cur', he, hb', hh, _⟩
  · rw [he] at hg; cases hg
  · rw [he] at hg
    cases hg
    exact lt_of_heap hh
theorem OneSt.set {w w2 : World} {T q : Nat} {kd : Int} {ov ov2 : Value} {ws ws2 : List Int} (h : OneSt w T q kd ov ws) (hp : w2.heap[q]? = w.heap[q]?) (ho : w2.ownsRow T 3 1 ov2 ws2.length (ws2.map (Value.int .i64))) : OneSt (w2.setCell ⟨q, 1, none⟩ ov2) T q kd ov2 ws2 := by
  have hh := hp.trans h.head
  refine ⟨heap_setCell_same w2 q 1 _ 56 _ hh, h.ge, ownsRow_kept ho fun g hg => Below.heap_setCell _ _ _ _ fun e => ?_⟩
  obtain ⟨cur, hc⟩ := own_type ho hg
  have e' : g = q := e
  subst e'
  rw [hh] at hc; cases hc
theorem add_lit0 (b off j : Nat) : (⟨b, off, none⟩ : Addr).add j = ⟨b, off + j, none⟩ := by unfold Addr.add; split <;> simp_all
theorem own_ge {w : World} {base size n : Nat} {e : TypeId} {v : Value} {xs : List Value} (h : w.ownsRow base e size v n xs) : ∀ g, v.ownBlock = some g → base ≤ g := by
  intro g hg
  rcases h.2 with ⟨he, _⟩ | ⟨g', cap, cur', he, hb', hh, _⟩
  · rw [he] at hg; cases hg
  · rw [he] at hg
    cases hg
    exact hb'
set_option maxHeartbeats 4000000 in
set_option maxRecDepth 100000 in
theorem cut29_any (w : World) (C : Nat) (A : Option Addr) (n cap : Nat) (os : List Hp.Ob) (hobs : ObsIn w C A n os) (hC : C ≤ w.heap.size) (hwide : Wide os) (hn : (n : Int) ≤ 9223372036854775807) (hws : ∀ o ∈ os, (o.2.length : Int) ≤ 9223372036854775807) :
    Calls Try.prog 29 #[.slice A n cap] w fun e w' => ∃ v T, e = .returned v ∧ CutSt w w' T v (cutL (min n 20) os) := by
  obtain ⟨i0, hi0, hz0, hz1, hz2⟩ := info_parts Try.info3c
  have HJ := hide hi0
  have HZ0 := hide hz0
  have HZ1 := hide hz1
  have HZ2 := hide hz2
  obtain ⟨i5, hi5, hy0, hy1, hy2⟩ := info_parts Try.info56
  have HI5 := hide hi5
  have HY0 := hide hy0
  have HY1 := hide hy1
  have HY2 := hide hy2
  have HOB := hide hobs
  have HWD := hide hwide
  have HWS := hide hws
  have HON := hide hobs.1
  clear hobs hwide hws hi0 hz0 hz1 hz2 hi5 hy0 hy1 hy2
  go_enter Try.func29, Try.ntmps29
  go_upto_region 1 with fail
  go_cut [3] (fun u3 wx => u3 = .int .i64 ((min n 20 : Nat) : Int) ∧ w = wx)
  case first =>
    go_wp2
    all_goals
      go_meet
      exact ⟨by congr 1; omega, rfl⟩
  case rest =>
  obtain ⟨rfl, rfl⟩ := hcut
  have hm20 : min n 20 ≤ 20 := by omega
  have hmn : min n 20 ≤ n := by omega
  generalize hmin : min n 20 = m at *
  have HMIN := hide hmin
  clear hmin
  have HB0 := hide (show CutSt w w w.heap.size (.slice none 0 0) (cutL 0 os) from ⟨⟨[], rfl, World.ownsRow_nil _ _ _ _, fun g hg => (by cases hg), fun i o v ho => (by simp [cutL] at ho)⟩, Below.refl _ _, Nat.le_refl _, Nat.le_refl _⟩)
  go_wp2
  go_loopw [4, 5] (fun u4 u5 wr => ∃ i : Nat, u5 = .int .i64 (i : Int) ∧ i ≤ m ∧ CutSt w wr wr.heap.size u4 ((cutL m os).take i)) (fun _ u5 _ => m - (intOf u5).toNat)
  case atStart => exact ⟨0, rfl, by omega, HB0.out⟩
  case round =>
    clear HB0
    obtain ⟨i, rfl, hi, hst⟩ := hrel
    by_cases hlt : i < m
    · have hlt' : (i : Int) < (m : Int) := by omega
      have hin : (i : Int) < (n : Int) := by omega
      obtain ⟨o, ho⟩ : ∃ o, os[i]? = some o := ⟨_, List.getElem?_eq_getElem (by rw [HON.out]; omega)⟩
      have hom := List.mem_of_getElem? ho
      obtain ⟨b, off, A4, c4, rfl, hb, hc0w, hc1w, hs4⟩ := HOB.out.at_ ho
      have HCELL := hide (fun (w2 : World) (hbel : Below w.heap.size w w2) => (show w2.cell? ⟨b, off + i * 2, none⟩ = some (.int .i64 o.1) ∧ w2.cell? ⟨b, off + i * 2 + 1, none⟩ = some (.slice A4 o.2.length c4) from
        ⟨(hbel.cell (p := ⟨b, off + i * 2, none⟩) (Nat.lt_of_lt_of_le hb hC)).trans hc0w, (hbel.cell (p := ⟨b, off + i * 2 + 1, none⟩) (Nat.lt_of_lt_of_le hb hC)).trans hc1w⟩))
      have c0 := (HCELL.out wr hst.below).1
      have c1 := (HCELL.out wr hst.below).2
      have hkw := HWD.out o hom
      obtain ⟨hk1, hk2⟩ := hkw.1
      obtain ⟨hkt1, hkt2⟩ := tmod_bd o.1 50 (by omega)
      have hlen := HWS.out o hom
      have hka : Keeps (fun _ => False) wr (wr.alloc (.cells #[.int .i64 (o.1.tmod 50 % 50), .slice none 0 0] 56)) := (Keeps.refl _ wr).alloc _
      have HST := hide (hst.none_ hka)
      have HONE := hide (show OneSt (wr.alloc (.cells #[.int .i64 (o.1.tmod 50 % 50), .slice none 0 0] 56)) wr.heap.size wr.heap.size (o.1.tmod 50 % 50) (.slice none 0 0) ((cutW m o.2).take 0) from ⟨heap_alloc_new wr _, Nat.le_refl _, World.ownsRow_nil _ _ _ _⟩)
      have HCK := hide (show cutK o.1 = o.1.tmod 50 % 50 from rfl)
      have HOM := hide hom
      have HO := hide ho
      have HS4 := hide hs4
      have HWX := hide hkw.2
      have HBW := hide (Nat.lt_of_lt_of_le hb hC)
      clear hst ho hom hb hc0w hc1w hs4 hkw hka
      go_upto_block 2 with fail
      generalize wr.alloc (.cells #[.int .i64 (o.1.tmod 50 % 50), .slice none 0 0] 56) = wa at *
      generalize (o.1.tmod 50 + 50) % 50 = kd2
      generalize o.1.tmod 50 % 50 = kd at *
      have HUP := hide (show ∀ w2 : World, CutSt w w2 wr.heap.size u4 ((cutL m os).take i) → w.heap.size ≤ wr.heap.size from fun w2 h => h.low)
      generalize wr.heap.size = q at *
      clear c0 c1
      have HWL := hide (cutW_length m o.2)
      go_wp2
      go_loopw [7] (fun u7 wq => ∃ (k : Nat) (ov : Value), u7 = .int .i64 (k : Int) ∧ k ≤ o.2.length ∧ k ≤ 5 ∧ CutSt w wq q u4 ((cutL m os).take i) ∧ OneSt wq q q kd ov ((cutW m o.2).take k)) (fun u7 _ => 5 - (intOf u7).toNat)
      case atStart => exact ⟨0, _, rfl, by omega, by omega, HST.out, HONE.out⟩
      case round =>
        clear HST HONE
        obtain ⟨k, ov, rfl, hk, hk5, hst, hone⟩ := hrel
        have c0 := (HCELL.out wr hst.below).1
        have c1 := (HCELL.out wr hst.below).2
        have q0 : wr.cell? ⟨q, 0, none⟩ = some (.int .i64 kd) := cell_of_row wr q 0 _ 56 (0, 0) hone.head
        have q1 : wr.cell? ⟨q, 1, none⟩ = some ov := cell_of_row wr q 1 _ 56 (0, 0) hone.head
        by_cases hkl : k < o.2.length ∧ k < 5
        · obtain ⟨hkk1, hk5'⟩ := hkl
          have hkl' : (k : Int) < (o.2.length : Int) := by omega
          have hk5i : (k : Int) < 5 := by omega
          have d1 : decide ((k : Int) < (o.2.length : Int)) = true := decide_eq_true hkl'
          have d2 : decide ((k : Int) < 5) = true := decide_eq_true hk5i
          obtain ⟨x, hx⟩ : ∃ x, o.2[k]? = some x := ⟨_, List.getElem?_eq_getElem hkk1⟩
          obtain ⟨b6, off6, u6, rfl, hb6, hu6, hcell6⟩ := (HS4.out.below (w' := wr) (hst.below.mono hC)).at_ hkk1
          rw [List.getElem?_map, hx] at hu6
          cases hu6
          obtain ⟨hx1, hx2⟩ := HWX.out x (List.mem_of_getElem? hx)
          obtain ⟨ht1, ht2⟩ := tmod_bd x ((m : Int) + 1) (by omega)
          have hct := cutW_take m o.2 hk5' hx
          have hz : ∀ j, wr.frozen? ⟨q, j, none⟩ = false := fun j => frozen_of_row wr q j _ 56 hone.head
          have hlk : ((cutW m o.2).take k).length = k := by rw [List.length_take, HWL.out]; omega
          rw [← cutX_walk m x, ← Int.tmod_eq_emod_of_nonneg (by omega)] at hct
          have hq1' : (wr.alloc (.cells #[.int .i64 ((x.tmod ((m : Int) + 1) + (m : Int) + 1).tmod ((m : Int) + 1))] 3)).cell? ⟨q, 1, none⟩ = some ov := (World.cell?_alloc_lt wr _ ⟨q, 1, none⟩ (lt_of_heap hone.head)).trans q1
          have HQS := hide (lt_of_heap hone.head)
          have hrow0 : wr.ownsRow q 3 1 ov k (((cutW m o.2).take k).map (Value.int .i64)) := by
            have := hone.row
            rw [hlk] at this
            exact this
          have HRGE := hide (own_ge hrow0)
          have HGE := hide (fun (j : Nat) (hj : j = q ∨ ov.ownBlock = some j) => (show q ≤ j from hj.elim (fun e => by omega) (HRGE.out j)))
          have HROW := hide ((hrow0.drew).alloc (.cells #[.int .i64 ((x.tmod ((m : Int) + 1) + (m : Int) + 1).tmod ((m : Int) + 1))] 3))
          have HN := hide (fun j u (hu : ([Value.int .i64 ((x.tmod ((m : Int) + 1) + (m : Int) + 1).tmod ((m : Int) + 1))] : List Value)[j]? = some u) => show (wr.drew.alloc (.cells #[.int .i64 ((x.tmod ((m : Int) + 1) + (m : Int) + 1).tmod ((m : Int) + 1))] 3)).cell? ((⟨wr.heap.size, 0, none⟩ : Addr).add j) = some u from by
            rw [add_lit0, Nat.zero_add]
            have := World.cell?_alloc_mark wr.drew #[.int .i64 ((x.tmod ((m : Int) + 1) + (m : Int) + 1).tmod ((m : Int) + 1))] 3 (0, 0) j
            rw [show wr.drew.heap.size = wr.heap.size from rfl] at this
            rw [this, ← Array.getElem?_toList]
            exact hu)
          have HONE := hide hone
          have HST := hide hst
          have HCT := hide hct
          have HLK := hide hlk
          clear hone hst hct hlk hrow0 hx
          have hw1 : IntKind.i64.wrap ((m : Int) + 1) = (m : Int) + 1 := IntWalk.i64_in _ (by omega)
          have hw0 : ¬ ((m : Int) + 1 = 0) := by omega
          have hw2 : IntKind.i64.wrap (x.tmod ((m : Int) + 1) + (m : Int)) = x.tmod ((m : Int) + 1) + (m : Int) := IntWalk.i64_in _ (by omega)
          have hw3 : IntKind.i64.wrap (x.tmod ((m : Int) + 1) + (m : Int) + 1) = x.tmod ((m : Int) + 1) + (m : Int) + 1 := IntWalk.i64_in _ (by omega)
          go_upto_region 10 with fail
          go_region_law (refine step_append_lies _ rfl (.tmp 40) (.tmp 58) 41 rfl q 3 i0 _ 1 8 Try.underlying41 HJ.out HZ0.out HZ1.out HZ2.out (by rfl) (by omega) ov k (((cutW m o.2).take k).map (Value.int .i64)) (by rfl) HROW.out ⟨wr.heap.size, 0, none⟩ 1 1 [.int .i64 ((x.tmod ((m : Int) + 1) + (m : Int) + 1).tmod ((m : Int) + 1))] (by rfl) (by rfl) HN.out (by intro u hu; simp at hu; subst hu; rfl) (by omega) (by unfold maxLen; omega) (by omega) (by simp; have := HST.out.top; omega) _ rfl ?_; intro g cap w2 hown hg hat hlt; have hp2 : w2.heap[q]? = wr.heap[q]? := (hg.block q (by have := HQS.out; simp; omega) (fun e => HONE.out.apart e.symm)).trans (Below.heap_alloc wr.drew _ q HQS.out); have q1' : w2.cell? ⟨q, 1, none⟩ = some ov := (World.cell?_of_block hp2).trans q1; have q2 : w2.frozen? ⟨q, 1, none⟩ = false := frozen_of_row w2 q 1 _ 56 (hp2.trans HONE.out.head); have HE := hide (HONE.out.set hp2 (ws2 := (cutW m o.2).take (k + 1)) (show w2.ownsRow q 3 1 (.slice (some ⟨g, 0, none⟩) (k + 1) cap) ((cutW m o.2).take (k + 1)).length (((cutW m o.2).take (k + 1)).map (Value.int .i64)) from by rw [HCT.out, List.length_append, HLK.out, List.map_append]; exact hown)); have HK := hide (HST.out.keeps ((((Keeps.refl (fun j => j = q ∨ ov.ownBlock = some j) wr).alloc (.cells #[.int .i64 ((x.tmod ((m : Int) + 1) + (m : Int) + 1).tmod ((m : Int) + 1))] 3)).drew.grown hg (fun g hg _ => .inr hg)).setCell (q := ⟨q, 1, none⟩) (fun _ => .inl rfl) (.slice (some ⟨g, 0, none⟩) (k + 1) cap)) HGE.out))
          all_goals go_wp2
          all_goals
            go_roundw
            case rel => exact ⟨k + 1, _, by go_num, by omega, by omega, HK.out, HE.out⟩
            case measure => simp [intOf]; omega
        · have hkk : (o.2.length ≤ k ∨ (k = 5 ∧ 5 < o.2.length)) := by omega
          have hkge : (cutW m o.2).length ≤ k := by rw [HWL.out]; omega
          rw [List.take_of_length_le hkge] at hone
          have hlo : ((cutL m os).take i).length = i := by rw [List.length_take, cutL_length _ _ (by rw [HON.out]; exact hmn)]; omega
          have HTK := hide (cutL_take m os hlt HO.out)
          rw [HCK.out] at HTK
          obtain ⟨A7, c7, rfl, _⟩ := Sees.of_own hone.row
          have hka : Keeps (fun _ => False) wr (wr.alloc (.cells #[.int .i64 kd, .slice A7 (cutW m o.2).length c7] 56)) := (Keeps.refl _ wr).alloc _
          have HONE := hide (hone.none_ hka)
          have HST := hide (hst.none_ hka)
          have HSZ := hide (HST.out.below.size)
          obtain ⟨vs, hvl, hrow, _⟩ := HST.out.ex
          have HROW := hide hrow
          rw [hlo] at hrow
          have HROWI := hide hrow
          have HNS := hide (new_sees wr #[.int .i64 kd, .slice A7 (cutW m o.2).length c7] 56)
          have hi20 : i < 20 := by omega
          clear hone hst hka hvl hrow hkge
          have HLO := hide hlo
          clear hlo
          rcases hkk with hge | ⟨rfl, hge⟩
          all_goals
            go_wp2_with (at_builtin
                         refine wpList_append_seesN _ rfl (.tmp 61) (.tmp 63) 48 rfl w.heap.size 56 i5 _ 2 32 Try.underlying48 HI5.out HY0.out HY1.out HY2.out rfl (by omega) _ i _ rfl HROWI.out (wr.heap.size + 1) _ 1 1 _ rfl HNS.out (fun e => nomatch e) (by intro u hu; rcases List.mem_cons.1 hu with rfl | hu; exact rfl; rcases List.mem_cons.1 hu with rfl | hu; exact rfl; exact (List.not_mem_nil hu).elim) (by unfold maxLen; omega) (by omega) HSZ.out ?_
                         intro v4 w4 hown4 hg4 hat4
                         have HE := hide (HST.out.add (w' := w4) (v2 := v4) HONE.out (fun vs' hl' ho' => by rw [own_same ho' HROW.out, HLO.out]; exact hown4) hg4 (.inr (own_ltN hown4)))
                         rw [← HTK.out] at HE
                         clear hown4 hg4 hat4)
            go_roundw
            case rel => exact ⟨i + 1, by go_num, by omega, HE.out⟩
            case measure => simp [intOf]; omega
    · obtain rfl : i = m := by omega
      rw [List.take_of_length_le (by rw [cutL_length _ _ (by rw [HON.out]; exact hmn)]; exact Nat.le_refl _)] at hst
      have HST := hide hst
      clear hst
      go_wp2
      go_ret
      exact ⟨_, _, rfl, by rw [HMIN.out]; exact HST.out⟩
end Go.Proofs.Ytjjoelhemhnojaa
