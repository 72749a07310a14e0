/- The walks of once and order. -/
import Derived.Test.YtjjoelhemhnojaaCopyH
set_option linter.unusedVariables false
namespace Go.Proofs.Ytjjoelhemhnojaa
open Go.RowKit Go.Instr
open Hp Cp

theorem once42_any (w : World) (B : Nat) (v : Value) (L : List Int) (x : Int) (hown : w.ownsRow B 3 1 v L.length (L.map (Value.int .i64))) (hB : B ≤ w.heap.size) (hn : L.length ≤ 100000) :
    Calls Try.prog 42 #[v, .int .i64 x] w fun e w' => ∃ v', e = .returned v' ∧ w'.ownsRow B 3 1 v' (onceI L x).length ((onceI L x).map (Value.int .i64)) ∧ Keeps (fun k => v.ownBlock = some k) w w' ∧ (∀ g, v'.ownBlock = some g → v.ownBlock = some g ∨ w.heap.size ≤ g) := by
  obtain ⟨A, c, rfl, hA⟩ := Sees.of_own hown
  have P := hide (place35_any w w.heap.size A L.length c L x hA (by omega))
  have hmem := idxI_mem L x
  have hbd := (idxI_bd L x).1
  obtain ⟨i0, hi0, hz0, hz1, hz2⟩ := info_parts Try.info3c
  have HJ := hide hi0
  have HZ0 := hide hz0
  have HZ1 := hide hz1
  have HZ2 := hide hz2
  have HO := hide hown
  have hka : Keeps (fun _ => False) w (w.alloc (.cells #[.int .i64 x] 3)) := (Keeps.refl _ w).alloc _
  have HRA := hide (ownsRow_kept hown fun g hg => hka.block g (own_lt hown hg) id)
  have HNS := hide (new_sees w #[.int .i64 x] 3)
  have HSZ := hide (show B ≤ (w.alloc (.cells #[.int .i64 x] 3)).heap.size from Nat.le_trans hB hka.size)
  have HKA := hide hka
  clear hi0 hz0 hz1 hz2 hA hown hka
  by_cases hx : x < 0
  · have he : onceI L x = L := by unfold onceI; rw [if_pos (.inl hx)]
    have HE := hide he
    clear he hmem
    go_enter Try.func42, Try.ntmps42
    go_wp2_with fail
    go_ret
    exact ⟨_, rfl, by rw [HE.out]; exact HO.out, Keeps.refl _ _, fun g hg => .inl hg⟩
  · have hx0 : 0 ≤ x := by omega
    by_cases hin : x ∈ L
    · have he : onceI L x = L := by unfold onceI; rw [if_pos (.inr hin)]
      rw [decide_eq_true hin] at hmem
      have HE := hide he
      clear he hin
      generalize idxI L x = r at *
      go_enter Try.func42, Try.ntmps42
      go_wp2_with (go_at_call 35; (with_reducible refine P.out.mono ?_); rintro e w' ⟨rfl, rfl⟩)
      go_ret
      exact ⟨_, rfl, by rw [HE.out]; exact HO.out, Keeps.refl _ _, fun g hg => .inl hg⟩
    · have he : onceI L x = L ++ [x] := by unfold onceI; rw [if_neg (by simp [hin]; omega)]
      rw [decide_eq_false hin] at hmem
      have HE := hide he
      clear he hin
      generalize idxI L x = r at *
      go_enter Try.func42, Try.ntmps42
      go_wp2_with (first
        | (go_at_call 35; (with_reducible refine P.out.mono ?_); rintro e w' ⟨rfl, rfl⟩)
        | (at_builtin
           refine wpList_append_sees _ rfl (.tmp 14) (.tmp 16) 41 rfl B 3 i0 _ 8 Try.underlying41 HJ.out HZ0.out HZ1.out HZ2.out rfl _ L.length _ rfl HRA.out (w.heap.size + 1) _ 1 1 _ rfl HNS.out (fun e => nomatch e) (by intro u hu; rcases List.mem_cons.1 hu with rfl | hu; exact rfl; exact (List.not_mem_nil hu).elim) (by unfold maxLen; omega) (by omega) HSZ.out ?_
           intro v4 w4 hown4 hg4 hat4
           have HO4 := hide hown4
           have HK4 := hide ((HKA.out.more (G := fun k => (Value.slice A L.length c).ownBlock = some k) fun _ _ h => h.elim).grown hg4 fun g hg _ => hg)
           have HA4 := hide hat4
           clear hown4 hg4 hat4))
      go_ret
      refine ⟨v4, rfl, ?_, HK4.out, fun g hg => ?_⟩
      · rw [HE.out, List.length_append, List.map_append]
        exact HO4.out
      · rcases HA4.out with h | h
        · exact .inl (h.symm.trans hg)
        · rw [h] at hg
          cases hg
          exact .inr HKA.out.size
/-- Kinds and words as the laws make them. -/
structure Cut (os : List Hp.Ob) : Prop where
  fine : Fine os
  kd : ∀ o ∈ os, 0 ≤ o.1 ∧ o.1 ≤ 49
  len : ∀ o ∈ os, o.2.length ≤ 5
  few : os.length ≤ 20
def PendI (os : List Hp.Ob) (F L : List Int) (i : Nat) (ps : List Int) : Prop := ∃ f, f + i = os.length ∧ F = growI os f i (ps.foldl onceI L)
theorem onceI_pre (L : List Int) (x : Int) : L <+: onceI L x := by
  unfold onceI; split
  · exact List.prefix_refl _
  · exact List.prefix_append _ _
theorem foldI_pre (xs : List Int) : ∀ L, L <+: xs.foldl onceI L := by
  induction xs with
  | nil => intro L; exact List.prefix_refl _
  | cons x xs ih => intro L; exact (onceI_pre L x).trans (ih _)
theorem growI_pre (os : List Hp.Ob) : ∀ (f i : Nat) (L : List Int), L <+: growI os f i L := by
  intro f
  induction f with
  | zero => intro i L; exact List.prefix_refl _
  | succ f ih =>
    intro i L
    unfold growI
    split
    · exact List.prefix_refl _
    · exact (foldI_pre _ L).trans (ih _ _)
theorem PendI.pre {os : List Hp.Ob} {F L ps : List Int} {i : Nat} (h : PendI os F L i ps) : L <+: F := by
  obtain ⟨f, _, rfl⟩ := h
  exact (foldI_pre ps L).trans (growI_pre os f i _)
theorem order_len {os : List Hp.Ob} (hc : Fine os) {rs : List Int} (hr : ∀ y ∈ rs, y < (os.length : Int)) : (orderI os rs).length ≤ os.length := by
  have h := (good_le (laidO os) _ (live_good (laidO os) refB (rs.map (pl os)))).1
  rw [(live_map hc hr).1, List.length_map, laid_length] at h
  exact h
theorem PendI.next {os : List Hp.Ob} {F L : List Int} {i : Nat} {y : Int} (hF : F.length ≤ os.length) (h : PendI os F L i []) (hi : L[i]? = some y) : PendI os F L (i + 1) (kids refB (objI os y).1 0 (objI os y).2) := by
  have hp := h.pre.length_le
  obtain ⟨f, hf, he⟩ := h
  have hlt : i < L.length := (List.getElem?_eq_some_iff.1 hi).1
  obtain ⟨g, rfl⟩ : ∃ g, f = g + 1 := ⟨f - 1, by omega⟩
  refine ⟨g, by omega, ?_⟩
  rw [he, List.foldl_nil, growI, hi]
theorem PendI.done {os : List Hp.Ob} {F L : List Int} {i : Nat} (h : PendI os F L i []) (hi : L.length ≤ i) : F = L := by
  obtain ⟨f, hf, he⟩ := h
  rw [he]
  show growI os f i L = L
  cases f with
  | zero => rfl
  | succ f => unfold growI; rw [List.getElem?_eq_none hi]
/-- The list so far, in a row of the call's own. -/
structure OrdSt (w w' : World) (os : List Hp.Ob) (F L : List Int) (i : Nat) (ps : List Int) (v : Value) : Prop where
  pend : PendI os F L i ps
  row : w'.ownsRow w.heap.size 3 1 v L.length (L.map (Value.int .i64))
  kept : Keeps (fun _ => False) w w'
theorem OrdSt.none_ {w w1 w2 : World} {os : List Hp.Ob} {F L ps : List Int} {i : Nat} {v : Value} (h : OrdSt w w1 os F L i ps v) (hk : Keeps (fun _ => False) w1 w2) : OrdSt w w2 os F L i ps v :=
  ⟨h.pend, ownsRow_kept h.row fun g hg => hk.block g (own_lt h.row hg) id, h.kept.trans hk⟩
theorem OrdSt.once {w w1 : World} {os : List Hp.Ob} {F L ps : List Int} {i : Nat} {v : Value} {x : Int} (h : OrdSt w w1 os F L i (x :: ps) v) (hn : L.length ≤ 100000) :
    Calls Try.prog 42 #[v, .int .i64 x] w1 fun e w2 => ∃ v', e = .returned v' ∧ OrdSt w w2 os F (onceI L x) i ps v' ∧ Keeps (fun k => v.ownBlock = some k) w1 w2 := by
  refine (once42_any w1 w.heap.size v L x h.row h.kept.size hn).mono ?_
  rintro e w2 ⟨v', rfl, ho, hk, hv⟩
  exact ⟨v', rfl, ⟨h.pend, ho, h.kept.then_ hk fun k hk' hg => by have := ownBlock_ge h.row k hg; omega⟩, hk⟩
set_option maxHeartbeats 4000000 in
set_option maxRecDepth 100000 in
theorem order34_any (w : World) (C : Nat) (A : Option Addr) (n cap : Nat) (os : List Hp.Ob) (hobs : ObsIn w C A n os) (hC : C ≤ w.heap.size) (hcut : Cut os) (C2 : Nat) (A2 : Option Addr) (n2 cap2 : Nat) (rs : List Int) (hrs : Sees w C2 A2 n2 (rs.map (Value.int .i64))) (hC2 : C2 ≤ w.heap.size) (hn2 : n2 ≤ 1000) (hr : ∀ y ∈ rs, -1 ≤ y ∧ y < (os.length : Int)) :
    Calls Try.prog 34 #[.slice A n cap, .slice A2 n2 cap2] w fun e w' => ∃ v, e = .returned v ∧ w'.ownsRow w.heap.size 3 1 v (orderI os rs).length ((orderI os rs).map (Value.int .i64)) ∧ Keeps (fun _ => False) w w' := by
  have hlen := order_len hcut.fine fun y hy => (hr y hy).2
  have HL := hide hlen
  have HOB := hide hobs
  have HRS := hide hrs
  have HCUT := hide hcut
  have HR := hide hr
  have hrl : rs.length = n2 := by have := hrs.1; simpa using this
  have HRL := hide hrl
  have hbig := hcut.few
  have HIN := hide (live_map hcut.fine (rs := rs) (fun y hy => (hr y hy).2)).2
  have HST := hide (show OrdSt w w os (orderI os rs) [] 0 rs (.slice none 0 0) from ⟨⟨os.length, rfl, rfl⟩, World.ownsRow_nil _ _ _ _, Keeps.refl _ _⟩)
  generalize orderI os rs = F at *
  clear hobs hrs hcut hrl hr hlen
  go_enter Try.func34, Try.ntmps34
  go_wp2
  go_loopw [5, 6] (fun u5 u6 wr => ∃ (r : Nat) (L : List Int), u6 = .int .i64 (r : Int) ∧ r ≤ n2 ∧ OrdSt w wr os F L 0 (rs.drop r) u5) (fun _ u6 _ => n2 - (intOf u6).toNat)
  case atStart => exact ⟨0, [], rfl, by omega, HST.out⟩
  case round =>
    clear HST
    obtain ⟨r, L, rfl, hr, hst⟩ := hrel
    by_cases hlt : r < n2
    · have hlt' : (r : Int) < (n2 : Int) := by omega
      obtain ⟨b, off, u, rfl, hb, hu, hcell⟩ := (HRS.out.below (hst.kept.below hC2 fun _ => False.elim)).at_ hlt
      have hrl : r < rs.length := by rw [HRL.out]; exact hlt
      rw [List.getElem?_map, List.getElem?_eq_getElem hrl] at hu
      simp only [Option.map_some, Option.some.injEq] at hu
      subst hu
      have hdr : rs.drop r = rs[r] :: rs.drop (r + 1) := List.drop_eq_getElem_cons hrl
      rw [hdr] at hst
      generalize rs[r] = y at *
      have P := hide (hst.once (by have := hst.pend.pre.length_le; have := HL.out; omega))
      clear hst hdr hrl
      go_wp2_with (go_at_call 42; (with_reducible refine P.out.mono ?_); rintro e w2 ⟨v2, rfl, h2, _⟩; have H2 := hide h2; clear h2)
      go_roundw
      case rel => exact ⟨r + 1, _, by go_num, by omega, H2.out⟩
      case measure => simp [intOf]; omega
    · obtain rfl : r = n2 := by omega
      rw [List.drop_of_length_le (by rw [HRL.out]; exact Nat.le_refl _)] at hst
      have HST := hide hst
      clear hst
      go_wp2
      go_loopw [5, 7] (fun u5 u7 wq => ∃ (i : Nat) (L : List Int), u7 = .int .i64 (i : Int) ∧ i ≤ L.length ∧ OrdSt w wq os F L i [] u5) (fun _ u7 _ => os.length - (intOf u7).toNat)
      case atStart => exact ⟨0, L, rfl, by omega, HST.out⟩
      case round =>
        clear HST
        obtain ⟨i, L2, rfl, hi, hst⟩ := hrel
        have hLF := hst.pend.pre
        have hLl := hLF.length_le
        have hFl := HL.out
        obtain ⟨A3, c3, rfl, hA3⟩ := Sees.of_own hst.row
        by_cases hiL : i < L2.length
        · have hiL' : (i : Int) < (L2.length : Int) := by omega
          have hb20 : (L2.length : Int) ≤ 20 := by omega
          obtain ⟨b3, off3, u3, rfl, hb3, hu3, hcell3⟩ := hA3.at_ hiL
          have hj := List.getElem?_eq_getElem hiL
          rw [List.getElem?_map, hj] at hu3
          simp only [Option.map_some, Option.some.injEq] at hu3
          subst hu3
          generalize L2[i] = y at *
          have hyN := HIN.out y (hLF.subset (List.mem_of_getElem? hj))
          obtain ⟨jj, rfl⟩ := Int.eq_ofNat_of_zero_le hyN.1
          have hjl : jj < os.length := by omega
          obtain ⟨o, ho⟩ : ∃ o, os[jj]? = some o := ⟨_, List.getElem?_eq_getElem hjl⟩
          have hon : os.length = n := HOB.out.1
          have hjn : (jj : Int) < (n : Int) := by omega
          have hoi : objI os (jj : Int) = o := by
            unfold objI
            rw [List.getD_eq_getElem?_getD, show ((jj : Nat) : Int).toNat = jj from rfl, ho]
            rfl
          obtain ⟨b, off, A4, c4, rfl, hb, hc0w, hc1w, hs4⟩ := HOB.out.at_ ho
          have hbel := hst.kept.below hC fun _ => False.elim
          have hc0 := (hbel.cell (p := ⟨b, off + jj * 2, none⟩) hb).trans hc0w
          have hc1 := (hbel.cell (p := ⟨b, off + jj * 2 + 1, none⟩) hb).trans hc1w
          have hom := List.mem_of_getElem? ho
          obtain ⟨hk0, hk1⟩ := HCUT.out.kd o hom
          have hi1 := HCUT.out.fine o hom
          have hw5 := HCUT.out.len o hom
          have hnx := hst.pend.next HL.out hj
          rw [hoi] at hnx
          have hka : Keeps (fun _ => False) wr (wr.alloc (.cells #[.int .i64 o.1, .slice A4 o.2.length c4] 56)) := (Keeps.refl _ wr).alloc _
          have HST2 := hide (show OrdSt w (wr.alloc (.cells #[.int .i64 o.1, .slice A4 o.2.length c4] 56)) os F L2 (i + 1) (kids refB o.1 0 o.2) (.slice (some ⟨b3, off3, none⟩) L2.length c3) from ⟨hnx, (hst.none_ hka).row, (hst.none_ hka).kept⟩)
          have HQ := hide (heap_alloc_new wr (Go.Obj.cells #[.int .i64 o.1, .slice A4 o.2.length c4] 56))
          have HLI := hide hLl
          clear hst hLF hA3 hj hyN ho hoi hom hnx hka hb hb3 hbel hc0w hc1w
          have HS4 := hide hs4
          have HIL := hide hi1
          clear hs4 hi1
          go_upto_block 4 with fail
          generalize wr.alloc (.cells #[.int .i64 o.1, .slice A4 o.2.length c4] 56) = wa at *
          generalize wr.heap.size = q at *
          go_wp2
          go_loopw [5, 9] (fun u5 u9 wq => ∃ (k : Nat) (L3 : List Int), u9 = .int .i64 (k : Int) ∧ k ≤ o.2.length ∧ i < L3.length ∧ OrdSt w wq os F L3 (i + 1) (kids refB o.1 k (o.2.drop k)) u5 ∧ wq.heap[q]? = some (Go.Obj.cells #[.int .i64 o.1, .slice A4 o.2.length c4] 56 (0, 0))) (fun _ u9 _ => o.2.length - (intOf u9).toNat)
          case atStart => exact ⟨0, L2, rfl, by omega, hiL, HST2.out, HQ.out⟩
          case round =>
            clear HST2 HQ
            obtain ⟨k, L3, rfl, hk, hi3, hst3, hq⟩ := hrel
            have c0 : wr.cell? ⟨q, 0, none⟩ = some (.int .i64 o.1) := cell_of_row wr q 0 _ 56 (0, 0) hq
            have c1 : wr.cell? ⟨q, 1, none⟩ = some (.slice A4 o.2.length c4) := cell_of_row wr q 1 _ 56 (0, 0) hq
            have HQ := hide hq
            by_cases hkl : k < o.2.length
            · have hkl' : (k : Int) < (o.2.length : Int) := by omega
              obtain ⟨x, hx⟩ : ∃ x, o.2[k]? = some x := ⟨_, List.getElem?_eq_getElem hkl⟩
              have hkd := kids_drop refB o.1 o.2 hx
              obtain ⟨b6, off6, u6, rfl, hb6, hu6, hcell6⟩ := (HS4.out.below (hst3.kept.below hC fun _ => False.elim)).at_ hkl
              rw [List.getElem?_map, hx] at hu6
              cases hu6
              have RF := hide (refs_any o.1 k wr hk0 (by omega) (by omega))
              have hxb := HIL.out x (List.mem_of_getElem? hx)
              obtain ⟨hx1, hx2⟩ := hxb
              rw [hkd] at hst3
              have hlb := hst3.pend.pre.length_le
              have HLB := hide hlb
              clear hx hkd hlb hq
              cases hR : refB o.1 k
              · rw [hR] at RF
                rw [if_neg (by rw [hR]; decide)] at hst3
                have HST3 := hide hst3
                clear hst3 hR
                go_wp2_with (go_at_call 32; (with_reducible refine RF.out.mono ?_); rintro e w' ⟨rfl, rfl⟩)
                go_roundw
                case rel => exact ⟨k + 1, L3, by go_num, by omega, hi3, HST3.out, HQ.out⟩
                case measure => simp [intOf]; omega
              · rw [hR] at RF
                rw [if_pos hR] at hst3
                have P := hide (hst3.once (by have := HL.out; have := HLB.out; omega))
                have HROW := hide hst3.row
                clear hst3 hR
                go_wp2_with (first
                  | (go_at_call 32; (with_reducible refine RF.out.mono ?_); rintro e w' ⟨rfl, rfl⟩)
                  | (go_at_call 42; (with_reducible refine P.out.mono ?_); rintro e w2 ⟨v2, rfl, h2, k2⟩
                     have hq2 := (k2.block q (lt_of_heap HQ.out) (fun e => by obtain ⟨cur, hc⟩ := own_type HROW.out e; rw [HQ.out] at hc; cases hc)).trans HQ.out
                     have H2 := hide h2
                     have HQ2 := hide hq2
                     clear h2 k2 hq2))
                go_roundw
                case rel => exact ⟨k + 1, _, by go_num, by omega, by have := (onceI_pre L3 (x - 1)).length_le; omega, H2.out, HQ2.out⟩
                case measure => simp [intOf]; omega
            · obtain rfl : k = o.2.length := by omega
              rw [kids_end refB o.1 o.2 (Nat.le_refl _)] at hst3
              have hlb := hst3.pend.pre.length_le
              have hlb2 := HL.out
              have HST3 := hide hst3
              clear hst3 hq
              go_wp2_with fail
              go_roundw
              case rel => exact ⟨i + 1, L3, by go_num, by omega, HST3.out⟩
              case measure => simp [intOf]; omega
        · have hE := hst.pend.done (by omega)
          have HE := hide hE
          have HST := hide hst
          obtain rfl : i = L2.length := by omega
          clear hst hE hLF hA3
          go_wp2
          go_ret
          exact ⟨_, rfl, by rw [HE.out]; exact HST.out.row, HST.out.kept⟩
end Go.Proofs.Ytjjoelhemhnojaa
