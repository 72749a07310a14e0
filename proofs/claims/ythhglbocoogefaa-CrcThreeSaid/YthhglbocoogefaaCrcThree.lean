/- The walk of CrcThree: whatever comes in, the call returns true and leaves what was there as it was. Conditions: none but the row's own reading of its arguments. -/
import Derived.Test.YthhglbocoogefaaCrcWalk
import Derived.Deep.DeepCutAuto
import Derived.Deep.RegionWith
namespace Go.Proofs.Ythhglbocoogefaa
open Go.RowKit Crc

def mix3 (x y : BitVec 32) : BitVec 32 := x ^^^ y
theorem k_xorW (x y : BitVec 32) : bits .xor .u32 (W x) (W y) = W (mix3 x y) := k_xor x y
theorem quiet_l {P : Program} {f : FuncId} {args : Array Value} {w : World} {n : Nat} {v : Value}
    (h : Calls P f args (w.drewN n) fun e w' => e = .returned v ∧ w.drewN n = w') : Calls P f args (w.drewN n) fun e w'' => e = .returned v ∧ ∃ m, w'' = w.drewN m :=
  h.mono fun _ _ ⟨he, hm⟩ => ⟨he, n, hm.symm⟩
theorem made_one (v : Value) (n : Nat) (hv : v.cells = #[v]) : (madeCells v.cells (n * 1)).toList = List.replicate n v := by
  rw [hv]
  refine List.ext_getElem (by simp [madeCells]) fun i h1 h2 => ?_
  simp [madeCells, Nat.mod_one]
set_option maxHeartbeats 1000000 in
theorem crcThree_walk (a0 : Option Addr) (len0 cap0 : Nat) (z0 : List Int) (a1 : Option Addr) (len1 cap1 : Nat) (z1 : List Int) (a2 : Option Addr) (len2 cap2 : Nat) (z2 : List Int) (w : World) (w0 : IsRow .u8 w a0 len0 cap0 z0) (w1 : IsRow .u8 w a1 len1 cap1 z1) (w2 : IsRow .u8 w a2 len2 cap2 z2) :
    Calls Try.prog 8 #[.slice a0 len0 cap0, .slice a1 len1 cap1, .slice a2 len2 cap2] w fun e w' => e = .returned (.bool true) ∧ Below w.heap.size w w' := by
  obtain ⟨hc0, hm0, hn0, l0, hl0, hs0⟩ := w0.bytes
  obtain ⟨hc1, hm1, hn1, l1, hl1, hs1⟩ := w1.bytes
  obtain ⟨hc2, hm2, hn2, l2, hl2, hs2⟩ := w2.bytes
  clear w0 w1 w2
  unfold maxLen at hm0 hm1 hm2
  have HL0 := hide hl0
  have HL1 := hide hl1
  have HL2 := hide hl2
  clear hn0 hn1 hn2 hl0 hl1 hl2
  go_enter Try.func8, Try.ntmps8
  go_wp2_with fail
  refine (begun_any _).mono ?_
  rintro e w1 ⟨rfl, hb1⟩
  have hsa := hs0.below hb1
  have hsb := hs1.below hb1
  have hsc := hs2.below hb1
  clear hs0 hs1 hs2
  go_upto_region 4 with fail
  go_cut [8] (fun s wx => ∃ n : Nat, s = .int .i64 n ∧ n ≤ 100 ∧ n ≤ len0 ∧ n ≤ len1 ∧ n ≤ len2 ∧ wx = w1)
  case first =>
    by_cases h1 : len2 < len1
    all_goals by_cases h2 : 100 < len0
    all_goals go_wp2
    all_goals go_meet
    all_goals (refine ⟨min (min len0 100) (min len1 len2), val_int ?_, by omega, by omega, by omega, by omega, rfl⟩)
    all_goals omega
  case rest =>
    obtain ⟨n, rfl, hn, hna, hnb, hnc, rfl⟩ := hcut
    obtain ⟨i0, hi0, hz0, hzz1, hz2⟩ := info_parts Try.info5
    have HI := hide hi0
    have HZ0 := hide hz0
    have HZ1 := hide hzz1
    have HZ2 := hide hz2
    clear hi0 hz0 hzz1 hz2
    have hsa' := hsa.upTo hna
    have hsb' := hsb.upTo hnb
    have hsc' := hsc.upTo hnc
    rw [bvs_take] at hsa' hsb' hsc'
    generalize l0.take n = x at *
    generalize l1.take n = y at *
    generalize l2.take n = z at *
    clear hsa hsb hsc
    go_wp2_with (at_make; refine wpList_make_full _ rfl (.tmp 23) (.tmp 23) 24 rfl w.heap.size 5 i0 _ 1 Try.underlying24 HI.out HZ0.out HZ1.out .i64 .i64 (n : Int) (n : Int) n rfl rfl rfl rfl (by rw [HZ2.out]; omega) (by unfold maxLen; omega) hb1.size ?_; intro w2 hown hg2)
    have ex : ∃ d : List (BitVec 8), d.length = n ∧ w2.ownsRow w.heap.size 5 1 (.slice (some ⟨wc.heap.size, 0, none⟩) n n) n (bvs d) := by
      refine ⟨List.replicate n 0#8, by simp, ?_⟩
      have e : (madeCells (Value.int .u8 0).cells (n * 1)).toList = bvs (List.replicate n 0#8) := by
        rw [made_one _ _ rfl]
        simp [bvs]
      rw [← e]
      exact hown
    obtain ⟨d0, hd0, ho⟩ := ex
    have hge := hb1.size
    have hb2 : Below w.heap.size w w2 := hb1.grown hg2 hb1.size (by simp)
    have hb12 : Below w.heap.size wc w2 := (Below.refl w.heap.size wc).grown hg2 hb1.size (by simp)
    have hsa := hsa'.below hb12
    have hsb := hsb'.below hb12
    have hsc := hsc'.below hb12
    clear hsa' hsb' hsc' hg2 hb12 hown hb1 HI HZ0 HZ1 HZ2
    generalize wc.heap.size = g at *
    go_loopw [10] (fun i wr => ∃ k : Nat, k ≤ n ∧ i = .int .i64 k ∧ Below w.heap.size w wr ∧ Sees wr w.heap.size a0 n (bvs x) ∧ Sees wr w.heap.size a1 n (bvs y) ∧ Sees wr w.heap.size a2 n (bvs z) ∧
      ∃ d : List (BitVec 8), d.length = n ∧ (∀ i, i < k → d.getD i 0#8 = x.getD i 0#8 ^^^ y.getD i 0#8 ^^^ z.getD i 0#8) ∧ wr.ownsRow w.heap.size 5 1 (.slice (some ⟨g, 0, none⟩) n n) n (bvs d)) (fun i _ => n - (intOf i).toNat)
    case atStart => exact ⟨0, by omega, rfl, hb2, hsa, hsb, hsc, d0, hd0, (fun i hi => by omega), ho⟩
    case round =>
      obtain ⟨k, hk, rfl, hbr, hsar, hsbr, hscr, d, hd, hdx, hor⟩ := hrel
      clear hb2 hsa hsb hsc ho
      have HD := hide hd
      have HDX := hide hdx
      clear hd hdx
      have hlx := hide hsar.1
      have hly := hide hsbr.1
      have hlz := hide hscr.1
      by_cases hlt : k < n
      · obtain ⟨b0, o0, u0', e0, hb0, hu0, hc0⟩ := hsar.at_ hlt
        obtain ⟨b1, o1, u1', e1, hb1, hu1, hc1⟩ := hsbr.at_ hlt
        obtain ⟨b2, o2, u2', e2, hb2, hu2, hc2⟩ := hscr.at_ hlt
        subst e0 e1 e2
        rw [bvs_get _ _ (by have := hlx.out; rw [bvs_length] at this; omega)] at hu0
        rw [bvs_get _ _ (by have := hly.out; rw [bvs_length] at this; omega)] at hu1
        rw [bvs_get _ _ (by have := hlz.out; rw [bvs_length] at this; omega)] at hu2
        cases hu0; cases hu1; cases hu2
        have hset : xor8 (xor8 (x.getD k 0#8) (y.getD k 0#8)) (z.getD k 0#8) = x.getD k 0#8 ^^^ y.getD k 0#8 ^^^ z.getD k 0#8 := rfl
        have HSET := hide hset
        clear hset
        generalize hcx : x.getD k 0#8 = cx at hc0 HSET
        generalize hcy : y.getD k 0#8 = cy at hc1 HSET
        generalize hcz : z.getD k 0#8 = cz at hc2 HSET
        have HX := hide hcx
        have HY := hide hcy
        have HZ := hide hcz
        clear hcx hcy hcz
        have k1 := k_xor8 cx cy
        have k2 := k_xor8 (xor8 cx cy) cz
        have hcg := hor.cellAt k (by omega)
        rw [bvs_get _ k (by rw [HD.out]; exact hlt)] at hcg
        have hfg := hor.frozenAt k
        generalize (d.getD k 0#8) = cd at hcg
        have hst := hide (hor.stored k (.int .u8 ((xor8 (xor8 cx cy) cz).toNat : Int)))
        go_wp2
        go_region
        go_wp2
        go_roundw
        case rel =>
          refine ⟨k + 1, by omega, by go_num, bel_drew (hbr.setCell hge _), (hsar.setCell hge _).drew, (hsbr.setCell hge _).drew, (hscr.setCell hge _).drew,
            d.set k (xor8 (xor8 cx cy) cz), by rw [List.length_set, HD.out], fun i hi => ?_, World.ownsRow.drew ?_⟩
          · rw [List.getD_eq_getElem?_getD, List.getElem?_set]
            by_cases hik : k = i
            · subst hik
              rw [if_pos rfl, if_pos (by rw [HD.out]; exact hlt), Option.getD_some, HX.out, HY.out, HZ.out]
              exact HSET.out
            · rw [if_neg hik, ← List.getD_eq_getElem?_getD]
              exact HDX.out i (by omega)
          · have h1 := hst.out.1
            rwa [bvs_set] at h1
        case measure => simp [intOf]; omega
      · obtain rfl : k = n := by omega
        obtain ⟨A3, c3, hv3, hs3⟩ := Sees.of_own hor
        cases hv3
        have hl1 : x.length = k := by have := hlx.out; rwa [bvs_length] at this
        have hl2 : y.length = k := by have := hly.out; rwa [bvs_length] at this
        have hl3 : z.length = k := by have := hlz.out; rwa [bvs_length] at this
        have h3 := hide (sum_three x y z d (by rw [hl1, HD.out]) (by rw [hl2, HD.out]) (by rw [hl3, HD.out]) (by rw [HD.out]; exact HDX.out))
        clear hl1 hl2 hl3 hor
        have kx := k_xorW (sum x) (sum y)
        have kz := k_xorW (mix3 (sum x) (sum y)) (sum z)
        have hml : k ≤ maxLen := by unfold maxLen; omega
        have hA0 := hide hsar
        have hA1 := hide hsbr
        have hA2 := hide hscr
        have hA3 := hide hs3
        clear hsar hsbr hscr hs3
        go_wp2
        go_quiet ((first
          | (go_at_call_of 16 (Value.slice (some ⟨g, 0, none⟩) k k); exact quiet_l (sum_any _ _ _ _ _ _ (hA3.out.drewN _) hml))
          | (go_at_call_of 16 (Value.slice a0 k cap0); exact quiet_l (sum_any _ _ _ _ _ _ (hA0.out.drewN _) hml))
          | (go_at_call_of 16 (Value.slice a1 k cap1); exact quiet_l (sum_any _ _ _ _ _ _ (hA1.out.drewN _) hml))
          | (go_at_call_of 16 (Value.slice a2 k cap2); exact quiet_l (sum_any _ _ _ _ _ _ (hA2.out.drewN _) hml))))
        go_wp2
        go_ret
        refine ⟨?_, bel_drewN hbr _⟩
        show Ending.returned (.bool (W (sum d) == W (mix3 (mix3 (sum x) (sum y)) (sum z)))) = _
        rw [h3.out]
        simp [mix3]
end Go.Proofs.Ythhglbocoogefaa
