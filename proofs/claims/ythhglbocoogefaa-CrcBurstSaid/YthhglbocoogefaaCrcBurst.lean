/- The walk of CrcBurst: whatever comes in, the call returns true and leaves what was there as it was. Conditions: none but the row's own reading of its arguments. -/
import Derived.Test.YthhglbocoogefaaCrcWalk
namespace Go.Proofs.Ythhglbocoogefaa
open Go.RowKit Crc

theorem byte_ne (c : BitVec 8) : (((c.toNat : Nat) : Int) != 0) = (c != 0#8) := by
  rw [Bool.eq_iff_iff]
  simp only [bne_iff_ne, ne_eq]
  refine not_congr ⟨fun h => BitVec.eq_of_toNat_eq (by simpa using h), fun h => by rw [h]; rfl⟩

set_option maxHeartbeats 1000000 in
theorem crcBurst_walk (a0 : Option Addr) (len0 cap0 : Nat) (z0 : List Int) (a1 : Int) (a2 : Option Addr) (len2 cap2 : Nat) (z2 : List Int) (w : World) (w0 : IsRow .u8 w a0 len0 cap0 z0) (w1 : (Lit.int .i64 a1).wf = true) (w2 : IsRow .u8 w a2 len2 cap2 z2) :
    Calls Try.prog 5 #[.slice a0 len0 cap0, .int .i64 a1, .slice a2 len2 cap2] w fun e w' => e = .returned (.bool true) ∧ Below w.heap.size w w' := by
  obtain ⟨hc0, hm0, hn0, l0, hl0, hs0⟩ := w0.bytes
  obtain ⟨hc1, hm1, hn1, l1, hl1, hs1⟩ := w2.bytes
  have hwf := bounds_i64 w1
  clear w0 w1 w2
  have HA := hide hn0
  have HL0 := hide hl0
  have HL1 := hide hl1
  clear hn0 hn1 hl0 hl1
  go_enter Try.func5, Try.ntmps5
  go_wp2_with fail
  refine (begun_any _).mono ?_
  rintro e w1 ⟨rfl, hb1⟩
  go_wp2_with fail
  refine (short_any a0 len0 cap0 200 _ _ _ (hs0.below hb1) hm0 hc0 (by omega)).mono ?_
  rintro e w' ⟨rfl, rfl⟩
  go_wp2_with fail
  refine (short_any a2 len2 cap2 4 _ _ _ (hs1.below hb1) hm1 hc1 (by omega)).mono ?_
  rintro e w' ⟨rfl, rfl⟩
  have hsa := ((hs0.below hb1).upTo (Nat.min_le_left len0 200))
  have hsb := ((hs1.below hb1).upTo (Nat.min_le_left len2 4))
  rw [bvs_take] at hsa hsb
  have hm3 := Nat.min_le_right len0 200
  have hm4 := Nat.min_le_right len2 4
  generalize min len0 200 = n0 at *
  generalize min len2 4 = n2 at *
  generalize l0.take n0 = x0 at *
  generalize l1.take n2 = x1 at *
  clear hs0 hs1
  go_wp2_with fail
  go_loop [8, 9] (fun v i => ∃ k : Nat, k ≤ n2 ∧ i = .int .i64 k ∧ v = .bool (nz (x1.take k))) (fun _ i => n2 - (intOf i).toNat)
  case atStart => exact ⟨0, Nat.zero_le _, rfl, rfl⟩
  case round =>
    obtain ⟨k, hk, rfl, rfl⟩ := hrel
    by_cases hlt : k < n2
    · obtain ⟨b, off, u, rfl, hb, hu, hc⟩ := hsb.at_ hlt
      obtain ⟨c8, hu8, rfl⟩ := bvs_at hu
      have hnz := hide (nz_take x1 k c8 hu8)
      clear hu hu8
      have hb8 := hide (byte_ne c8)
      cases hq : nz (x1.take k)
      all_goals
        have HQ := hide hq
        clear hq
        go_wp2
        go_round
        case rel => exact ⟨k + 1, by omega, by go_num, by first | (rw [hnz.out, HQ.out, hb8.out]; rfl) | (rw [hnz.out, HQ.out]; rfl)⟩
        case measure => simp [intOf]; omega
    · obtain rfl : k = n2 := by omega
      have hl1 : x1.length = k := by have := hsb.1; rwa [bvs_length] at this
      have hl0 : x0.length = n0 := by have := hsa.1; rwa [bvs_length] at this
      have htk : x1.take k = x1 := List.take_of_length_le (by omega)
      rw [htk]
      clear htk
      have HL0 := hide hl0
      have HL1 := hide hl1
      clear hl0 hl1
      by_cases hA : a1 < 0
      · go_wp2
        go_ret
        exact ⟨rfl, hb1⟩
      · by_cases hB : (n0 : Int) - (k : Int) < a1
        · go_wp2
          go_ret
          exact ⟨rfl, hb1⟩
        · cases hq : nz x1
          · clear hq
            have h1 : decide (a1 < 0) = false := by simpa using hA
            have h2 : decide ((n0 : Int) - (k : Int) < a1) = false := by simpa using hB
            go_wp2
            go_ret
            exact ⟨rfl, hb1⟩
          · have HQ := hide hq
            clear hq
            obtain ⟨m, rfl⟩ := Int.eq_ofNat_of_zero_le (show 0 ≤ a1 by omega)
            have hmk : m + k ≤ n0 := by omega
            have hk1 : 1 ≤ k := by
              rcases Nat.eq_zero_or_pos k with h0 | h0
              · exfalso
                have hl := HL1.out
                rw [h0] at hl
                have hq := HQ.out
                rw [List.eq_nil_of_length_eq_zero hl] at hq
                cases hq
              · exact h0
            obtain ⟨i0, hi0, hz0, hz1, hz2⟩ := info_parts Try.info5
            have HI := hide hi0
            have HZ0 := hide hz0
            have HZ1 := hide hz1
            have HZ2 := hide hz2
            clear hi0 hz0 hz1 hz2
            go_wp2_with (at_builtin; refine wpList_append_sees _ rfl (.const (.slice none 0 0)) (.tmp 48) 24 rfl w.heap.size 5 i0 _ 1 Try.underlying24 HI.out HZ0.out HZ1.out HZ2.out rfl (.slice none 0 0) 0 [] rfl ⟨rfl, .inl ⟨rfl, rfl⟩⟩ w.heap.size a0 n0 cap0 _ rfl hsa HA.out (bvs_one _) (by unfold maxLen; omega) (by omega) hb1.size ?_; intro v1 w2 hown2 hg2 hat2)
            have hb2 : Below w.heap.size w w2 := hb1.grown hg2 hb1.size (by simp [Value.ownBlock])
            have hb12 : Below w.heap.size w1 w2 := (Below.refl w.heap.size w1).grown hg2 hb1.size (by simp [Value.ownBlock])
            have hsa2 := hsa.below hb12
            have hsb2 := hsb.below hb12
            have ex : ∃ g cap, v1 = .slice (some ⟨g, 0, none⟩) n0 cap ∧ w.heap.size ≤ g ∧ w2.ownsRow w.heap.size 5 1 (.slice (some ⟨g, 0, none⟩) n0 cap) n0 (bvs x0) := by
              obtain ⟨g, cap, hv, hx⟩ := hown2.form (by omega)
              rw [Nat.zero_add] at hv
              subst hv
              exact ⟨g, cap, rfl, ownBlock_ge hown2 g rfl, by simpa using hown2⟩
            obtain ⟨g, cap, rfl, hge, hown⟩ := ex
            clear hsa hsb hg2 hat2 hown2 hb12 hb1
            go_wp2_with fail
            go_loopw [11] (fun i wr => ∃ j : Nat, j ≤ k ∧ i = .int .i64 j ∧ Below w.heap.size w wr ∧ Sees wr w.heap.size a0 n0 (bvs x0) ∧ Sees wr w.heap.size a2 k (bvs x1) ∧ wr.ownsRow w.heap.size 5 1 (.slice (some ⟨g, 0, none⟩) n0 cap) n0 (bvs (burst x0 x1 m j))) (fun i _ => k - (intOf i).toNat)
            case atStart => exact ⟨0, Nat.zero_le _, rfl, hb2, hsa2, hsb2, hown⟩
            case round =>
              obtain ⟨j, hj, rfl, hbr, hsar, hsbr, hownr⟩ := hrel
              clear hsa2 hsb2 hown hb2
              by_cases hlt : j < k
              · obtain ⟨b, off, u, rfl, hb, hu, hc⟩ := hsbr.at_ hlt
                rw [bvs_get x1 j (by rw [HL1.out]; exact hlt)] at hu
                cases hu
                have hcg := hownr.cellAt (m + j) (by omega)
                rw [bvs_get _ (m + j) (by rw [burst_length, HL0.out]; omega)] at hcg
                have hfg := hownr.frozenAt (m + j)
                have hset : burst x0 x1 m (j + 1) = (burst x0 x1 m j).set (m + j) (xor8 ((burst x0 x1 m j).getD (m + j) 0#8) (x1.getD j 0#8)) := rfl
                generalize (burst x0 x1 m j).getD (m + j) 0#8 = c1 at *
                generalize x1.getD j 0#8 = c2 at *
                have HSET := hide hset
                clear hset
                have hk8 := k_xor8 c1 c2
                have hst := hide (hownr.stored (m + j) (.int .u8 ((xor8 c1 c2).toNat : Int)))
                have e1 : (m : Int) + (j : Int) < (n0 : Int) := by omega
                have e2 : (j : Int) < (k : Int) := by omega
                go_wp2
                go_region
                go_wp2
                go_roundw
                case rel =>
                  refine ⟨j + 1, by omega, by go_num, bel_drew (hbr.setCell hge _), (hsar.setCell hge _).drew, (hsbr.setCell hge _).drew, World.ownsRow.drew ?_⟩
                  have h1 := hst.out.1
                  rw [bvs_set, ← HSET.out] at h1
                  exact h1
                case measure => simp [intOf]; omega
              · obtain rfl : j = k := by omega
                obtain ⟨A3, c3, hv3, hs3⟩ := Sees.of_own hownr
                cases hv3
                have hne := hide (W_ne (burst_turns x0 x1 m (by rw [HL0.out, HL1.out]; exact hmk) (by rw [HL1.out]; exact hm4) HQ.out))
                rw [HL1.out] at hne
                clear hownr
                go_wp2_with fail
                refine (sum_any _ _ _ _ _ _ hsar (by unfold maxLen; omega)).mono ?_
                rintro e w' ⟨rfl, rfl⟩
                go_wp2_with fail
                refine (sum_any _ _ _ _ _ _ hs3 (by unfold maxLen; omega)).mono ?_
                rintro e w' ⟨rfl, rfl⟩
                go_wp2_with fail
                go_ret
                refine ⟨?_, hbr⟩
                rw [hne.out]
                rfl
end Go.Proofs.Ythhglbocoogefaa
