/- The walk of CrcOne: whatever comes in, the call returns true and leaves what was there as it was. Conditions: none but the row's own reading of its arguments. -/
import Derived.Test.YthhglbocoogefaaCrcWalk
import Derived.Deep.DeepCutAuto
namespace Go.Proofs.Ythhglbocoogefaa
open Go.RowKit Crc

theorem ret_bool {a b : Bool} (h : a = b) : Ending.returned (.bool a) = .returned (.bool b) := by rw [h]
theorem k_bit8 (c : BitVec 8) (j : Nat) (hj : j < 8) : bits .xor .u8 (c.toNat : Int) (2 ^ j % 256) = ((xor8 c (1#8 <<< j)).toNat : Int) := by
  rw [← k_xor8]
  congr 1
  match j, hj with
  | 0, _ => rfl
  | 1, _ => rfl
  | 2, _ => rfl
  | 3, _ => rfl
  | 4, _ => rfl
  | 5, _ => rfl
  | 6, _ => rfl
  | 7, _ => rfl
set_option maxHeartbeats 1000000 in
theorem crcOne_walk (a0 : Option Addr) (len0 cap0 : Nat) (z0 : List Int) (a1 : Int) (a2 : Int) (w : World) (w0 : IsRow .u8 w a0 len0 cap0 z0) (w1 : (Lit.int .i64 a1).wf = true) (w2 : (Lit.int .i64 a2).wf = true) :
    Calls Try.prog 6 #[.slice a0 len0 cap0, .int .i64 a1, .int .i64 a2] w fun e w' => e = .returned (.bool true) ∧ Below w.heap.size w w' := by
  obtain ⟨hc0, hm0, hn0, l0, hl0, hs0⟩ := w0.bytes
  have hwf1 := bounds_i64 w1
  have hwf2 := bounds_i64 w2
  clear w0 w1 w2
  unfold maxLen at hm0
  have HA := hide hn0
  have HL0 := hide hl0
  clear hn0 hl0
  go_enter Try.func6, Try.ntmps6
  go_wp2_with fail
  refine (begun_any _).mono ?_
  rintro e w1 ⟨rfl, hb1⟩
  have hs1 := hs0.below hb1
  clear hs0
  go_upto_if 15 with fail
  go_cut [0] (fun s0 wx => ∃ n : Nat, s0 = .slice a0 n cap0 ∧ n ≤ 100 ∧ n ≤ cap0 ∧ wx = w1 ∧ ∃ x, Sees w1 w.heap.size a0 n (bvs x))
  case first =>
    by_cases h100 : 100 < len0
    · go_wp2
      go_meet
      exact ⟨100, rfl, by omega, by omega, rfl, l0.take 100, by rw [← bvs_take]; exact hs1.upTo (by omega)⟩
    · go_wp2
      go_meet
      exact ⟨len0, rfl, by omega, by omega, rfl, l0, hs1⟩
  case rest =>
    obtain ⟨n, rfl, hn, hnc, rfl, x, hx⟩ := hcut
    clear hs1
    have hx1 := hide hx.1
    by_cases hz : n = 0
    · subst hz
      go_wp2
      go_ret
      exact ⟨rfl, hb1⟩
    have hz1 : ((n : Int) == 0) = false := by simp; omega
    by_cases hA : a1 < 0
    · go_wp2
      go_ret
      exact ⟨rfl, hb1⟩
    by_cases hB : a2 < 0
    · go_wp2
      go_ret
      exact ⟨rfl, hb1⟩
    obtain ⟨p, rfl⟩ := Int.eq_ofNat_of_zero_le (show 0 ≤ a1 by omega)
    obtain ⟨q, rfl⟩ := Int.eq_ofNat_of_zero_le (show 0 ≤ a2 by omega)
    have h8 : ((8 * (n : Int)) == 0) = false := by simp; omega
    have e8 : (8 : Int) * (n : Int) ≤ 800 := by omega
    have e9 : (0 : Int) < (8 : Int) * (n : Int) := by omega
    clear hA hB
    go_wp2
    go_quiet (fail)
    have hP : ∃ P : Nat, (p : Int) % (8 * (n : Int)) = (P : Int) ∧ P < 8 * n := by
      have h1 := Int.emod_nonneg (p : Int) (b := 8 * (n : Int)) (by omega)
      have h2 := Int.emod_lt_of_pos (p : Int) e9
      exact ⟨((p : Int) % (8 * (n : Int))).toNat, by omega, by omega⟩
    have hQ : ∃ Q : Nat, (q : Int) % (8 * (n : Int)) = (Q : Int) ∧ Q < 8 * n := by
      have h1 := Int.emod_nonneg (q : Int) (b := 8 * (n : Int)) (by omega)
      have h2 := Int.emod_lt_of_pos (q : Int) e9
      exact ⟨((q : Int) % (8 * (n : Int))).toNat, by omega, by omega⟩
    obtain ⟨P, hP, hPl⟩ := hP
    obtain ⟨Q, hQ, hQl⟩ := hQ
    rw [hP, hQ]
    clear hP hQ h8 e8 e9
    obtain ⟨i0, hi0, hz0, hzz1, hz2⟩ := info_parts Try.info5
    have HI := hide hi0
    have HZ0 := hide hz0
    have HZ1 := hide hzz1
    have HZ2 := hide hz2
    clear hi0 hz0 hzz1 hz2
    have hbq : Below w.heap.size w (wc.drewN nq) := bel_drewN hb1 nq
    go_wp2_with (first
      | (at_builtin; refine wpList_append_sees _ rfl (.const (.slice none 0 0)) (.tmp 39) 24 rfl w.heap.size 5 i0 _ 1 Try.underlying24 HI.out HZ0.out HZ1.out HZ2.out rfl (.slice none 0 0) 0 [] rfl ⟨rfl, .inl ⟨rfl, rfl⟩⟩ w.heap.size a0 n cap0 _ rfl (hx.drewN nq) HA.out (bvs_one _) (by unfold maxLen; omega) (by omega) hb1.size ?_; intro v1 w2 hown2 hg2 hat2; have hb2 : Below w.heap.size w w2 := hbq.grown hg2 hb1.size (by simp [Value.ownBlock]))
      | (at_builtin; refine wpList_append_sees _ rfl (.const (.slice none 0 0)) (.tmp 41) 24 rfl w.heap.size 5 i0 _ 1 Try.underlying24 HI.out HZ0.out HZ1.out HZ2.out rfl (.slice none 0 0) 0 [] rfl ⟨rfl, .inl ⟨rfl, rfl⟩⟩ w.heap.size a0 n cap0 _ rfl ((hx.drewN nq).grown hg2 hb1.size (by simp [Value.ownBlock])) HA.out (bvs_one _) (by unfold maxLen; omega) (by omega) hb2.size ?_; intro v2 w3 hown3 hg3 hat3; have hb3 : Below w.heap.size w w3 := hb2.grown hg3 hb2.size (by simp [Value.ownBlock])))
    have ex : ∃ g1 cap1 g2 cap2, v1 = .slice (some ⟨g1, 0, none⟩) n cap1 ∧ v2 = .slice (some ⟨g2, 0, none⟩) n cap2 ∧ g1 ≠ g2 ∧ w.heap.size ≤ g1 ∧ w.heap.size ≤ g2 ∧
        w3.ownsRow w.heap.size 5 1 (.slice (some ⟨g1, 0, none⟩) n cap1) n (bvs x) ∧ w3.ownsRow w.heap.size 5 1 (.slice (some ⟨g2, 0, none⟩) n cap2) n (bvs x) := by
      obtain ⟨g1, cap1, hv1, _⟩ := hown2.form (by omega)
      obtain ⟨g2, cap2, hv2, _⟩ := hown3.form (by omega)
      rw [Nat.zero_add] at hv1 hv2
      subst hv1
      subst hv2
      have hl := hown2.lt g1 rfl
      have h2 : g2 = w2.heap.size := by simpa [Value.ownBlock] using hat3
      refine ⟨g1, cap1, g2, cap2, rfl, rfl, by omega, hl.1, ownBlock_ge hown3 g2 rfl, ?_, by simpa using hown3⟩
      have := hown2.kept hg3 (.inr (by simp [Value.ownBlock]))
      simpa using this
    obtain ⟨g1, cap1, g2, cap2, rfl, rfl, hg12, hge1, hge2, ho1, ho2⟩ := ex
    have hx3 : Sees w3 w.heap.size a0 n (bvs x) := ((hx.drewN nq).grown hg2 hb1.size (by simp [Value.ownBlock])).grown hg3 hb2.size (by simp [Value.ownBlock])
    clear hown2 hown3 hg2 hg3 hat2 hat3 hx hb1 hb2 hbq
    obtain ⟨D, hD, hDn, HD⟩ : ∃ D : Nat, (P : Int) / 8 = (D : Int) ∧ D < n ∧ Hid (D = P / 8) := ⟨P / 8, by omega, by omega, hide rfl⟩
    have hc1 := ho1.cellAt D (by omega)
    have hf1 := ho1.frozenAt D
    rw [bvs_get _ D (by have := hx1.out; rw [bvs_length] at this; omega)] at hc1
    have hset1 : flip x P = x.set D (xor8 (x.getD D 0#8) (1#8 <<< (P % 8))) := by rw [HD.out]; rfl
    generalize x.getD D 0#8 = c1 at *
    have HSET1 := hide hset1
    clear hset1
    obtain ⟨E, hE, hEn, HE⟩ : ∃ E : Nat, (Q : Int) / 8 = (E : Int) ∧ E < n ∧ Hid (E = Q / 8) := ⟨Q / 8, by omega, by omega, hide rfl⟩
    have hc2 := ho2.cellAt E (by omega)
    have hf2 := ho2.frozenAt E
    rw [bvs_get _ E (by have := hx1.out; rw [bvs_length] at this; omega)] at hc2
    have hset2 : flip x Q = x.set E (xor8 (x.getD E 0#8) (1#8 <<< (Q % 8))) := by rw [HE.out]; rfl
    generalize x.getD E 0#8 = c2 at *
    have HSET2 := hide hset2
    clear hset2
    have hb1' := k_bit8 c1 (P % 8) (by omega)
    have hb2' := k_bit8 c2 (Q % 8) (by omega)
    go_wp2_with fail
    rw [hD]
    go_simp
    go_wp2_with fail
    have hlx : x.length = n := by have := hx1.out; rwa [bvs_length] at this
    have hne := hide (W_ne (flip_turns x P (by omega)))
    have hal := hide (flip_alike x P Q (by omega) (by omega) (by omega))
    have ex : ∃ w4, (w3.setCell ⟨g1, D, none⟩ (.int .u8 ((xor8 c1 (1#8 <<< (P % 8))).toNat : Int))).setCell ⟨g2, E, none⟩ (.int .u8 ((xor8 c2 (1#8 <<< (Q % 8))).toNat : Int)) = w4 ∧
        Below w.heap.size w w4 ∧ Sees w4 w.heap.size a0 n (bvs x) ∧ Sees w4 w4.heap.size (some ⟨g1, 0, none⟩) n (bvs (flip x P)) ∧ Sees w4 w4.heap.size (some ⟨g2, 0, none⟩) n (bvs (flip x Q)) := by
      have hs1 := ho1.stored D (.int .u8 ((xor8 c1 (1#8 <<< (P % 8))).toNat : Int))
      have h21 := ho2.kept hs1.2 (.inr (by simp [Value.ownBlock]; omega))
      have hs2 := h21.stored E (.int .u8 ((xor8 c2 (1#8 <<< (Q % 8))).toNat : Int))
      have h12 := hs1.1.kept hs2.2 (.inr (by simp [Value.ownBlock]; omega))
      refine ⟨_, rfl, (hb3.setCell hge1 _).setCell hge2 _, (hx3.setCell hge1 _).setCell hge2 _, ?_, ?_⟩
      · obtain ⟨A, c, hv, hs⟩ := Sees.of_own h12
        cases hv
        rwa [bvs_set, ← HSET1.out] at hs
      · obtain ⟨A, c, hv, hs⟩ := Sees.of_own hs2.1
        cases hv
        rwa [bvs_set, ← HSET2.out] at hs
    obtain ⟨w4, hw4, hb4, hx4, hy4, hz4⟩ := ex
    rw [hw4]
    clear hw4 hb3 hx3 ho1 ho2 hc1 hc2 hf1 hf2 hb1' hb2' hD hE
    refine (sum_any _ _ _ _ _ _ hy4 (by unfold maxLen; omega)).mono ?_
    rintro e w' ⟨rfl, rfl⟩
    go_wp2_with fail
    refine (sum_any _ _ _ _ _ _ hx4 (by unfold maxLen; omega)).mono ?_
    rintro e w' ⟨rfl, rfl⟩
    have hne' := hne.out
    go_wp2_with fail
    refine (sum_any _ _ _ _ _ _ hy4 (by unfold maxLen; omega)).mono ?_
    rintro e w' ⟨rfl, rfl⟩
    go_wp2_with fail
    refine (sum_any _ _ _ _ _ _ hz4 (by unfold maxLen; omega)).mono ?_
    rintro e w' ⟨rfl, rfl⟩
    go_wp2_with fail
    go_ret
    refine ⟨ret_bool ?_, hb4⟩
    by_cases hPQ : P = Q
    · subst hPQ
      simp
    · have h1 : ((P : Int) == (Q : Int)) = false := by
        simp only [beq_eq_false_iff_ne, ne_eq]
        omega
      have h2 : (W (sum (flip x P)) == W (sum (flip x Q))) = false := by
        simp only [beq_eq_false_iff_ne]
        exact fun e => hPQ (hal.out.1 (W_inj e))
      show (((P : Int) == (Q : Int)) == (W (sum (flip x P)) == W (sum (flip x Q)))) = true
      rw [h1, h2]
      rfl
end Go.Proofs.Ythhglbocoogefaa
