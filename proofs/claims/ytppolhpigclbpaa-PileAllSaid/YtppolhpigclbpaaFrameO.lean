/- The plain laws of the frame law's references, and the walk of FrameRefs. -/
import Derived.Test.YtppolhpigclbpaaFrameN
set_option linter.unusedVariables false
namespace Go.Proofs.Ytppolhpigclbpaa
open Go.RowKit

/-- What the row's reading tells of a slice of values. -/
structure ValsIn (w : World) (a : Option Addr) (len cap : Nat) (vs : List V) : Prop where
  sees : SeesV w w.heap.size a len vs
  le : len ≤ cap
  most : cap ≤ maxLen
  none_ : a = none → cap = 0
  ints : ∀ v ∈ vs, inI32 v.2
theorem ValsIn.len {w : World} {a : Option Addr} {len cap : Nat} {vs : List V} (h : ValsIn w a len cap vs) : vs.length = len := h.sees.len
theorem SeesV.take {w : World} {B n : Nat} {A : Option Addr} {vs : List V} (h : SeesV w B A n vs) {m : Nat} (hm : m ≤ n) : SeesV w B A m (vs.take m) := by
  unfold SeesV
  rw [vCells_take]
  exact Sees.upTo h (Nat.mul_le_mul_right _ hm)
def pickTo (z : List Int) (len i : Nat) : Int := if i < len ∧ -1 ≤ z.getD i 0 ∧ z.getD i 0 < 100000 then z.getD i 0 else 1000 + i
def picks (z : List Int) (len M : Nat) : List Int := (List.range M).map (pickTo z len)
theorem picks_length (z : List Int) (len M : Nat) : (picks z len M).length = M := by simp [picks]
theorem picks_succ (z : List Int) (len M : Nat) : picks z len (M + 1) = picks z len M ++ [pickTo z len M] := by simp [picks, List.range_succ]
theorem picks_at (z : List Int) (len M : Nat) {k : Nat} (hk : k < M) : (picks z len M)[k]? = some (pickTo z len k) := by simp [picks, hk]
theorem pickTo_in (z : List Int) (len i : Nat) (hi : i ≤ 1000) : -1 ≤ pickTo z len i ∧ pickTo z len i ≤ 100000 := by unfold pickTo; split <;> omega
theorem picks_in (z : List Int) (len M : Nat) (hM : M ≤ 1000) : ∀ x ∈ picks z len M, -1 ≤ x ∧ x ≤ 1000000 := by
  intro x hx
  obtain ⟨k, hk, rfl⟩ := List.mem_map.1 hx
  have := pickTo_in z len k (by have := List.mem_range.1 hk; omega)
  omega
theorem pick_arms (z : List Int) (len k : Nat) : (¬ ((k : Int) < (len : Int)) ∧ pickTo z len k = 1000 + (k : Int)) ∨ ((k : Int) < (len : Int) ∧ ¬ (-1 ≤ z.getD k 0) ∧ pickTo z len k = 1000 + (k : Int)) ∨
    ((k : Int) < (len : Int) ∧ -1 ≤ z.getD k 0 ∧ ¬ (z.getD k 0 < 100000) ∧ pickTo z len k = 1000 + (k : Int)) ∨ ((k : Int) < (len : Int) ∧ -1 ≤ z.getD k 0 ∧ z.getD k 0 < 100000 ∧ pickTo z len k = z.getD k 0) := by
  unfold pickTo
  by_cases h1 : k < len
  · have e1 : (k : Int) < (len : Int) := by omega
    by_cases h2 : -1 ≤ z.getD k 0
    · by_cases h3 : z.getD k 0 < 100000
      · exact .inr (.inr (.inr ⟨e1, h2, h3, if_pos ⟨h1, h2, h3⟩⟩))
      · exact .inr (.inr (.inl ⟨e1, h2, h3, if_neg fun h => h3 h.2.2⟩))
    · exact .inr (.inl ⟨e1, h2, if_neg fun h => h2 h.2.1⟩)
  · exact .inl ⟨by omega, if_neg fun h => h1 h.1⟩
/-- What the choosing holds at each round's head. -/
def PickRel (w4 : World) (z : List Int) (len M : Nat) (u10 u11 : Value) (wr : World) : Prop :=
  ∃ k : Nat, u11 = .int .i64 (k : Int) ∧ k ≤ M ∧ Keeps (fun _ => False) w4 wr ∧ wr.ownsRow w4.heap.size 3 1 u10 k ((picks z len k).map (Value.int .i64))
theorem PickRel.next {w4 wr : World} {z : List Int} {len M k : Nat} {u10 : Value} {x : Int} (hk : k < M) (hx : pickTo z len k = x) (hw : Keeps (fun _ => False) w4 wr) (ho : wr.ownsRow w4.heap.size 3 1 u10 (k + 1) ((picks z len k).map (Value.int .i64) ++ [.int .i64 x])) : PickRel w4 z len M u10 (.int .i64 ((k : Int) + 1)) wr :=
  ⟨k + 1, by go_num, by omega, hw, by rw [picks_succ, List.map_append, hx]; exact ho⟩
theorem turn_at (l : List V) : ∀ (xs : List Int) {i : Nat} {v : V}, l[i]? = some v → (v.1 = false → (turn l xs)[i]? = some v) ∧ (v.1 = true → ∀ x, xs[(nums (l.take i)).length]? = some x → (turn l xs)[i]? = some (true, x)) := by
  induction l with
  | nil => intro xs i v h; simp at h
  | cons u l ih =>
    intro xs i v h
    cases i with
    | zero =>
      simp at h
      subst h
      refine ⟨fun hv => by simp [turn, hv], fun hv x hx => ?_⟩
      simp [nums] at hx
      cases xs with
      | nil => simp at hx
      | cons y ys => simp at hx; subst hx; simp [turn, hv]
    | succ i =>
      simp only [List.getElem?_cons_succ] at h
      cases hu : u.1
      · have := ih xs h
        simpa [turn, hu, nums] using this
      · cases xs with
        | nil =>
          simp only [turn, hu, if_true, List.getElem?_cons_succ]
          refine ⟨fun _ => h, fun _ x hx => by simp at hx⟩
        | cons y ys =>
          have := ih ys h
          simpa [turn, hu, nums] using this
theorem turn_mem (l : List V) : ∀ (xs : List Int) (v : V), v ∈ turn l xs → v ∈ l ∨ v.2 ∈ xs := by
  induction l with
  | nil => intro xs v h; cases h
  | cons u l ih =>
    intro xs v h
    simp only [turn] at h
    split at h
    · cases xs with
      | nil => exact .inl h
      | cons y ys =>
        rcases List.mem_cons.1 h with rfl | h
        · exact .inr (List.mem_cons_self ..)
        · rcases ih ys v h with h | h
          · exact .inl (List.mem_cons_of_mem _ h)
          · exact .inr (List.mem_cons_of_mem _ h)
    · rcases List.mem_cons.1 h with rfl | h
      · exact .inl (List.mem_cons_self ..)
      · rcases ih xs v h with h | h
        · exact .inl (List.mem_cons_of_mem _ h)
        · exact .inr h
theorem nums_turned (l m : List V) (ys : List Int) (h : ys.length = (nums (l ++ m)).length) : nums (turn l ys ++ turn m (ys.drop (nums l).length)) = ys := by
  rw [nums_append, List.length_append] at h
  rw [nums_append, turn_nums l ys (by omega), turn_nums m _ (by rw [List.length_drop]; omega), List.take_of_length_le (i := (nums m).length) (by rw [List.length_drop]; omega), List.take_append_drop]
theorem back_one (xs : List Int) : (xs.map (· + 1)).map (fun n => Value.int .i64 (n - 1)) = xs.map (Value.int .i64) := by
  rw [List.map_map]
  refine List.map_congr_left fun x _ => ?_
  simp
theorem one_ints {k : IntKind} (xs : List Int) : ∀ u ∈ xs.map (Value.int k), u.oneCell' = true := by
  intro u hu
  obtain ⟨x, _, rfl⟩ := List.mem_map.1 hu
  rfl
theorem own_made (w : World) (x : Int) : (w.alloc (.cells #[.int .i64 x] 3)).ownsRow w.heap.size 3 1 (.slice (some ⟨w.heap.size, 0, none⟩) 1 1) 1 [.int .i64 x] :=
  ⟨rfl, .inr ⟨w.heap.size, 1, _, rfl, Nat.le_refl _, heap_alloc_new w _, Nat.le_refl _, by unfold maxLen; omega, rfl, rfl⟩⟩
/-- What a turned local is. -/
theorem turned_at {ar ls vs : List V} {n : Nat} {xs : List Int} (hls : ls = ar ++ List.replicate n ((false, 0) : V)) (hM : xs.length = (nums (ls ++ vs)).length) {i : Nat} {v : V} (hv : ar[i]? = some v) :
    (v.1 = false → (turn ls (xs.map (· + 1)))[i]? = some v) ∧ (v.1 = true → ∃ x, xs[(nums (ar.take i)).length]? = some x ∧ (turn ls (xs.map (· + 1)))[i]? = some (true, x + 1)) := by
  have hi := (List.getElem?_eq_some_iff.1 hv).1
  have hl : ls[i]? = some v := by rw [hls, List.getElem?_append_left hi]; exact hv
  have ht : ls.take i = ar.take i := by rw [hls, List.take_append_of_le_length (by omega)]
  have hT := turn_at ls (xs.map (· + 1)) hl
  rw [ht] at hT
  refine ⟨hT.1, fun h => ?_⟩
  have hl2 : (ls ++ vs)[i]? = some v := by rw [List.getElem?_append_left (by rw [hls, List.length_append]; omega)]; exact hl
  have hk := (List.getElem?_eq_some_iff.1 (nums_at hl2 h)).1
  rw [List.take_append_of_le_length (by rw [hls, List.length_append]; omega), ht, ← hM] at hk
  refine ⟨_, List.getElem?_eq_getElem hk, hT.2 h _ ?_⟩
  rw [List.getElem?_map, List.getElem?_eq_getElem hk]
  rfl
set_option maxHeartbeats 4000000 in
set_option maxRecDepth 100000 in
theorem frameRefs_walk (a0 : Option Addr) (len0 cap0 : Nat) (z0 : List V) (a1 : Option Addr) (len1 cap1 : Nat) (z1 : List V) (a2 : Option Addr) (len2 cap2 : Nat) (z2 : List Int) (W : World) (h0 : ValsIn W a0 len0 cap0 z0) (h1 : ValsIn W a1 len1 cap1 z1) (h2 : IsRow .i64 W a2 len2 cap2 z2) :
    Calls Try.prog 8 #[.slice a0 len0 cap0, .slice a1 len1 cap1, .slice a2 len2 cap2] W fun e w' => e = .returned (.bool true) ∧ Below W.heap.size W w' := by
  have BG := hide (begun15_any W)
  have H0 := hide h0
  have H1 := hide h1
  have H2 := hide h2
  have hc0 := h0.le
  have hc1 := h1.le
  have hm0 : (cap0 : Int) ≤ 9223372036854775807 := by have := h0.most; unfold maxLen at this; omega
  have hm1 : (cap1 : Int) ≤ 9223372036854775807 := by have := h1.most; unfold maxLen at this; omega
  clear h0 h1 h2
  go_enter Try.func8, Try.ntmps8
  go_upto_region 4 with (go_at_call 22; (with_reducible refine BG.out.mono ?_); rintro e w1 ⟨rfl, b1⟩; have B1 := hide b1; clear b1)
  go_cut [0, 1] (fun x y wx => ∃ n1 n2 q : Nat, x = .slice a0 n1 cap0 ∧ y = .slice a1 n2 cap1 ∧ wx = w1.drewN q ∧ n1 ≤ len0 ∧ (n1 : Int) ≤ 16 ∧ n2 ≤ len1 ∧ (n2 : Int) ≤ 16)
  case first =>
    go_quiet (fail)
    go_wp2
    all_goals go_meet
    all_goals
      refine ⟨_, _, nq, rfl, rfl, rfl, ?_, ?_, ?_, ?_⟩ <;> first | omega | (split <;> omega)
  case rest =>
  obtain ⟨n1, n2, nq, rfl, rfl, hwn, hl1, hs1, hl2, hs2⟩ := hcut
  have BN := hide (bel_drewN B1.out nq)
  rw [← hwn] at BN
  have v0 : SeesV wc W.heap.size a0 n1 (z0.take n1) := SeesV.take (H0.out.sees.below BN.out) hl1
  have v1 : SeesV wc W.heap.size a1 n2 (z1.take n2) := SeesV.take (H1.out.sees.below BN.out) hl2
  have I0 := hide (fun v (hv : v ∈ z0.take n1) => H0.out.ints v (List.mem_of_mem_take hv))
  have I1 := hide (fun v (hv : v ∈ z1.take n2) => H1.out.ints v (List.mem_of_mem_take hv))
  have N0 := hide H0.out.none_
  have N1 := hide H1.out.none_
  have G0 := hide (good_any wc a0 n1 cap0 W.heap.size _ v0 (by omega))
  have G1 := hide (good_any wc a1 n2 cap1 W.heap.size _ v1 (by omega))
  have V0 := hide v0
  have V1 := hide v1
  have X0 := hide (SeesV.take H0.out.sees hl1)
  have X1 := hide (SeesV.take H1.out.sees hl2)
  clear H0 H1 v0 v1 hwn B1 BG
  generalize z0.take n1 = ar at *
  generalize z1.take n2 = vs at *
  cases hg0 : goodB ar
  · rw [hg0] at G0
    go_wp2_with (go_at_call 23; (with_reducible refine G0.out.mono ?_); rintro e w' ⟨rfl, rfl⟩)
    go_ret
    exact ⟨rfl, BN.out⟩
  cases hg1 : goodB vs
  · rw [hg0] at G0
    rw [hg1] at G1
    go_wp2_with (first | (go_at_call 23; (with_reducible refine G0.out.mono ?_); rintro e w' ⟨rfl, rfl⟩) | (go_at_call 23; (with_reducible refine G1.out.mono ?_); rintro e w' ⟨rfl, rfl⟩))
    go_ret
    exact ⟨rfl, BN.out⟩
  rw [hg0] at G0
  rw [hg1] at G1
  have F0 := hide (Fr.new BN.out 0 16 16 BN.out.size V0.out (c := cap0) (by omega) (by omega) (by omega))
  have C0 := hide BN.out.size
  go_wp2_with (first | (go_at_call 23; (with_reducible refine G0.out.mono ?_); rintro e w' ⟨rfl, rfl⟩) | (go_at_call 23; (with_reducible refine G1.out.mono ?_); rintro e w' ⟨rfl, rfl⟩))
  refine F0.out.mono ?_
  rintro e w2 ⟨rfl, f1, k1⟩
  have hls : (ar ++ List.replicate (16 - n1) ((false, 0) : V)).length = 16 := by rw [List.length_append, List.length_replicate, V0.out.len]; omega
  have hil : ∀ v ∈ ar ++ List.replicate (16 - n1) ((false, 0) : V), inI32 v.2 := by
    intro v hv
    rcases List.mem_append.1 hv with h | h
    · exact I0.out v h
    · rw [List.eq_of_mem_replicate h]; unfold inI32; omega
  obtain ⟨ls, hlsd⟩ : ∃ ls, ls = ar ++ List.replicate (16 - n1) ((false, 0) : V) := ⟨_, rfl⟩
  rw [← hlsd] at f1 hls hil
  have P1 := hide (f1.push (Keeps.sees V1.out C0.out k1) N1.out (by have : ([] : List V).length = 0 := rfl; omega))
  have K1 := hide k1
  have LSD := hide hlsd
  have LL := hide hls
  have IL := hide hil
  clear f1 k1 hlsd hls hil F0
  go_wp2_with fail
  refine P1.out.mono ?_
  rintro e w3 ⟨rfl, f2, k2⟩
  rw [List.nil_append] at f2
  have hFw : ∀ k, grownF (fun k => wc.heap.size ≤ k ∧ k < w2.heap.size) w2 w3 k → wc.heap.size ≤ k := by
    rintro k (h | h)
    · exact h.1
    · exact Nat.le_trans K1.out.size h.1
  have k3 : Keeps (fun k => wc.heap.size ≤ k) wc w3 := (K1.out.more (fun _ _ h => h.elim)).trans (k2.more fun k _ h => h.1)
  generalize grownF (fun k => wc.heap.size ≤ k ∧ k < w2.heap.size) w2 w3 = F at *
  have R2 := hide (f2.refs (fun v hv => (List.mem_append.1 hv).elim (IL.out v) (I1.out v)))
  have K3 := hide k3
  have FW := hide hFw
  clear f2 k2 k3 hFw P1 K1
  generalize hM : (nums (ls ++ vs)).length = M at *
  have hM32 : (M : Int) ≤ 32 := by have := nums_le (ls ++ vs); rw [List.length_append, LL.out, V1.out.len] at this; omega
  have HM := hide hM
  clear hM
  go_upto_block 0 with (go_at_call 26; (with_reducible refine R2.out.mono ?_); rintro e w4 ⟨A4, c4, rfl, o4, f4, k4⟩; have O4 := hide o4; have F4 := hide f4; have K4 := hide k4; clear o4 f4 k4)
  have hz2 := H2.out.cells
  obtain ⟨_, _, _, hzl, hzw, hzs⟩ := hz2
  have HZ := hide (hzs.below F4.out.below)
  have hlen2 : (len2 : Int) ≤ 9223372036854775807 := by have h := H2.out.cells; have h1 := h.1; have h2 := h.2.1; unfold maxLen at h2; omega
  have BW := hide F4.out.below.size
  obtain ⟨i0, hi0, hy0, hy1, hy2⟩ := info_parts Try.info3
  have HI := hide hi0
  have HY0 := hide hy0
  have HY1 := hide hy1
  have HY2 := hide hy2
  clear hzl hzw hzs H2 hi0 hy0 hy1 hy2 R2
  go_cut [10] (fun mv wx => Keeps (fun _ => False) w4 wx ∧ wx.ownsRow w4.heap.size 3 1 mv M ((picks z2 len2 M).map (Value.int .i64)))
  case first =>
    as_aux_lemma =>
    go_wp2
    go_loopw [10, 11] (fun u10 u11 wr => PickRel w4 z2 len2 M u10 u11 wr) (fun _ u11 _ => M - (intOf u11).toNat)
    case atStart => exact ⟨0, rfl, by omega, Keeps.refl _ _, World.ownsRow_nil _ _ _ _⟩
    case round =>
      obtain ⟨k, rfl, hk, hkw, ho⟩ := hrel
      by_cases hlt : k < M
      · have hlt' : (k : Int) < (M : Int) := by omega
        have HO := hide (fun x : Int => ho.alloc (.cells #[.int .i64 x] 3))
        have HSN := hide (fun x : Int => new_sees wr #[.int .i64 x] 3)
        have HKA := hide (fun x : Int => hkw.alloc (.cells #[.int .i64 x] 3))
        have HSZ := hide (fun x : Int => (hkw.alloc (.cells #[.int .i64 x] 3)).size)
        have HOB := hide (ownBlock_ge ho)
        have HLT := hide hlt
        have hsee := Keeps.sees HZ.out BW.out hkw
        have hcel : (k : Int) < (len2 : Int) → ∃ b off, a2 = some ⟨b, off, none⟩ ∧ wr.cell? ⟨b, off + k, none⟩ = some (.int .i64 (z2.getD k 0)) := by
          intro hk2
          obtain ⟨b, off, u, hA, _, hu, hc⟩ := hsee.at_ (k := k) (by omega)
          refine ⟨b, off, hA, ?_⟩
          rw [List.getElem?_map, List.getElem?_take, if_pos (by omega)] at hu
          cases hz : z2[k]? with
          | none => rw [hz] at hu; cases hu
          | some x => rw [hz] at hu; cases hu; rw [List.getD_eq_getElem?_getD, hz]; exact hc
        have HC := hide hcel
        have ha := pick_arms z2 len2 k
        generalize z2.getD k 0 = x at *
        clear hkw ho hsee hcel
        rcases ha with ha | ha | ha | ha
        · obtain ⟨h1, hx⟩ := ha
          have HX := hide hx
          clear hx
          have d1 : decide ((k : Int) < (len2 : Int)) = false := decide_eq_false h1
          clear HC
          go_wp2_with (at_builtin
                       refine wpList_append_sees _ rfl (.tmp 82) (.tmp 84) 30 rfl w4.heap.size 3 i0 _ 8 Try.underlying30 HI.out HY0.out HY1.out HY2.out (by rfl) _ k _ (by rfl) (HO.out (1000 + (k : Int))) (wr.heap.size + 1) _ 1 1 _ (by rfl) (HSN.out (1000 + (k : Int))) (fun e => nomatch e) (by intro u hu; rcases List.mem_cons.1 hu with rfl | hu; exact rfl; exact (List.not_mem_nil hu).elim) (by unfold maxLen; omega) (by omega) (HSZ.out (1000 + (k : Int))) ?_
                       intro v3 w5 hown3 hg3 hat3
                       have HO3 := hide hown3
                       have HK3 := hide ((HKA.out (1000 + (k : Int))).grown hg3 fun k hk hlt => by have := HOB.out k hk; omega)
                       clear hown3 hg3 hat3)
          go_roundw
          case rel => first | exact PickRel.next HLT.out HX.out HK3.out HO3.out | exact ⟨_, _, _, _, PickRel.next HLT.out HX.out HK3.out HO3.out, rfl, rfl, rfl, rfl⟩ | exact ⟨_, _, _, PickRel.next HLT.out HX.out HK3.out HO3.out, rfl, rfl, rfl⟩
          case measure => simp [intOf]; omega
        · obtain ⟨h1, h2, hx⟩ := ha
          have HX := hide hx
          clear hx
          obtain ⟨b, off, rfl, hc⟩ := HC.out h1
          have d1 : decide ((k : Int) < (len2 : Int)) = true := decide_eq_true h1
          have d2 : decide (-1 ≤ x) = false := decide_eq_false h2
          clear HC
          go_wp2_with (at_builtin
                       refine wpList_append_sees _ rfl (.tmp 82) (.tmp 84) 30 rfl w4.heap.size 3 i0 _ 8 Try.underlying30 HI.out HY0.out HY1.out HY2.out (by rfl) _ k _ (by rfl) (HO.out (1000 + (k : Int))) (wr.heap.size + 1) _ 1 1 _ (by rfl) (HSN.out (1000 + (k : Int))) (fun e => nomatch e) (by intro u hu; rcases List.mem_cons.1 hu with rfl | hu; exact rfl; exact (List.not_mem_nil hu).elim) (by unfold maxLen; omega) (by omega) (HSZ.out (1000 + (k : Int))) ?_
                       intro v3 w5 hown3 hg3 hat3
                       have HO3 := hide hown3
                       have HK3 := hide ((HKA.out (1000 + (k : Int))).grown hg3 fun k hk hlt => by have := HOB.out k hk; omega)
                       clear hown3 hg3 hat3)
          go_roundw
          case rel => first | exact PickRel.next HLT.out HX.out HK3.out HO3.out | exact ⟨_, _, _, _, PickRel.next HLT.out HX.out HK3.out HO3.out, rfl, rfl, rfl, rfl⟩ | exact ⟨_, _, _, PickRel.next HLT.out HX.out HK3.out HO3.out, rfl, rfl, rfl⟩
          case measure => simp [intOf]; omega
        · obtain ⟨h1, h2, h3, hx⟩ := ha
          have HX := hide hx
          clear hx
          obtain ⟨b, off, rfl, hc⟩ := HC.out h1
          have d1 : decide ((k : Int) < (len2 : Int)) = true := decide_eq_true h1
          have d2 : decide (-1 ≤ x) = true := decide_eq_true h2
          have d3 : decide (x < 100000) = false := decide_eq_false h3
          clear HC
          go_wp2_with (at_builtin
                       refine wpList_append_sees _ rfl (.tmp 82) (.tmp 84) 30 rfl w4.heap.size 3 i0 _ 8 Try.underlying30 HI.out HY0.out HY1.out HY2.out (by rfl) _ k _ (by rfl) (HO.out (1000 + (k : Int))) (wr.heap.size + 1) _ 1 1 _ (by rfl) (HSN.out (1000 + (k : Int))) (fun e => nomatch e) (by intro u hu; rcases List.mem_cons.1 hu with rfl | hu; exact rfl; exact (List.not_mem_nil hu).elim) (by unfold maxLen; omega) (by omega) (HSZ.out (1000 + (k : Int))) ?_
                       intro v3 w5 hown3 hg3 hat3
                       have HO3 := hide hown3
                       have HK3 := hide ((HKA.out (1000 + (k : Int))).grown hg3 fun k hk hlt => by have := HOB.out k hk; omega)
                       clear hown3 hg3 hat3)
          go_roundw
          case rel => first | exact PickRel.next HLT.out HX.out HK3.out HO3.out | exact ⟨_, _, _, _, PickRel.next HLT.out HX.out HK3.out HO3.out, rfl, rfl, rfl, rfl⟩ | exact ⟨_, _, _, PickRel.next HLT.out HX.out HK3.out HO3.out, rfl, rfl, rfl⟩
          case measure => simp [intOf]; omega
        · obtain ⟨h1, h2, h3, hx⟩ := ha
          have HX := hide hx
          clear hx
          obtain ⟨b, off, rfl, hc⟩ := HC.out h1
          have d1 : decide ((k : Int) < (len2 : Int)) = true := decide_eq_true h1
          have d2 : decide (-1 ≤ x) = true := decide_eq_true h2
          have d3 : decide (x < 100000) = true := decide_eq_true h3
          clear HC
          go_wp2_with (at_builtin
                       refine wpList_append_sees _ rfl (.tmp 82) (.tmp 84) 30 rfl w4.heap.size 3 i0 _ 8 Try.underlying30 HI.out HY0.out HY1.out HY2.out (by rfl) _ k _ (by rfl) (HO.out (x)) (wr.heap.size + 1) _ 1 1 _ (by rfl) (HSN.out (x)) (fun e => nomatch e) (by intro u hu; rcases List.mem_cons.1 hu with rfl | hu; exact rfl; exact (List.not_mem_nil hu).elim) (by unfold maxLen; omega) (by omega) (HSZ.out (x)) ?_
                       intro v3 w5 hown3 hg3 hat3
                       have HO3 := hide hown3
                       have HK3 := hide ((HKA.out (x)).grown hg3 fun k hk hlt => by have := HOB.out k hk; omega)
                       clear hown3 hg3 hat3)
          go_roundw
          case rel => first | exact PickRel.next HLT.out HX.out HK3.out HO3.out | exact ⟨_, _, _, _, PickRel.next HLT.out HX.out HK3.out HO3.out, rfl, rfl, rfl, rfl⟩ | exact ⟨_, _, _, PickRel.next HLT.out HX.out HK3.out HO3.out, rfl, rfl, rfl⟩
          case measure => simp [intOf]; omega
      · obtain rfl : k = M := by omega
        have HK := hide hkw
        have HO := hide ho
        clear hkw ho
        go_wp2
        go_meet
        exact ⟨HK.out, HO.out⟩
  case rest =>
  obtain ⟨k5, o5⟩ := hcut
  obtain ⟨w5, rfl⟩ : ∃ x : World, x = wc := ⟨_, rfl⟩
  obtain ⟨A5, c5, rfl, q1, q2, hs5, hn5, hb5⟩ := Sees.of_ownN o5
  clear q1 q2
  have f5 := F4.out.none_ k5
  have hA5 : ∀ b o, A5 = some ⟨b, o, none⟩ → ¬ F b := fun b o e hf => by have h1 := (F4.out.fr.low b hf).2; have h2 := (hb5 b o (by rw [e])).1; omega
  have HG5 := hide (fun g (hg : (Value.slice A5 M c5).ownBlock = some g) (hf : F g) => show False by have h1 := ownBlock_ge o5 g hg; have h2 := (F4.out.fr.low g hf).2; omega)
  rw [Nat.mul_one] at hs5
  have own5 := own_made w5 5
  have sm5 := Keeps.sees hs5 (Nat.le_refl _) ((Keeps.refl (fun _ => False) w5).alloc (.cells #[.int .i64 5] 3))
  have HO5 := hide own5
  have SM5 := hide sm5
  have HN5 := hide hn5
  have HA5 := hide hA5
  have F5 := hide f5
  have R5 := hide o5
  clear k5 o5 hs5 hn5 hb5 f5 hA5 own5 sm5 F4 K4 O4
  go_wp2_with (at_builtin
               refine wpList_append_sees _ rfl (.tmp 87) (.tmp 88) 30 rfl w5.heap.size 3 i0 _ 8 Try.underlying30 HI.out HY0.out HY1.out HY2.out (by rfl) _ 1 _ (by rfl) HO5.out w5.heap.size A5 M c5 _ (by rfl) SM5.out HN5.out (one_ints _) (by unfold maxLen; omega) (by omega) (by simp) ?_
               intro v6 w6 hown6 hg6 hat6
               obtain ⟨A6, c6, rfl, hs6⟩ := Sees.of_own hown6
               have k6 := ((Keeps.refl (fun _ => False) w5).alloc (.cells #[.int .i64 5] 3)).grown hg6 (fun g hg hlt => by simp [Value.ownBlock] at hg; omega)
               have f6 := F5.out.none_ k6
               have S6 := hide (f6.setRefsNo A6 (1 + M) c6 (by rw [HM.out]; omega))
               have K6 := hide k6
               clear hown6 hg6 hat6 hs6 k6 f6)
  refine S6.out.mono ?_
  rintro e w7 ⟨rfl, f7, k7⟩
  have K7 := hide (K6.out.trans k7)
  have F7 := hide f7
  have ha7 : SeesV w7 W.heap.size a0 n1 ar := X0.out.below f7.below
  have HA7 := hide ha7
  obtain ⟨j0, hj0, jy0, jy1, jy2⟩ := info_parts Try.info39
  have HJ := hide hj0
  have JY0 := hide jy0
  have JY1 := hide jy1
  have JY2 := hide jy2
  clear f7 k7 ha7 S6 K6 F5 HO5 SM5 hj0 jy0 jy1 jy2
  go_wp2_with (first
    | (at_builtin
       refine wpList_append_seesN _ rfl (.const (.slice none 0 0)) (.tmp 92) 29 rfl w7.heap.size 39 j0 _ 2 8 Try.underlying29 HJ.out JY0.out JY1.out JY2.out (by rfl) (by omega) (.slice none 0 0) 0 [] (by rfl) (World.ownsRow_nil _ _ _ _) W.heap.size a0 n1 cap0 _ (by rfl) HA7.out N0.out (vCells_one ar) (by unfold maxLen; omega) (by omega) (Nat.le_refl _) ?_
       intro v8 w8 hown8 hg8 hat8
       have hk8 : Keeps (fun _ => False) w7 w8 := (Keeps.refl _ w7).grown hg8 fun g hg => by cases hg
       have HO8 := hide hown8
       have HK8 := hide hk8
       clear hown8 hg8 hat8 hk8)
    | (at_builtin
       refine wpList_append_zerosN _ rfl (.tmp 93) (.tmp 96) 29 3 rfl w7.heap.size 39 j0 _ 2 8 Try.underlying29 Try.underlying3 HJ.out JY0.out JY1.out JY2.out (by rfl) (by omega) v8 (0 + n1) _ (by rfl) HO8.out (16 - n1) (show Value.int .i64 _ = _ from congrArg (Value.int .i64) (show (16 : Int) - (n1 : Int) = ((16 - n1 : Nat) : Int) by omega)) _ (vCells_zeros _) (vCells_one _) (by unfold maxLen; omega) (by omega) (by omega) HK8.out.size ?_
       intro v9 w9 hown9 hg9 hat9
       have hk9 : Keeps (fun _ => False) w7 w9 := HK8.out.grown hg9 fun g hg hlt => by have := ownBlock_ge HO8.out g hg; omega
       have e16 : 0 + n1 + (16 - n1) = 16 := by omega
       rw [e16, List.nil_append, ← vCells_append, ← LSD.out] at hown9
       obtain ⟨A9, c9, rfl, q1, q2, hs9, hn9, q3⟩ := Sees.of_ownN hown9
       clear q1 q2 q3
       have f9 := F7.out.none_ hk9
       have L9 := lawRefs_yes f9.fr (fun v hv => (List.mem_append.1 hv).elim (IL.out v) (I1.out v)) (A1 := A9) (c1 := c9) (C1 := w9.heap.size) (A2 := a1) (c2 := cap1) (C2 := W.heap.size) (by rw [LL.out]; exact hs9) hn9 (by rw [V1.out.len]; exact X1.out.below f9.below) N1.out (Nat.le_refl _) f9.below.size
       rw [LL.out, V1.out.len] at L9
       have HL9 := hide L9
       have F9 := hide f9
       have K9 := hide (K7.out.trans hk9)
       clear hown9 hg9 hat9 hk9 hs9 hn9 f9 L9))
  refine HL9.out.mono ?_
  rintro e wa ⟨rfl, ka⟩
  have fa := F9.out.none_ ka
  have kka := K9.out.trans ka
  have oa := ownsRow_kept R5.out (fun g hg => kka.block g (own_type3 R5.out hg).2.1 id)
  have hMx := picks_length z2 len2 M
  have hMin := picks_in z2 len2 M (by omega)
  generalize picks z2 len2 M = xs at *
  have sa : Sees wa wa.heap.size A5 M (xs.map (Value.int .i64)) := by obtain ⟨A, c, he, hs⟩ := Sees.of_own oa; cases he; exact hs
  have T := fa.setRefs (c := c5) sa (Nat.le_refl _) HA5.out HM.out hMin
  have HT := hide T
  have XL := hide hMx
  have XI := hide hMin
  have OA := hide oa
  clear fa kka oa hMx hMin sa T F9 K9 R5 HO8 HK8 HA7 HL9 ka
  go_wp2_with fail
  refine HT.out.mono ?_
  rintro e wb ⟨rfl, fb, kb⟩
  have ob := Safe.row OA.out HG5.out kb
  have hTA := fun (i : Nat) (v : V) (hv : ar[i]? = some v) => turned_at (vs := vs) LSD.out (XL.out.trans HM.out.symm) hv
  have hnt := nums_turned ls vs (xs.map (· + 1)) (by rw [List.length_map, XL.out, HM.out])
  have hiy : ∀ v ∈ turn ls (xs.map (· + 1)) ++ turn vs ((xs.map (· + 1)).drop (nums ls).length), inI32 v.2 := by
    have hy : ∀ y ∈ xs.map (· + 1), inI32 y := by
      intro y hy
      obtain ⟨x, hx, rfl⟩ := List.mem_map.1 hy
      have := XI.out x hx
      unfold inI32
      omega
    intro v hv
    rcases List.mem_append.1 hv with h | h
    · exact (turn_mem _ _ _ h).elim (IL.out v) (hy v.2)
    · exact (turn_mem _ _ _ h).elim (I1.out v) (fun h => hy v.2 (List.mem_of_mem_drop h))
  have R := fb.refs hiy
  rw [hnt, List.length_map, XL.out, back_one] at R
  generalize turn ls (xs.map (· + 1)) = ls2 at *
  generalize turn vs ((xs.map (· + 1)).drop (nums ls).length) = st2 at *
  have RB := hide R
  have OB := hide ob
  have TA := hide hTA
  clear fb kb ob hTA hnt hiy R HT OA
  go_wp2_with fail
  refine RB.out.mono ?_
  rintro e wd ⟨Ad, cd, rfl, od, fd, kd⟩
  have sd : Sees wd wd.heap.size Ad M (xs.map (Value.int .i64)) := by obtain ⟨A, c, he, hs⟩ := Sees.of_own od; cases he; exact hs
  have sm : Sees wd wd.heap.size A5 M (xs.map (Value.int .i64)) := by
    have := ownsRow_kept OB.out (fun g hg => kd.block g (own_type3 OB.out hg).2.1 id)
    obtain ⟨A, c, he, hs⟩ := Sees.of_own this
    cases he
    exact hs
  have xd : SeesV wd W.heap.size a0 n1 ar := X0.out.below fd.below
  have FD := hide fd
  have SD := hide sd
  have SMD := hide sm
  have XD := hide xd
  clear od fd kd sd sm xd RB OB
  go_upto_block 2 with fail
  go_wp2
  go_loopw [14, 15] (fun u14 u15 wr => ∃ i : Nat, u15 = .int .i64 (i : Int) ∧ i ≤ n1 ∧ u14 = .int .i64 ((nums (ar.take i)).length : Int) ∧ Keeps (fun _ => False) wd wr) (fun _ u15 _ => n1 - (intOf u15).toNat)
  case atStart => exact ⟨0, rfl, by omega, rfl, Keeps.refl _ _⟩
  case round =>
    obtain ⟨i, rfl, hi, rfl, hkr⟩ := hrel
    by_cases hlt : i < n1
    · obtain ⟨v, hv⟩ : ∃ v, ar[i]? = some v := ⟨_, List.getElem?_eq_getElem (by rw [V0.out.len]; exact hlt)⟩
      have hlt' : (i : Int) < (n1 : Int) := by omega
      have hT := TA.out i v hv
      have hnt := nums_take hv
      cases hr : v.1
      · have L := hide ((FD.out.none_ hkr).load (hT.1 hr))
        have HNT := hide (show nums (ar.take (i + 1)) = nums (ar.take i) by rw [hnt, hr]; simp)
        have HV := hide hv
        have HKR := hide hkr
        have HR := hide hr
        clear hkr hT hnt hv hr
        go_wp2_with fail
        refine L.out.mono ?_
        rintro e wf ⟨rfl, ff, kf⟩
        have kg := (HKR.out.trans kf).alloc (.cells #[.bool v.1, .int .i32 v.2] 39)
        obtain ⟨b, off, v', rfl, hb, hv', c0, c1⟩ := SeesV.at2 (Keeps.sees XD.out FD.out.below.size kg) hlt
        rw [HV.out] at hv'
        cases hv'
        have e0 : (wf.alloc (.cells #[.bool v.1, .int .i32 v.2] 39)).cell? ⟨wf.heap.size, 0, none⟩ = some (.bool v.1) := cell_of_row _ _ 0 _ 39 (0, 0) (heap_alloc_new wf _)
        have e1 : (wf.alloc (.cells #[.bool v.1, .int .i32 v.2] 39)).cell? ⟨wf.heap.size, 1, none⟩ = some (.int .i32 v.2) := cell_of_row _ _ 1 _ 39 (0, 0) (heap_alloc_new wf _)
        have KG := hide kg
        rw [HR.out] at c0 e0
        obtain ⟨r, x⟩ := v
        have hr : r = false := HR.out
        subst hr
        dsimp only at c0 c1 e0 e1 ⊢
        clear ff kf kg
        go_wp2
        go_quiet (fail)
        go_wp2
        go_roundw
        case rel => exact ⟨i + 1, by go_num, by omega, by rw [HNT.out], KG.out.drewN _⟩
        case measure => simp [intOf]; omega
      · obtain ⟨y, hy, hly⟩ := hT.2 hr
        have hkm : (nums (ar.take i)).length < M := by have := (List.getElem?_eq_some_iff.1 hy).1; rw [XL.out] at this; exact this
        have hyb := XI.out y (List.mem_of_getElem? hy)
        have L := hide ((FD.out.none_ hkr).load hly)
        have HNT := hide (show (nums (ar.take (i + 1))).length = (nums (ar.take i)).length + 1 by rw [hnt, hr]; simp)
        have HV := hide hv
        have HKR := hide hkr
        have HR := hide hr
        have HY := hide hy
        obtain ⟨hy1, hy2⟩ := hyb
        clear hkr hT hnt hv hr hy hly
        generalize (nums (ar.take i)).length = k at *
        have hkm' : (k : Int) < (M : Int) := by omega
        go_wp2_with fail
        refine L.out.mono ?_
        rintro e wf ⟨rfl, ff, kf⟩
        have kg := (HKR.out.trans kf).alloc (.cells #[.bool true, .int .i32 (y + 1)] 39)
        obtain ⟨b, off, v', rfl, hb, hv', c0, c1⟩ := SeesV.at2 (Keeps.sees XD.out FD.out.below.size kg) hlt
        rw [HV.out] at hv'
        cases hv'
        obtain ⟨b5, off5, u5, rfl, hb5, hu5, c5'⟩ := (Keeps.sees SMD.out (Nat.le_refl _) kg).at_ hkm
        rw [List.getElem?_map, HY.out] at hu5
        cases hu5
        have e0 : (wf.alloc (.cells #[.bool true, .int .i32 (y + 1)] 39)).cell? ⟨wf.heap.size, 0, none⟩ = some (.bool true) := cell_of_row _ _ 0 _ 39 (0, 0) (heap_alloc_new wf _)
        have e1 : (wf.alloc (.cells #[.bool true, .int .i32 (y + 1)] 39)).cell? ⟨wf.heap.size, 1, none⟩ = some (.int .i32 (y + 1)) := cell_of_row _ _ 1 _ 39 (0, 0) (heap_alloc_new wf _)
        have KG := hide kg
        rw [HR.out] at c0
        obtain ⟨r, x⟩ := v
        have hr : r = true := HR.out
        subst hr
        dsimp only at c0 c1 e0 e1 ⊢
        have z0 : IntKind.i64.wrap (y + 1) = y + 1 := IntWalk.i64_in _ (by omega)
        clear ff kf kg
        go_wp2
        go_quiet (fail)
        go_wp2
        go_roundw
        case rel => exact ⟨i + 1, by go_num, by omega, by rw [HNT.out]; go_num, KG.out.drewN _⟩
        case measure => simp [intOf]; omega
    · have HKR := hide hkr
      have SD3 := hide (Keeps.sees SD.out (Nat.le_refl _) hkr)
      have SM3 := hide (Keeps.sees SMD.out (Nat.le_refl _) hkr)
      have BE := hide (below_keeps FD.out.below hkr)
      clear hkr
      go_wp2
      go_loopw [18] (fun u18 wx => ∃ j : Nat, u18 = .int .i64 (j : Int) ∧ j ≤ M ∧ ∃ q, wx = wr.drewN q) (fun u18 _ => M - (intOf u18).toNat)
      case atStart => exact ⟨0, rfl, by omega, 0, rfl⟩
      case round =>
        obtain ⟨j, rfl, hj, q, hq⟩ := hrel
        have HQ := hide hq
        by_cases hjlt : j < M
        · have s1 := SD3.out.drewN q
          have s2 := SM3.out.drewN q
          rw [← hq] at s1 s2
          obtain ⟨b, off, u, rfl, hb, hu, c1⟩ := s1.at_ hjlt
          obtain ⟨b2, off2, u2, rfl, hb2, hu2, c2⟩ := s2.at_ hjlt
          rw [hu] at hu2
          cases hu2
          have hjx : j < xs.length := by rw [XL.out]; exact hjlt
          rw [List.getElem?_map, List.getElem?_eq_getElem hjx] at hu
          cases hu
          generalize xs[j] = x at *
          have hjlt' : (j : Int) < (M : Int) := by omega
          clear s1 s2 hq hjx
          go_wp2
          go_quiet (fail)
          go_wp2
          go_roundw
          case rel => exact ⟨j + 1, by go_num, by omega, q + nq, by rw [HQ.out]; exact World.drewN_drewN _ _ _⟩
          case measure => simp [intOf]; omega
        · obtain rfl : j = M := by omega
          clear hq
          go_wp2
          go_ret
          exact ⟨by simp, by rw [HQ.out]; exact bel_drewN BE.out q⟩
end Go.Proofs.Ytppolhpigclbpaa
