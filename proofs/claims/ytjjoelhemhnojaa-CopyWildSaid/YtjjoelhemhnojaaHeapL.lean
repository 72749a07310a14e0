/- The walk of the law HeapOf. -/
import Derived.Test.YtjjoelhemhnojaaIn
import Derived.Deep.DeepCutAuto
import Derived.Deep.CutBlock
import Derived.IntWalk
set_option linter.unusedVariables false
namespace Go.Proofs.Ytjjoelhemhnojaa
open Go.RowKit
open Hp

theorem Try.info3 : (Try.prog.info? 3).map (fun i => (i.zero, i.size, i.bytes)) = some (some (.int .i64 0), 1, 8) := by kernel_rfl
/-- What the law's own scan holds at each round's head. -/
def ScanRel (C : Nat) (w2 : World) (xs : List Int) (m sv i : Value) (wr : World) : Prop :=
  ∃ (done : List Hp.Ob) (rest : List Int), xs = flat done ++ rest ∧ (∀ o ∈ done, okO o) ∧ m = .bool true ∧ i = .int .i64 ((flat done).length : Int) ∧
    wr.ownsRow C 3 1 sv done.length ((placesFrom 0 done).map fun (a : Nat) => Value.int .i64 (a : Int)) ∧ Below C w2 wr
/-- What it leaves. -/
def ScanEnd (C : Nat) (w2 : World) (xs : List Int) (m sv : Value) (wr : World) : Prop :=
  Below C w2 wr ∧ ((∃ done, xs = flat done ∧ (∀ o ∈ done, okO o) ∧ m = .bool true ∧ wr.ownsRow C 3 1 sv done.length ((placesFrom 0 done).map fun (a : Nat) => Value.int .i64 (a : Int))) ∨
    (m = .bool false ∧ ¬ ∃ objs, flat objs = xs ∧ ∀ o ∈ objs, okO o))
theorem ScanRel.step {C : Nat} {w2 wr : World} {xs : List Int} {done : List Hp.Ob} {k : Int} {m : Nat} {tl : List Int} {sv : Value} (hx : xs = flat done ++ k :: (m : Int) :: tl) (hf : ∀ o ∈ done, okO o) (hm : m ≤ tl.length) (hmay : mayO k m = true)
    (ho : wr.ownsRow C 3 1 sv (done.length + 1) (((placesFrom 0 done).map fun (a : Nat) => Value.int .i64 (a : Int)) ++ [.int .i64 ((flat done).length : Int)])) (hb : Below C w2 wr) :
    ScanRel C w2 xs (.bool true) sv (.int .i64 (((flat done).length : Int) + (2 + (m : Int)))) wr := by
  have h1 : 0 ≤ k ∧ k ≤ 10000 ∧ m ≤ 1000 := by have := hmay; simp [mayO] at this; omega
  refine ⟨done ++ [(k, tl.take m)], tl.drop m, by rw [hx]; exact flat_step done k m tl hm, ?_, rfl, ?_, ?_, hb⟩
  · intro o ho
    rcases List.mem_append.1 ho with ho | ho
    · exact hf o ho
    · rw [List.mem_singleton.1 ho]
      exact ⟨h1.1, h1.2.1, by simp; omega⟩
  · rw [flat_append]
    simp [flat]
    omega
  · rw [placesFrom_append]
    simpa using ho
/-- What Of gives, as the law looks at it. -/
def OfCut (wc : World) (B C N : Nat) (fit : Bool) (xs : List Int) (sv hv ov : Value) (wx : World) : Prop :=
  Keeps (fun _ => False) wc wx ∧
  ((fit = true ∧ hv = .pointer (some ⟨wc.heap.size, 0, none⟩) ∧ ov = .bool true ∧ ∃ done, xs = flat done ∧ (∀ o ∈ done, okO o) ∧ wc.ownsRow C 3 1 sv done.length ((placesFrom 0 done).map fun (a : Nat) => Value.int .i64 (a : Int)) ∧
    HeapIn wx B (fun k => wc.heap.size ≤ k ∧ k < wx.heap.size) wc.heap.size N done) ∨ (fit = false ∧ hv = .pointer none ∧ ov = .bool false))
theorem flat_inj {a b : List Hp.Ob} (h : flat a = flat b) : a = b := by
  obtain ⟨more, hm, hmf⟩ := flat_prefix a b [] (by rw [← h]; simp)
  have : more = [] := by
    cases more with
    | nil => rfl
    | cons o t => simp [flat] at hmf
  subst this
  simpa using hm.symm
theorem OfPost.cut {wc w3 : World} {B C n : Nat} {q a1 : Int} {xs : List Int} {e : Ending} {mb : Bool} {sv : Value} (h : OfPost wc B (clampN q) xs e w3) (hq : q = min a1 100000) (hxl : xs.length = n) (hn : n ≤ 60)
    (hmx : mb = true → ∃ done, xs = flat done ∧ (∀ o ∈ done, okO o) ∧ wc.ownsRow C 3 1 sv done.length ((placesFrom 0 done).map fun (a : Nat) => Value.int .i64 (a : Int))) (hmf : mb = false → ¬ ∃ objs, flat objs = xs ∧ ∀ o ∈ objs, okO o) :
    ∃ hv ov, e = .returned (.tuple #[hv, ov]) ∧ OfCut wc B C (clampN q) (mb && decide ((n : Int) ≤ max 0 (min a1 1048576))) xs sv hv ov w3 := by
  obtain ⟨hk, ⟨objs, h1, h2, h3, rfl, h4⟩ | ⟨h1, rfl⟩⟩ := h
  · refine ⟨_, _, rfl, hk, .inl ⟨?_, rfl, rfl, ?_⟩⟩
    · cases mb
      · exact absurd ⟨objs, h1.symm, h2⟩ (hmf rfl)
      · simp only [Bool.true_and, decide_eq_true_eq]
        unfold clampN at h3
        omega
    · cases mb
      · exact absurd ⟨objs, h1.symm, h2⟩ (hmf rfl)
      · obtain ⟨done, hd, hf, ho⟩ := hmx rfl
        obtain rfl := flat_inj (hd.symm.trans h1)
        exact ⟨done, hd, hf, ho, h4⟩
  · refine ⟨_, _, rfl, hk, .inr ⟨?_, rfl, rfl⟩⟩
    cases mb
    · rfl
    · obtain ⟨done, hd, hf, ho⟩ := hmx rfl
      rcases h1 with h1 | h1
      · simp only [Bool.true_and, decide_eq_false_iff_not]
        unfold clampN at h1
        omega
      · exact absurd ⟨done, hd.symm, hf⟩ h1
/-- What the law's look at each object holds at each round's head. -/
def LookRel (w : World) (B C C8 p N n : Nat) (done : List Hp.Ob) (A A8 : Option Addr) (i : Value) (wr : World) : Prop :=
  ∃ j : Nat, i = .int .i64 (j : Int) ∧ j ≤ done.length ∧ (∃ F, HeapIn wr B F p N done) ∧ Sees wr C A n ((flat done).map (Value.int .i32)) ∧
    Sees wr C8 A8 done.length ((placesFrom 0 done).map fun (a : Nat) => Value.int .i64 (a : Int)) ∧ Below w.heap.size w wr ∧ C ≤ wr.heap.size
theorem LookRel.next {w wr : World} {B C C8 p N n : Nat} {done : List Hp.Ob} {A A8 : Option Addr} {j : Nat} (h : LookRel w B C C8 p N n done A A8 (.int .i64 (j : Int)) wr) (hj : j < done.length) (q : Nat) : LookRel w B C C8 p N n done A A8 (.int .i64 ((j : Int) + 1)) (wr.drewN q) := by
  obtain ⟨j', he, h1, ⟨F, h2⟩, h3, h4, h5, h6⟩ := h
  obtain rfl : j = j' := by simp at he; omega
  exact ⟨j + 1, by go_num, by omega, ⟨F, h2.drewN q⟩, h3.drewN q, h4.drewN q, bel_drewN h5 q, h6⟩
/-- What the law's look at each word holds at each round's head. -/
def SameRel (w : World) (C C4 n : Nat) (xs : List Int) (A A4 : Option Addr) (i : Value) (wr : World) : Prop :=
  ∃ j : Nat, i = .int .i64 (j : Int) ∧ j ≤ n ∧ Sees wr C A n (xs.map (Value.int .i32)) ∧ Sees wr C4 A4 n (xs.map (Value.int .i32)) ∧ Below w.heap.size w wr
theorem SameRel.next {w wr : World} {C C4 n : Nat} {xs : List Int} {A A4 : Option Addr} {j : Nat} (h : SameRel w C C4 n xs A A4 (.int .i64 (j : Int)) wr) (hj : j < n) (q : Nat) : SameRel w C C4 n xs A A4 (.int .i64 ((j : Int) + 1)) (wr.drewN q) := by
  obtain ⟨j', he, h1, h3, h4, h5⟩ := h
  obtain rfl : j = j' := by simp at he; omega
  exact ⟨j + 1, by go_num, by omega, h3.drewN q, h4.drewN q, bel_drewN h5 q⟩
theorem objs_le_flat (l : List Hp.Ob) : l.length ≤ (flat l).length := by
  induction l with
  | nil => exact Nat.le_refl _
  | cons o l ih => simp [flat]; omega
set_option maxRecDepth 100000 in
set_option maxHeartbeats 4000000 in
theorem heapOf_walk (a0 : Option Addr) (len0 cap0 : Nat) (z0 : List Int) (a1 : Int) (w : World) (w0 : IsRow .i32 w a0 len0 cap0 z0) (w1 : (Lit.int .i64 a1).wf = true) :
    Calls Try.prog 4 #[.slice a0 len0 cap0, .int .i64 a1] w fun e w' => e = .returned (.bool true) ∧ Below w.heap.size w w' := by
  obtain ⟨hlc, hcm, hcn, hzl, hzw, hsee⟩ := w0.cells
  have h1 := in64_of w1
  clear w0 w1
  have HB := hide (begun13_any w)
  have HCN := hide hcn
  have HZ := hide hzw
  have HZL := hide hzl
  unfold maxLen at hcm
  obtain ⟨i0, hi0, hz0, hz1, hz2⟩ := info_parts Try.info21
  obtain ⟨i1, hj0, hy0, hy1, hy2⟩ := info_parts Try.info3
  have HI := hide hi0
  have HZ0 := hide hz0
  have HZ1 := hide hz1
  have HZ2 := hide hz2
  have HJ := hide hj0
  have HY0 := hide hy0
  have HY1 := hide hy1
  have HY2 := hide hy2
  clear hi0 hz0 hz1 hz2 hj0 hy0 hy1 hy2 hcn hzw hzl
  go_enter Try.func4, Try.ntmps4
  go_wp2_with fail
  refine HB.out.mono ?_
  rintro e wb ⟨rfl, hbb⟩
  have HBB := hide hbb
  have HSE := hide (hsee.below hbb)
  clear hsee hbb HB
  go_upto_if 20 with fail
  go_cut [0] (fun s0 wx => ∃ n : Nat, s0 = .slice a0 n cap0 ∧ n ≤ 60 ∧ n ≤ len0 ∧ wx = wb)
  case first =>
    by_cases h60 : 60 < len0
    · go_wp2
      go_meet
      exact ⟨60, rfl, by omega, by omega, rfl⟩
    · go_wp2
      go_meet
      exact ⟨len0, rfl, by omega, by omega, rfl⟩
  case rest =>
    obtain ⟨n, rfl, hn, hnl, rfl⟩ := hcut
    have hsn := HSE.out.upTo hnl
    rw [← List.map_take, List.take_take, Nat.min_eq_left hnl] at hsn
    have hxs : ∀ x ∈ z0.take n, inI32 x := fun x hx => in32_of (HZ.out x (List.mem_of_mem_take hx))
    have hxl : (z0.take n).length = n := by have := hsn.1; simpa using this
    generalize z0.take n = xs at *
    have HXS := hide hxs
    have HXL := hide hxl
    clear hxs hxl HZ HSE
    have hone : ∀ u ∈ xs.map (Value.int .i32), u.oneCell' = true := one_ints xs
    go_upto_block 0 with (at_builtin; refine wpList_append_sees _ rfl (.const (.slice none 0 0)) (.tmp 23) 31 rfl w.heap.size 21 i0 _ 4 Try.underlying31 HI.out HZ0.out HZ1.out HZ2.out rfl (.slice none 0 0) 0 [] rfl ⟨rfl, .inl ⟨rfl, rfl⟩⟩ w.heap.size a0 n cap0 _ rfl hsn HCN.out hone (by unfold maxLen; omega) (by omega) HBB.out.size ?_; intro v1 w2 hown2 hg2 hat2; have hb2 : Below w.heap.size w w2 := HBB.out.grown hg2 HBB.out.size (by simp [Value.ownBlock]); obtain ⟨A, c, rfl, hA⟩ := Sees.of_own hown2; have hAc : A = none → c = 0 := (by rintro rfl; rcases hown2.2 with ⟨he, _⟩ | ⟨g, cap, cur, he, _⟩; exact (Value.slice.inj he).2.2; cases he); have HO2 := hide hown2; have HB2 := hide hb2; have HAC := hide hAc; simp only [List.nil_append, Nat.zero_add] at hA; have HA := hide hA; clear hown2 hg2 hat2 hb2 hAc hA)
    go_cut [7, 8] (fun m sv wx => ScanEnd w2.heap.size w2 xs m sv wx)
    case first => as_aux_lemma =>
      have hrel0 : ScanRel w2.heap.size w2 xs (.bool true) (.slice none 0 0) (.int .i64 0) w2 := ⟨[], xs, rfl, fun o ho => (List.not_mem_nil ho).elim, rfl, rfl, World.ownsRow_nil _ _ _ _, Below.refl _ _⟩
      have HR0 := hide hrel0
      clear hrel0
      go_wp2
      go_loopw [7, 8, 9] (fun m sv i wr => ScanRel w2.heap.size w2 xs m sv i wr) (fun _ _ i _ => n - (intOf i).toNat)
      case atStart => exact HR0.out
      case round =>
        clear HR0
        obtain ⟨done, rest, hx, hf, rfl, rfl, hown, hbr⟩ := hrel
        have hsw := HA.out.below hbr
        have hxl := HXL.out
        have HF := hide hf
        have HO := hide hown
        have HBR := hide hbr
        clear hf hown hbr
        match rest, hx with
        | [], hx =>
          have hal : (flat done).length = n := by rw [← hxl, hx]; simp
          rw [hal]
          have HX := hide hx
          clear hx hal hsw hxl
          go_wp2
          go_meet
          exact ⟨HBR.out, .inl ⟨done, by simpa using HX.out, HF.out, rfl, HO.out⟩⟩
        | [k], hx =>
          have hal : (flat done).length + 1 = n := by rw [← hxl, hx]; simp
          have hbad := bad_one done k
          rw [← hx] at hbad
          have HX := hide hbad
          clear hx hxl hsw hbad
          generalize (flat done).length = a at *
          subst hal
          go_wp2
          go_meet
          exact ⟨HBR.out, .inr ⟨rfl, HX.out⟩⟩
        | k :: m :: tl, hx =>
          have hal : (flat done).length + 2 + tl.length = n := by rw [← hxl, hx]; simp; omega
          have hk := HXS.out k (by rw [hx]; simp)
          have hm := HXS.out m (by rw [hx]; simp)
          obtain ⟨b, off, u, hA', hb, hu, hcell0⟩ := hsw.at_ (k := (flat done).length) (by omega)
          rw [hx] at hu
          simp at hu
          subst hu
          obtain ⟨b', off', u', hA2, hb', hu', hcell1⟩ := hsw.at_ (k := (flat done).length + 1) (by omega)
          rw [hA'] at hA2
          obtain ⟨rfl, rfl⟩ : b = b' ∧ off = off' := by simpa using hA2
          rw [hx] at hu'
          simp at hu'
          subst hu'
          subst hA'
          unfold inI32 at hk hm
          have hlt : (flat done).length + 1 < n := by omega
          by_cases hgood : mayO k m = true ∧ m ≤ (n : Int) - (flat done).length - 2
          · obtain ⟨hmay, hlong⟩ := hgood
            have hmay' := hmay
            simp [mayO] at hmay'
            obtain ⟨⟨⟨hk0, hk1⟩, hm0⟩, hm1⟩ := hmay'
            have HMY := hide hmay
            have HX := hide hx
            have HAL := hide hal
            have hown2 := HO.out.alloc (.cells #[.int .i64 ((flat done).length : Int)] 3)
            have hsee2 := new_sees wr #[.int .i64 ((flat done).length : Int)] 3
            have HO2 := hide hown2
            have HS2 := hide hsee2
            have hsz2 : w2.heap.size ≤ (wr.alloc (.cells #[.int .i64 ((flat done).length : Int)] 3)).heap.size := Nat.le_trans HBR.out.size (by simp)
            have HSZ := hide hsz2
            have hdl : done.length ≤ (flat done).length := objs_le_flat done
            have HDL := hide hdl
            clear hmay hx hxl hal hsw hown2 hsee2 hsz2 hdl
            generalize hla : (flat done).length = a at *
            have HLA := hide hla
            clear hla
            have d1 : decide ((n : Int) ≤ (a : Int) + 1) = false := by simp; omega
            have d2 : decide (k < 0) = false := by simp; omega
            have d3 : decide (10000 < k) = false := by simp; omega
            have d4 : decide (m < 0) = false := by simp; omega
            have d5 : decide (1000 < m) = false := by simp; omega
            have d6 : decide ((n : Int) - (a : Int) - 2 < m) = false := by simp; omega
            go_wp2_with (at_builtin
                         refine wpList_append_sees _ rfl (.tmp 78) (.tmp 80) 41 rfl w2.heap.size 3 i1 _ 8 Try.underlying41 HJ.out HY0.out HY1.out HY2.out rfl _ done.length _ rfl HO2.out (wr.heap.size + 1) _ 1 1 _ rfl HS2.out (fun e => nomatch e) (by intro u hu; rcases List.mem_cons.1 hu with rfl | hu; exact rfl; exact (List.not_mem_nil hu).elim) (by have := HDL.out; unfold maxLen; omega) (by have := HDL.out; omega) HSZ.out ?_
                         intro v3 w3 hown3 hg3 hat3
                         have hb3 : Below w2.heap.size w2 w3 := (HBR.out.alloc HBR.out.size _).grown hg3 HSZ.out (ownBlock_ge HO2.out)
                         have hc3 : w3.cell? ⟨b, off + (a + 1), none⟩ = some (.int .i32 m) := (hb3.cell (p := ⟨b, off + (a + 1), none⟩) hb).trans ((HBR.out.cell (p := ⟨b, off + (a + 1), none⟩) hb).symm.trans hcell1)
                         have HO3 := hide hown3
                         have HB3 := hide hb3
                         clear hown3 hg3 hat3 hb3)
            go_roundw
            case rel =>
              obtain ⟨m, rfl⟩ := Int.eq_ofNat_of_zero_le hm0
              obtain rfl := HLA.out
              exact ScanRel.step HX.out HF.out (by have := HAL.out; omega) HMY.out HO3.out HB3.out
            case measure => simp [intOf]; omega
          · have hbad : ¬ ∃ objs, flat objs = xs ∧ ∀ o ∈ objs, okO o := by
              rw [hx]
              by_cases hmy : mayO k m = true
              · exact bad_long done k m tl (by have : ¬ _ := fun h => hgood ⟨hmy, h⟩; omega)
              · exact bad_may done k m tl (by simpa using hmy)
            have hways : k < 0 ∨ (0 ≤ k ∧ 10000 < k) ∨ (0 ≤ k ∧ k ≤ 10000 ∧ m < 0) ∨ (0 ≤ k ∧ k ≤ 10000 ∧ 0 ≤ m ∧ 1000 < m) ∨ (0 ≤ k ∧ k ≤ 10000 ∧ 0 ≤ m ∧ m ≤ 1000 ∧ (n : Int) - (flat done).length - 2 < m) := by
              simp only [mayO, Bool.and_eq_true, decide_eq_true_eq] at hgood
              omega
            have HBAD := hide hbad
            clear hbad hgood hx hxl hal hsw
            generalize (flat done).length = a at *
            have d1 : decide ((n : Int) ≤ (a : Int) + 1) = false := by simp; omega
            rcases hways with h | ⟨h1, h⟩ | ⟨h1, h2, h⟩ | ⟨h1, h2, h3, h⟩ | ⟨h1, h2, h3, h4, h⟩
            · have d2 : decide (k < 0) = true := by simp; omega
              go_wp2
              go_meet
              exact ⟨HBR.out, .inr ⟨rfl, HBAD.out⟩⟩
            · have d2 : decide (k < 0) = false := by simp; omega
              have d3 : decide (10000 < k) = true := by simp; omega
              go_wp2
              go_meet
              exact ⟨HBR.out, .inr ⟨rfl, HBAD.out⟩⟩
            · have d2 : decide (k < 0) = false := by simp; omega
              have d3 : decide (10000 < k) = false := by simp; omega
              have d4 : decide (m < 0) = true := by simp; omega
              go_wp2
              go_meet
              exact ⟨HBR.out, .inr ⟨rfl, HBAD.out⟩⟩
            · have d2 : decide (k < 0) = false := by simp; omega
              have d3 : decide (10000 < k) = false := by simp; omega
              have d4 : decide (m < 0) = false := by simp; omega
              have d5 : decide (1000 < m) = true := by simp; omega
              go_wp2
              go_meet
              exact ⟨HBR.out, .inr ⟨rfl, HBAD.out⟩⟩
            · have d2 : decide (k < 0) = false := by simp; omega
              have d3 : decide (10000 < k) = false := by simp; omega
              have d4 : decide (m < 0) = false := by simp; omega
              have d5 : decide (1000 < m) = false := by simp; omega
              have d6 : decide ((n : Int) - (a : Int) - 2 < m) = true := by simp; omega
              go_wp2
              go_meet
              exact ⟨HBR.out, .inr ⟨rfl, HBAD.out⟩⟩
    case rest =>
      obtain ⟨hbw, hend⟩ := hcut
      have OF := fun q => hide (of_any wc w.heap.size w2.heap.size (Nat.le_trans HB2.out.size hbw.size) hbw.size A n c xs (HA.out.below hbw) HAC.out (by omega) HXS.out q)
      obtain ⟨mb, hmb, hmx, hmf⟩ : ∃ mb : Bool, u7 = .bool mb ∧ (mb = true → ∃ done, xs = flat done ∧ (∀ o ∈ done, okO o) ∧ wc.ownsRow w2.heap.size 3 1 u8 done.length ((placesFrom 0 done).map fun (a : Nat) => Value.int .i64 (a : Int))) ∧ (mb = false → ¬ ∃ objs, flat objs = xs ∧ ∀ o ∈ objs, okO o) := by
        rcases hend with ⟨done, hx, hf, rfl, hown⟩ | ⟨rfl, hno⟩
        · exact ⟨true, rfl, fun _ => ⟨done, hx, hf, hown⟩, fun h => (nomatch h)⟩
        · exact ⟨false, rfl, fun h => (nomatch h), fun _ => hno⟩
      subst hmb
      have HBW := hide hbw
      have HMX := hide hmx
      have HMF := hide hmf
      clear hmx hmf hend hbw
      have ha1 : a1 < 0 ∨ (0 ≤ a1 ∧ a1 ≤ 1048576) ∨ 1048576 < a1 := by omega
      have ha2 : a1 ≤ 100000 ∨ 100000 < a1 := by omega
      go_upto_region 15 with fail
      go_cut [7] (fun m wx => m = .bool (mb && decide ((n : Int) ≤ max 0 (min a1 1048576))) ∧ wx = wc)
      case first => as_aux_lemma =>
        clear OF
        have hm1 : 0 ≤ a1 → a1 ≤ 1048576 → max 0 (min a1 1048576) = a1 := by omega
        have hm0 : a1 < 0 → max 0 (min a1 1048576) = 0 := by omega
        have hm2 : 1048576 < a1 → max 0 (min a1 1048576) = 1048576 := by omega
        cases mb
        · go_wp2
          go_meet
          exact ⟨rfl, rfl⟩
        · rcases ha1 with h | ⟨h, h'⟩ | h
          · have E := hide (hm0 h)
            clear hm0 hm1 hm2
            go_wp2
            all_goals
              go_meet
              exact ⟨by rw [E.out]; simp <;> omega, rfl⟩
          · have E := hide (hm1 h h')
            clear hm0 hm1 hm2
            go_wp2
            all_goals
              go_meet
              exact ⟨by rw [E.out]; simp <;> omega, rfl⟩
          · have E := hide (hm2 h)
            clear hm0 hm1 hm2
            go_wp2
            all_goals
              go_meet
              exact ⟨by rw [E.out]; simp <;> omega, rfl⟩
      case rest =>
        obtain ⟨rfl, rfl⟩ := hcut
        obtain ⟨w3, rfl⟩ : ∃ x : World, x = wc := ⟨_, rfl⟩
        go_upto_region 16 with fail
        go_cut [10, 11] (fun hv ov wx => ∃ N, OfCut w3 w.heap.size w2.heap.size N (mb && decide ((n : Int) ≤ max 0 (min a1 1048576))) xs u8 hv ov wx)
        case first => as_aux_lemma =>
          rcases ha2 with h | h
          · have hq : a1 = min a1 100000 := by omega
            have HQ := hide hq
            clear hq
            go_wp2_with fail
            refine (OF _).out.mono ?_
            rintro e w3 hp
            obtain ⟨hv, ov, rfl, hc⟩ := hp.cut HQ.out HXL.out hn HMX.out HMF.out
            have HCC := hide hc
            clear hc hp
            go_wp2
            go_meet
            exact ⟨_, HCC.out⟩
          · have hq : 100000 = min a1 100000 := by omega
            have HQ := hide hq
            clear hq
            go_wp2_with fail
            refine (OF _).out.mono ?_
            rintro e w3 hp
            obtain ⟨hv, ov, rfl, hc⟩ := hp.cut HQ.out HXL.out hn HMX.out HMF.out
            have HCC := hide hc
            clear hc hp
            go_wp2
            go_meet
            exact ⟨_, HCC.out⟩
        case rest =>
          obtain ⟨N, hk3, hcc⟩ := hcut
          clear OF ha1 ha2
          have HF := hide HMF.out
          rcases hcc with ⟨hfit, rfl, rfl, done, hx, hf, hown, hin⟩ | ⟨hfit, rfl, rfl⟩
          · rw [hfit]
            subst hx
            have hxl := HXL.out
            obtain ⟨A8, c8, rfl, hs8⟩ := Sees.of_own hown
            have hsx := (HA.out.below HBW.out).below (hk3.below HBW.out.size fun _ => False.elim)
            have hs8x := hs8.below (hk3.below (Nat.le_refl _) fun _ => False.elim)
            have hbx := below_keeps (below_trans HB2.out HBW.out) hk3
            have hrel0 : LookRel w w.heap.size w2.heap.size w3.heap.size w3.heap.size N n done A A8 (.int .i64 0) wc := ⟨0, rfl, by omega, ⟨_, hin⟩, hsx, hs8x, hbx, Nat.le_trans HBW.out.size hk3.size⟩
            have HR0 := hide hrel0
            have HFF := hide hf
            clear hsx hs8x hbx hrel0 hin hs8 hown hfit hk3 hf hxl HMX HMF HF
            have hp0 : 0 ≤ w3.heap.size := by omega
            generalize w3.heap.size = p at *
            go_wp2
            go_loopw [12] (fun i wr => LookRel w w.heap.size w2.heap.size p p N n done A A8 i wr) (fun i _ => done.length - (intOf i).toNat)
            case atStart => exact HR0.out
            case round =>
              clear HR0
              obtain ⟨j, rfl, hj, ⟨F, hin⟩, hsx, hs8x, hbx, hsz⟩ := hrel
              have HSZ := hide hsz
              clear hsz
              by_cases hlt : j < done.length
              · obtain ⟨b8, off8, u8, hA8, hb8, hu8, hcell8⟩ := hs8x.at_ hlt
                rw [List.getElem?_map] at hu8
                obtain ⟨a, ha, rfl⟩ := Option.map_eq_some_iff.1 hu8
                obtain ⟨_, o, ho, hlo⟩ := places_look done 0 ha
                rw [show ((a : Int) - ((0 : Nat) : Int)) = (a : Int) from by omega] at hlo
                obtain ⟨a', haa, hle, _, hw0, hw1, _, homem⟩ := look_some done hlo
                obtain rfl : a = a' := by omega
                have hok := HFF.out o homem
                have hxl := HXL.out
                obtain ⟨b, off, u0, hA', hb, hu0, hcell0⟩ := hsx.at_ (k := a) (by omega)
                rw [List.getElem?_map, hw0] at hu0
                cases hu0
                obtain ⟨b', off', u1, hA2, hb', hu1, hcell1⟩ := hsx.at_ (k := a + 1) (by omega)
                rw [List.getElem?_map, hw1] at hu1
                cases hu1
                rw [hA'] at hA2
                obtain ⟨rfl, rfl⟩ : b = b' ∧ off = off' := by simpa using hA2
                have C1 := fun m => hide (has_in (hin.drewN m) (a : Int))
                have C2 := fun m => hide (kind_in (hin.drewN m) (a : Int))
                have C3 := fun m => hide (len_in (hin.drewN m) (a : Int))
                rw [hlo] at C1
                rw [show kindO done (a : Int) = o.1 from by unfold kindO; rw [hlo]] at C2
                rw [show lenO done (a : Int) = (o.2.length : Int) from by unfold lenO; rw [hlo]] at C3
                obtain ⟨hok1, hok2, hok3⟩ := hok
                have hlen : a + 1 < n := by omega
                have HN := hide (show LookRel w w.heap.size w2.heap.size p p N n done A A8 (.int .i64 (j : Int)) wr from ⟨j, rfl, hj, ⟨F, hin⟩, hsx, hs8x, hbx, HSZ.out⟩)
                have HJ := hide hlt
                subst hA' hA8
                have hlt' : (j : Int) < (done.length : Int) := by omega
                have hdb : (done.length : Int) ≤ 60 := by have := objs_le_flat done; omega
                generalize o.1 = ok at *
                generalize o.2.length = ol at *
                generalize hdl : done.length = dl at *
                have HDL := hide hdl
                clear hdl hA2 hw0 hw1 hlo hle ha hin hsx hs8x hbx hxl homem ho haa hu8
                go_wp2
                go_quiet (first | ((go_at_call 23; exact quiet_l (C1 _).out)) | ((go_at_call 24; exact quiet_l (C2 _).out)) | ((go_at_call 25; exact quiet_l (C3 _).out)))
                go_wp2
                go_roundw
                case rel => exact LookRel.next HN.out (by rw [HDL.out]; exact HJ.out) nq
                case measure => simp [intOf]; omega
              · obtain rfl : j = done.length := by omega
                have W0 := hide (words_in hin)
                have hxl := HXL.out
                rw [hxl] at W0
                have HSX := hide hsx
                have HBX := hide hbx
                have hdb : (done.length : Int) ≤ 60 := by have := objs_le_flat done; omega
                clear hin hsx hs8x hbx hxl
                generalize done.length = dl at *
                go_wp2_with fail
                refine W0.out.mono ?_
                rintro e w4 ⟨v4, rfl, hown4, hk4⟩
                obtain ⟨A4, c4, rfl, hs4⟩ := Sees.of_own hown4
                have hrel1 : SameRel w w2.heap.size w4.heap.size n (flat done) A A4 (.int .i64 0) w4 := ⟨0, rfl, by omega, HSX.out.below (hk4.below HSZ.out fun _ => False.elim), hs4, below_keeps HBX.out hk4⟩
                have HR1 := hide hrel1
                clear hown4 hk4 hs4 hrel1 W0
                go_wp2
                go_loopw [14] (fun i wr => SameRel w w2.heap.size w4.heap.size n (flat done) A A4 i wr) (fun i _ => n - (intOf i).toNat)
                case atStart => exact HR1.out
                case round =>
                  clear HR1
                  obtain ⟨j, rfl, hj, hsx, hs4, hbx⟩ := hrel
                  by_cases hlt : j < n
                  · obtain ⟨b, off, u0, rfl, hb, hu0, hcell0⟩ := hsx.at_ hlt
                    obtain ⟨b4, off4, u4, rfl, hb4, hu4, hcell4⟩ := hs4.at_ hlt
                    rw [hu0] at hu4
                    cases hu4
                    rw [List.getElem?_map] at hu0
                    obtain ⟨x, hx, rfl⟩ := Option.map_eq_some_iff.1 hu0
                    have HN := hide (show SameRel w w2.heap.size w4.heap.size n (flat done) _ _ (.int .i64 (j : Int)) wr from ⟨j, rfl, hj, hsx, hs4, hbx⟩)
                    have HJ := hide hlt
                    have hlt' : (j : Int) < (n : Int) := by omega
                    have hn' : (n : Int) ≤ 60 := by omega
                    clear hsx hs4 hbx hx hu0
                    go_wp2
                    go_quiet (fail)
                    go_wp2
                    go_roundw
                    case rel => exact SameRel.next HN.out HJ.out nq
                    case measure => simp [intOf]; omega
                  · obtain rfl : j = n := by omega
                    have HBX2 := hide hbx
                    clear hsx hs4 hbx
                    go_wp2
                    go_ret
                    exact ⟨by simp, HBX2.out⟩
          · rw [hfit]
            have HK3 := hide hk3
            clear hk3 hfit
            go_wp2
            go_ret
            exact ⟨rfl, below_keeps (below_trans HB2.out HBW.out) HK3.out⟩
end Go.Proofs.Ytjjoelhemhnojaa
