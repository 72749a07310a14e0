/- The walk of the law HeapApart. -/
import Derived.Test.YtjjoelhemhnojaaHeapL
set_option linter.unusedVariables false
namespace Go.Proofs.Ytjjoelhemhnojaa
open Go.RowKit
open Hp

/-- A heap of the call's own, and a row of its own beside it. -/
def Beside (W0 w : World) (p N : Nat) (objs : List Hp.Ob) (e : TypeId) (v : Value) (n : Nat) (xs : List Value) : Prop :=
  ∃ F, HeapIn w W0.heap.size F p N objs ∧ Below W0.heap.size W0 w ∧ w.ownsRow W0.heap.size e 1 v n xs ∧ (∀ g, v.ownBlock = some g → ¬ F g)
namespace Beside
variable {W0 w w' : World} {p N n : Nat} {objs : List Hp.Ob} {e : TypeId} {v : Value} {xs : List Value}
theorem solo (h : Beside W0 w p N objs e v n xs) : Solo W0 w p N objs := by
  obtain ⟨F, h1, h2, _⟩ := h
  exact ⟨F, h1, h2⟩
theorem keeps (h : Beside W0 w p N objs e v n xs) (hk : Keeps (fun _ => False) w w') : Beside W0 w' p N objs e v n xs := by
  obtain ⟨F, h1, h2, h3, h4⟩ := h
  exact ⟨F, h1.keeps hk fun _ _ => id, h2.trans (hk.below h2.size fun _ => False.elim), ownsRow_kept h3 fun g hg => hk.block g (own_lt' h3 hg) id, h4⟩
where own_lt' {w : World} {B n g : Nat} {e : TypeId} {v : Value} {xs : List Value} (h : w.ownsRow B e 1 v n xs) (hg : v.ownBlock = some g) : g < w.heap.size := own_lt h hg
theorem make (h : Beside W0 w p N objs e v n xs) (k : Int) (m : Nat) (hyes : mayO k m = true) (hroom : (m : Int) + 2 ≤ (N : Int) - (flat objs).length) :
    Calls Try.prog 17 #[.pointer (some ⟨p, 0, none⟩), .int .i64 k, .int .i64 (m : Int)] w fun en w' => en = .returned (.tuple #[.int .i64 ((flat objs).length : Int), .bool true]) ∧ Beside W0 w' p N (objs ++ [(k, List.replicate m 0)]) e v n xs := by
  obtain ⟨F, h1, h2, h3, h4⟩ := h
  refine (h1.make k m hyes hroom).mono ?_
  rintro en w' ⟨he, hi, hk⟩
  refine ⟨he, _, hi, h2.trans (hk.below h2.size fun k hf => (h1.low k hf).1), ownsRow_kept h3 fun g hg => hk.block g (own_lt h3 hg) (h4 g hg), fun g hg hf => ?_⟩
  rcases hf with hf | hf
  · exact h4 g hg hf
  · have := own_lt h3 hg
    omega
theorem alloc (h : Beside W0 w p N objs e v n xs) (o : Go.Obj) : Beside W0 (w.alloc o) p N objs e v n xs := h.keeps ((Keeps.refl _ w).alloc o)
theorem size (h : Beside W0 w p N objs e v n xs) : W0.heap.size ≤ w.heap.size := by
  obtain ⟨F, h1, h2, h3, h4⟩ := h
  exact h2.size
theorem row (h : Beside W0 w p N objs e v n xs) : w.ownsRow W0.heap.size e 1 v n xs := by
  obtain ⟨F, h1, h2, h3, h4⟩ := h
  exact h3
/-- Something was appended to the row. -/
theorem grown (h : Beside W0 w p N objs e v n xs) {v2 : Value} {n2 : Nat} {xs2 : List Value} (ho : w'.ownsRow W0.heap.size e 1 v2 n2 xs2) (hg : w.grownBy w' v.ownBlock) (hat : v2.ownBlock = v.ownBlock ∨ v2.ownBlock = some w.heap.size) :
    Beside W0 w' p N objs e v2 n2 xs2 := by
  obtain ⟨F, h1, h2, h3, h4⟩ := h
  refine ⟨F, h1.keep hg.size fun k hf => hg.block k (h1.low k hf).2 fun e => h4 k e.symm hf, h2.grown hg h2.size (ownBlock_ge h3), ho, fun g hgg hf => ?_⟩
  rcases hat with hat | hat
  · exact h4 g (by rw [← hat]; exact hgg) hf
  · rw [hat] at hgg
    have := (h1.low g hf).2
    cases hgg
    omega
end Beside
theorem tmod_lo (z : Int) (m : Nat) (hm : 0 < m) : -(m : Int) < z.tmod m ∧ z.tmod m < m := by
  have h1 : z.tmod (m : Int) < m := Int.tmod_lt_of_pos z (by omega)
  have := Int.lt_tmod_of_pos z (show (0 : Int) < m by omega)
  omega
theorem emod_nat (y : Int) (m : Nat) (hm : 0 < m) : ∃ q : Nat, y % m = (q : Int) ∧ q < m := by
  have h4 := Int.emod_nonneg y (show (m : Int) ≠ 0 by omega)
  have h5 := Int.emod_lt_of_pos y (show (0 : Int) < m by omega)
  exact ⟨(y % m).toNat, by omega, by omega⟩
/-- Objects of noughts, few of them and short. -/
def Small (objs : List Hp.Ob) : Prop := ∀ o ∈ objs, ∃ m : Nat, o.2 = List.replicate m 0 ∧ m ≤ 19
theorem small_flat (objs : List Hp.Ob) (h : Small objs) : (flat objs).length ≤ 21 * objs.length := by
  induction objs with
  | nil => simp [flat]
  | cons o l ih =>
    obtain ⟨m, hm, hm2⟩ := h o List.mem_cons_self
    have := ih fun q hq => h q (List.mem_cons_of_mem _ hq)
    simp [flat, hm]
    omega
def ApartRel (w : World) (p k : Nat) (lv i : Value) (wr : World) : Prop :=
  ∃ (j : Nat) (objs : List Hp.Ob), i = .int .i64 (j : Int) ∧ j ≤ k ∧ objs.length = j ∧ Small objs ∧ Beside w wr p 400 objs 3 lv j ((placesFrom 0 objs).map fun (a : Nat) => Value.int .i64 (a : Int))
theorem ApartRel.step {w wr : World} {p k j q : Nat} {objs : List Hp.Ob} {lv : Value} (hj : j + 1 ≤ k) (hol : objs.length = j) (hs : Small objs) (hq : q < 20)
    (hb : Beside w wr p 400 (objs ++ [((j : Int), List.replicate q 0)]) 3 lv (j + 1) (((placesFrom 0 objs).map fun (a : Nat) => Value.int .i64 (a : Int)) ++ [.int .i64 ((flat objs).length : Int)])) : ApartRel w p k lv (.int .i64 ((j : Int) + 1)) wr := by
  refine ⟨j + 1, objs ++ [((j : Int), List.replicate q 0)], by go_num, hj, by simp [hol], ?_, by rw [placesFrom_append]; simpa using hb⟩
  intro o ho
  rcases List.mem_append.1 ho with ho | ho
  · exact hs o ho
  · rw [List.mem_singleton.1 ho]
    exact ⟨q, rfl, by omega⟩
def ApartEnd (w : World) (p : Nat) (lv : Value) (wr : World) : Prop :=
  ∃ (j : Nat) (objs : List Hp.Ob), (j : Int) ≤ 10 ∧ objs.length = j ∧ Small objs ∧ Beside w wr p 400 objs 3 lv j ((placesFrom 0 objs).map fun (a : Nat) => Value.int .i64 (a : Int))
def turnedO (idx t : Nat) : Int := if idx < t then 1 else 0
theorem turned_same {idx t : Nat} (h : t ≠ idx) : turnedO idx (t + 1) = turnedO idx t := by
  unfold turnedO
  by_cases h1 : idx < t
  · rw [if_pos h1, if_pos (by omega)]
  · rw [if_neg h1, if_neg (by omega)]
theorem turned_at (idx : Nat) : turnedO idx idx = 0 ∧ turnedO idx (idx + 1) = 1 := by
  unfold turnedO
  exact ⟨if_neg (by omega), if_pos (by omega)⟩
theorem turned_end {idx t : Nat} (h : idx < t) : turnedO idx t = 1 := if_pos h
theorem turned_bd (idx t : Nat) : 0 ≤ turnedO idx t ∧ turnedO idx t ≤ 1 := by
  unfold turnedO; split <;> omega
/-- What the count of turned words holds at each round's head. -/
def TurnRel (w : World) (C p L idx : Nat) (o1 o2 : List Hp.Ob) (A1 A2 : Option Addr) (n i : Value) (wr : World) : Prop :=
  ∃ t : Nat, i = .int .i64 (t : Int) ∧ t ≤ L ∧ n = .int .i64 (turnedO idx t) ∧ Sees wr C A1 L ((flat o1).map (Value.int .i32)) ∧ Sees wr C A2 L ((flat o2).map (Value.int .i32)) ∧ (∃ F B, HeapIn wr B F p 400 o2) ∧ Below w.heap.size w wr
theorem TurnRel.next {w wr : World} {C p L idx t : Nat} {o1 o2 : List Hp.Ob} {A1 A2 : Option Addr} {n : Value} (h : TurnRel w C p L idx o1 o2 A1 A2 n (.int .i64 (t : Int)) wr) (ht : t < L) (n2 : Value) (hn : n2 = .int .i64 (turnedO idx (t + 1))) (q : Nat) :
    TurnRel w C p L idx o1 o2 A1 A2 n2 (.int .i64 ((t : Int) + 1)) (wr.drewN q) := by
  obtain ⟨t', he, h1, _, h3, h4, ⟨F, B, h5⟩, h6⟩ := h
  obtain rfl : t = t' := by simp at he; omega
  exact ⟨t + 1, by go_num, by omega, hn, h3.drewN q, h4.drewN q, ⟨F, B, h5.drewN q⟩, bel_drewN h6 q⟩
/-- Two looks at a heap's words, a word put between them. -/
theorem put_words {objs : List Hp.Ob} {a i m : Nat} {o : Hp.Ob} (hl : lookO objs (a : Int) = some o) (ho : o.2 = List.replicate m 0) (hi : i < m) (x : Int) :
    (flat (Hp.put objs (a : Int) i x)) = (flat objs).set (a + 2 + i) x ∧ a + 2 + i < (flat objs).length ∧ (flat objs)[a + 2 + i]? = some 0 ∧ getO (Hp.put objs (a : Int) i x) (a : Int) (i : Int) = x := by
  have hlen : o.2.length = m := by rw [ho]; simp
  obtain ⟨n, hn, hle, _, _, _, hw, _⟩ := look_some _ hl
  obtain rfl : a = n := by omega
  refine ⟨by rw [put_flat _ hl (by omega)]; simp, by omega, ?_, ?_⟩
  · rw [hw i (by omega), ho, List.getElem?_replicate, if_pos hi]
  · unfold getO
    rw [look_put, if_pos rfl, hl]
    simp [List.getD_eq_getElem?_getD, hlen, hi]
set_option maxRecDepth 100000 in
set_option maxHeartbeats 4000000 in
theorem heapApart_walk (a0 : Option Addr) (len0 cap0 : Nat) (z0 : List Int) (a1 : Int) (a2 : Int) (a3 : Int) (w : World) (w0 : IsRow .i64 w a0 len0 cap0 z0) (w1 : (Lit.int .i64 a1).wf = true) (w2 : (Lit.int .i64 a2).wf = true) (w3 : (Lit.int .i32 a3).wf = true) :
    Calls Try.prog 7 #[.slice a0 len0 cap0, .int .i64 a1, .int .i64 a2, .int .i32 a3] w fun e w' => e = .returned (.bool true) ∧ Below w.heap.size w w' := by
  obtain ⟨hlc, hcm, hcn, hzl, hzw, hsee⟩ := w0.cells
  have h1 := in64_of w1
  have h2 := in64_of w2
  have h3 := in32_of w3
  unfold inI32 at h3
  clear w0 w1 w2 w3
  have HB := hide (begun13_any w)
  have HZ := hide hzw
  unfold maxLen at hcm
  obtain ⟨i1, hj0, hy0, hy1, hy2⟩ := info_parts Try.info3
  have HJ := hide hj0
  have HY0 := hide hy0
  have HY1 := hide hy1
  have HY2 := hide hy2
  clear hj0 hy0 hy1 hy2 hcn hzw hzl
  go_enter Try.func7, Try.ntmps7
  go_wp2_with fail
  refine HB.out.mono ?_
  rintro e wb ⟨rfl, hbb⟩
  have N1 := hide (Solo.new 400 hbb)
  rw [show clampN 400 = 400 from rfl] at N1
  have HSE := hide hsee
  clear hsee hbb HB
  go_upto_block 0 with ((with_reducible refine N1.out.mono ?_); rintro e wn ⟨rfl, hs⟩; have HS := hide hs; clear hs)
  clear N1
  have hrel0 : ApartRel w wb.heap.size (min len0 10) (.slice none 0 0) (.int .i64 0) wn := by
    obtain ⟨F, f1, f2⟩ := HS.out
    exact ⟨0, [], rfl, by omega, rfl, fun o ho => (List.not_mem_nil ho).elim, F, f1, f2, World.ownsRow_nil _ _ _ _, fun g hg => (by cases hg)⟩
  have HR0 := hide hrel0
  clear hrel0
  go_cut [11] (fun lv wx => ApartEnd w wb.heap.size lv wx)
  case first =>
    go_wp2
    go_loopw [11, 12, 13, 14] (fun lv i _ _ wr => ApartRel w wb.heap.size (min len0 10) lv i wr) (fun _ i _ _ _ => (min len0 10) - (intOf i).toNat)
    case atStart => exact HR0.out
    case round =>
      clear HR0 HS
      obtain ⟨j, objs, rfl, hj, hol, hsm, hbs⟩ := hrel
      by_cases hlt : j < len0 ∧ j < 10
      · obtain ⟨hlt1, hlt2⟩ := hlt
        obtain ⟨b, off, u, rfl, hb, hu, hcell⟩ := (HSE.out.below hbs.solo.below).at_ hlt1
        rw [List.getElem?_map] at hu
        obtain ⟨z, hz, rfl⟩ := Option.map_eq_some_iff.1 hu
        have hzb := in64_of (HZ.out z (List.mem_of_mem_take (List.mem_of_getElem? hz)))
        obtain ⟨q, hq, hq2⟩ := emod_nat (z.tmod 20) 20 (by omega)
        have ht := tmod_lo z 20 (by omega)
        rw [show ((20 : Nat) : Int) = 20 from rfl] at hq ht
        obtain ⟨ht1, ht2⟩ := ht
        have hfl := small_flat objs hsm
        have M1 := hbs.make (j : Int) q (by simp [mayO]; omega) (by omega)
        rw [← hq] at M1
        have HM := hide M1
        have HQ := hide hq
        have HSM := hide hsm
        have HOL := hide hol
        clear M1 hq hbs hsm hol hu hz hfl
        go_wp2_with (first
          | (go_at_call 17
             (with_reducible refine HM.out.mono ?_)
             rintro e w2 ⟨rfl, hb2⟩
             have hb3 := hb2.alloc (.cells #[.int .i64 ((flat objs).length : Int)] 3)
             have HB3 := hide hb3
             have HRW := hide hb3.row
             have HSZ := hide hb3.size
             have HS2 := hide (new_sees w2 #[.int .i64 ((flat objs).length : Int)] 3)
             clear hb2 hb3)
          | (at_builtin
             refine wpList_append_sees _ rfl (.tmp 49) (.tmp 51) 41 rfl w.heap.size 3 i1 _ 8 Try.underlying41 HJ.out HY0.out HY1.out HY2.out rfl _ j _ rfl HRW.out (w2.heap.size + 1) _ 1 1 _ rfl HS2.out (fun e => nomatch e) (by intro u hu; rcases List.mem_cons.1 hu with rfl | hu; exact rfl; exact (List.not_mem_nil hu).elim) (by unfold maxLen; omega) (by omega) HSZ.out ?_
             intro v3 w3 hown3 hg3 hat3
             have HB4 := hide (HB3.out.grown hown3 hg3 hat3)
             clear hown3 hg3 hat3))
        go_roundw
        case rel => exact ApartRel.step (by omega) HOL.out HSM.out hq2 HB4.out
        case measure => simp [intOf]; omega
      · have HE := hide (show ApartEnd w wb.heap.size u11 wr from ⟨j, objs, by omega, hol, hsm, hbs⟩)
        have hji : ¬ ((j : Int) < len0) ∨ ¬ ((j : Int) < 10) := by omega
        clear hbs hsm hol
        rcases hji with h | h
        · go_wp2
          go_meet
          exact HE.out
        · go_wp2
          all_goals
            go_meet
            exact HE.out
  case rest =>
    clear HR0 HS HSE
    obtain ⟨j, objs, hj10, hol, hsm, hbs⟩ := hcut
    obtain ⟨A8, c8, rfl, hs8⟩ := Sees.of_own hbs.row
    have HB5 := hide hbs.solo.below
    have HBS := hide hbs
    by_cases hj0 : j = 0
    · subst hj0
      clear hbs hsm hol hs8
      go_wp2
      go_ret
      exact ⟨rfl, HB5.out⟩
    · by_cases hx0 : a3 = 0
      · subst hx0
        clear hbs hsm hol hs8
        have hj2 : ¬ ((j : Int) = 0) := by omega
        go_wp2
        go_ret
        exact ⟨rfl, HB5.out⟩
      · have hj0' : ¬ ((j : Int) = 0) := by omega
        have hj1 : 0 < j := by omega
        have hj2 : 0 < (j : Int) := by omega
        obtain ⟨q, hq, hq2⟩ := emod_nat (a1.tmod j) j hj1
        have ht := tmod_lo a1 j hj1
        obtain ⟨ht1, ht2⟩ := ht
        obtain ⟨b8, off8, u8, rfl, hb8, hu8, hcell8⟩ := hs8.at_ hq2
        rw [List.getElem?_map] at hu8
        obtain ⟨a, ha, rfl⟩ := Option.map_eq_some_iff.1 hu8
        obtain ⟨_, o, ho, hlo⟩ := places_look objs 0 ha
        rw [show ((a : Int) - ((0 : Nat) : Int)) = (a : Int) from by omega] at hlo
        have hom : o ∈ objs := List.mem_of_getElem? ho
        obtain ⟨m, hm, hm2⟩ := hsm o hom
        have L0 := hbs.solo.len (a : Int)
        rw [show lenO objs (a : Int) = (m : Int) from by unfold lenO; rw [hlo]; simp [hm]] at L0
        have HLN := hide L0
        have HLO := hide hlo
        have HOM := hide hm
        have hqn : (a1.tmod (j : Int) % (j : Int)).toNat = q := by rw [hq]; rfl
        have hqa : 0 ≤ a1.tmod (j : Int) % (j : Int) := by omega
        have hqb : a1.tmod (j : Int) % (j : Int) < (j : Int) := by omega
        rw [← hqn] at hcell8
        clear hqn hq
        have dj : ((j : Int) == 0) = false := by simp; omega
        have dx : (a3 == 0) = false := by simpa using hx0
        clear hj0 hbs hsm hol hs8 hu8 ha ho hlo hom hm L0
        by_cases hm0 : m = 0
        · subst hm0
          rw [show ((0 : Nat) : Int) = 0 from rfl] at HLN
          have P0 := HBS.out.solo.put_out (a : Int) 0 a3 (.inr (by unfold lenO; rw [HLO.out]; simp [HOM.out]))
          have HP0 := hide P0
          clear P0
          go_wp2_with (first
            | (go_at_call 25; (with_reducible refine HLN.out.mono ?_); rintro e w' ⟨rfl, rfl⟩)
            | (go_at_call 18; (with_reducible refine HP0.out.mono ?_); rintro e w' ⟨rfl, rfl⟩))
          go_ret
          exact ⟨rfl, HB5.out⟩
        · have hm1 : 0 < m := by omega
          have hm3 : 0 < (m : Int) := by omega
          have hm4 : ((m : Int) == 0) = false := by simp; omega
          have hm5 : (m : Int) ≤ 19 := by omega
          have hu := tmod_lo a2 m hm1
          obtain ⟨hu1, hu2⟩ := hu
          obtain ⟨i, hi, hi2⟩ := emod_nat (a2.tmod m + m) m hm1
          have HI := hide hi
          have hin : (a2.tmod (m : Int) + m) % (m : Int) < (m : Int) := by omega
          have hi0 : 0 ≤ (a2.tmod (m : Int) + m) % (m : Int) := by omega
          have e1 : IntKind.i64.wrap (a2.tmod (m : Int) + (m : Int)) = a2.tmod (m : Int) + (m : Int) := IntWalk.i64_in _ (by omega)
          have e2 : 0 ≤ a2.tmod (m : Int) + (m : Int) := by omega
          have HLM := fun k => hide ((HBS.out.keeps ((Keeps.refl _ _).drewN k)).solo.len (a : Int))
          rw [show lenO objs (a : Int) = (m : Int) from by unfold lenO; rw [HLO.out]; simp [HOM.out]] at HLM
          clear hi
          go_wp2_with (go_at_call 25; (with_reducible refine HLN.out.mono ?_); rintro e w' ⟨rfl, rfl⟩)
          go_quiet ((go_at_call 25; exact quiet_l (HLM _).out))
          clear e1 e2
          rw [HI.out] at hi0 hin
          rw [HI.out]
          have hi3 : i < m := hi2
          obtain ⟨pw1, pw2, pw3, pw4⟩ := put_words HLO.out HOM.out hi3 a3
          have HP1 := hide pw1
          have HP2 := hide pw2
          have HP3 := hide pw3
          have HP4 := hide pw4
          obtain ⟨F, hF, hFb, _, _⟩ := HBS.out.keeps ((Keeps.refl _ wc).drewN nq)
          have W4 := hide (words_in hF)
          have HF := hide hF
          have HFB := hide hFb
          clear pw1 pw2 pw3 pw4 hF hFb HLM
          go_wp2_with fail
          refine W4.out.mono ?_
          rintro e w4 ⟨v4, rfl, hown4, hk4⟩
          have hF4 := HF.out.keeps hk4 (fun _ _ => id)
          have P5 := hide (put_in hF4 (a : Int) i a3 (by unfold lenO; rw [HLO.out]; simp [HOM.out]; omega))
          have HO4 := hide hown4
          have HK4 := hide hk4
          have HF4 := hide hF4
          clear hown4 hk4 hF4 W4
          go_wp2_with fail
          refine P5.out.mono ?_
          rintro e w5 ⟨rfl, hF5, hk5⟩
          have W6 := hide (words_in hF5)
          have HF5 := hide hF5
          have HK5 := hide hk5
          clear hF5 hk5 P5
          go_wp2_with fail
          refine W6.out.mono ?_
          rintro e w6 ⟨v6, rfl, hown6, hk6⟩
          obtain ⟨A6, c6, rfl, hs6⟩ := Sees.of_own hown6
          have hlow : ∀ g, v4.ownBlock = some g → ¬ F g := fun g hg hf => by
            have h1 := (HF.out.low g hf).2
            have h2 := ownBlock_ge HO4.out g hg
            omega
          have ho5 := ownsRow_kept HO4.out fun g hg => HK5.out.block g (own_lt HO4.out hg) (hlow g hg)
          have ho6 := ownsRow_kept ho5 fun g hg => hk6.block g (own_lt ho5 hg) id
          obtain ⟨A4, c4, rfl, hs4⟩ := Sees.of_own ho6
          have hF6 := HF5.out.keeps hk6 (fun _ _ => id)
          have hb6 : Below w.heap.size w w6 := (((HFB.out.trans (HK4.out.below HFB.out.size fun _ => False.elim)).trans (HK5.out.below (Nat.le_trans HFB.out.size HK4.out.size) fun k hf => (HF.out.low k hf).1))).trans (hk6.below (Nat.le_trans (Nat.le_trans HFB.out.size HK4.out.size) HK5.out.size) fun _ => False.elim)
          rw [show (flat (Hp.put objs (a : Int) i a3)).length = (flat objs).length from put_flat_length _ _ _ _] at hs6
          rw [show (flat (Hp.put objs (a : Int) i a3)).length = (flat objs).length from put_flat_length _ _ _ _]
          have hrel0 : TurnRel w w6.heap.size wb.heap.size (flat objs).length (a + 2 + i) objs (Hp.put objs (a : Int) i a3) A4 A6 (.int .i64 0) (.int .i64 0) w6 :=
            ⟨0, rfl, by omega, by rw [turnedO, if_neg (by omega)], hs4, hs6, ⟨_, _, hF6⟩, hb6⟩
          have hL : (flat objs).length ≤ 400 := by have := HF.out.le; omega
          have HR0 := hide hrel0
          have HFL := hide hL
          clear hown6 hk6 hs6 hlow ho5 ho6 hs4 hF6 hb6 hrel0 hL W6 HF5 HK5 HF4 HO4 HK4
          generalize hidx : a + 2 + i = idx at *
          have HIX := hide hidx
          clear hidx
          generalize hLL : (flat objs).length = L at *
          have HLL := hide hLL
          clear hLL
          have hL4 : (L : Int) ≤ 400 := by have := HFL.out; omega
          go_wp2_with fail
          go_loopw [19, 20] (fun n iv wr => TurnRel w w6.heap.size wb.heap.size L idx objs (Hp.put objs (a : Int) i a3) A4 A6 n iv wr) (fun _ i _ => L - (intOf i).toNat)
          case atStart => exact HR0.out
          case round =>
            clear HR0
            obtain ⟨t, rfl, ht, rfl, hs4, hs6, ⟨F2, B2, hin2⟩, hb2⟩ := hrel
            have HN := hide (show TurnRel w w6.heap.size wb.heap.size L idx objs (Hp.put objs (a : Int) i a3) A4 A6 (.int .i64 (turnedO idx t)) (.int .i64 (t : Int)) wr from ⟨t, rfl, ht, rfl, hs4, hs6, ⟨F2, B2, hin2⟩, hb2⟩)
            have htb := turned_bd idx t
            obtain ⟨ht0, ht1'⟩ := htb
            by_cases hlt : t < L
            · obtain ⟨b4, off4, u4, rfl, hb4, hu4, hcell4⟩ := hs4.at_ hlt
              obtain ⟨b6, off6, u6, rfl, hb6, hu6, hcell6⟩ := hs6.at_ hlt
              rw [HP1.out, List.getElem?_map, List.getElem?_set] at hu6
              rw [List.getElem?_map] at hu4
              have HT := hide hlt
              have hlt' : (t : Int) < (L : Int) := by omega
              by_cases hti : idx = t
              · subst hti
                rw [HP3.out] at hu4
                cases hu4
                rw [if_pos rfl, HLL.out, if_pos hlt] at hu6
                cases hu6
                have hT0 := turned_at idx
                rw [hT0.1]
                have HT1 := hide hT0.2
                have dx2 : (a3 != 0) = true := by simpa using hx0
                clear hs4 hs6 hin2 hb2 hlt hT0 ht0 ht1'
                go_wp2
                go_quiet (fail)
                go_wp2
                go_roundw
                case rel => exact TurnRel.next HN.out HT.out _ (by rw [HT1.out]) nq
                case measure => simp [intOf]; omega
              · rw [if_neg hti] at hu6
                obtain ⟨y, hy, rfl⟩ := Option.map_eq_some_iff.1 hu4
                rw [hy] at hu6
                cases hu6
                have HT1 := hide (turned_same (idx := idx) (t := t) (fun e => hti e.symm))
                generalize turnedO idx t = T at *
                clear hs4 hs6 hin2 hb2 hlt hti hu4 hy
                go_wp2
                go_quiet (fail)
                go_wp2
                go_roundw
                case rel => exact TurnRel.next HN.out HT.out _ (by rw [HT1.out]) nq
                case measure => simp [intOf]; omega
            · obtain rfl : t = L := by omega
              have hil := HP2.out
              rw [turned_end hil]
              obtain ⟨b6, off6, u6, rfl, hb6, hu6, hcell6⟩ := hs6.at_ hil
              rw [HP1.out, List.getElem?_map, List.getElem?_set, if_pos rfl, HLL.out, if_pos hil] at hu6
              cases hu6
              have G0 := hide (get_in hin2 (a : Int) (i : Int))
              rw [HP4.out] at G0
              have hb3 := hide hb2
              rw [← HIX.out] at hcell6
              have hil2 : (a : Int) + 2 + i < t := by have := HIX.out; omega
              clear hs4 hs6 hin2 hb2 hlt ht0 ht1' hil HN
              go_wp2_with (go_at_call 27; (with_reducible refine G0.out.mono ?_); rintro e w' ⟨rfl, rfl⟩)
              go_ret
              exact ⟨rfl, hb3.out⟩
end Go.Proofs.Ytjjoelhemhnojaa
