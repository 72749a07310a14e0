/- The walks of the law's find and same: a heap's objects against a list of them. -/
import Derived.Test.YtjjoelhemhnojaaHeapM
set_option linter.unusedVariables false
namespace Go.Proofs.Ytjjoelhemhnojaa
open Go.RowKit
open Hp

/-- A list of objects as the law keeps them, in memory: where each stands, its kind, its words. -/
def Recs (w : World) (C : Nat) (A : Option Addr) (n : Nat) (objs : List Hp.Ob) : Prop :=
  objs.length = n ∧ (0 < n → ∃ b off, A = some ⟨b, off, none⟩ ∧ b < C ∧ ∀ (i at_ : Nat) (o : Hp.Ob), (placesFrom 0 objs)[i]? = some at_ → objs[i]? = some o →
    w.cell? ⟨b, off + i * 3, none⟩ = some (.int .i64 (at_ : Int)) ∧ w.cell? ⟨b, off + i * 3 + 1, none⟩ = some (.int .i64 o.1) ∧
    ∃ A' c, w.cell? ⟨b, off + i * 3 + 2, none⟩ = some (.slice A' o.2.length c) ∧ Sees w C A' o.2.length (o.2.map (Value.int .i32)))
theorem Recs.keep {w w' : World} {C n : Nat} {A : Option Addr} {objs : List Hp.Ob} (h : Recs w C A n objs) (hk : ∀ p : Addr, p.block < C → w'.cell? p = w.cell? p) : Recs w' C A n objs := by
  refine ⟨h.1, fun hn => ?_⟩
  obtain ⟨b, off, hA, hb, hc⟩ := h.2 hn
  refine ⟨b, off, hA, hb, fun i at_ o h1 h2 => ?_⟩
  obtain ⟨c0, c1, A', c, c2, hs⟩ := hc i at_ o h1 h2
  exact ⟨(hk _ hb).trans c0, (hk _ hb).trans c1, A', c, (hk _ hb).trans c2, hs.keep hk⟩
theorem Recs.drewN {w : World} {C n : Nat} {A : Option Addr} {objs : List Hp.Ob} (h : Recs w C A n objs) (q : Nat) : Recs (w.drewN q) C A n objs := h.keep fun _ _ => rfl
/-- The first object at a place. -/
def findO (objs : List Hp.Ob) (y : Int) : Int := match (placesFrom 0 objs).findIdx? (fun (p : Nat) => ((p : Int) == y)) with | some k => (k : Int) | none => -1
theorem places_some (l : List Hp.Ob) : ∀ (n : Nat) {y : Int} {o : Hp.Ob}, lookO l (y - n) = some o → ∃ k a : Nat, (placesFrom n l)[k]? = some a ∧ (a : Int) = y ∧ l[k]? = some o := by
  induction l with
  | nil => intro n y o h; cases h
  | cons p l ih =>
    intro n y o h
    unfold lookO at h
    split at h
    · rename_i h0
      cases h
      exact ⟨0, n, rfl, by omega, rfl⟩
    · obtain ⟨k, a, h1, h2, h3⟩ := ih (n + 2 + p.2.length) (y := y) (o := o) (by rw [← h]; congr 1; omega)
      exact ⟨k + 1, a, by simpa [placesFrom] using h1, h2, by simpa using h3⟩
theorem places_lt (l : List Hp.Ob) : ∀ (n : Nat) {k a : Nat}, (placesFrom n l)[k]? = some a → n ≤ a := by
  intro n k a h
  exact (places_look l n h).1
theorem places_inj (l : List Hp.Ob) : ∀ (n : Nat) {i k a : Nat}, (placesFrom n l)[i]? = some a → (placesFrom n l)[k]? = some a → i = k := by
  induction l with
  | nil => intro n i k a h; simp [placesFrom] at h
  | cons p l ih =>
    intro n i k a h1 h2
    cases i with
    | zero =>
      cases k with
      | zero => rfl
      | succ k =>
        simp [placesFrom] at h1 h2
        have := places_lt l _ h2
        omega
    | succ i =>
      cases k with
      | zero =>
        simp [placesFrom] at h1 h2
        have := places_lt l _ h1
        omega
      | succ k =>
        simp [placesFrom] at h1 h2
        rw [ih _ h1 h2]
theorem findO_look (objs : List Hp.Ob) (y : Int) : (lookO objs y = none ∧ findO objs y = -1) ∨ ∃ (k a : Nat) (o : Hp.Ob), lookO objs y = some o ∧ findO objs y = (k : Int) ∧ (placesFrom 0 objs)[k]? = some a ∧ (a : Int) = y ∧ objs[k]? = some o := by
  unfold findO
  cases hl : lookO objs y with
  | none =>
    refine .inl ⟨rfl, ?_⟩
    have : (placesFrom 0 objs).findIdx? (fun (p : Nat) => ((p : Int) == y)) = none := by
      rw [List.findIdx?_eq_none_iff]
      intro p hp
      obtain ⟨k, hk⟩ := List.mem_iff_getElem?.1 hp
      obtain ⟨_, o, _, ho⟩ := places_look objs 0 hk
      rw [Bool.eq_false_iff]
      intro e
      rw [beq_iff_eq] at e
      rw [← e] at hl
      rw [show ((p : Int) - ((0 : Nat) : Int)) = (p : Int) from by omega, hl] at ho
      cases ho
    rw [this]
  | some o =>
    obtain ⟨k, a, h1, h2, h3⟩ := places_some objs 0 (y := y) (o := o) (by rw [← hl]; congr 1; omega)
    refine .inr ⟨k, a, o, rfl, ?_, h1, h2, h3⟩
    have hk : k < (placesFrom 0 objs).length := (List.getElem?_eq_some_iff.1 h1).1
    have : (placesFrom 0 objs).findIdx? (fun (p : Nat) => ((p : Int) == y)) = some k := by
      rw [List.findIdx?_eq_some_iff_getElem]
      refine ⟨hk, ?_, fun j hj => ?_⟩
      · rw [(List.getElem?_eq_some_iff.1 h1).2]; simpa using h2
      · intro e
        rw [beq_iff_eq] at e
        have hjl : j < (placesFrom 0 objs).length := by omega
        have : (placesFrom 0 objs)[j]? = some a := by rw [List.getElem?_eq_getElem hjl]; congr 1; omega
        have := places_inj objs 0 this h1
        omega
    rw [this]
set_option maxHeartbeats 1000000 in
theorem find_any (w : World) (C : Nat) (A : Option Addr) (n c : Nat) (objs : List Hp.Ob) (h : Recs w C A n objs) (hn : (n : Int) ≤ 1000) (y : Int) : Calls Try.prog 39 #[.slice A n c, .int .i64 y] w fun e w' => e = .returned (.int .i64 (findO objs y)) ∧ w = w' := by
  have H := hide h
  clear h
  go_enter Try.func39, Try.ntmps39
  go_wp2_with fail
  go_loop [5] (fun iv => ∃ j : Nat, iv = .int .i64 (j : Int) ∧ j ≤ n ∧ ∀ (i a : Nat), i < j → (placesFrom 0 objs)[i]? = some a → (a : Int) ≠ y) (fun iv => n - (intOf iv).toNat)
  case atStart => exact ⟨0, rfl, by omega, fun i a hi => absurd hi (by omega)⟩
  case round =>
    obtain ⟨j, rfl, hj, hne⟩ := hrel
    have HNE := hide hne
    clear hne
    by_cases hlt : j < n
    · obtain ⟨b, off, hA, hb, hc⟩ := H.out.2 (by omega)
      have hol := H.out.1
      have hpl : j < (placesFrom 0 objs).length := by rw [placesFrom_length]; omega
      have c0 := (hc j _ _ (List.getElem?_eq_getElem hpl) (List.getElem?_eq_getElem (show j < objs.length by omega))).1
      have hpa := List.getElem?_eq_getElem hpl
      generalize (placesFrom 0 objs)[j] = a at *
      have HPA := hide hpa
      have hlt' : (j : Int) < (n : Int) := by omega
      subst hA
      clear hc hol hpl hpa
      by_cases hay : (a : Int) = y
      · have d1 : ((a : Int) == y) = true := by simpa using hay
        have hfj : findO objs y = (j : Int) := by
          rcases findO_look objs y with ⟨hl, _⟩ | ⟨k, a', o, _, h2, h3, h4, _⟩
          · obtain ⟨_, o, _, ho⟩ := places_look objs 0 HPA.out
            rw [show ((a : Int) - ((0 : Nat) : Int)) = (a : Int) from by omega, hay, hl] at ho
            cases ho
          · obtain rfl : a = a' := by omega
            rw [h2, places_inj objs 0 h3 HPA.out]
        have HFJ := hide hfj
        clear hay hfj
        go_wp2_with fail
        go_ret
        exact ⟨ret_int HFJ.out.symm, rfl⟩
      · have d1 : ((a : Int) == y) = false := by simpa using hay
        have HAY := hide hay
        clear hay
        go_wp2_with fail
        go_round
        case rel =>
          refine ⟨j + 1, by go_num, by omega, fun i a' hi ha' => ?_⟩
          rcases Nat.lt_or_ge i j with h | h
          · exact HNE.out i a' h ha'
          · obtain rfl : i = j := by omega
            rw [HPA.out] at ha'
            cases ha'
            exact HAY.out
        case measure => simp [intOf]; omega
    · obtain rfl : j = n := by omega
      have hfj : findO objs y = -1 := by
        rcases findO_look objs y with ⟨_, h⟩ | ⟨k, a', o, _, h2, h3, h4, h5⟩
        · exact h
        · have hk : k < j := by rw [← H.out.1]; exact (List.getElem?_eq_some_iff.1 h5).1
          exact absurd h4 (HNE.out k a' hk h3)
      have HFJ := hide hfj
      clear hfj
      go_wp2_with fail
      go_ret
      exact ⟨ret_int HFJ.out.symm, rfl⟩
theorem get_no {w : World} {B p N : Nat} {F : Nat → Prop} {objs : List Hp.Ob} (h : HeapIn w B F p N objs) (a i : Int) (hi : i < 0 ∨ lenO objs a ≤ i) : Calls Try.prog 27 #[.pointer (some ⟨p, 0, none⟩), .int .i64 a, .int .i64 i] w fun e w' => e = .returned (.int .i32 0) ∧ w = w' := by
  have := get_in h a i
  rw [show getO objs a i = 0 from ?_] at this
  · exact this
  · unfold getO
    split
    · rename_i o hl
      rw [show lenO objs a = (o.2.length : Int) from by unfold lenO; rw [hl]] at hi
      split
      · rw [List.getD_eq_getElem?_getD, List.getElem?_eq_none (by omega)]; rfl
      · rfl
    · rfl
/-- What the law's same holds at each round's head. -/
def SameAt (w : World) (L : Nat) (i : Value) (wr : World) : Prop := ∃ y : Int, i = .int .i64 y ∧ -1 ≤ y ∧ y ≤ (L : Int) + 1 ∧ ∃ q, wr = w.drewN q
theorem drewN_drewN' (w : World) (a b : Nat) : (w.drewN a).drewN b = w.drewN (a + b) := World.drewN_drewN _ _ _
set_option maxRecDepth 100000 in
set_option maxHeartbeats 2000000 in
theorem same_any (w : World) (B p N C : Nat) (F : Nat → Prop) (A : Option Addr) (n c : Nat) (objs : List Hp.Ob) (hin : HeapIn w B F p N objs) (hrec : Recs w C A n objs) (hn : (n : Int) ≤ 1000) :
    Calls Try.prog 22 #[.pointer (some ⟨p, 0, none⟩), .slice A n c, .int .i64 ((flat objs).length : Int)] w fun e w' => e = .returned (.bool true) ∧ ∃ q, w' = w.drewN q := by
  have U0 := hide (used_in hin)
  have HI := hide hin
  have HR := hide hrec
  have hL : ((flat objs).length : Int) ≤ 1048576 := by have := hin.le; have := hin.most; omega
  clear hin hrec
  generalize hll : (flat objs).length = L at *
  have HLL := hide hll
  clear hll
  have h0 : SameAt w L (.int .i64 (-1)) w := ⟨-1, rfl, by omega, by omega, 0, rfl⟩
  have H0 := hide h0
  clear h0
  go_enter Try.func22, Try.ntmps22
  go_wp2_with (go_at_call 26; (with_reducible refine U0.out.mono ?_); rintro e w' ⟨rfl, rfl⟩)
  clear U0
  go_loopw [7] (fun i wr => SameAt w L i wr) (fun i _ => ((L : Int) + 2 - intOf i).toNat)
  case atStart => exact H0.out
  case round =>
    clear H0
    obtain ⟨y, rfl, hy1, hy2, q, hq⟩ := hrel
    obtain ⟨wo, rfl⟩ : ∃ wo : World, wo = wr := ⟨_, rfl⟩
    have HQ := hide hq
    have hir : HeapIn wo B F p N objs := by rw [hq]; exact HI.out.drewN q
    have hrr : Recs wo C A n objs := by rw [hq]; exact HR.out.drewN q
    have HIR := hide hir
    have HRR := hide hrr
    clear hq hir hrr
    by_cases hyl : y ≤ (L : Int)
    · have hyl2 : y ≤ (L : Int) := hyl
      have FD := find_any wo C A n c objs HRR.out hn y
      have HS := has_in HIR.out y
      rcases findO_look objs y with ⟨hl, hf⟩ | ⟨k, a, o, hl, hf, hpk, hay, hok⟩
      · rw [hf] at FD
        rw [hl] at HS
        have HFD := hide FD
        have HHS := hide HS
        have K1 := hide (kind_in HIR.out y)
        rw [show kindO objs y = -1 from by unfold kindO; rw [hl]] at K1
        have K2 := hide (len_in HIR.out y)
        have hl0 : lenO objs y = 0 := by unfold lenO; rw [hl]
        rw [hl0] at K2
        have K3 := hide (get_no HIR.out y 0 (.inr (by omega)))
        have K4 := hide (put_out HIR.out y 0 1 (.inr (by omega)))
        clear FD HS hf hl hl0
        go_wp2_with (first
          | (go_at_call 39; (with_reducible refine HFD.out.mono ?_); rintro e w' ⟨rfl, rfl⟩)
          | (go_at_call 23; (with_reducible refine HHS.out.mono ?_); rintro e w' ⟨rfl, rfl⟩)
          | (go_at_call 24; (with_reducible refine K1.out.mono ?_); rintro e w' ⟨rfl, rfl⟩)
          | (go_at_call 25; (with_reducible refine K2.out.mono ?_); rintro e w' ⟨rfl, rfl⟩)
          | (go_at_call 27; (with_reducible refine K3.out.mono ?_); rintro e w' ⟨rfl, rfl⟩)
          | (go_at_call 18; (with_reducible refine K4.out.mono ?_); rintro e w' ⟨rfl, rfl⟩))
        go_roundw
        case rel => exact ⟨y + 1, rfl, by omega, by omega, q, HQ.out⟩
        case measure => simp [intOf]; omega
      · rw [hf] at FD
        rw [hl] at HS
        have HFD := hide FD
        have HHS := hide HS
        have hok' := HIR.out.fine o (List.mem_of_getElem? hok)
        obtain ⟨ho1, ho2, ho3⟩ := hok'
        have hko : kindO objs y = o.1 := by unfold kindO; rw [hl]
        have hlo : lenO objs y = (o.2.length : Int) := by unfold lenO; rw [hl]
        have K1 := fun m => hide (kind_in (HIR.out.drewN m) y)
        have K2 := fun m => hide (len_in (HIR.out.drewN m) y)
        rw [hko] at K1
        rw [hlo] at K2
        have K3 := fun m => hide (get_no (HIR.out.drewN m) y (-1) (.inl (by omega)))
        have K4 := fun m => hide (get_no (HIR.out.drewN m) y (o.2.length : Int) (.inr (by omega)))
        have K5 := fun m => hide (put_out (HIR.out.drewN m) y (o.2.length : Int) 1 (.inr (by omega)))
        have K6 := fun m => hide (put_out (HIR.out.drewN m) y (-1) 1 (.inl (by omega)))
        have hkn : k < n := by rw [← HR.out.1]; exact (List.getElem?_eq_some_iff.1 hok).1
        obtain ⟨b, off, rfl, hb, hc⟩ := HRR.out.2 (by omega)
        obtain ⟨c0, c1, A', c', c2, hs2⟩ := hc k a o hpk hok
        have HG := hide (fun (s : Nat) (x : Int) (hs : o.2[s]? = some x) => (show getO objs y (s : Int) = x from by
          unfold getO; rw [hl]
          show (if (0 : Int) ≤ (s : Int) then o.2.getD (s : Int).toNat 0 else 0) = x
          rw [if_pos (by omega), List.getD_eq_getElem?_getD]
          simp [hs]))
        have HSE := hide hs2
        have hkn' : (k : Int) < (n : Int) := by omega
        have hk0 : 0 ≤ (k : Int) := by omega
        have ho3' : (o.2.length : Int) ≤ 1000 := by omega
        clear FD HS hf hl hok hpk hay hc hs2 hko hlo
        generalize hov : o.2 = ov at *
        generalize o.1 = ok at *
        generalize hvl : ov.length = vl at *
        have HVL := hide hvl
        clear hov hvl
        go_wp2_with (first
          | (go_at_call 39; (with_reducible refine HFD.out.mono ?_); rintro e w' ⟨rfl, rfl⟩)
          | (go_at_call 23; (with_reducible refine HHS.out.mono ?_); rintro e w' ⟨rfl, rfl⟩))
        go_quiet (first
          | ((go_at_call 24; exact quiet_l (K1 _).out))
          | ((go_at_call 25; exact quiet_l (K2 _).out))
          | ((go_at_call 27; with_reducible exact quiet_l (K3 _).out))
          | ((go_at_call 27; with_reducible exact quiet_l (K4 _).out))
          | ((go_at_call 18; with_reducible exact quiet_l (K5 _).out))
          | ((go_at_call 18; with_reducible exact quiet_l (K6 _).out)))
        go_wp2_with fail
        clear K1 K2 K3 K4 K5 K6 HFD HHS c0 c1
        go_loopw [9] (fun iv wr2 => ∃ s : Nat, iv = .int .i64 (s : Int) ∧ s ≤ vl ∧ ∃ q2, wr2 = wo.drewN q2) (fun iv _ => vl - (intOf iv).toNat)
        case atStart => exact ⟨0, rfl, by omega, nq, rfl⟩
        case round =>
          obtain ⟨s, rfl, hs, q2, hq2⟩ := hrel
          have HQ2 := hide hq2
          have c3 : wr.cell? ⟨b, off + k * 3 + 2, none⟩ = some (.slice A' vl c') := by rw [hq2]; exact c2
          have hin2 : HeapIn wr B F p N objs := by rw [hq2]; exact HIR.out.drewN q2
          have hsee2 : Sees wr C A' vl (ov.map (Value.int .i32)) := by rw [hq2]; exact HSE.out.drewN q2
          clear hq2 c2
          by_cases hlt : s < vl
          · obtain ⟨b3, off3, u3, rfl, hb3, hu3, hcell3⟩ := hsee2.at_ hlt
            rw [List.getElem?_map] at hu3
            obtain ⟨x, hx, rfl⟩ := Option.map_eq_some_iff.1 hu3
            have G1 := fun m => hide (get_in (hin2.drewN m) y (s : Int))
            rw [HG.out s x hx] at G1
            have hlt' : (s : Int) < (vl : Int) := by omega
            clear hin2 hsee2 hu3 hx
            go_wp2
            go_quiet ((go_at_call 27; exact quiet_l (G1 _).out))
            go_wp2
            go_roundw
            case rel => exact ⟨s + 1, by go_num, by omega, q2 + nq, by rw [HQ2.out]; exact drewN_drewN' _ _ _⟩
            case measure => simp [intOf]; omega
          · obtain rfl : s = vl := by omega
            clear hin2 hsee2
            go_wp2
            go_roundw
            case rel => exact ⟨y + 1, rfl, by omega, by omega, q + q2, by rw [HQ2.out, HQ.out]; exact drewN_drewN' _ _ _⟩
            case measure => simp [intOf]; omega
    · obtain rfl : y = (L : Int) + 1 := by omega
      go_wp2
      go_ret
      exact ⟨rfl, q, HQ.out⟩
end Go.Proofs.Ytjjoelhemhnojaa
