/- Objects by numbers, as the laws on copying hold them; the walks of place, once, eq. Conditions: none. -/
import Derived.Test.YtjjoelhemhnojaaCopyD
import Derived.Deep.CutBlock
import Derived.Deep.DeepCutAuto
import Derived.IntWalk
set_option linter.unusedVariables false
namespace Go.Proofs.Ytjjoelhemhnojaa
open Go.RowKit Go.Instr
open Hp Cp

/-- A slice of objects by numbers, below block C. -/
def ObsIn (w : World) (C : Nat) (A : Option Addr) (n : Nat) (os : List Hp.Ob) : Prop :=
  os.length = n ∧ (0 < n → ∃ b off, A = some ⟨b, off, none⟩ ∧ b < C ∧ ∀ i o, os[i]? = some o → w.cell? ⟨b, off + i * 2, none⟩ = some (.int .i64 o.1) ∧
    ∃ A2 c2, w.cell? ⟨b, off + i * 2 + 1, none⟩ = some (.slice A2 o.2.length c2) ∧ Sees w C A2 o.2.length (o.2.map (Value.int .i64)))
theorem ObsIn.keep {w w' : World} {C n : Nat} {A : Option Addr} {os : List Hp.Ob} (h : ObsIn w C A n os) (hk : ∀ p : Addr, p.block < C → w'.cell? p = w.cell? p) : ObsIn w' C A n os := by
  refine ⟨h.1, fun hn => ?_⟩
  obtain ⟨b, off, hA, hb, hc⟩ := h.2 hn
  refine ⟨b, off, hA, hb, fun i o ho => ?_⟩
  obtain ⟨h1, A2, c2, h2, h3⟩ := hc i o ho
  exact ⟨(hk ⟨b, off + i * 2, none⟩ hb).trans h1, A2, c2, (hk ⟨b, off + i * 2 + 1, none⟩ hb).trans h2, h3.keep hk⟩
theorem ObsIn.below {w w' : World} {C n : Nat} {A : Option Addr} {os : List Hp.Ob} (h : ObsIn w C A n os) (hb : Below C w w') : ObsIn w' C A n os := h.keep fun _ hp => hb.cell hp
theorem ObsIn.at_ {w : World} {C n : Nat} {A : Option Addr} {os : List Hp.Ob} (h : ObsIn w C A n os) {i : Nat} {o : Hp.Ob} (hi : os[i]? = some o) : ∃ b off A2 c2, A = some ⟨b, off, none⟩ ∧ b < C ∧ w.cell? ⟨b, off + i * 2, none⟩ = some (.int .i64 o.1) ∧
    w.cell? ⟨b, off + i * 2 + 1, none⟩ = some (.slice A2 o.2.length c2) ∧ Sees w C A2 o.2.length (o.2.map (Value.int .i64)) := by
  have hl := (List.getElem?_eq_some_iff.1 hi).1
  obtain ⟨b, off, hA, hb, hc⟩ := h.2 (by have := h.1; omega)
  obtain ⟨h1, A2, c2, h2, h3⟩ := hc i o hi
  exact ⟨b, off, A2, c2, hA, hb, h1, h2, h3⟩

/-- Where a number stands in a list; -1. -/
def idxI : List Int → Int → Int
  | [], _ => -1
  | y :: L, x => if y = x then 0 else if idxI L x < 0 then -1 else idxI L x + 1
theorem idxI_hit : ∀ (L : List Int) (j : Nat) (x : Int), L[j]? = some x → (∀ i, i < j → L[i]? ≠ some x) → idxI L x = (j : Int) := by
  intro L
  induction L with
  | nil => intro j x h; simp at h
  | cons y L ih =>
    intro j x h hn
    unfold idxI
    cases j with
    | zero => simp at h; rw [if_pos h]; rfl
    | succ j =>
      have h0 := hn 0 (by omega)
      simp only [List.getElem?_cons_zero, ne_eq, Option.some.injEq] at h0
      have := ih j x (by simpa using h) fun i hi e => hn (i + 1) (by omega) (by simpa using e)
      rw [if_neg h0, this, if_neg (by omega)]
      omega
theorem idxI_miss : ∀ (L : List Int) (x : Int), x ∉ L → idxI L x = -1 := by
  intro L
  induction L with
  | nil => intro x _; rfl
  | cons y L ih =>
    intro x h
    simp only [List.mem_cons, not_or] at h
    unfold idxI
    rw [if_neg (fun e => h.1 e.symm), ih x h.2, if_pos (by omega)]
theorem idxI_some : ∀ (L : List Int) (x : Int), x ∈ L → ∃ j : Nat, idxI L x = (j : Int) ∧ L[j]? = some x := by
  intro L
  induction L with
  | nil => intro x h; exact (List.not_mem_nil h).elim
  | cons y L ih =>
    intro x h
    unfold idxI
    by_cases hy : y = x
    · subst hy; rw [if_pos rfl]; exact ⟨0, rfl, rfl⟩
    · rw [if_neg hy]
      rcases List.mem_cons.1 h with h | h
      · exact absurd h.symm hy
      · obtain ⟨j, h1, h2⟩ := ih x h
        rw [h1, if_neg (by omega)]
        exact ⟨j + 1, by omega, by simpa using h2⟩
theorem idxI_mem (L : List Int) (x : Int) : decide (0 ≤ idxI L x) = decide (x ∈ L) := by
  by_cases h : x ∈ L
  · obtain ⟨j, h1, _⟩ := idxI_some L x h
    rw [decide_eq_true h, decide_eq_true (by omega)]
  · rw [decide_eq_false h, idxI_miss L x h]
    rfl
theorem idxI_bd (L : List Int) (x : Int) : -1 ≤ idxI L x ∧ idxI L x < (L.length : Int) := by
  by_cases h : x ∈ L
  · obtain ⟨j, h1, h2⟩ := idxI_some L x h
    have := (List.getElem?_eq_some_iff.1 h2).1
    omega
  · rw [idxI_miss L x h]; omega
theorem place35_any (w : World) (C : Nat) (A : Option Addr) (n c : Nat) (L : List Int) (x : Int) (hs : Sees w C A n (L.map (Value.int .i64))) (hn : n ≤ 2000000) :
    Calls Try.prog 35 #[.slice A n c, .int .i64 x] w fun e w' => e = .returned (.int .i64 (idxI L x)) ∧ w = w' := by
  have HS := hide hs
  have hlen : L.length = n := by have := hs.1; simpa using this
  have HL := hide hlen
  clear hs hlen
  go_enter Try.func35, Try.ntmps35
  go_wp2
  go_loop [5] (fun u5 => ∃ j : Nat, u5 = .int .i64 (j : Int) ∧ j ≤ n ∧ Hid (∀ i, i < j → L[i]? ≠ some x)) (fun u5 => n - (intOf u5).toNat)
  case atStart => exact ⟨0, rfl, by omega, hide fun i hi => by omega⟩
  case round =>
    obtain ⟨j, rfl, hj, hno⟩ := hrel
    by_cases hlt : j < n
    · have hlt' : (j : Int) < (n : Int) := by omega
      obtain ⟨b, off, u, rfl, hb, hu, hcell⟩ := HS.out.at_ hlt
      have hjl : j < L.length := by rw [HL.out]; exact hlt
      rw [List.getElem?_map, List.getElem?_eq_getElem hjl] at hu
      simp only [Option.map_some, Option.some.injEq] at hu
      subst hu
      have hy := List.getElem?_eq_getElem hjl
      generalize L[j] = y at *
      have HY := hide hy
      clear hy hjl
      by_cases hxy : y = x
      · subst hxy
        have HE := hide (idxI_hit L j y HY.out hno.out)
        clear HY
        go_wp2
        go_ret
        exact ⟨ret_int (by rw [HE.out]), rfl⟩
      · have dxy : (y == x) = false := by simpa using hxy
        have HN := hide (show ∀ i, i < j + 1 → L[i]? ≠ some x from fun i hi e => by
          rcases Nat.lt_or_ge i j with h | h
          · exact hno.out i h e
          · obtain rfl : i = j := by omega
            rw [HY.out] at e
            exact hxy (Option.some.inj e))
        clear HY hxy hno
        go_wp2
        go_round
        case rel => exact ⟨j + 1, by go_num, by omega, HN⟩
        case measure => simp [intOf]; omega
    · obtain rfl : j = n := by omega
      have HE := hide (idxI_miss L x fun hm => by
        obtain ⟨i, hi⟩ := List.mem_iff_getElem?.1 hm
        exact hno.out i (by have := (List.getElem?_eq_some_iff.1 hi).1; rw [HL.out] at this; exact this) hi)
      clear hno
      go_wp2
      go_ret
      exact ⟨ret_int (by rw [HE.out]), rfl⟩
theorem eq33_same (w : World) (C1 C2 : Nat) (A1 A2 : Option Addr) (n c1 c2 : Nat) (xs : List Int) (h1 : Sees w C1 A1 n (xs.map (Value.int .i32))) (h2 : Sees w C2 A2 n (xs.map (Value.int .i32))) (hC1 : C1 ≤ w.heap.size) (hC2 : C2 ≤ w.heap.size) (hn : n ≤ 2000000) :
    Calls Try.prog 33 #[.slice A1 n c1, .slice A2 n c2] w fun e w' => e = .returned (.bool true) ∧ Keeps (fun _ => False) w w' := by
  have H1 := hide h1
  have H2 := hide h2
  clear h1 h2
  go_enter Try.func33, Try.ntmps33
  go_wp2
  go_loopw [5] (fun u5 wr => ∃ j : Nat, u5 = .int .i64 (j : Int) ∧ j ≤ n ∧ Keeps (fun _ => False) w wr) (fun u5 _ => n - (intOf u5).toNat)
  case atStart => exact ⟨0, rfl, by omega, Keeps.refl _ _⟩
  case round =>
    obtain ⟨j, rfl, hj, hk⟩ := hrel
    by_cases hlt : j < n
    · have hlt' : (j : Int) < (n : Int) := by omega
      obtain ⟨b1, o1, u1, rfl, _, hu1, hc1⟩ := (H1.out.below (hk.below hC1 fun _ => False.elim)).at_ hlt
      obtain ⟨b2, o2, u2, rfl, _, hu2, hc2⟩ := (H2.out.below (hk.below hC2 fun _ => False.elim)).at_ hlt
      rw [hu1] at hu2
      obtain rfl := Option.some.inj hu2
      rw [List.getElem?_map] at hu1
      obtain ⟨x, hx, rfl⟩ := Option.map_eq_some_iff.1 hu1
      have HK := hide hk
      have d1 : (x != x) = false := by simp
      clear hu1 hu2 hx hk
      go_wp2
      go_quiet (fail)
      go_wp2
      go_roundw
      case rel => exact ⟨j + 1, by go_num, by omega, HK.out.drewN _⟩
      case measure => simp [intOf]; omega
    · obtain rfl : j = n := by omega
      go_wp2
      go_ret
      exact ⟨rfl, hk⟩
end Go.Proofs.Ytjjoelhemhnojaa
