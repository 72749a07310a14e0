/- A heap of things in a row: what going up and going down keep; the least thing lies first. Plain laws, no program. -/
import Derived.Test.YtppolhpigclbpaaFrameP
set_option linter.unusedVariables false
namespace Go.Proofs.Ytppolhpigclbpaa
open Go.RowKit

/-- A thing: its rank, itself. -/
abbrev T := Int × Int
def lessB (a b : T) : Bool := decide (a.1 < b.1) || (decide (a.1 = b.1) && decide (a.2 < b.2))
/-- a may go ahead of b. -/
def le (a b : T) : Prop := a.1 < b.1 ∨ (a.1 = b.1 ∧ a.2 ≤ b.2)
theorem le_of_not {a b : T} (h : lessB b a = false) : le a b := by
  unfold lessB at h
  simp at h
  unfold le
  omega
theorem not_of_le {a b : T} (h : le a b) : lessB b a = false := by
  unfold le at h
  unfold lessB
  simp
  omega
theorem le_of_less {a b : T} (h : lessB a b = true) : le a b := by
  unfold lessB at h
  simp at h
  unfold le
  omega
theorem le_refl (a : T) : le a a := .inr ⟨rfl, Int.le_refl _⟩
theorem le_trans {a b c : T} (h : le a b) (h' : le b c) : le a c := by unfold le at *; omega
theorem le_antisymm {a b : T} (h : le a b) (h' : le b a) : a = b := by
  unfold le at *
  exact Prod.ext (by omega) (by omega)
def at_ (ts : List T) (k : Nat) : T := ts.getD k (0, 0)
theorem at_eq {ts : List T} {k : Nat} (h : k < ts.length) : ts[k]? = some (at_ ts k) := by
  unfold at_
  rw [List.getD_eq_getElem?_getD, List.getElem?_eq_getElem h]
  rfl
def swap (ts : List T) (i j : Nat) : List T := (ts.set i (at_ ts j)).set j (at_ ts i)
theorem swap_length (ts : List T) (i j : Nat) : (swap ts i j).length = ts.length := by simp [swap]
theorem swap_at (ts : List T) {i j : Nat} (hi : i < ts.length) (hj : j < ts.length) (k : Nat) : at_ (swap ts i j) k = if k = j then at_ ts i else if k = i then at_ ts j else at_ ts k := by
  unfold swap at_
  simp only [List.getD_eq_getElem?_getD, List.getElem?_set, List.length_set]
  by_cases h1 : j = k
  · subst h1
    simp [hj]
  · by_cases h2 : i = k
    · subst h2
      have h1' : ¬ i = j := fun e => h1 e.symm
      simp [h1, h1', hi]
    · have h1' : ¬ k = j := fun e => h1 e.symm
      have h2' : ¬ k = i := fun e => h2 e.symm
      simp [h1, h1', h2, h2']
theorem swap_perm (ts : List T) {i j : Nat} (hi : i < ts.length) (hj : j < ts.length) : (swap ts i j).Perm ts := by
  have := List.set_set_perm hi hj
  unfold swap at_
  simpa [List.getD_eq_getElem?_getD, List.getElem?_eq_getElem hi, List.getElem?_eq_getElem hj] using this
def par (k : Nat) : Nat := (k - 1) / 2
/-- The first n are a heap. -/
def HeapTo (ts : List T) (n : Nat) : Prop := ∀ k, 0 < k → k < n → le (at_ ts (par k)) (at_ ts k)
/-- .. but at j, which may have to go up. -/
def UpTo (ts : List T) (j : Nat) : Prop := (∀ k, 0 < k → k < ts.length → k ≠ j → le (at_ ts (par k)) (at_ ts k)) ∧ (0 < j → ∀ k, 0 < k → k < ts.length → par k = j → le (at_ ts (par j)) (at_ ts k))
/-- .. but at i, which may have to go down. -/
def DownTo (ts : List T) (i n : Nat) : Prop := (∀ k, 0 < k → k < n → par k ≠ i → le (at_ ts (par k)) (at_ ts k)) ∧ (0 < i → ∀ k, 0 < k → k < n → par k = i → le (at_ ts (par i)) (at_ ts k))
theorem HeapTo.least {ts : List T} {n : Nat} (h : HeapTo ts n) : ∀ k, k < n → le (at_ ts 0) (at_ ts k) := by
  intro k
  induction k using Nat.strongRecOn with
  | ind k ih =>
    intro hk
    by_cases h0 : k = 0
    · subst h0; exact le_refl _
    · have hp : par k < k := by unfold par; omega
      exact le_trans (ih (par k) hp (by omega)) (h k (by omega) hk)
theorem UpTo.start {ts : List T} {t : T} (h : HeapTo ts ts.length) : UpTo (ts ++ [t]) ts.length := by
  have hat : ∀ k, k < ts.length → at_ (ts ++ [t]) k = at_ ts k := by
    intro k hk
    unfold at_
    rw [List.getD_eq_getElem?_getD, List.getD_eq_getElem?_getD, List.getElem?_append_left hk]
  refine ⟨fun k h0 hk hne => ?_, fun h0 k hk0 hk hp => ?_⟩
  · rw [List.length_append, List.length_singleton] at hk
    rw [hat k (by omega), hat (par k) (by unfold par; omega)]
    exact h k h0 (by omega)
  · rw [List.length_append, List.length_singleton] at hk
    unfold par at hp
    omega
theorem UpTo.stop {ts : List T} {j : Nat} (h : UpTo ts j) (hj : j = 0 ∨ lessB (at_ ts j) (at_ ts (par j)) = false) : HeapTo ts ts.length := by
  intro k h0 hk
  by_cases he : k = j
  · subst he
    rcases hj with hj | hj
    · omega
    · exact le_of_not hj
  · exact h.1 k h0 hk he
theorem UpTo.swap {ts : List T} {j : Nat} (h : UpTo ts j) (hj0 : 0 < j) (hj : j < ts.length) (hl : lessB (at_ ts j) (at_ ts (par j)) = true) : UpTo (swap ts (par j) j) (par j) := by
  have hp : par j < j := by unfold par; omega
  have hle := le_of_less hl
  have sw := swap_at ts (i := par j) (j := j) (by omega) hj
  refine ⟨fun k h0 hk hne => ?_, fun h0 k hk0 hk hpk => ?_⟩
  · rw [swap_length] at hk
    rw [sw k, sw (par k)]
    by_cases hkj : k = j
    · subst hkj
      rw [if_pos rfl, if_neg (by omega), if_pos rfl]
      exact hle
    · rw [if_neg hkj, if_neg hne]
      by_cases hpk : par k = j
      · rw [if_pos hpk]
        exact h.2 hj0 k h0 hk hpk
      · rw [if_neg hpk]
        by_cases hpp : par k = par j
        · rw [if_pos hpp]
          have := h.1 k h0 hk hkj
          rw [hpp] at this
          exact le_trans hle this
        · rw [if_neg hpp]
          exact h.1 k h0 hk hkj
  · rw [swap_length] at hk
    have hpp : par (par j) < par j := by unfold par at *; omega
    have hkne : k ≠ par j := by intro e; subst e; omega
    rw [sw (par (par j)), if_neg (by omega), if_neg (by omega), sw k]
    by_cases hkj : k = j
    · rw [if_pos hkj]
      exact h.1 (par j) h0 (by omega) (by omega)
    · rw [if_neg hkj, if_neg hkne]
      have h1 := h.1 k hk0 hk hkj
      rw [hpk] at h1
      exact le_trans (h.1 (par j) h0 (by omega) (by omega)) h1
theorem DownTo.start {ts : List T} {n : Nat} (h : HeapTo ts ts.length) (hn : ts.length = n + 1) : DownTo (swap ts 0 n) 0 n := by
  refine ⟨fun k h0 hk hne => ?_, fun h0 => absurd h0 (by omega)⟩
  have hp : par k < k := by unfold par; omega
  have sw := swap_at ts (i := 0) (j := n) (by omega) (by omega)
  rw [sw k, sw (par k), if_neg (show ¬ k = n by omega), if_neg (show ¬ k = 0 by omega), if_neg (show ¬ par k = n by omega), if_neg hne]
  exact h k h0 (by omega)
theorem DownTo.stop {ts : List T} {i n : Nat} (h : DownTo ts i n) (hc : ∀ k, 0 < k → k < n → par k = i → le (at_ ts i) (at_ ts k)) : HeapTo ts n := by
  intro k h0 hk
  by_cases hp : par k = i
  · rw [hp]; exact hc k h0 hk hp
  · exact h.1 k h0 hk hp
/-- j is the lesser child of i. -/
def Lesser (ts : List T) (i j n : Nat) : Prop := 0 < j ∧ j < n ∧ par j = i ∧ ∀ k, 0 < k → k < n → par k = i → le (at_ ts j) (at_ ts k)
theorem Lesser.of {ts : List T} {i n : Nat} (h : 2 * i + 1 < n) : (¬ (2 * i + 2 < n) → Lesser ts i (2 * i + 1) n) ∧ (2 * i + 2 < n → lessB (at_ ts (2 * i + 2)) (at_ ts (2 * i + 1)) = true → Lesser ts i (2 * i + 2) n) ∧ (2 * i + 2 < n → lessB (at_ ts (2 * i + 2)) (at_ ts (2 * i + 1)) = false → Lesser ts i (2 * i + 1) n) := by
  have two : ∀ k, 0 < k → par k = i → k = 2 * i + 1 ∨ k = 2 * i + 2 := by intro k h0 hp; unfold par at hp; omega
  have p1 : par (2 * i + 1) = i := by unfold par; omega
  have p2 : par (2 * i + 2) = i := by unfold par; omega
  refine ⟨fun h2 => ⟨by omega, h, p1, fun k h0 hk hp => ?_⟩, fun h2 hl => ⟨by omega, h2, p2, fun k h0 hk hp => ?_⟩, fun h2 hl => ⟨by omega, h, p1, fun k h0 hk hp => ?_⟩⟩
  · rcases two k h0 hp with rfl | rfl
    · exact le_refl _
    · omega
  · rcases two k h0 hp with rfl | rfl
    · exact le_of_less hl
    · exact le_refl _
  · rcases two k h0 hp with rfl | rfl
    · exact le_refl _
    · exact le_of_not hl
theorem DownTo.halt {ts : List T} {i j n : Nat} (h : DownTo ts i n) (hj : Lesser ts i j n) (hl : lessB (at_ ts j) (at_ ts i) = false) : HeapTo ts n :=
  h.stop fun k h0 hk hp => le_trans (le_of_not hl) (hj.2.2.2 k h0 hk hp)
theorem DownTo.leaf {ts : List T} {i n : Nat} (h : DownTo ts i n) (hn : n ≤ 2 * i + 1) : HeapTo ts n := h.stop fun k h0 hk hp => by unfold par at hp; omega
theorem DownTo.swap {ts : List T} {i j n : Nat} (h : DownTo ts i n) (hj : Lesser ts i j n) (hn : n ≤ ts.length) (hl : lessB (at_ ts j) (at_ ts i) = true) : DownTo (swap ts i j) j n := by
  obtain ⟨hj0, hjn, hpj, hmin⟩ := hj
  have hij : i < j := by unfold par at hpj; omega
  have hle := le_of_less hl
  have sw := swap_at ts (i := i) (j := j) (by omega) (by omega)
  refine ⟨fun k h0 hk hne => ?_, fun _ k h0 hk hpk => ?_⟩
  · rw [sw k, sw (par k), if_neg hne]
    by_cases hkj : k = j
    · subst hkj
      rw [if_pos rfl, if_pos hpj]
      exact hle
    · rw [if_neg hkj]
      by_cases hki : k = i
      · subst hki
        rw [if_pos rfl, if_neg (by unfold par; omega)]
        exact h.2 h0 j hj0 hjn hpj
      · rw [if_neg hki]
        by_cases hpi : par k = i
        · rw [if_pos hpi]
          exact hmin k h0 hk hpi
        · rw [if_neg hpi]
          exact h.1 k h0 hk hpi
  · have hkj : k ≠ j := by intro e; subst e; unfold par at hpk; omega
    have hki : k ≠ i := by intro e; subst e; unfold par at hpk; omega
    rw [hpj, sw i, if_neg (by omega), if_pos rfl, sw k, if_neg hkj, if_neg hki]
    have := h.1 k h0 hk (by rw [hpk]; omega)
    rw [hpk] at this
    exact this
theorem HeapTo.take {ts : List T} {n : Nat} (h : HeapTo ts n) (hn : n ≤ ts.length) : HeapTo (ts.take n) (ts.take n).length := by
  have hl : (ts.take n).length = n := by rw [List.length_take]; omega
  have hat : ∀ k, k < n → at_ (ts.take n) k = at_ ts k := by
    intro k hk
    unfold at_
    rw [List.getD_eq_getElem?_getD, List.getD_eq_getElem?_getD, List.getElem?_take, if_pos hk]
  rw [hl]
  intro k h0 hk
  rw [hat k hk, hat (par k) (by unfold par; omega)]
  exact h k h0 hk
theorem HeapTo.nil : HeapTo [] 0 := fun k _ h => absurd h (by omega)
end Go.Proofs.Ytppolhpigclbpaa
