/- A pile in memory; the walks of the row's small methods. -/
import Derived.Test.YtppolhpigclbpaaPileB
set_option linter.unusedVariables false
namespace Go.Proofs.Ytppolhpigclbpaa
open Go.RowKit

def tCells : List T → List Value
  | [] => []
  | t :: l => .int .i64 t.1 :: .int .i64 t.2 :: tCells l
theorem tCells_length (l : List T) : (tCells l).length = l.length * 2 := by
  induction l with
  | nil => rfl
  | cons v l ih => simp [tCells, ih]; omega
theorem tCells_append (l m : List T) : tCells (l ++ m) = tCells l ++ tCells m := by
  induction l with
  | nil => rfl
  | cons v l ih => simp [tCells, ih]
theorem tCells_at (l : List T) : ∀ {i : Nat} {v : T}, l[i]? = some v → (tCells l)[i * 2]? = some (.int .i64 v.1) ∧ (tCells l)[i * 2 + 1]? = some (.int .i64 v.2) := by
  induction l with
  | nil => intro i v h; simp at h
  | cons p l ih =>
    intro i v h
    cases i with
    | zero => simp at h; subst h; exact ⟨rfl, rfl⟩
    | succ i =>
      simp at h
      have e : (i + 1) * 2 = i * 2 + 1 + 1 := by omega
      simp only [tCells, e, List.getElem?_cons_succ]
      exact ih h
theorem tCells_take (l : List T) : ∀ (n : Nat), tCells (l.take n) = (tCells l).take (n * 2) := by
  induction l with
  | nil => intro n; simp [tCells]
  | cons v l ih =>
    intro n
    cases n with
    | zero => simp [tCells]
    | succ n => rw [List.take_succ_cons, show (n + 1) * 2 = n * 2 + 1 + 1 from by omega]; simp [tCells, ih]
theorem tCells_one (l : List T) : ∀ u ∈ tCells l, u.oneCell' = true := by
  induction l with
  | nil => intro u hu; cases hu
  | cons v l ih =>
    intro u hu
    simp [tCells] at hu
    rcases hu with rfl | rfl | hu
    · rfl
    · rfl
    · exact ih u hu
theorem tCells_set (l : List T) : ∀ (i : Nat) (v : T), i < l.length → tCells (l.set i v) = ((tCells l).set (i * 2) (.int .i64 v.1)).set (i * 2 + 1) (.int .i64 v.2) := by
  induction l with
  | nil => intro i v h; simp at h
  | cons p l ih =>
    intro i v h
    cases i with
    | zero => simp [tCells]
    | succ i => rw [show (i + 1) * 2 = i * 2 + 1 + 1 from by omega]; simp [tCells, ih i v (by simpa using h)]
/-- The slice (A, n) shows the things. -/
def SeesT (w : World) (B : Nat) (A : Option Addr) (n : Nat) (ts : List T) : Prop := Sees w B A (n * 2) (tCells ts)
theorem SeesT.len {w : World} {B n : Nat} {A : Option Addr} {ts : List T} (h : SeesT w B A n ts) : ts.length = n := by
  have := h.1
  rw [tCells_length] at this
  omega
theorem SeesT.at2 {w : World} {B n k : Nat} {A : Option Addr} {ts : List T} (h : SeesT w B A n ts) (hk : k < n) : ∃ b off, A = some ⟨b, off, none⟩ ∧ b < B ∧ w.cell? ⟨b, off + k * 2, none⟩ = some (.int .i64 (at_ ts k).1) ∧ w.cell? ⟨b, off + k * 2 + 1, none⟩ = some (.int .i64 (at_ ts k).2) := by
  obtain ⟨b, off, rfl, hb, hc⟩ := h.2 (by omega)
  have hl := h.len
  obtain ⟨c0, c1⟩ := tCells_at ts (at_eq (show k < ts.length by omega))
  refine ⟨b, off, rfl, hb, hc _ _ c0, ?_⟩
  rw [Nat.add_assoc]
  exact hc _ _ c1
theorem row_len (w : World) (A : Option Addr) (n c : Nat) : Calls Try.prog 70 #[.slice A n c] w fun e w' => e = .returned (.int .i64 (n : Int)) ∧ w = w' := by
  go_enter Try.func70, Try.ntmps70
  go_wp2_with fail
  go_ret
  exact ⟨rfl, rfl⟩
set_option maxHeartbeats 1000000 in
theorem row_less (w : World) (A : Option Addr) (n c C i j : Nat) (ts : List T) (h : SeesT w C A n ts) (hi : i < n) (hj : j < n) : Calls Try.prog 71 #[.slice A n c, .int .i64 (i : Int), .int .i64 (j : Int)] w fun e w' => e = .returned (.bool (lessB (at_ ts i) (at_ ts j))) ∧ ∃ q, w' = w.drewN q := by
  obtain ⟨b, off, rfl, hb, c0, c1⟩ := h.at2 hi
  obtain ⟨b', off', he, hb', d0, d1⟩ := h.at2 hj
  cases he
  have hi' : (i : Int) < (n : Int) := by omega
  have hj' : (j : Int) < (n : Int) := by omega
  clear h
  generalize at_ ts i = u at *
  generalize at_ ts j = v at *
  obtain ⟨u1, u2⟩ := u
  obtain ⟨v1, v2⟩ := v
  dsimp only at *
  by_cases h1 : u1 < v1
  · have e1 : decide (u1 < v1) = true := decide_eq_true h1
    have er : lessB (u1, u2) (v1, v2) = true := by simp [lessB, h1]
    rw [er]
    go_enter Try.func71, Try.ntmps71
    go_upto_region 1 with fail
    go_quiet (fail)
    go_wp2
    go_ret
    exact ⟨rfl, _, rfl⟩
  · have e1 : decide (u1 < v1) = false := decide_eq_false h1
    by_cases h2 : u1 = v1
    · subst h2
      have er : lessB (u1, u2) (u1, v2) = decide (u2 < v2) := by simp [lessB]
      rw [er]
      clear h1
      go_enter Try.func71, Try.ntmps71
      go_upto_region 1 with fail
      go_quiet (fail)
      go_wp2
      go_ret
      exact ⟨rfl, _, rfl⟩
    · have e2 : (u1 == v1) = false := by simpa using h2
      have er : lessB (u1, u2) (v1, v2) = false := by simp [lessB, h2]; omega
      rw [er]
      go_enter Try.func71, Try.ntmps71
      go_upto_region 1 with fail
      go_quiet (fail)
      go_wp2
      go_ret
      exact ⟨rfl, _, rfl⟩
theorem swap_cells {w : World} {B n c g i j : Nat} {ts : List T} (h : w.ownsRow B 83 2 (.slice (some ⟨g, 0, none⟩) n c) n (tCells ts)) (hi : i < n) (hj : j < n) :
    ((((w.setCell ⟨g, i * 2, none⟩ (.int .i64 (at_ ts j).1)).setCell ⟨g, i * 2 + 1, none⟩ (.int .i64 (at_ ts j).2)).setCell ⟨g, j * 2, none⟩ (.int .i64 (at_ ts i).1)).setCell ⟨g, j * 2 + 1, none⟩ (.int .i64 (at_ ts i).2)).ownsRow B 83 2 (.slice (some ⟨g, 0, none⟩) n c) n (tCells (swap ts i j)) ∧
    Keeps (fun k => k = g) w ((((w.setCell ⟨g, i * 2, none⟩ (.int .i64 (at_ ts j).1)).setCell ⟨g, i * 2 + 1, none⟩ (.int .i64 (at_ ts j).2)).setCell ⟨g, j * 2, none⟩ (.int .i64 (at_ ts i).1)).setCell ⟨g, j * 2 + 1, none⟩ (.int .i64 (at_ ts i).2)) := by
  have hl : ts.length = n := by have := h.1; rw [tCells_length] at this; omega
  refine ⟨?_, (((((Keeps.refl (fun k => k = g) w).setCell (q := ⟨g, i * 2, none⟩) (fun _ => rfl) _).setCell (q := ⟨g, i * 2 + 1, none⟩) (fun _ => rfl) _).setCell (q := ⟨g, j * 2, none⟩) (fun _ => rfl) _).setCell (q := ⟨g, j * 2 + 1, none⟩) (fun _ => rfl) _)⟩
  unfold swap
  rw [tCells_set _ j _ (by simp; omega), tCells_set _ i _ (by omega)]
  exact ((((h.stored (i * 2) _).1.stored (i * 2 + 1) _).1.stored (j * 2) _).1.stored (j * 2 + 1) _).1
set_option maxHeartbeats 1000000 in
theorem row_swap (w : World) (B n c g i j : Nat) (ts : List T) (h : w.ownsRow B 83 2 (.slice (some ⟨g, 0, none⟩) n c) n (tCells ts)) (hi : i < n) (hj : j < n) : Calls Try.prog 72 #[.slice (some ⟨g, 0, none⟩) n c, .int .i64 (i : Int), .int .i64 (j : Int)] w fun e w' => e = .returned (.tuple #[]) ∧ w'.ownsRow B 83 2 (.slice (some ⟨g, 0, none⟩) n c) n (tCells (swap ts i j)) ∧ Keeps (fun k => k = g) w w' := by
  obtain ⟨A, c', he, _, _, hs, _⟩ := Sees.of_ownN h
  cases he
  obtain ⟨b, off, he, hb, c0, c1⟩ := SeesT.at2 hs hi
  cases he
  obtain ⟨b, off, he, hb', d0, d1⟩ := SeesT.at2 hs hj
  cases he
  rw [Nat.zero_add] at c0 c1 d0 d1
  have hz : ∀ q, w.frozen? ⟨g, q, none⟩ = false := fun q => h.frozenAt q
  have hi' : (i : Int) < (n : Int) := by omega
  have hj' : (j : Int) < (n : Int) := by omega
  have hlen := tCells_length ts
  have htl : ts.length = n := by have := h.1; omega
  have s1 := h.stored (i * 2) (.int .i64 (at_ ts j).1)
  have s2 := s1.1.stored (i * 2 + 1) (.int .i64 (at_ ts j).2)
  obtain ⟨x1, m1⟩ : ∃ x, (w.setCell ⟨g, i * 2, none⟩ (.int .i64 (at_ ts j).1)).cell? ⟨g, j * 2, none⟩ = some x := ⟨_, (s1.1.cellAt (j * 2) (by omega)).trans (List.getElem?_eq_getElem (by rw [List.length_set]; omega))⟩
  obtain ⟨x2, m2⟩ : ∃ x, ((w.setCell ⟨g, i * 2, none⟩ (.int .i64 (at_ ts j).1)).setCell ⟨g, i * 2 + 1, none⟩ (.int .i64 (at_ ts j).2)).cell? ⟨g, j * 2 + 1, none⟩ = some x := ⟨_, (s2.1.cellAt (j * 2 + 1) (by omega)).trans (List.getElem?_eq_getElem (by rw [List.length_set, List.length_set]; omega))⟩
  have HS := hide (swap_cells (show w.drew.ownsRow B 83 2 (.slice (some ⟨g, 0, none⟩) n c) n (tCells ts) from h) hi hj)
  clear h hs hlen htl s1 s2
  go_enter Try.func72, Try.ntmps72
  go_upto_region 0 with fail
  go_region
  go_end0
  exact ⟨rfl, HS.out.1, ((Keeps.refl _ w).drew).trans HS.out.2⟩
end Go.Proofs.Ytppolhpigclbpaa
