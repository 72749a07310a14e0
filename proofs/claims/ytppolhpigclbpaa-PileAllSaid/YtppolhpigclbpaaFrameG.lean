/- The plain law of references: where they stand, what they name, how they are turned. And the frame as each sees it. -/
import Derived.Test.YtppolhpigclbpaaFrameF
set_option linter.unusedVariables false
namespace Go.Proofs.Ytppolhpigclbpaa
open Go.RowKit

/-- The numbers of the references, in their order. -/
def nums : List V → List Int
  | [] => []
  | v :: l => if v.1 then v.2 :: nums l else nums l
/-- Where the k-th reference stands. -/
def posR : List V → Nat → Nat
  | [], _ => 0
  | v :: l, k => if v.1 then (match k with | 0 => 0 | k + 1 => posR l k + 1) else posR l k + 1
/-- The first references get new numbers. -/
def turn : List V → List Int → List V
  | [], _ => []
  | v :: l, xs => if v.1 then (match xs with | [] => v :: l | x :: xs => (true, x) :: turn l xs) else v :: turn l xs
theorem nums_append (l m : List V) : nums (l ++ m) = nums l ++ nums m := by
  induction l with
  | nil => rfl
  | cons v l ih => simp only [List.cons_append, nums, ih]; split <;> rfl
theorem turn_nil (l : List V) : turn l [] = l := by
  induction l with
  | nil => rfl
  | cons v l ih => simp only [turn, ih]; split <;> rfl
theorem turn_length (l : List V) : ∀ xs, (turn l xs).length = l.length := by
  induction l with
  | nil => intro xs; rfl
  | cons v l ih =>
    intro xs
    simp only [turn]
    split
    · cases xs with
      | nil => rfl
      | cons x xs => simp [ih]
    · simp [ih]
theorem ptrs_pos (g : Nat) (l : List V) : ∀ (i k : Nat), k < (nums l).length → (ptrs g i l)[k]? = some (.pointer (some ⟨g, (i + posR l k) * 2, none⟩)) := by
  induction l with
  | nil => intro i k h; simp [nums] at h
  | cons v l ih =>
    intro i k h
    simp only [ptrs, posR]
    simp only [nums] at h
    cases hv : v.1
    · rw [hv] at h
      simp only [Bool.false_eq_true, if_false] at h ⊢
      rw [ih (i + 1) k h, show i + 1 + posR l k = i + (posR l k + 1) from by omega]
    · rw [hv] at h
      simp only [if_true] at h ⊢
      cases k with
      | zero => simp
      | succ k =>
        simp only [List.getElem?_cons_succ]
        rw [ih (i + 1) k (by simpa using h), show i + 1 + posR l k = i + (posR l k + 1) from by omega]
theorem ptrs_length (g : Nat) (l : List V) : ∀ i, (ptrs g i l).length = (nums l).length := by
  induction l with
  | nil => intro i; rfl
  | cons v l ih => intro i; simp only [ptrs, nums]; split <;> simp [ih]
theorem pos_at (l : List V) : ∀ (k : Nat) {n : Int}, (nums l)[k]? = some n → l[posR l k]? = some (true, n) := by
  induction l with
  | nil => intro k n h; simp [nums] at h
  | cons v l ih =>
    intro k n h
    simp only [nums] at h
    simp only [posR]
    cases hv : v.1
    · rw [hv] at h
      simp only [Bool.false_eq_true, if_false] at h ⊢
      rw [List.getElem?_cons_succ]
      exact ih k h
    · rw [hv] at h
      simp only [if_true] at h ⊢
      cases k with
      | zero => simp at h ⊢; rw [← h, ← hv]
      | succ k =>
        simp only [List.getElem?_cons_succ] at h ⊢
        exact ih k h
theorem turn_pos (l : List V) : ∀ (xs : List Int) (k : Nat), posR (turn l xs) k = posR l k := by
  induction l with
  | nil => intro xs k; rfl
  | cons v l ih =>
    intro xs k
    simp only [turn]
    cases hv : v.1
    · simp only [Bool.false_eq_true, if_false, posR, hv, ih]
    · cases xs with
      | nil => rfl
      | cons x xs =>
        simp only [if_true, posR, hv]
        cases k with
        | zero => rfl
        | succ k => simp [ih]
theorem turn_nums_length (l : List V) : ∀ (xs : List Int), (nums (turn l xs)).length = (nums l).length := by
  induction l with
  | nil => intro xs; rfl
  | cons v l ih =>
    intro xs
    simp only [turn]
    cases hv : v.1
    · simp only [Bool.false_eq_true, if_false, nums, hv, ih]
    · cases xs with
      | nil => rfl
      | cons x xs => simp only [if_true, nums, hv, List.length_cons, ih]
theorem turn_step (l : List V) : ∀ (xs : List Int) (x : Int), xs.length < (nums l).length → turn l (xs ++ [x]) = (turn l xs).set (posR l xs.length) (true, x) := by
  induction l with
  | nil => intro xs x h; simp [nums] at h
  | cons v l ih =>
    intro xs x h
    simp only [nums] at h
    cases hv : v.1
    · rw [hv] at h
      simp only [Bool.false_eq_true, if_false] at h
      simp only [turn, hv, Bool.false_eq_true, if_false, posR, List.set_cons_succ]
      rw [ih xs x h]
    · rw [hv] at h
      simp only [if_true] at h
      cases xs with
      | nil => simp only [turn, hv, if_true, List.nil_append, posR, List.length_nil, List.set_cons_zero]; rw [turn_nil]
      | cons y ys =>
        simp only [List.cons_append, turn, hv, if_true, posR, List.length_cons, List.set_cons_succ]
        rw [ih ys x (by simpa using h)]
theorem turn_more (l : List V) : ∀ (xs ys : List Int), (nums l).length ≤ xs.length → turn l (xs ++ ys) = turn l xs := by
  induction l with
  | nil => intro xs ys h; rfl
  | cons v l ih =>
    intro xs ys h
    simp only [nums] at h
    cases hv : v.1
    · rw [hv] at h
      simp only [Bool.false_eq_true, if_false] at h
      simp only [turn, hv, Bool.false_eq_true, if_false]
      rw [ih xs ys h]
    · rw [hv] at h
      simp only [if_true] at h
      cases xs with
      | nil => simp at h
      | cons x xs =>
        simp only [List.cons_append, turn, hv, if_true]
        rw [ih xs ys (by simpa using h)]
/-- The numbers behind a turn of all. -/
theorem turn_nums (l : List V) : ∀ (xs : List Int), (nums l).length ≤ xs.length → nums (turn l xs) = xs.take (nums l).length := by
  induction l with
  | nil => intro xs h; simp [turn, nums]
  | cons v l ih =>
    intro xs h
    simp only [nums] at h
    cases hv : v.1
    · rw [hv] at h
      simp only [Bool.false_eq_true, if_false] at h
      simp only [turn, hv, Bool.false_eq_true, if_false, nums]
      exact ih xs h
    · rw [hv] at h
      simp only [if_true] at h
      cases xs with
      | nil => simp at h
      | cons x xs =>
        simp only [turn, hv, if_true, nums, List.length_cons, List.take_succ_cons]
        rw [ih xs (by simpa using h)]
section
variable {w w' w2 : World} {B p room : Nat} {F : Nat → Prop} {me pc : Int} {ls st : List V}
/-- The frame's rows by their blocks. -/
theorem FrameIn.blocks (h : FrameIn w B F p me pc room ls st) : ∃ A1 c1 A2 c2 g1 g2, w.cell? ⟨p, 3, none⟩ = some (.slice A1 ls.length c1) ∧ w.cell? ⟨p, 4, none⟩ = some (.slice A2 st.length c2) ∧ SeesV w w.heap.size A1 ls.length ls ∧ SeesV w w.heap.size A2 st.length st ∧
    (0 < ls.length → A1 = some ⟨g1, 0, none⟩ ∧ F g1) ∧ (0 < st.length → A2 = some ⟨g2, 0, none⟩ ∧ F g2) := by
  obtain ⟨lv, sv, h1, h2, h3, h4, h5, h6⟩ := h.rows
  obtain ⟨A1, c1, rfl, _, _, hA, _, hb1⟩ := Sees.of_ownN h2
  obtain ⟨A2, c2, rfl, _, _, hA2, _, hb2⟩ := Sees.of_ownN h3
  have k1 : ∃ g1, 0 < ls.length → A1 = some ⟨g1, 0, none⟩ ∧ F g1 := by
    by_cases h0 : 0 < ls.length
    · obtain ⟨g, c, he, _⟩ := h2.form h0
      cases he
      exact ⟨g, fun _ => ⟨rfl, h4 g rfl⟩⟩
    · exact ⟨0, fun h => absurd h h0⟩
  have k2 : ∃ g2, 0 < st.length → A2 = some ⟨g2, 0, none⟩ ∧ F g2 := by
    by_cases h0 : 0 < st.length
    · obtain ⟨g, c, he, _⟩ := h3.form h0
      cases he
      exact ⟨g, fun _ => ⟨rfl, h5 g rfl⟩⟩
    · exact ⟨0, fun h => absurd h h0⟩
  obtain ⟨g1, hg1⟩ := k1
  obtain ⟨g2, hg2⟩ := k2
  exact ⟨A1, c1, A2, c2, g1, g2, by rw [cell_of_row w p _ _ 70 (0, 0) h1]; rfl, by rw [cell_of_row w p _ _ 70 (0, 0) h1]; rfl, hA, hA2, hg1, hg2⟩
/-- each, said of frames: the k-th place leads to the k-th reference. -/
theorem each_in (h : FrameIn w B F p me pc room ls st) : ∃ g1 g2, (0 < ls.length → F g1 ∧ ∀ (i : Nat) (v : V), ls[i]? = some v → w.cell? ⟨g1, i * 2 + 1, none⟩ = some (.int .i32 v.2)) ∧ (0 < st.length → F g2 ∧ ∀ (i : Nat) (v : V), st[i]? = some v → w.cell? ⟨g2, i * 2 + 1, none⟩ = some (.int .i32 v.2)) ∧
    (∀ lv sv, w.heap[p]? = some (Go.Obj.cells #[.int .i64 me, .int .i64 pc, .int .i64 (room : Int), lv, sv] 70 (0, 0)) → (0 < ls.length → lv.ownBlock = some g1) ∧ (0 < st.length → sv.ownBlock = some g2)) ∧
    Calls Try.prog 47 #[.pointer (some ⟨p, 0, none⟩)] w fun e w' => ∃ v, e = .returned v ∧ w'.ownsRow w.heap.size 73 1 v (nums (ls ++ st)).length (ptrs g1 0 ls ++ ptrs g2 0 st) ∧ Keeps (fun _ => False) w w' := by
  obtain ⟨A1, c1, A2, c2, g1, g2, h3, h4, hs1, hs2, hg1, hg2⟩ := h.blocks
  have cells : ∀ {A : Option Addr} {n g : Nat} {l : List V}, SeesV w w.heap.size A n l → A = some ⟨g, 0, none⟩ → ∀ (i : Nat) (v : V), l[i]? = some v → w.cell? ⟨g, i * 2 + 1, none⟩ = some (.int .i32 v.2) := by
    intro A n g l hs hA i v hv
    have hi := (List.getElem?_eq_some_iff.1 hv).1
    have hl := hs.len
    obtain ⟨b, off, v', hA', _, hv', _, hc⟩ := hs.at2 (k := i) (by omega)
    rw [hA] at hA'
    cases hA'
    rw [hv] at hv'
    cases hv'
    rw [Nat.zero_add] at hc
    exact hc
  refine ⟨g1, g2, fun h0 => ⟨(hg1 h0).2, cells hs1 (hg1 h0).1⟩, fun h0 => ⟨(hg2 h0).2, cells hs2 (hg2 h0).1⟩, fun lv sv hb => ⟨fun h0 => ?_, fun h0 => ?_⟩, ?_⟩
  · rw [cell_of_row w p 3 _ 70 (0, 0) hb] at h3
    have : lv = .slice A1 ls.length c1 := by simpa using h3
    rw [this, (hg1 h0).1]
    rfl
  · rw [cell_of_row w p 4 _ 70 (0, 0) hb] at h4
    have : sv = .slice A2 st.length c2 := by simpa using h4
    rw [this, (hg2 h0).1]
    rfl
  · have := each_any w p ls.length c1 st.length c2 g1 g2 w.heap.size A1 A2 ls st h3 h4 (Nat.le_refl _) hs1 hs2 (fun h0 => (hg1 h0).1) (fun h0 => (hg2 h0).1) h.loc (Nat.le_trans h.stk h.most)
    rw [List.length_append, ptrs_length, ptrs_length, ← List.length_append, ← nums_append] at this
    exact this
end
end Go.Proofs.Ytppolhpigclbpaa
