/- Plain law of a heap of words: objects one behind the other as words and marks; looking one up by its place, making one, putting a word. Conditions: where it is said, kinds and lengths are those that a heap takes. -/
import Derived.Test.YtjjoelhemhnojaaWords
namespace Go.Proofs.Ytjjoelhemhnojaa.Hp

/-- An object: its kind, its words. -/
abbrev Ob := Int × List Int
/-- Objects as words; where they begin. -/
def flat : List Ob → List Int
  | [] => []
  | o :: l => o.1 :: (o.2.length : Int) :: (o.2 ++ flat l)
def marks : List Ob → List Bool
  | [] => []
  | o :: l => true :: (List.replicate (o.2.length + 1) false ++ marks l)
/-- What stands at a place. -/
def lookO : List Ob → Int → Option Ob
  | [], _ => none
  | o :: l, a => if a = 0 then some o else lookO l (a - (2 + (o.2.length : Int)))
/-- A word of the object at a place is set. -/
def put : List Ob → Int → Nat → Int → List Ob
  | [], _, _, _ => []
  | o :: l, a, i, x => if a = 0 then (o.1, o.2.set i x) :: l else o :: put l (a - (2 + (o.2.length : Int))) i x

theorem marks_length (l : List Ob) : (marks l).length = (flat l).length := by
  induction l with
  | nil => rfl
  | cons o l ih => simp [marks, flat, ih]; omega
theorem flat_append (l m : List Ob) : flat (l ++ m) = flat l ++ flat m := by
  induction l with
  | nil => rfl
  | cons o l ih => simp [flat, ih]
theorem marks_append (l m : List Ob) : marks (l ++ m) = marks l ++ marks m := by
  induction l with
  | nil => rfl
  | cons o l ih => simp [marks, ih]
theorem put_flat_length (l : List Ob) : ∀ (a : Int) (i : Nat) (x : Int), (flat (put l a i x)).length = (flat l).length := by
  induction l with
  | nil => intro a i x; rfl
  | cons o l ih =>
    intro a i x
    unfold put
    split
    · simp [flat]
    · simp [flat, ih]
theorem put_marks (l : List Ob) : ∀ (a : Int) (i : Nat) (x : Int), marks (put l a i x) = marks l := by
  induction l with
  | nil => intro a i x; rfl
  | cons o l ih =>
    intro a i x
    unfold put
    split
    · simp [marks]
    · simp [marks, ih]

/-- What the words and marks are where an object stands. -/
theorem look_some (l : List Ob) : ∀ {a : Int} {o : Ob}, lookO l a = some o → ∃ n : Nat, a = (n : Int) ∧ n + 2 + o.2.length ≤ (flat l).length ∧ (marks l)[n]? = some true ∧
    (flat l)[n]? = some o.1 ∧ (flat l)[n + 1]? = some (o.2.length : Int) ∧ (∀ j, j < o.2.length → (flat l)[n + 2 + j]? = o.2[j]?) ∧ o ∈ l := by
  induction l with
  | nil => intro a o h; cases h
  | cons p l ih =>
    intro a o h
    unfold lookO at h
    split at h
    · rename_i h0
      subst h0
      cases h
      refine ⟨0, rfl, by simp [flat]; omega, rfl, rfl, rfl, fun j hj => ?_, List.mem_cons_self⟩
      rw [show 0 + 2 + j = j + 1 + 1 from by omega]
      simp only [flat, List.getElem?_cons_succ]
      rw [List.getElem?_append_left hj]
    · obtain ⟨n, hn, h1, h2, h3, h4, h5, h6⟩ := ih h
      have hk : ∀ k, (flat (p :: l))[n + (2 + p.2.length) + k]? = (flat l)[n + k]? := by
        intro k
        rw [show n + (2 + p.2.length) + k = (p.2.length + (n + k)) + 1 + 1 from by omega]
        simp only [flat, List.getElem?_cons_succ]
        rw [List.getElem?_append_right (by omega), show p.2.length + (n + k) - p.2.length = n + k from by omega]
      refine ⟨n + (2 + p.2.length), by omega, by simp [flat]; omega, ?_, ?_, ?_, ?_, List.mem_cons_of_mem _ h6⟩
      · rw [show n + (2 + p.2.length) = (p.2.length + 1 + n) + 1 from by omega]
        simp only [marks, List.getElem?_cons_succ]
        rw [List.getElem?_append_right (by simp), List.length_replicate, show p.2.length + 1 + n - (p.2.length + 1) = n from by omega]
        exact h2
      · rw [show n + (2 + p.2.length) = n + (2 + p.2.length) + 0 from by omega, hk]
        exact h3
      · rw [hk]
        exact h4
      · intro j hj
        rw [show n + (2 + p.2.length) + 2 + j = n + (2 + p.2.length) + (2 + j) from by omega, hk, ← Nat.add_assoc]
        exact h5 j hj
/-- Where none stands: outside, or no mark. -/
theorem look_none (l : List Ob) : ∀ {a : Int}, lookO l a = none → a < 0 ∨ ((flat l).length : Int) ≤ a ∨ ∃ n : Nat, a = (n : Int) ∧ (marks l)[n]? = some false := by
  induction l with
  | nil => intro a _; simp [flat]; omega
  | cons p l ih =>
    intro a h
    unfold lookO at h
    split at h
    · cases h
    · rename_i h0
      by_cases hneg : a < 0
      · exact .inl hneg
      · by_cases hin : a < 2 + (p.2.length : Int)
        · obtain ⟨n, rfl⟩ := Int.eq_ofNat_of_zero_le (show 0 ≤ a by omega)
          refine .inr (.inr ⟨n, rfl, ?_⟩)
          obtain ⟨m, rfl⟩ : ∃ m, n = m + 1 := ⟨n - 1, by omega⟩
          simp only [marks, List.getElem?_cons_succ]
          rw [List.getElem?_append_left (by simp; omega), List.getElem?_replicate, if_pos (by omega)]
        · rcases ih h with h1 | h1 | ⟨n, hn, hm⟩
          · omega
          · refine .inr (.inl ?_)
            simp [flat]
            omega
          · refine .inr (.inr ⟨n + (2 + p.2.length), by omega, ?_⟩)
            rw [show n + (2 + p.2.length) = (p.2.length + 1 + n) + 1 from by omega]
            simp only [marks, List.getElem?_cons_succ]
            rw [List.getElem?_append_right (by simp), List.length_replicate, show p.2.length + 1 + n - (p.2.length + 1) = n from by omega]
            exact hm
theorem put_flat (l : List Ob) : ∀ {a : Int} {o : Ob} {i : Nat} {x : Int}, lookO l a = some o → i < o.2.length → flat (put l a i x) = (flat l).set (a.toNat + 2 + i) x := by
  induction l with
  | nil => intro a o i x h; cases h
  | cons p l ih =>
    intro a o i x h hi
    obtain ⟨n, hn, hle, _⟩ := look_some _ h
    unfold lookO at h
    unfold put
    split at h
    · rename_i h0
      subst h0
      cases h
      rw [if_pos rfl]
      show p.1 :: ((p.2.set i x).length : Int) :: (p.2.set i x ++ flat l) = _
      rw [List.length_set, show (0 : Int).toNat + 2 + i = i + 1 + 1 from by simp; omega]
      simp only [flat, List.set_cons_succ]
      rw [List.set_append_left _ _ hi]
    · rename_i h0
      rw [if_neg h0]
      obtain ⟨m, hm, _⟩ := look_some _ h
      show p.1 :: (p.2.length : Int) :: (p.2 ++ flat (put l _ i x)) = _
      rw [ih h hi, show a.toNat + 2 + i = (p.2.length + ((a - (2 + (p.2.length : Int))).toNat + 2 + i)) + 1 + 1 from by omega]
      simp only [flat, List.set_cons_succ]
      rw [List.set_append_right _ _ (by omega)]
      congr 4
      omega
theorem look_put (l : List Ob) : ∀ (a b : Int) (i : Nat) (x : Int), lookO (put l a i x) b = (if a = b then (lookO l b).map (fun o => (o.1, o.2.set i x)) else lookO l b) := by
  induction l with
  | nil => intro a b i x; simp [put, lookO]
  | cons p l ih =>
    intro a b i x
    unfold put
    by_cases ha : a = 0
    · subst ha
      rw [if_pos rfl]
      unfold lookO
      by_cases hb : b = 0
      · subst hb; simp
      · rw [if_neg hb, if_neg hb, if_neg (fun e => hb e.symm), List.length_set]
    · rw [if_neg ha]
      unfold lookO
      by_cases hb : b = 0
      · subst hb
        rw [if_pos rfl, if_neg ha, if_pos rfl]
      · rw [if_neg hb, if_neg hb, ih]
        by_cases hab : a = b
        · rw [if_pos hab, if_pos (by omega)]
        · rw [if_neg hab, if_neg (by omega)]
/-- What a heap takes. -/
def okO (o : Ob) : Prop := 0 ≤ o.1 ∧ o.1 ≤ 10000 ∧ o.2.length ≤ 1000
/-- One more object behind them. -/
theorem look_append (l : List Ob) (o : Ob) : ∀ (a : Int), lookO (l ++ [o]) a = if a = ((flat l).length : Int) then some o else lookO l a := by
  induction l with
  | nil => intro a; show (if a = 0 then some o else none) = _; by_cases h : a = 0 <;> simp [lookO, flat, h]
  | cons p l ih =>
    intro a
    show (if a = 0 then some p else lookO (l ++ [o]) (a - (2 + (p.2.length : Int)))) = (if a = ((flat (p :: l)).length : Int) then some o else (if a = 0 then some p else lookO l (a - (2 + (p.2.length : Int)))))
    by_cases h0 : a = 0
    · subst h0
      rw [if_pos rfl, if_pos rfl, if_neg]
      simp [flat]; omega
    · rw [if_neg h0, if_neg h0, ih]
      have : ((flat (p :: l)).length : Int) = 2 + (p.2.length : Int) + ((flat l).length : Int) := by simp [flat]; omega
      by_cases h1 : a = ((flat (p :: l)).length : Int)
      · rw [if_pos h1, if_pos (by omega)]
      · rw [if_neg h1, if_neg (by omega)]
theorem put_fine (l : List Ob) : (∀ o ∈ l, okO o) → ∀ (a : Int) (i : Nat) (x : Int), ∀ o ∈ put l a i x, okO o := by
  induction l with
  | nil => intro _ a i x o ho; cases ho
  | cons p l ih =>
    intro h a i x o ho
    unfold put at ho
    split at ho
    · rcases List.mem_cons.1 ho with rfl | ho
      · have := h p List.mem_cons_self
        exact ⟨this.1, this.2.1, by simpa using this.2.2⟩
      · exact h o (List.mem_cons_of_mem _ ho)
    · rcases List.mem_cons.1 ho with rfl | ho
      · exact h _ List.mem_cons_self
      · exact ih (fun q hq => h q (List.mem_cons_of_mem _ hq)) _ _ _ o ho
end Go.Proofs.Ytjjoelhemhnojaa.Hp
