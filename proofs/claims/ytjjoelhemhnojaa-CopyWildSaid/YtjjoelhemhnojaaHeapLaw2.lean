/- Plain law: words are objects one behind the other in at most one way. -/
import Derived.Test.YtjjoelhemhnojaaHeapLaw
namespace Go.Proofs.Ytjjoelhemhnojaa.Hp

theorem flat_prefix (done : List Ob) : ∀ (objs : List Ob) (rest : List Int), flat objs = flat done ++ rest → ∃ more, objs = done ++ more ∧ flat more = rest := by
  induction done with
  | nil => intro objs rest h; exact ⟨objs, rfl, by simpa [flat] using h⟩
  | cons o done ih =>
    intro objs rest h
    cases objs with
    | nil => simp [flat] at h
    | cons q objs =>
      simp only [flat, List.cons_append, List.cons.injEq, List.append_assoc] at h
      obtain ⟨h1, h2, h3⟩ := h
      have hl : q.2.length = o.2.length := by omega
      obtain ⟨h4, h5⟩ := List.append_inj h3 hl
      obtain ⟨more, hm, hf⟩ := ih objs rest h5
      exact ⟨more, by rw [hm]; simp [Prod.ext h1 h4], hf⟩
/-- Words that begin no object. -/
def badHead : List Int → Prop
  | [] => False
  | [_] => True
  | k :: n :: tl => ¬ (0 ≤ k ∧ k ≤ 10000 ∧ 0 ≤ n ∧ n ≤ 1000 ∧ n ≤ tl.length)
theorem flat_bad (more : List Ob) (hok : ∀ o ∈ more, okO o) (h : badHead (flat more)) : False := by
  cases more with
  | nil => exact h
  | cons o more =>
    have h1 : okO o := hok o List.mem_cons_self
    refine h ⟨h1.1, h1.2.1, by omega, by have := h1.2.2; omega, ?_⟩
    simp
    omega
theorem no_objs (done : List Ob) (rest : List Int) (hb : badHead rest) : ¬ ∃ objs, flat objs = flat done ++ rest ∧ ∀ o ∈ objs, okO o := by
  rintro ⟨objs, h, hok⟩
  obtain ⟨more, rfl, hf⟩ := flat_prefix done objs rest h
  subst hf
  exact flat_bad more (fun o ho => hok o (List.mem_append_right _ ho)) hb
/-- One object more. -/
theorem flat_step (done : List Ob) (k : Int) (n : Nat) (tl : List Int) (hn : n ≤ tl.length) : flat done ++ k :: (n : Int) :: tl = flat (done ++ [(k, tl.take n)]) ++ tl.drop n := by
  rw [flat_append]
  simp [flat, Nat.min_eq_left hn]
theorem marks_step (done : List Ob) (k : Int) (n : Nat) (tl : List Int) (hn : n ≤ tl.length) :
    (marks done ++ List.replicate (tl.length + 2) false).set (flat done).length true = marks (done ++ [(k, tl.take n)]) ++ List.replicate (tl.drop n).length false := by
  rw [marks_append, List.set_append_right _ _ (by rw [marks_length]; exact Nat.le_refl _), marks_length, Nat.sub_self, List.append_assoc]
  congr 1
  simp only [marks, List.length_take, Nat.min_eq_left hn, List.length_drop, List.append_nil]
  rw [show tl.length + 2 = (tl.length + 1) + 1 from rfl, List.replicate_succ, List.set_cons_zero]
  simp only [List.cons_append, List.cons.injEq, true_and]
  rw [List.replicate_append_replicate]
  congr 1
  omega
end Go.Proofs.Ytjjoelhemhnojaa.Hp
