/- Plain law of copying what lives: the places that are copied, in their order; what the copies hold. Conditions: none but where it is said. -/
import Derived.Test.YtjjoelhemhnojaaHeapLaw
set_option linter.unusedVariables false
namespace Go.Proofs.Ytjjoelhemhnojaa.Cp
open Hp

def objO (H : List Ob) (a : Int) : Ob := (lookO H a).getD (0, [])
def addO (H : List Ob) (L : List Int) (a : Int) : List Int := if (lookO H a).isSome = true ∧ a ∉ L then L ++ [a] else L
/-- The places that an object's words name, from its k-th word on. -/
def kids (R : Int → Nat → Bool) (kd : Int) : Nat → List Int → List Int
  | _, [] => []
  | k, x :: t => if R kd k = true then (x - 1) :: kids R kd (k + 1) t else kids R kd (k + 1) t
def grow (H : List Ob) (R : Int → Nat → Bool) : Nat → Nat → List Int → List Int
  | 0, _, L => L
  | f + 1, i, L => match L[i]? with
    | none => L
    | some a => grow H R f (i + 1) ((kids R (objO H a).1 0 (objO H a).2).foldl (addO H) L)
/-- What is copied, in its order. -/
def liveF (H : List Ob) (R : Int → Nat → Bool) (roots : List Int) : List Int := grow H R H.length 0 (roots.foldl (addO H) [])
def offO (H : List Ob) : List Int → Int → Nat
  | [], _ => 0
  | b :: L, a => if b = a then 0 else 2 + (objO H b).2.length + offO H L a
def newO (H : List Ob) (F : List Int) (a : Int) : Int := if (lookO H a).isSome = true then (offO H F a : Int) else -1
def trW (H : List Ob) (R : Int → Nat → Bool) (F : List Int) (kd : Int) (k : Nat) (x : Int) : Int := if R kd k = true then newO H F (x - 1) + 1 else x
def dn (i m j k : Nat) : Bool := decide (j < i) || (decide (j = i) && decide (k < m))
/-- Objects of which the first i, and the next one's first m words, are laid; the other words are nought. -/
def fill (full : List Ob) (i m : Nat) : List Ob := full.mapIdx fun j o => (o.1, o.2.mapIdx fun k x => if dn i m j k = true then x else 0)
/-- An object's copy. -/
def trO (H : List Ob) (R : Int → Nat → Bool) (F : List Int) (a : Int) : Ob := ((objO H a).1, (objO H a).2.mapIdx fun k x => trW H R F (objO H a).1 k x)
/-- The copies when the first i objects, and the next one's first m words, are done. -/
def toO (H : List Ob) (R : Int → Nat → Bool) (F L : List Int) (i m : Nat) : List Ob := fill (L.map (trO H R F)) i m

/-! What is there comes first. -/
theorem add_pre (H : List Ob) (L : List Int) (a : Int) : L <+: addO H L a := by
  unfold addO; split
  · exact List.prefix_append _ _
  · exact List.prefix_refl _
theorem fold_pre (H : List Ob) (xs : List Int) : ∀ L, L <+: xs.foldl (addO H) L := by
  induction xs with
  | nil => intro L; exact List.prefix_refl _
  | cons x xs ih => intro L; exact (add_pre H L x).trans (ih _)
theorem grow_pre (H : List Ob) (R : Int → Nat → Bool) : ∀ (f i : Nat) (L : List Int), L <+: grow H R f i L := by
  intro f
  induction f with
  | zero => intro i L; exact List.prefix_refl _
  | succ f ih =>
    intro i L
    unfold grow
    split
    · exact List.prefix_refl _
    · exact (fold_pre H _ L).trans (ih _ _)

/-! Each comes once, and is there. -/
structure Good (H : List Ob) (L : List Int) : Prop where
  nd : L.Nodup
  ok : ∀ a ∈ L, (lookO H a).isSome = true
theorem add_good {H : List Ob} {L : List Int} (h : Good H L) (a : Int) : Good H (addO H L a) := by
  unfold addO; split
  · rename_i hc
    refine ⟨?_, fun b hb => ?_⟩
    · rw [List.nodup_append]
      refine ⟨h.nd, by simp, fun x hx y hy e => ?_⟩
      rw [List.mem_singleton.1 hy] at e
      exact hc.2 (e ▸ hx)
    · rcases List.mem_append.1 hb with hb | hb
      · exact h.ok b hb
      · rw [List.mem_singleton.1 hb]; exact hc.1
  · exact h
theorem fold_good {H : List Ob} (xs : List Int) : ∀ {L : List Int}, Good H L → Good H (xs.foldl (addO H) L) := by
  induction xs with
  | nil => intro L h; exact h
  | cons x xs ih => intro L h; exact ih (add_good h x)
theorem grow_good {H : List Ob} (R : Int → Nat → Bool) : ∀ (f i : Nat) {L : List Int}, Good H L → Good H (grow H R f i L) := by
  intro f
  induction f with
  | zero => intro i L h; exact h
  | succ f ih =>
    intro i L h
    unfold grow
    split
    · exact h
    · exact ih _ (fold_good _ h)
theorem live_good (H : List Ob) (R : Int → Nat → Bool) (roots : List Int) : Good H (liveF H R roots) :=
  grow_good R _ _ (fold_good _ ⟨List.nodup_nil, fun a h => (List.not_mem_nil h).elim⟩)
theorem Good.pre {H : List Ob} {L F : List Int} (h : Good H F) (hp : L <+: F) : Good H L :=
  ⟨h.nd.sublist hp.sublist, fun a ha => h.ok a (hp.subset ha)⟩

/-! They take no more room than there is. -/
def szs (H : List Ob) : List Int → Nat
  | [] => 0
  | a :: L => 2 + (objO H a).2.length + szs H L
theorem szs_perm (H : List Ob) {L M : List Int} (h : L.Perm M) : szs H L = szs H M := by
  induction h with
  | nil => rfl
  | cons x _ ih => simp only [szs, ih]
  | swap x y l => simp only [szs]; omega
  | trans _ _ h1 h2 => exact h1.trans h2
theorem szs_append (H : List Ob) (L M : List Int) : szs H (L ++ M) = szs H L + szs H M := by
  induction L with
  | nil => simp [szs]
  | cons a L ih => simp only [List.cons_append, szs, ih]; omega
theorem look_cons_ne {p : Ob} {H : List Ob} {a : Int} (h : a ≠ 0) : lookO (p :: H) a = lookO H (a - (2 + (p.2.length : Int))) := by
  show (if a = 0 then some p else _) = _
  rw [if_neg h]
theorem szs_shift (p : Ob) (H : List Ob) : ∀ L : List Int, 0 ∉ L → szs (p :: H) L = szs H (L.map fun a => a - (2 + (p.2.length : Int))) := by
  intro L
  induction L with
  | nil => intro _; rfl
  | cons a L ih =>
    intro h
    simp only [List.mem_cons, not_or] at h
    simp only [List.map_cons, szs, ih h.2]
    unfold objO
    rw [look_cons_ne (fun e => h.1 e.symm)]
theorem good_shift {p : Ob} {H : List Ob} {L : List Int} (h : Good (p :: H) L) (h0 : 0 ∉ L) : Good H (L.map fun a => a - (2 + (p.2.length : Int))) := by
  refine ⟨List.Pairwise.map _ (fun a b hab e => hab (by omega)) h.nd, fun b hb => ?_⟩
  obtain ⟨a, ha, rfl⟩ := List.mem_map.1 hb
  rw [← look_cons_ne (fun e => h0 (e ▸ ha))]
  exact h.ok a ha
theorem good_le : ∀ (H : List Ob) (L : List Int), Good H L → L.length ≤ H.length ∧ szs H L ≤ (flat H).length := by
  intro H
  induction H with
  | nil =>
    intro L h
    cases L with
    | nil => exact ⟨Nat.le_refl _, Nat.le_refl _⟩
    | cons a L => exact absurd (h.ok a List.mem_cons_self) (by simp [lookO])
  | cons p H ih =>
    intro L h
    have hfl : (flat (p :: H)).length = 2 + p.2.length + (flat H).length := by simp [flat]; omega
    by_cases h0 : (0 : Int) ∈ L
    · have hp := List.perm_cons_erase h0
      have hnd := h.nd
      rw [hp.nodup_iff, List.nodup_cons] at hnd
      have hg : Good (p :: H) (L.erase 0) := ⟨hnd.2, fun a ha => h.ok a (List.mem_of_mem_erase ha)⟩
      have := ih _ (good_shift hg hnd.1)
      rw [← szs_shift p H _ hnd.1, List.length_map] at this
      rw [szs_perm _ hp, hp.length_eq, hfl]
      simp only [szs, List.length_cons]
      have hz : (objO (p :: H) 0).2.length = p.2.length := by unfold objO lookO; simp
      rw [hz]
      omega
    · have := ih _ (good_shift h h0)
      rw [← szs_shift p H _ h0, List.length_map] at this
      rw [hfl]
      simp only [List.length_cons]
      omega

/-! Objects by their numbers and by their places. -/
theorem look_at (l : List Ob) : ∀ i, i < l.length → lookO l ((flat (l.take i)).length : Int) = l[i]? := by
  induction l with
  | nil => intro i h; simp at h
  | cons o l ih =>
    intro i h
    cases i with
    | zero => rfl
    | succ i =>
      have e : ((flat ((o :: l).take (i + 1))).length : Int) = 2 + (o.2.length : Int) + ((flat (l.take i)).length : Int) := by simp [flat]; omega
      rw [e, look_cons_ne (by omega), List.getElem?_cons_succ, ← ih i (by simpa using h)]
      congr 1
      omega
theorem put_at (l : List Ob) : ∀ (i k : Nat) (x : Int) (o : Ob), l[i]? = some o → Hp.put l ((flat (l.take i)).length : Int) k x = l.set i (o.1, o.2.set k x) := by
  induction l with
  | nil => intro i k x o h; simp at h
  | cons p l ih =>
    intro i k x o h
    cases i with
    | zero => simp at h; subst h; rfl
    | succ i =>
      have e : ((flat ((p :: l).take (i + 1))).length : Int) = 2 + (p.2.length : Int) + ((flat (l.take i)).length : Int) := by simp [flat]; omega
      show (if _ = 0 then _ else p :: Hp.put l (_ - (2 + (p.2.length : Int))) k x) = _
      rw [e, if_neg (by omega), List.set_cons_succ, ← ih i k x o (by simpa using h)]
      congr 2
      omega
theorem offO_at (H : List Ob) : ∀ (F : List Int) (j : Nat) (a : Int), F.Nodup → F[j]? = some a → offO H F a = szs H (F.take j) := by
  intro F
  induction F with
  | nil => intro j a _ h; simp at h
  | cons b F ih =>
    intro j a hnd h
    cases j with
    | zero => simp at h; subst h; simp [offO, szs]
    | succ j =>
      have hm : F[j]? = some a := by simpa using h
      have hne : b ≠ a := by
        rintro rfl
        exact (List.nodup_cons.1 hnd).1 (List.mem_of_getElem? hm)
      simp only [offO, if_neg hne, List.take_succ_cons, szs, ih j a (List.nodup_cons.1 hnd).2 hm]

/-! Objects that are laid word by word. -/
section
variable {full : List Ob} {i m : Nat}
theorem fill_length (full : List Ob) (i m : Nat) : (fill full i m).length = full.length := by simp [fill]
theorem fill_get (full : List Ob) (i m j : Nat) : (fill full i m)[j]? = full[j]?.map fun o => (o.1, o.2.mapIdx fun k x => if dn i m j k = true then x else 0) := by simp [fill, List.getElem?_mapIdx]
theorem fill_none {i m j : Nat} (o : Ob) (h : i < j ∨ (i = j ∧ m = 0)) : (o.2.mapIdx fun k x => if dn i m j k = true then x else 0) = List.replicate o.2.length 0 := by
  apply List.ext_getElem?
  intro k
  rw [List.getElem?_mapIdx, List.getElem?_replicate]
  have hd : dn i m j k = false := by
    unfold dn
    rcases h with h | ⟨h, h'⟩ <;> simp <;> omega
  rw [hd]
  by_cases hk : k < o.2.length
  · rw [List.getElem?_eq_getElem hk, if_pos hk]; rfl
  · rw [List.getElem?_eq_none (by omega), if_neg hk]; rfl
theorem fill_snoc (full : List Ob) (o : Ob) (i m : Nat) (h : i < full.length ∨ (i = full.length ∧ m = 0) ∨ (i = 0 ∧ m = 0)) : fill (full ++ [o]) i m = fill full i m ++ [(o.1, List.replicate o.2.length 0)] := by
  unfold fill
  rw [List.mapIdx_append]
  congr 1
  simp only [List.mapIdx_cons, List.mapIdx_nil, Nat.zero_add]
  rw [fill_none]
  rcases h with h | ⟨h, hm⟩ | ⟨h, hm⟩
  · exact .inl h
  · exact .inr ⟨h, hm⟩
  · rcases Nat.eq_zero_or_pos full.length with h' | h'
    · exact .inr ⟨by omega, hm⟩
    · exact .inl (by omega)
theorem flat_len_map (g : Nat → Ob → Ob) : ∀ (l : List Ob), (∀ j o, (g j o).2.length = o.2.length) → (flat (l.mapIdx g)).length = (flat l).length := by
  intro l
  induction l generalizing g with
  | nil => intro _; rfl
  | cons o l ih =>
    intro hg
    rw [List.mapIdx_cons]
    have := ih (fun j o => g (j + 1) o) (fun j o => hg _ _)
    simp only [flat, List.length_cons, List.length_append, hg, this]
theorem fill_flat (full : List Ob) (i m : Nat) : (flat (fill full i m)).length = (flat full).length := flat_len_map _ full (fun j o => by simp)
theorem fill_take (full : List Ob) (i m j : Nat) : (fill full i m).take j = fill (full.take j) i m := by
  apply List.ext_getElem?
  intro k
  rw [List.getElem?_take, fill_get, fill_get, List.getElem?_take]
  split <;> simp
theorem fill_look {j : Nat} {o : Ob} (hj : full[j]? = some o) : lookO (fill full i m) ((flat (full.take j)).length : Int) = some (o.1, o.2.mapIdx fun k x => if dn i m j k = true then x else 0) := by
  have hlt : j < full.length := (List.getElem?_eq_some_iff.1 hj).1
  rw [← fill_flat (full.take j) i m, ← fill_take, look_at _ _ (by rw [fill_length]; exact hlt), fill_get, hj]
  rfl
theorem fill_put {o : Ob} {x : Int} (hj : full[i]? = some o) (hx : o.2[m]? = some x) : Hp.put (fill full i m) ((flat (full.take i)).length : Int) m x = fill full i (m + 1) := by
  have hlt : i < full.length := (List.getElem?_eq_some_iff.1 hj).1
  rw [← fill_flat (full.take i) i m, ← fill_take, put_at _ i m _ (o.1, o.2.mapIdx fun k x => if dn i m i k = true then x else 0) (by rw [fill_get, hj]; rfl)]
  apply List.ext_getElem?
  intro j
  rw [List.getElem?_set, fill_get, fill_get, fill_length]
  by_cases hij : i = j
  · subst hij
    rw [if_pos rfl, if_pos hlt, hj]
    simp only [Option.map_some, Option.some.injEq, Prod.mk.injEq, true_and]
    apply List.ext_getElem?
    intro k
    rw [List.getElem?_set, List.getElem?_mapIdx, List.getElem?_mapIdx, List.length_mapIdx]
    by_cases hk : m = k
    · subst hk
      have hm : m < o.2.length := (List.getElem?_eq_some_iff.1 hx).1
      rw [if_pos rfl, if_pos hm, hx]
      simp [dn]
    · rw [if_neg hk]
      have : dn i m i k = dn i (m + 1) i k := by
        unfold dn
        by_cases h : k < m
        · simp [h, show k < m + 1 from by omega]
        · simp [h, show ¬ k < m + 1 from by omega]
      rw [this]
  · rw [if_neg hij]
    cases full[j]? with
    | none => rfl
    | some b =>
      simp only [Option.map_some, Option.some.injEq, Prod.mk.injEq, true_and]
      apply List.ext_getElem?
      intro k
      rw [List.getElem?_mapIdx, List.getElem?_mapIdx]
      have : dn i m j k = dn i (m + 1) j k := by simp [dn, show ¬ j = i from fun e => hij e.symm]
      rw [this]
theorem fill_next {o : Ob} (hj : full[i]? = some o) (hm : m = o.2.length) : fill full i m = fill full (i + 1) 0 := by
  apply List.ext_getElem?
  intro j
  rw [fill_get, fill_get]
  cases hl : full[j]? with
  | none => rfl
  | some b =>
    simp only [Option.map_some, Option.some.injEq, Prod.mk.injEq, true_and]
    apply List.ext_getElem?
    intro k
    rw [List.getElem?_mapIdx, List.getElem?_mapIdx]
    by_cases hk : k < b.2.length
    · have : dn i m j k = dn (i + 1) 0 j k := by
        unfold dn
        by_cases hij : j = i
        · subst hij
          rw [hj] at hl
          cases hl
          simp [hm, hk]
        · by_cases h : j < i
          · simp [h, show j < i + 1 from by omega]
          · simp [h, hij, show ¬ j < i + 1 from by omega]
      rw [this]
    · rw [List.getElem?_eq_none (by omega)]; rfl
theorem fill_all (full : List Ob) {i : Nat} (hi : full.length ≤ i) : fill full i 0 = full := by
  apply List.ext_getElem?
  intro j
  rw [fill_get]
  cases hl : full[j]? with
  | none => rfl
  | some b =>
    have hlt : j < full.length := (List.getElem?_eq_some_iff.1 hl).1
    simp only [Option.map_some, Option.some.injEq]
    have : (b.2.mapIdx fun k x => if dn i 0 j k = true then x else 0) = b.2 := by
      apply List.ext_getElem?
      intro k
      rw [List.getElem?_mapIdx]
      have : dn i 0 j k = true := by simp [dn, show j < i from by omega]
      rw [this]
      simp
    rw [this]
end

/-! The copies. -/
theorem trO_len (H : List Ob) (R : Int → Nat → Bool) (F : List Int) (a : Int) : (trO H R F a).2.length = (objO H a).2.length := by simp [trO]
theorem flat_tr (H : List Ob) (R : Int → Nat → Bool) (F : List Int) : ∀ (L : List Int), (flat (L.map (trO H R F))).length = szs H L := by
  intro L
  induction L with
  | nil => rfl
  | cons a L ih =>
    simp only [List.map_cons, flat, List.length_cons, List.length_append, ih, trO_len, szs]
    omega
theorem toO_flat (H : List Ob) (R : Int → Nat → Bool) (F L : List Int) (i m : Nat) : (flat (toO H R F L i m)).length = szs H L := by
  unfold toO; rw [fill_flat, flat_tr]
section
variable {H : List Ob} {R : Int → Nat → Bool} {F L : List Int} {i m : Nat}
theorem pre_get {L F : List Int} (h : L <+: F) {j : Nat} (hj : j < L.length) : F[j]? = L[j]? := by
  obtain ⟨t, rfl⟩ := h
  rw [List.getElem?_append_left hj]
theorem pre_take {L F : List Int} (h : L <+: F) {j : Nat} (hj : j ≤ L.length) : F.take j = L.take j := by
  obtain ⟨t, rfl⟩ := h
  rw [List.take_append_of_le_length hj]
/-- Where a copy stands. -/
theorem off_at (hF : F.Nodup) (hp : L <+: F) {j : Nat} {a : Int} (hj : L[j]? = some a) : offO H F a = (flat ((L.map (trO H R F)).take j)).length := by
  have hlt : j < L.length := (List.getElem?_eq_some_iff.1 hj).1
  rw [← List.map_take, flat_tr, offO_at H F j a hF (by rw [pre_get hp hlt, hj]), pre_take hp (Nat.le_of_lt hlt)]
/-- One more is placed. -/
theorem place_new {a : Int} (hF : Good H F) (hp : L ++ [a] <+: F) (hi : i < L.length ∨ (i = L.length ∧ m = 0) ∨ (i = 0 ∧ m = 0)) :
    offO H F a = (flat (toO H R F L i m)).length ∧ offO H F a + 2 + (objO H a).2.length ≤ (flat H).length ∧
      toO H R F (L ++ [a]) i m = toO H R F L i m ++ [((objO H a).1, List.replicate (objO H a).2.length 0)] := by
  have hg : (L ++ [a])[L.length]? = some a := by simp
  have h1 : offO H F a = szs H L := by
    have := off_at (H := H) (R := fun _ _ => true) hF.nd hp hg
    rw [this, ← List.map_take, flat_tr]
    simp
  refine ⟨by rw [h1, toO_flat], ?_, ?_⟩
  · have := (good_le H _ (hF.pre hp)).2
    rw [szs_append] at this
    simp only [szs] at this
    omega
  · unfold toO
    rw [List.map_append, List.map_cons, List.map_nil, fill_snoc _ _ _ _ (by rw [List.length_map]; exact hi), trO_len]
    rfl
/-- The copy of the j-th object. -/
theorem look_copy (hF : F.Nodup) (hp : L <+: F) {j : Nat} {a : Int} (hj : L[j]? = some a) : ∃ o, lookO (toO H R F L i m) (offO H F a : Int) = some o ∧ o.1 = (objO H a).1 ∧ o.2.length = (objO H a).2.length := by
  have h := fill_look (full := L.map (trO H R F)) (i := i) (m := m) (j := j) (o := trO H R F a) (by rw [List.getElem?_map, hj]; rfl)
  rw [← off_at hF hp hj] at h
  exact ⟨_, h, rfl, by rw [List.length_mapIdx, trO_len]⟩
theorem put_copy (hF : F.Nodup) (hp : L <+: F) {a : Int} (hj : L[i]? = some a) {x : Int} (hx : (objO H a).2[m]? = some x) :
    Hp.put (toO H R F L i m) (offO H F a : Int) m (trW H R F (objO H a).1 m x) = toO H R F L i (m + 1) := by
  rw [off_at (R := R) hF hp hj]
  exact fill_put (o := trO H R F a) (by rw [List.getElem?_map, hj]; rfl) (by simp [trO, List.getElem?_mapIdx, hx])
/-- An object is done. -/
theorem done_copy {a : Int} (hj : L[i]? = some a) (hm : m = (objO H a).2.length) : toO H R F L i m = toO H R F L (i + 1) 0 :=
  fill_next (o := trO H R F a) (by rw [List.getElem?_map, hj]; rfl) (by rw [trO_len]; exact hm)
theorem all_copy {i : Nat} (hi : F.length ≤ i) : toO H R F F i 0 = F.map (trO H R F) := fill_all _ (by rw [List.length_map]; exact hi)
end
/-! What is still to be done. -/
/-- The rest of the copying comes to F: places ps wait, then the objects from i on. -/
def Pend (H : List Ob) (R : Int → Nat → Bool) (F L : List Int) (i : Nat) (ps : List Int) : Prop := ∃ f, f + i = H.length ∧ F = grow H R f i (ps.foldl (addO H) L)
theorem Pend.start (H : List Ob) (R : Int → Nat → Bool) (roots : List Int) : Pend H R (liveF H R roots) [] 0 roots := ⟨H.length, rfl, rfl⟩
theorem Pend.pre {H : List Ob} {R : Int → Nat → Bool} {F L : List Int} {i : Nat} {ps : List Int} (h : Pend H R F L i ps) : L <+: F := by
  obtain ⟨f, _, rfl⟩ := h
  exact (fold_pre H ps L).trans (grow_pre H R f i _)
theorem Pend.step {H : List Ob} {R : Int → Nat → Bool} {F L : List Int} {i : Nat} {p : Int} {ps : List Int} (h : Pend H R F L i (p :: ps)) : Pend H R F (addO H L p) i ps := h
theorem Pend.next {H : List Ob} {R : Int → Nat → Bool} {F L : List Int} {i : Nat} {a : Int} (hF : Good H F) (h : Pend H R F L i []) (hi : L[i]? = some a) : Pend H R F L (i + 1) (kids R (objO H a).1 0 (objO H a).2) := by
  obtain ⟨f, hf, he⟩ := h
  have hpre := Pend.pre ⟨f, hf, he⟩
  have hlen := (good_le H L (hF.pre hpre)).1
  have hlt : i < L.length := (List.getElem?_eq_some_iff.1 hi).1
  obtain ⟨g, rfl⟩ : ∃ g, f = g + 1 := ⟨f - 1, by omega⟩
  refine ⟨g, by omega, ?_⟩
  rw [he, List.foldl_nil, grow, hi]
theorem Pend.done {H : List Ob} {R : Int → Nat → Bool} {F L : List Int} {i : Nat} (h : Pend H R F L i []) (hi : L.length ≤ i) : F = L := by
  obtain ⟨f, hf, he⟩ := h
  rw [he]
  show grow H R f i L = L
  cases f with
  | zero => rfl
  | succ f => unfold grow; rw [List.getElem?_eq_none hi]
theorem kids_drop (R : Int → Nat → Bool) (kd : Int) (ws : List Int) {k : Nat} {x : Int} (hx : ws[k]? = some x) : kids R kd k (ws.drop k) = if R kd k = true then (x - 1) :: kids R kd (k + 1) (ws.drop (k + 1)) else kids R kd (k + 1) (ws.drop (k + 1)) := by
  have hlt : k < ws.length := (List.getElem?_eq_some_iff.1 hx).1
  rw [List.drop_eq_getElem_cons hlt]
  have : ws[k] = x := by
    rw [List.getElem?_eq_getElem hlt] at hx
    exact Option.some.inj hx
  rw [this]
  rfl
theorem kids_end (R : Int → Nat → Bool) (kd : Int) (ws : List Int) {k : Nat} (hk : ws.length ≤ k) : kids R kd k (ws.drop k) = [] := by
  rw [List.drop_of_length_le hk]; rfl
theorem obj_eq {H : List Ob} {a : Int} {o : Ob} (h : lookO H a = some o) : objO H a = o := by unfold objO; rw [h]; rfl
/-- A place was added, or is there, or names none. -/
theorem add_cases (H : List Ob) (L : List Int) (a : Int) : (lookO H a = none ∧ addO H L a = L) ∨ (∃ o, lookO H a = some o ∧ ((a ∈ L ∧ addO H L a = L) ∨ (a ∉ L ∧ addO H L a = L ++ [a]))) := by
  unfold addO
  cases h : lookO H a with
  | none => exact .inl ⟨rfl, by simp⟩
  | some o =>
    refine .inr ⟨o, rfl, ?_⟩
    by_cases hm : a ∈ L
    · exact .inl ⟨hm, by simp [hm]⟩
    · exact .inr ⟨hm, by simp [hm]⟩
end Go.Proofs.Ytjjoelhemhnojaa.Cp
