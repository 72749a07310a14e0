/- Plain law of copying: a copy of a copy is the copy; where a copy stands; all are copied when all are roots. Conditions: as they are said. -/
import Derived.Test.YtjjoelhemhnojaaCopyLaw3
set_option linter.unusedVariables false
namespace Go.Proofs.Ytjjoelhemhnojaa.Cp
open Hp

section
variable {H : List Ob} {R : Int → Nat → Bool} {F : List Int}
/-- The copy's object. -/
theorem copy_look (hF : Good H F) {a : Int} (ha : a ∈ F) : lookO (F.map (trO H R F)) (newO H F a) = some (trO H R F a) := by
  obtain ⟨j, hj⟩ := List.mem_iff_getElem?.1 ha
  have hlt : j < F.length := (List.getElem?_eq_some_iff.1 hj).1
  unfold newO
  rw [if_pos (hF.ok a ha), off_at (R := R) hF.nd (List.prefix_refl _) hj, look_at _ _ (by simpa using hlt), List.getElem?_map, hj]
  rfl
theorem new_inj (hF : Good H F) {a b : Int} (ha : a ∈ F) (hb : b ∈ F) (h : newO H F a = newO H F b) : a = b := by
  obtain ⟨i, hi⟩ := List.mem_iff_getElem?.1 ha
  obtain ⟨j, hj⟩ := List.mem_iff_getElem?.1 hb
  have hli : i < F.length := (List.getElem?_eq_some_iff.1 hi).1
  have hlj : j < F.length := (List.getElem?_eq_some_iff.1 hj).1
  unfold newO at h
  rw [if_pos (hF.ok a ha), if_pos (hF.ok b hb), off_at (R := fun _ _ => true) hF.nd (List.prefix_refl _) hi, off_at (R := fun _ _ => true) hF.nd (List.prefix_refl _) hj] at h
  have hij : i = j := by
    rcases Nat.lt_trichotomy i j with hlt | he | hgt
    · have := flat_take_lt (F.map (trO H (fun _ _ => true) F)) hlt (by simpa using hli); omega
    · exact he
    · have := flat_take_lt (F.map (trO H (fun _ _ => true) F)) hgt (by simpa using hlj); omega
  subst hij
  rw [hi] at hj
  exact Option.some.inj hj
theorem new_none (F : List Int) {a : Int} (h : lookO H a = none) : newO H F a = -1 := by unfold newO; rw [h]; rfl
theorem kids_new (kd : Int) : ∀ (ws : List Int) (k : Nat), kids R kd k (ws.mapIdx fun j x => trW H R F kd (k + j) x) = (kids R kd k ws).map (newO H F) := by
  intro ws
  induction ws with
  | nil => intro k; rfl
  | cons x ws ih =>
    intro k
    have e : (ws.mapIdx fun j x => trW H R F kd (k + (j + 1)) x) = ws.mapIdx fun j x => trW H R F kd (k + 1 + j) x := by
      congr 1
      funext j x
      rw [show k + (j + 1) = k + 1 + j from by omega]
    rw [List.mapIdx_cons, e]
    simp only [kids, Nat.add_zero, ih (k + 1)]
    by_cases hr : R kd k = true
    · rw [if_pos hr, if_pos hr, List.map_cons]
      congr 1
      unfold trW
      rw [if_pos hr]
      omega
    · rw [if_neg hr, if_neg hr]
theorem add_new2 (hF : Good H F) {L : List Int} {y : Int} (hp : addO H L y <+: F) : addO (F.map (trO H R F)) (L.map (newO H F)) (newO H F y) = (addO H L y).map (newO H F) := by
  have hL : ∀ z ∈ L, z ∈ F := fun z hz => ((add_pre H L y).trans hp).subset hz
  rcases add_cases H L y with ⟨h, e⟩ | ⟨o, h, ⟨hm, e⟩ | ⟨hm, e⟩⟩
  · rw [e, new_none F h, add_none (look_neg _ (by decide))]
  · rw [e, add_mem (List.mem_map_of_mem hm)]
  · rw [e] at hp ⊢
    have hy : y ∈ F := hp.subset (by simp)
    rw [add_new (by rw [copy_look hF hy]; rfl), List.map_append]
    · rfl
    · intro hc
      obtain ⟨z, hz, he⟩ := List.mem_map.1 hc
      exact hm (new_inj hF (hL z hz) hy he ▸ hz)
theorem fold_new (hF : Good H F) (ys : List Int) : ∀ {L : List Int}, ys.foldl (addO H) L <+: F → (ys.map (newO H F)).foldl (addO (F.map (trO H R F))) (L.map (newO H F)) = (ys.foldl (addO H) L).map (newO H F) := by
  induction ys with
  | nil => intro L _; rfl
  | cons y ys ih =>
    intro L hp
    simp only [List.map_cons, List.foldl_cons] at hp ⊢
    rw [add_new2 hF ((fold_pre H ys _).trans hp)]
    exact ih hp
theorem grow_new (hF : Good H F) : ∀ (g f i : Nat) {L : List Int}, F = grow H R f i L → f + i = H.length → F.length ≤ g + i → grow (F.map (trO H R F)) R g i (L.map (newO H F)) = F.map (newO H F) := by
  intro g
  induction g with
  | zero =>
    intro f i L hg hf hi
    have hp : L <+: F := hg ▸ grow_pre H R f i L
    have hl := hp.length_le
    have : F = L := hg.trans (grow_end _ _ _ _ _ (by omega))
    show L.map _ = _
    rw [← this]
  | succ g ih =>
    intro f i L hg hf hi
    have hp : L <+: F := hg ▸ grow_pre H R f i L
    have hl := hp.length_le
    have hlen := (good_le H F hF).1
    cases he : L[i]? with
    | none =>
      have hLi := List.getElem?_eq_none_iff.1 he
      have : F = L := hg.trans (grow_end _ _ _ _ _ hLi)
      rw [grow_end _ _ _ _ _ (by simpa using hLi), ← this]
    | some a =>
      have hlt : i < L.length := (List.getElem?_eq_some_iff.1 he).1
      have ha : a ∈ F := hp.subset (List.mem_of_getElem? he)
      obtain ⟨f, rfl⟩ : ∃ e, f = e + 1 := ⟨f - 1, by omega⟩
      rw [grow, he] at hg
      have hg : F = grow H R f (i + 1) ((kids R (objO H a).1 0 (objO H a).2).foldl (addO H) L) := hg
      have hp2 : (kids R (objO H a).1 0 (objO H a).2).foldl (addO H) L <+: F := by
        have := grow_pre H R f (i + 1) ((kids R (objO H a).1 0 (objO H a).2).foldl (addO H) L)
        rw [← hg] at this
        exact this
      rw [grow_step _ _ g i _ (a := newO H F a) (by rw [List.getElem?_map, he]; rfl) (copy_look hF ha)]
      have hk := kids_new (H := H) (R := R) (F := F) (objO H a).1 (objO H a).2 0
      simp only [Nat.zero_add] at hk
      show grow _ R g (i + 1) ((kids R (objO H a).1 0 _).foldl _ _) = _
      rw [show (trO H R F a).2 = (objO H a).2.mapIdx fun k x => trW H R F (objO H a).1 k x from rfl, hk, fold_new hF _ hp2]
      exact ih f (i + 1) hg (by omega) (by omega)
/-- What lives in a copy. -/
theorem live_new (roots : List Int) : liveF ((liveF H R roots).map (trO H R (liveF H R roots))) R (roots.map (newO H (liveF H R roots))) = (liveF H R roots).map (newO H (liveF H R roots)) := by
  have hF := live_good H R roots
  have hp : roots.foldl (addO H) [] <+: liveF H R roots := grow_pre H R _ _ _
  have hg : liveF H R roots = grow H R H.length 0 (roots.foldl (addO H) []) := rfl
  generalize liveF H R roots = F at *
  have h1 := fold_new (R := R) hF roots hp
  rw [List.map_nil] at h1
  unfold liveF
  rw [h1]
  exact grow_new hF _ _ 0 hg (by omega) (by simp)
theorem szs_new (hF : Good H F) : ∀ {L : List Int}, (∀ a ∈ L, a ∈ F) → szs (F.map (trO H R F)) (L.map (newO H F)) = szs H L := by
  intro L
  induction L with
  | nil => intro _; rfl
  | cons a L ih =>
    intro h
    simp only [List.map_cons, szs]
    rw [ih fun z hz => h z (List.mem_cons_of_mem _ hz), obj_eq (copy_look hF (h a List.mem_cons_self)), trO_len]
theorem new_new (hF : Good H F) (hG : Good (F.map (trO H R F)) (F.map (newO H F))) (y : Int) (hy : y ∈ F ∨ lookO H y = none) : newO (F.map (trO H R F)) (F.map (newO H F)) (newO H F y) = newO H F y := by
  rcases hy with hy | hy
  · obtain ⟨j, hj⟩ := List.mem_iff_getElem?.1 hy
    have hlt : j < F.length := (List.getElem?_eq_some_iff.1 hj).1
    have hj2 : (F.map (newO H F))[j]? = some (newO H F y) := by rw [List.getElem?_map, hj]; rfl
    have e1 : newO H F y = (szs H (F.take j) : Int) := by
      unfold newO
      rw [if_pos (hF.ok y hy), offO_at H F j y hF.nd hj]
    have e2 : newO (F.map (trO H R F)) (F.map (newO H F)) (newO H F y) = (offO (F.map (trO H R F)) (F.map (newO H F)) (newO H F y) : Int) := by
      have := copy_look (R := R) hF hy
      generalize newO H F y = z at *
      unfold newO
      rw [this]
      rfl
    rw [e2, offO_at _ _ j _ hG.nd hj2, ← List.map_take, szs_new hF fun a ha => List.mem_of_mem_take ha, e1]
  · rw [new_none F hy, new_neg _ _ (by decide)]
end
/-- A copy of a copy is the copy. -/
theorem copy_twice (H : List Ob) (R : Int → Nat → Bool) (roots : List Int) (hR : ∀ a ∈ liveF H R roots, ∀ k x, (objO H a).2[k]? = some x → R (objO H a).1 k = true → (x - 1) ∈ liveF H R roots ∨ lookO H (x - 1) = none) :
    let F := liveF H R roots
    let G := F.map (trO H R F)
    let F2 := liveF G R (roots.map (newO H F))
    F2.map (trO G R F2) = G := by
  intro F G F2
  have hF : Good H F := live_good H R roots
  have h2 : F2 = F.map (newO H F) := live_new roots
  have hG : Good G F2 := live_good G R _
  rw [h2] at hG ⊢
  rw [List.map_map]
  show F.map _ = F.map _
  refine List.map_congr_left fun a ha => ?_
  show trO G R (F.map (newO H F)) (newO H F a) = trO H R F a
  unfold trO
  rw [obj_eq (copy_look (R := R) hF ha)]
  show ((objO H a).1, _) = ((objO H a).1, _)
  congr 1
  apply List.ext_getElem?
  intro k
  rw [List.getElem?_mapIdx, show (trO H R F a).2 = (objO H a).2.mapIdx fun k x => trW H R F (objO H a).1 k x from rfl, List.getElem?_mapIdx]
  cases hx : (objO H a).2[k]? with
  | none => rfl
  | some x =>
    simp only [Option.map_some, Option.some.injEq]
    show trW G R (F.map (newO H F)) (objO H a).1 k (trW H R F (objO H a).1 k x) = trW H R F (objO H a).1 k x
    unfold trW
    by_cases hr : R (objO H a).1 k = true
    · rw [if_pos hr, if_pos hr, show newO H F (x - 1) + 1 - 1 = newO H F (x - 1) from by omega, new_new hF hG _ (hR a ha k x hx hr)]
    · rw [if_neg hr, if_neg hr]
/-- What lives names what lives. -/
theorem kids_mem {R : Int → Nat → Bool} {kd : Int} : ∀ (ws : List Int) (k0 : Nat) {k : Nat} {x : Int}, ws[k]? = some x → R kd (k0 + k) = true → (x - 1) ∈ kids R kd k0 ws := by
  intro ws
  induction ws with
  | nil => intro k0 k x h; simp at h
  | cons y ws ih =>
    intro k0 k x h hr
    unfold kids
    cases k with
    | zero =>
      simp at h
      subst h
      rw [if_pos (by simpa using hr)]
      exact List.mem_cons_self
    | succ k =>
      have := ih (k0 + 1) (k := k) (x := x) (by simpa using h) (by rw [show k0 + 1 + k = k0 + (k + 1) from by omega]; exact hr)
      split
      · exact List.mem_cons_of_mem _ this
      · exact this
theorem fold_mem {H : List Ob} (ys : List Int) : ∀ {L : List Int} {y : Int}, y ∈ ys → (lookO H y).isSome = true → y ∈ ys.foldl (addO H) L := by
  induction ys with
  | nil => intro L y h; exact (List.not_mem_nil h).elim
  | cons z ys ih =>
    intro L y h hs
    rcases List.mem_cons.1 h with rfl | h
    · refine (fold_pre H ys _).subset ?_
      by_cases hm : y ∈ L
      · rw [add_mem hm]; exact hm
      · rw [add_new hs hm]; simp
    · exact ih h hs
theorem grow_closed {H : List Ob} {R : Int → Nat → Bool} : ∀ (f i : Nat) {L : List Int}, Good H L → f + i = H.length → ∀ j, i ≤ j → ∀ a, (grow H R f i L)[j]? = some a → ∀ y ∈ kids R (objO H a).1 0 (objO H a).2, (lookO H y).isSome = true → y ∈ grow H R f i L := by
  intro f
  induction f with
  | zero =>
    intro i L hL hf j hij a ha
    have h1 := (good_le H L hL).1
    have h2 : j < L.length := (List.getElem?_eq_some_iff.1 ha).1
    omega
  | succ f ih =>
    intro i L hL hf j hij a ha y hy hs
    cases he : L[i]? with
    | none =>
      rw [grow_end _ _ _ _ _ (List.getElem?_eq_none_iff.1 he)] at ha
      have := List.getElem?_eq_none_iff.1 he
      have h2 : j < L.length := (List.getElem?_eq_some_iff.1 ha).1
      omega
    | some b =>
      have hlt : i < L.length := (List.getElem?_eq_some_iff.1 he).1
      have hg : grow H R (f + 1) i L = grow H R f (i + 1) ((kids R (objO H b).1 0 (objO H b).2).foldl (addO H) L) := by rw [grow, he]
      rw [hg] at ha ⊢
      by_cases hij' : j = i
      · subst hij'
        have hp := (fold_pre H (kids R (objO H b).1 0 (objO H b).2) L).trans (grow_pre H R f (j + 1) _)
        rw [pre_get hp hlt, he] at ha
        obtain rfl := Option.some.inj ha
        exact (grow_pre H R f (j + 1) _).subset (fold_mem _ hy hs)
      · exact ih (i + 1) (fold_good _ hL) (by omega) j (by omega) a ha y hy hs
theorem live_closed (H : List Ob) (R : Int → Nat → Bool) (roots : List Int) : ∀ a ∈ liveF H R roots, ∀ k x, (objO H a).2[k]? = some x → R (objO H a).1 k = true → (x - 1) ∈ liveF H R roots ∨ lookO H (x - 1) = none := by
  intro a ha k x hx hr
  cases hl : lookO H (x - 1) with
  | none => exact .inr rfl
  | some o =>
    obtain ⟨j, hj⟩ := List.mem_iff_getElem?.1 ha
    exact .inl (grow_closed _ 0 (fold_good _ ⟨List.nodup_nil, fun a h => (List.not_mem_nil h).elim⟩) (by omega) j (Nat.zero_le _) a hj _ (kids_mem _ 0 hx (by rw [Nat.zero_add]; exact hr)) (by rw [hl]; rfl))
theorem live_roots {H : List Ob} {R : Int → Nat → Bool} {roots : List Int} {a : Int} (h : a ∈ roots) (hs : (lookO H a).isSome = true) : a ∈ liveF H R roots :=
  (grow_pre H R _ _ _).subset (fold_mem _ h hs)
/-- When all are there, all words are copied. -/
theorem szs_sub {H : List Ob} : ∀ {L M : List Int}, L.Nodup → (∀ a ∈ L, a ∈ M) → szs H L ≤ szs H M := by
  intro L
  induction L with
  | nil => intro M _ _; exact Nat.zero_le _
  | cons a L ih =>
    intro M hn h
    have hp := List.perm_cons_erase (h a List.mem_cons_self)
    rw [szs_perm H hp]
    simp only [szs]
    have := ih (M := M.erase a) (List.nodup_cons.1 hn).2 fun b hb => (List.mem_erase_of_ne (fun e => (List.nodup_cons.1 hn).1 (by rw [← e]; exact hb))).2 (h b (List.mem_cons_of_mem _ hb))
    omega
/-- The places of objects. -/
def placesO (l : List Ob) : List Int := (List.range l.length).map fun i => ((flat (l.take i)).length : Int)
theorem places_szs (H : List Ob) : ∀ k, k ≤ H.length → szs H (((List.range k).map fun i => ((flat (H.take i)).length : Int))) = (flat (H.take k)).length := by
  intro k
  induction k with
  | zero => intro _; rfl
  | succ k ih =>
    intro hk
    rw [List.range_succ, List.map_append, szs_append, ih (by omega)]
    simp only [List.map_cons, List.map_nil, szs]
    have hl := look_at H k (by omega)
    rw [List.getElem?_eq_getElem (by omega)] at hl
    rw [obj_eq hl, List.take_succ_eq_append_getElem (by omega), flat_append, List.length_append]
    simp [flat]
    omega
theorem places_nd (H : List Ob) : (placesO H).Nodup := by
  unfold placesO
  rw [List.Nodup, List.pairwise_map]
  refine List.Pairwise.imp_of_mem (fun {i j} hi hj hne e => hne ?_) List.nodup_range
  have hi := List.mem_range.1 hi
  have hj := List.mem_range.1 hj
  rcases Nat.lt_trichotomy i j with h | h | h
  · have := flat_take_lt H h hi; omega
  · exact h
  · have := flat_take_lt H h hj; omega
theorem places_mem (H : List Ob) (a : Int) : a ∈ placesO H ↔ (lookO H a).isSome = true := by
  unfold placesO
  rw [List.mem_map]
  constructor
  · rintro ⟨i, hi, rfl⟩
    have hi := List.mem_range.1 hi
    rw [look_at H i hi, List.getElem?_eq_getElem hi]
    rfl
  · intro h
    obtain ⟨o, ho⟩ := Option.isSome_iff_exists.1 h
    obtain ⟨j, hj, e⟩ := look_inv H ho
    exact ⟨j, List.mem_range.2 hj, e.symm⟩
theorem all_used {H : List Ob} {R : Int → Nat → Bool} {roots : List Int} (h : ∀ a ∈ placesO H, a ∈ roots) : szs H (liveF H R roots) = (flat H).length := by
  have h1 := (good_le H _ (live_good H R roots)).2
  have h2 := szs_sub (H := H) (places_nd H) (M := liveF H R roots) fun a ha => live_roots (h a ha) ((places_mem H a).1 ha)
  have h3 := places_szs H H.length (Nat.le_refl _)
  rw [List.take_length] at h3
  have h4 : szs H (placesO H) = (flat H).length := h3
  omega
end Go.Proofs.Ytjjoelhemhnojaa.Cp
