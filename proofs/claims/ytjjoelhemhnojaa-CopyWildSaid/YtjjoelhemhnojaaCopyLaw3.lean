/- Plain law of copying by numbers: objects that name one another by their numbers, laid one behind the other; what lives in its order. Conditions: words that name others name some that are there. -/
import Derived.Test.YtjjoelhemhnojaaCopyLaw2
set_option linter.unusedVariables false
namespace Go.Proofs.Ytjjoelhemhnojaa.Cp
open Hp

/-- Where the object of a number stands. -/
def pl (os : List Ob) (y : Int) : Int := if y < 0 then y else ((flat (os.take y.toNat)).length : Int)
def laidW (os : List Ob) (kd : Int) (k : Nat) (x : Int) : Int := if refB kd k = true ∧ 0 < x then pl os (x - 1) + 1 else x
/-- Objects as they are laid. -/
def laidO (os : List Ob) : List Ob := os.map fun o => (o.1, o.2.mapIdx fun k x => laidW os o.1 k x)
/-- What is named is there. -/
def Fine (os : List Ob) : Prop := ∀ o ∈ os, ∀ x ∈ o.2, 0 ≤ x ∧ x ≤ (os.length : Int)
def onceI (L : List Int) (x : Int) : List Int := if x < 0 ∨ x ∈ L then L else L ++ [x]
def objI (os : List Ob) (y : Int) : Ob := os.getD y.toNat (0, [])
def growI (os : List Ob) : Nat → Nat → List Int → List Int
  | 0, _, L => L
  | f + 1, i, L => match L[i]? with
    | none => L
    | some y => growI os f (i + 1) ((kids refB (objI os y).1 0 (objI os y).2).foldl onceI L)
def orderI (os : List Ob) (rs : List Int) : List Int := growI os os.length 0 (rs.foldl onceI [])

theorem laid_length (os : List Ob) : (laidO os).length = os.length := by simp [laidO]
theorem laid_flat (os : List Ob) (j : Nat) : (flat ((laidO os).take j)).length = (flat (os.take j)).length := by
  unfold laidO
  rw [← List.map_take]
  generalize os.take j = l
  induction l with
  | nil => rfl
  | cons o l ih => simp only [List.map_cons, flat, List.length_cons, List.length_append, List.length_mapIdx, ih]
theorem look_inv (l : List Ob) : ∀ {a : Int} {o : Ob}, lookO l a = some o → ∃ j, j < l.length ∧ a = ((flat (l.take j)).length : Int) := by
  induction l with
  | nil => intro a o h; cases h
  | cons p l ih =>
    intro a o h
    by_cases h0 : a = 0
    · exact ⟨0, by simp, by rw [h0]; rfl⟩
    · rw [look_cons_ne h0] at h
      obtain ⟨j, hj, e⟩ := ih h
      refine ⟨j + 1, by simpa using hj, ?_⟩
      simp [flat]
      omega
theorem pl_nat (os : List Ob) (j : Nat) : pl os (j : Int) = ((flat (os.take j)).length : Int) := by unfold pl; rw [if_neg (by omega)]; rfl
theorem pl_neg {os : List Ob} {y : Int} (h : y < 0) : pl os y = y := by unfold pl; rw [if_pos h]
theorem laid_look {os : List Ob} {j : Nat} (h : j < os.length) : lookO (laidO os) (pl os (j : Int)) = some ((objI os (j : Int)).1, (objI os (j : Int)).2.mapIdx fun k x => laidW os (objI os (j : Int)).1 k x) := by
  rw [pl_nat, ← laid_flat, look_at _ _ (by rw [laid_length]; exact h)]
  unfold laidO objI
  rw [List.getElem?_map, List.getElem?_eq_getElem h, List.getD_eq_getElem?_getD, show ((j : Nat) : Int).toNat = j from rfl, List.getElem?_eq_getElem h]
  rfl
theorem flat_take_lt (os : List Ob) : ∀ {i j : Nat}, i < j → i < os.length → (flat (os.take i)).length < (flat (os.take j)).length := by
  induction os with
  | nil => intro i j _ h; simp at h
  | cons o os ih =>
    intro i j h hi
    cases j with
    | zero => omega
    | succ j =>
      cases i with
      | zero => simp [flat]
      | succ i =>
        have := ih (show i < j by omega) (by simpa using hi)
        simp only [List.take_succ_cons, flat, List.length_cons, List.length_append]
        omega
theorem pl_inj {os : List Ob} {x y : Int} (hx : x < (os.length : Int)) (hy : y < (os.length : Int)) (h : pl os x = pl os y) : x = y := by
  by_cases h1 : x < 0
  · by_cases h2 : y < 0
    · rwa [pl_neg h1, pl_neg h2] at h
    · rw [pl_neg h1] at h
      unfold pl at h
      rw [if_neg h2] at h
      omega
  · by_cases h2 : y < 0
    · rw [pl_neg h2] at h
      unfold pl at h
      rw [if_neg h1] at h
      omega
    · obtain ⟨i, rfl⟩ := Int.eq_ofNat_of_zero_le (show 0 ≤ x by omega)
      obtain ⟨j, rfl⟩ := Int.eq_ofNat_of_zero_le (show 0 ≤ y by omega)
      rw [pl_nat, pl_nat] at h
      rcases Nat.lt_trichotomy i j with hlt | he | hgt
      · have := flat_take_lt os hlt (by omega); omega
      · rw [he]
      · have := flat_take_lt os hgt (by omega); omega
/-- Numbers that are there, each once. -/
def InN (os : List Ob) (L : List Int) : Prop := ∀ y ∈ L, 0 ≤ y ∧ y < (os.length : Int)
theorem once_in {os : List Ob} {L : List Int} {y : Int} (h : InN os L) (hy : y < (os.length : Int)) : InN os (onceI L y) := by
  unfold onceI
  split
  · exact h
  · rename_i hc
    intro z hz
    rcases List.mem_append.1 hz with hz | hz
    · exact h z hz
    · rw [List.mem_singleton.1 hz]
      omega
theorem once_map {os : List Ob} {L : List Int} {y : Int} (h : InN os L) (hy : y < (os.length : Int)) : addO (laidO os) (L.map (pl os)) (pl os y) = (onceI L y).map (pl os) := by
  unfold onceI
  by_cases h0 : y < 0
  · rw [if_pos (.inl h0), pl_neg h0, add_none (look_neg _ h0)]
  · have hm : pl os y ∈ L.map (pl os) ↔ y ∈ L := by
      rw [List.mem_map]
      exact ⟨fun ⟨z, hz, e⟩ => pl_inj (h z hz).2 hy e ▸ hz, fun hz => ⟨y, hz, rfl⟩⟩
    obtain ⟨j, rfl⟩ := Int.eq_ofNat_of_zero_le (show 0 ≤ y by omega)
    by_cases hin : (j : Int) ∈ L
    · rw [if_pos (.inr hin), add_mem (hm.2 hin)]
    · rw [if_neg (fun h => h.elim h0 hin), add_new (by rw [laid_look (by omega)]; rfl) (fun h => hin (hm.1 h)), List.map_append]
      rfl
theorem fold_map {os : List Ob} (ys : List Int) : ∀ {L : List Int}, InN os L → (∀ y ∈ ys, y < (os.length : Int)) → (ys.map (pl os)).foldl (addO (laidO os)) (L.map (pl os)) = (ys.foldl onceI L).map (pl os) ∧ InN os (ys.foldl onceI L) := by
  induction ys with
  | nil => intro L h _; exact ⟨rfl, h⟩
  | cons y ys ih =>
    intro L h hy
    have h1 := hy y List.mem_cons_self
    simp only [List.map_cons, List.foldl_cons]
    rw [once_map h h1]
    exact ih (once_in h h1) fun z hz => hy z (List.mem_cons_of_mem _ hz)
theorem kids_map (os : List Ob) (kd : Int) : ∀ (ws : List Int) (k : Nat), (∀ x ∈ ws, 0 ≤ x) → kids refB kd k (ws.mapIdx fun j x => laidW os kd (k + j) x) = (kids refB kd k ws).map (pl os) := by
  intro ws
  induction ws with
  | nil => intro k _; rfl
  | cons x ws ih =>
    intro k h
    have hx := h x List.mem_cons_self
    have e : (ws.mapIdx fun j x => laidW os kd (k + (j + 1)) x) = ws.mapIdx fun j x => laidW os kd (k + 1 + j) x := by
      congr 1
      funext j x
      rw [show k + (j + 1) = k + 1 + j from by omega]
    rw [List.mapIdx_cons, e]
    simp only [kids, Nat.add_zero, ih (k + 1) fun z hz => h z (List.mem_cons_of_mem _ hz)]
    by_cases hr : refB kd k = true
    · rw [if_pos hr, if_pos hr, List.map_cons]
      congr 1
      unfold laidW
      by_cases h0 : 0 < x
      · rw [if_pos ⟨hr, h0⟩]; omega
      · rw [if_neg (fun hc => h0 hc.2), pl_neg (by omega)]
    · rw [if_neg hr, if_neg hr]
theorem kids_lt (kd : Int) (m : Int) : ∀ (ws : List Int) (k : Nat), (∀ x ∈ ws, x ≤ m) → ∀ y ∈ kids refB kd k ws, y < m := by
  intro ws
  induction ws with
  | nil => intro k _ y h; exact (List.not_mem_nil h).elim
  | cons x ws ih =>
    intro k h y hy
    unfold kids at hy
    have hx := h x List.mem_cons_self
    split at hy
    · rcases List.mem_cons.1 hy with rfl | hy
      · omega
      · exact ih _ (fun z hz => h z (List.mem_cons_of_mem _ hz)) y hy
    · exact ih _ (fun z hz => h z (List.mem_cons_of_mem _ hz)) y hy
theorem objI_mem {os : List Ob} {y : Int} (h : 0 ≤ y ∧ y < (os.length : Int)) : objI os y ∈ os := by
  unfold objI
  rw [List.getD_eq_getElem?_getD, List.getElem?_eq_getElem (by omega)]
  exact List.getElem_mem _
theorem grow_map {os : List Ob} (hf : Fine os) : ∀ (f i : Nat) {L : List Int}, InN os L → grow (laidO os) refB f i (L.map (pl os)) = (growI os f i L).map (pl os) ∧ InN os (growI os f i L) := by
  intro f
  induction f with
  | zero => intro i L h; exact ⟨rfl, h⟩
  | succ f ih =>
    intro i L h
    cases hl : L[i]? with
    | none =>
      have e1 : growI os (f + 1) i L = L := by unfold growI; rw [hl]
      rw [e1, grow_end _ _ _ _ _ (by rw [List.length_map]; exact List.getElem?_eq_none_iff.1 hl)]
      exact ⟨rfl, h⟩
    | some y =>
      have hy := h y (List.mem_of_getElem? hl)
      obtain ⟨j, rfl⟩ := Int.eq_ofNat_of_zero_le hy.1
      have e1 : growI os (f + 1) i L = growI os f (i + 1) ((kids refB (objI os (j : Int)).1 0 (objI os (j : Int)).2).foldl onceI L) := by rw [growI, hl]
      have hm := objI_mem hy
      have hk := kids_map os (objI os (j : Int)).1 (objI os (j : Int)).2 0 (fun x hx => (hf _ hm x hx).1)
      simp only [Nat.zero_add] at hk
      obtain ⟨h1, h2⟩ := fold_map (kids refB (objI os (j : Int)).1 0 (objI os (j : Int)).2) h (kids_lt _ _ _ _ fun x hx => (hf _ hm x hx).2)
      rw [e1, grow_step _ _ f i _ (a := pl os (j : Int)) (by rw [List.getElem?_map, hl]; rfl) (laid_look (by omega))]
      simp only []
      rw [hk, h1]
      exact ih (i + 1) h2
/-- What lives, by places and by numbers. -/
theorem live_map {os : List Ob} (hf : Fine os) {rs : List Int} (hr : ∀ y ∈ rs, y < (os.length : Int)) : liveF (laidO os) refB (rs.map (pl os)) = (orderI os rs).map (pl os) ∧ InN os (orderI os rs) := by
  unfold liveF orderI
  obtain ⟨h1, h2⟩ := fold_map rs (L := []) (fun y hy => (List.not_mem_nil hy).elim) hr
  rw [List.map_nil] at h1
  rw [h1, laid_length]
  exact grow_map hf _ _ h2
theorem order_nd {os : List Ob} (hf : Fine os) {rs : List Int} (hr : ∀ y ∈ rs, y < (os.length : Int)) : (orderI os rs).Nodup := by
  have := (live_good (laidO os) refB (rs.map (pl os))).nd
  rw [(live_map hf hr).1] at this
  exact List.Pairwise.of_map _ (fun a b hab e => hab (congrArg _ e)) this
/-- Sizes, by numbers. -/
def szI (os : List Ob) : List Int → Nat
  | [] => 0
  | y :: L => 2 + (objI os y).2.length + szI os L
theorem objO_pl {os : List Ob} {y : Int} (h : 0 ≤ y ∧ y < (os.length : Int)) : objO (laidO os) (pl os y) = ((objI os y).1, (objI os y).2.mapIdx fun k x => laidW os (objI os y).1 k x) := by
  obtain ⟨j, rfl⟩ := Int.eq_ofNat_of_zero_le h.1
  exact obj_eq (laid_look (by omega))
theorem szs_pl {os : List Ob} : ∀ {L : List Int}, InN os L → szs (laidO os) (L.map (pl os)) = szI os L := by
  intro L
  induction L with
  | nil => intro _; rfl
  | cons y L ih =>
    intro h
    simp only [List.map_cons, szs, szI]
    rw [ih fun z hz => h z (List.mem_cons_of_mem _ hz), objO_pl (h y List.mem_cons_self), List.length_mapIdx]
/-- The number of a copy. -/
theorem new_pl {os : List Ob} (hf : Fine os) {rs : List Int} (hr : ∀ y ∈ rs, y < (os.length : Int)) {j : Nat} {y : Int} (hj : (orderI os rs)[j]? = some y) :
    newO (laidO os) ((orderI os rs).map (pl os)) (pl os y) = (szI os ((orderI os rs).take j) : Int) := by
  obtain ⟨h1, h2⟩ := live_map hf hr
  have hy := h2 y (List.mem_of_getElem? hj)
  have hg := live_good (laidO os) refB (rs.map (pl os))
  rw [h1] at hg
  unfold newO
  rw [if_pos, offO_at (laidO os) _ j (pl os y) hg.nd (by rw [List.getElem?_map, hj]; rfl), ← List.map_take, szs_pl fun z hz => h2 z (List.mem_of_mem_take hz)]
  obtain ⟨i, rfl⟩ := Int.eq_ofNat_of_zero_le hy.1
  rw [laid_look (by omega)]
  rfl
theorem new_neg (H : List Ob) (F : List Int) {a : Int} (h : a < 0) : newO H F a = -1 := by
  unfold newO
  rw [look_neg _ h]
  rfl
end Go.Proofs.Ytjjoelhemhnojaa.Cp
