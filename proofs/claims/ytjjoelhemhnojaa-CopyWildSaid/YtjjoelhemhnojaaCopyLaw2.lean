/- Plain law of copying a ring, and what several name. Conditions: as they are said. -/
import Derived.Test.YtjjoelhemhnojaaCopyLaw
set_option linter.unusedVariables false
namespace Go.Proofs.Ytjjoelhemhnojaa.Cp
open Hp

/-- Of even kinds all words are references, of odd ones none but the first. -/
def refB (kd : Int) (k : Nat) : Bool := (kd.tmod 2 == 0) || (k == 0)
/-- Nothing is added that is there. -/
theorem add_mem {H : List Ob} {L : List Int} {a : Int} (h : a ∈ L) : addO H L a = L := by unfold addO; simp [h]
theorem add_new {H : List Ob} {L : List Int} {a : Int} (h : (lookO H a).isSome = true) (hn : a ∉ L) : addO H L a = L ++ [a] := by unfold addO; simp [h, hn]
theorem add_none {H : List Ob} {L : List Int} {a : Int} (h : lookO H a = none) : addO H L a = L := by unfold addO; simp [h]
theorem grow_end (H : List Ob) (R : Int → Nat → Bool) (f i : Nat) (L : List Int) (h : L.length ≤ i) : grow H R f i L = L := by
  cases f with
  | zero => rfl
  | succ f => unfold grow; rw [List.getElem?_eq_none h]
theorem grow_step (H : List Ob) (R : Int → Nat → Bool) (f i : Nat) (L : List Int) {a : Int} {o : Ob} (h : L[i]? = some a) (ho : lookO H a = some o) : grow H R (f + 1) i L = grow H R f (i + 1) ((kids R o.1 0 o.2).foldl (addO H) L) := by
  rw [grow, h]
  show grow H R f (i + 1) ((kids R (objO H a).1 0 (objO H a).2).foldl (addO H) L) = _
  rw [obj_eq ho]
theorem look_neg (H : List Ob) {a : Int} (h : a < 0) : lookO H a = none := by
  cases hl : lookO H a with
  | none => rfl
  | some o =>
    obtain ⟨n, hn, _⟩ := look_some _ hl
    omega
/-- Objects of one size stand at its multiples. -/
theorem flat_same (s : Nat) (l : List Ob) (h : ∀ o ∈ l, o.2.length = s) : (flat l).length = l.length * (2 + s) := by
  induction l with
  | nil => simp [flat]
  | cons o l ih =>
    have h1 := h o List.mem_cons_self
    have h2 := ih fun p hp => h p (List.mem_cons_of_mem _ hp)
    simp only [flat, List.length_cons, List.length_append, h1, h2, Nat.succ_mul]
    omega
theorem look_same (s : Nat) (l : List Ob) (h : ∀ o ∈ l, o.2.length = s) {i : Nat} {o : Ob} (hi : l[i]? = some o) : lookO l ((i * (2 + s) : Nat) : Int) = some o := by
  have hlt : i < l.length := (List.getElem?_eq_some_iff.1 hi).1
  have := look_at l i hlt
  rw [flat_same s (l.take i) (fun o ho => h o (List.mem_of_mem_take ho)), List.length_take, Nat.min_eq_left (Nat.le_of_lt hlt), hi] at this
  exact this

/-! A ring. -/
def nxt (n i : Nat) : Nat := (i + 1) % n
def ringO (n : Nat) : List Ob := (List.range n).map fun i => ((2 : Int), [((3 * nxt n i + 1 : Nat) : Int)])
/-- The j-th place from r on. -/
def rg (n r j : Nat) : Int := ((3 * ((r + j) % n) : Nat) : Int)
theorem ring_len (n : Nat) : ∀ o ∈ ringO n, o.2.length = 1 := by
  intro o ho
  obtain ⟨i, _, rfl⟩ := List.mem_map.1 ho
  rfl
theorem ring_get {n i : Nat} (h : i < n) : (ringO n)[i]? = some ((2 : Int), [((3 * nxt n i + 1 : Nat) : Int)]) := by
  unfold ringO
  rw [List.getElem?_map, List.getElem?_range h]
  rfl
theorem ring_look {n i : Nat} (h : i < n) : lookO (ringO n) ((3 * i : Nat) : Int) = some ((2 : Int), [((3 * nxt n i + 1 : Nat) : Int)]) := by
  have := look_same 1 _ (ring_len n) (ring_get h)
  rw [Nat.mul_comm] at this
  exact this
theorem ring_flat (n : Nat) : (flat (ringO n)).length = 3 * n := by
  rw [flat_same 1 _ (ring_len n)]
  unfold ringO
  rw [List.length_map, List.length_range]
  omega
theorem rg_look {n r j : Nat} (hn : 0 < n) : lookO (ringO n) (rg n r j) = some ((2 : Int), [rg n r (j + 1) + 1]) := by
  unfold rg
  rw [ring_look (Nat.mod_lt _ hn)]
  unfold nxt
  rw [Nat.mod_add_mod, Nat.add_assoc]
  rfl
theorem rg_inj {n r i j : Nat} (hi : i < n) (hj : j < n) (h : rg n r i = rg n r j) : i = j := by
  unfold rg at h
  have h1 : (r + i) % n = (r + j) % n := by omega
  rcases Nat.le_total i j with hle | hle
  · have h2 := Nat.sub_mod_eq_zero_of_mod_eq h1.symm
    rw [Nat.add_sub_add_left, Nat.mod_eq_of_lt (by omega)] at h2
    omega
  · have h2 := Nat.sub_mod_eq_zero_of_mod_eq h1
    rw [Nat.add_sub_add_left, Nat.mod_eq_of_lt (by omega)] at h2
    omega
theorem rg_round {n r : Nat} : rg n r n = rg n r 0 := by
  unfold rg
  rw [Nat.add_mod_right]
  rfl
theorem rg_mem {n r m j : Nat} (hm : m ≤ n) (hj : j < n) : rg n r j ∈ (List.range m).map (rg n r) ↔ j < m := by
  rw [List.mem_map]
  constructor
  · rintro ⟨i, hi, h⟩
    have hi := List.mem_range.1 hi
    rw [← rg_inj (by omega) hj h]
    exact hi
  · intro h
    exact ⟨j, List.mem_range.2 h, rfl⟩
theorem ring_grow {n r : Nat} (hn : 0 < n) : ∀ (f i : Nat), i < n → n ≤ f + i → grow (ringO n) refB f i ((List.range (i + 1)).map (rg n r)) = (List.range n).map (rg n r) := by
  intro f
  induction f with
  | zero => intro i hi hf; omega
  | succ f ih =>
    intro i hi hf
    rw [grow_step _ _ f i _ (a := rg n r i) (by rw [List.getElem?_map, List.getElem?_range (by omega)]; rfl) (rg_look hn)]
    show grow _ _ f (i + 1) (addO _ _ (rg n r (i + 1) + 1 - 1)) = _
    rw [show rg n r (i + 1) + 1 - 1 = rg n r (i + 1) from by omega]
    by_cases h : i + 1 < n
    · rw [add_new (by rw [rg_look hn]; rfl) (by rw [rg_mem (by omega) h]; omega), ← ih (i + 1) h (by omega), List.range_succ (n := i + 1), List.map_append]
      rfl
    · have he : i + 1 = n := by omega
      rw [he, rg_round, add_mem ((rg_mem (Nat.le_refl _) hn).2 hn), grow_end _ _ _ _ _ (by simp)]
theorem ring_live {n r : Nat} (hn : 0 < n) : liveF (ringO n) refB [rg n r 0] = (List.range n).map (rg n r) := by
  unfold liveF
  have hl : (ringO n).length = n := by simp [ringO]
  rw [List.foldl_cons, List.foldl_nil, add_new (by rw [rg_look hn]; rfl) (by simp), hl]
  exact ring_grow hn n 0 hn (by omega)
theorem ring_off {n r : Nat} (hn : 0 < n) {j : Nat} (hj : j < n) : newO (ringO n) ((List.range n).map (rg n r)) (rg n r j) = ((3 * j : Nat) : Int) := by
  unfold newO
  have hnd : ((List.range n).map (rg n r)).Nodup := by
    rw [← ring_live hn]; exact (live_good _ _ _).nd
  rw [rg_look hn, if_pos (by rfl), off_at (H := ringO n) (R := refB) hnd (List.prefix_refl _) (j := j) (by rw [List.getElem?_map, List.getElem?_range hj]; rfl), flat_same 1]
  · simp; omega
  · intro o ho
    obtain ⟨a, ha, rfl⟩ := List.mem_map.1 (List.mem_of_mem_take ho)
    obtain ⟨i, hi, rfl⟩ := List.mem_map.1 ha
    rw [trO_len, obj_eq (rg_look hn)]
    rfl
theorem ring_copy {n r : Nat} (hn : 0 < n) : ((liveF (ringO n) refB [rg n r 0]).map (trO (ringO n) refB (liveF (ringO n) refB [rg n r 0]))) = ringO n := by
  rw [ring_live hn]
  apply List.ext_getElem?
  intro i
  by_cases hi : i < n
  · rw [ring_get hi, List.getElem?_map, List.getElem?_map, List.getElem?_range hi]
    simp only [Option.map_some, Option.some.injEq]
    unfold trO
    rw [obj_eq (rg_look hn)]
    simp only [List.mapIdx_cons, List.mapIdx_nil, Prod.mk.injEq, true_and, List.cons.injEq, and_true]
    unfold trW
    rw [if_pos (by rfl), show rg n r (i + 1) + 1 - 1 = rg n r (i + 1) from by omega]
    unfold nxt
    by_cases h : i + 1 < n
    · rw [ring_off hn h, Nat.mod_eq_of_lt h]; omega
    · have he : i + 1 = n := by omega
      rw [he, rg_round, ring_off hn hn, Nat.mod_self]; omega
  · rw [List.getElem?_eq_none (by simp; omega), List.getElem?_eq_none (by simp [ringO]; omega)]

/-! What several name. -/
def sharedO (n : Nat) : List Ob := ((1 : Int), [0, 0, 0, 0, 0]) :: List.replicate n ((2 : Int), [(1 : Int)])
def sh (i : Nat) : Int := ((7 + 3 * i : Nat) : Int)
theorem shared_flat (n : Nat) : (flat (sharedO n)).length = 3 * n + 7 := by
  have := flat_same 1 (List.replicate n ((2 : Int), [(1 : Int)])) (fun o ho => by rw [List.eq_of_mem_replicate ho]; rfl)
  simp [sharedO, flat, this]
  omega
theorem shared_zero (n : Nat) : lookO (sharedO n) 0 = some ((1 : Int), [0, 0, 0, 0, 0]) := rfl
theorem shared_look {n i : Nat} (h : i < n) : lookO (sharedO n) (sh i) = some ((2 : Int), [(1 : Int)]) := by
  unfold sharedO sh
  rw [look_cons_ne (by omega)]
  have := look_same 1 (List.replicate n ((2 : Int), [(1 : Int)])) (fun o ho => by rw [List.eq_of_mem_replicate ho]; rfl) (i := i) (o := (2, [1])) (by rw [List.getElem?_replicate, if_pos h])
  rw [← this]
  congr 1
  show ((7 + 3 * i : Nat) : Int) - (2 + ((5 : Nat) : Int)) = _
  omega
theorem shared_roots {n : Nat} : ∀ k, k ≤ n → ((List.range k).map sh).foldl (addO (sharedO n)) [] = (List.range k).map sh := by
  intro k
  induction k with
  | zero => intro _; rfl
  | succ k ih =>
    intro hk
    rw [List.range_succ, List.map_append, List.foldl_append, ih (by omega)]
    show addO _ _ (sh k) = _
    rw [add_new (by rw [shared_look (by omega)]; rfl)]
    · rfl
    · intro hm
      obtain ⟨i, hi, he⟩ := List.mem_map.1 hm
      have := List.mem_range.1 hi
      unfold sh at he
      omega
theorem shared_grow {n : Nat} (hn : 0 < n) : ∀ (f i : Nat), i ≤ n → n + 1 ≤ f + i → grow (sharedO n) refB f i ((List.range n).map sh ++ [0]) = (List.range n).map sh ++ [0] := by
  intro f
  induction f with
  | zero => intro i hi hf; omega
  | succ f ih =>
    intro i hi hf
    have h0 : (0 : Int) ∈ (List.range n).map sh ++ [0] := by simp
    by_cases h : i < n
    · rw [grow_step _ _ f i _ (a := sh i) (by rw [List.getElem?_append_left (by simpa using h), List.getElem?_map, List.getElem?_range h]; rfl) (shared_look h)]
      show grow _ _ f (i + 1) (addO _ _ (1 - 1)) = _
      rw [show (1 : Int) - 1 = 0 from rfl, add_mem h0]
      exact ih (i + 1) (by omega) (by omega)
    · have he : i = n := by omega
      subst he
      rw [grow_step _ _ f i _ (a := 0) (by rw [List.getElem?_append_right (by simp)]; simp) (shared_zero i)]
      show grow _ _ f (i + 1) (addO _ _ (0 - 1)) = _
      rw [add_none (by unfold sharedO; rw [look_cons_ne (by decide)]; exact look_neg _ (by simp)), grow_end _ _ _ _ _ (by simp)]
theorem shared_nd (n : Nat) : ((List.range n).map sh ++ [0]).Nodup := by
  rw [List.nodup_append]
  refine ⟨List.Pairwise.map _ (fun a b hab e => hab (by unfold sh at e; omega)) List.nodup_range, by simp, fun x hx y hy e => ?_⟩
  obtain ⟨i, _, rfl⟩ := List.mem_map.1 hx
  rw [List.mem_singleton.1 hy] at e
  unfold sh at e
  omega
theorem shared_live {n : Nat} (hn : 0 < n) : liveF (sharedO n) refB ((List.range n).map sh) = (List.range n).map sh ++ [0] := by
  unfold liveF
  have hl : (sharedO n).length = n + 1 := by simp [sharedO]
  rw [shared_roots n (Nat.le_refl _), hl, grow_step _ _ n 0 _ (a := sh 0) (by rw [List.getElem?_map, List.getElem?_range hn]; rfl) (shared_look hn)]
  show grow _ _ n 1 (addO _ _ (1 - 1)) = _
  rw [show (1 : Int) - 1 = 0 from rfl, add_new (by rfl)]
  · rcases Nat.lt_or_ge 1 (n + 1) with h | h
    · exact shared_grow hn n 1 (by omega) (by omega)
    · omega
  · intro hm
    obtain ⟨i, _, he⟩ := List.mem_map.1 hm
    unfold sh at he
    omega
theorem shared_off {n : Nat} (hn : 0 < n) {j : Nat} (hj : j < n) : newO (sharedO n) ((List.range n).map sh ++ [0]) (sh j) = ((3 * j : Nat) : Int) := by
  unfold newO
  rw [shared_look hj, if_pos (by rfl), off_at (H := sharedO n) (R := refB) (shared_nd n) (List.prefix_append _ _) (j := j) (by rw [List.getElem?_map, List.getElem?_range hj]; rfl), flat_same 1]
  · simp; omega
  · intro o ho
    obtain ⟨a, ha, rfl⟩ := List.mem_map.1 (List.mem_of_mem_take ho)
    obtain ⟨i, hi, rfl⟩ := List.mem_map.1 ha
    rw [trO_len, obj_eq (shared_look (List.mem_range.1 hi))]
    rfl
theorem shared_off0 {n : Nat} (hn : 0 < n) : newO (sharedO n) ((List.range n).map sh ++ [0]) 0 = ((3 * n : Nat) : Int) := by
  unfold newO
  rw [shared_zero, if_pos (by rfl), off_at (H := sharedO n) (R := refB) (shared_nd n) (List.prefix_refl _) (j := n) (by rw [List.getElem?_append_right (by simp)]; simp), flat_same 1]
  · simp; omega
  · intro o ho
    rw [List.map_append, List.take_append_of_le_length (by simp)] at ho
    obtain ⟨a, ha, rfl⟩ := List.mem_map.1 (List.mem_of_mem_take ho)
    obtain ⟨i, hi, rfl⟩ := List.mem_map.1 ha
    rw [trO_len, obj_eq (shared_look (List.mem_range.1 hi))]
    rfl
/-- The copy of what several name. -/
def sharedC (n : Nat) : List Ob := List.replicate n ((2 : Int), [((3 * n + 1 : Nat) : Int)]) ++ [((1 : Int), [0, 0, 0, 0, 0])]
theorem shared_copy {n : Nat} (hn : 0 < n) : ((liveF (sharedO n) refB ((List.range n).map sh)).map (trO (sharedO n) refB (liveF (sharedO n) refB ((List.range n).map sh)))) = sharedC n := by
  rw [shared_live hn, List.map_append, List.map_map]
  unfold sharedC
  congr 1
  · apply List.ext_getElem?
    intro i
    by_cases hi : i < n
    · rw [List.getElem?_map, List.getElem?_range hi, List.getElem?_replicate, if_pos hi]
      simp only [Option.map_some, Option.some.injEq, Function.comp]
      unfold trO
      rw [obj_eq (shared_look hi)]
      simp only [List.mapIdx_cons, List.mapIdx_nil, Prod.mk.injEq, true_and, List.cons.injEq, and_true]
      unfold trW
      rw [if_pos (by rfl), show (1 : Int) - 1 = 0 from rfl, shared_off0 hn]
      omega
    · rw [List.getElem?_eq_none (by simp; omega), List.getElem?_eq_none (by simp; omega)]
  · simp only [List.map_cons, List.map_nil, List.cons.injEq, and_true]
    unfold trO
    rw [obj_eq (shared_zero n)]
    have h : newO (sharedO n) ((List.range n).map sh ++ [0]) (0 - 1) = -1 := by
      unfold newO
      rw [show lookO (sharedO n) (0 - 1) = none from look_neg _ (by decide)]
      rfl
    simp only [List.mapIdx_cons, List.mapIdx_nil, Prod.mk.injEq, true_and]
    unfold trW
    rw [h]
    rfl
theorem sharedC_flat (n : Nat) : (flat (sharedC n)).length = 3 * n + 7 := by
  unfold sharedC
  rw [flat_append, List.length_append, flat_same 1 (List.replicate n ((2 : Int), [((3 * n + 1 : Nat) : Int)])) (fun o ho => by rw [List.eq_of_mem_replicate ho]; rfl)]
  simp [flat]
  omega
theorem sharedC_look {n i : Nat} (h : i < n) : lookO (sharedC n) ((3 * i : Nat) : Int) = some ((2 : Int), [((3 * n + 1 : Nat) : Int)]) := by
  have h1 := look_at (sharedC n) i (by simp [sharedC]; omega)
  have h2 : (sharedC n).take i = List.replicate i ((2 : Int), [((3 * n + 1 : Nat) : Int)]) := by
    unfold sharedC
    rw [List.take_append_of_le_length (by simp; omega), List.take_replicate, Nat.min_eq_left (by omega)]
  rw [h2, flat_same 1 _ (fun o ho => by rw [List.eq_of_mem_replicate ho]; rfl)] at h1
  rw [show (3 * i : Nat) = (List.replicate i ((2 : Int), [((3 * n + 1 : Nat) : Int)])).length * (2 + 1) from by simp; omega, h1]
  unfold sharedC
  rw [List.getElem?_append_left (by simpa using h), List.getElem?_replicate, if_pos h]
theorem sharedC_last (n : Nat) : lookO (sharedC n) ((3 * n : Nat) : Int) = some ((1 : Int), [0, 0, 0, 0, 0]) := by
  have h1 := look_at (sharedC n) n (by simp [sharedC])
  have h2 : (sharedC n).take n = List.replicate n ((2 : Int), [((3 * n + 1 : Nat) : Int)]) := by
    unfold sharedC
    rw [List.take_append_of_le_length (by simp)]
    simp
  rw [h2, flat_same 1 _ (fun o ho => by rw [List.eq_of_mem_replicate ho]; rfl)] at h1
  rw [show (3 * n : Nat) = (List.replicate n ((2 : Int), [((3 * n + 1 : Nat) : Int)])).length * (2 + 1) from by simp; omega, h1]
  unfold sharedC
  rw [List.getElem?_append_right (by simp)]
  simp
end Go.Proofs.Ytjjoelhemhnojaa.Cp
