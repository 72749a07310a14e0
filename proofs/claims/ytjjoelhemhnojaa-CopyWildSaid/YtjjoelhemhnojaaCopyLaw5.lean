/- Plain laws behind the walks of CopyAll, CopyTwice, CopyWild. Conditions: as they are said. -/
import Derived.Test.YtjjoelhemhnojaaCopyJ
import Derived.Test.YtjjoelhemhnojaaCopyLaw4
set_option linter.unusedVariables false
namespace Go.Proofs.Ytjjoelhemhnojaa
open Hp Cp

theorem flat_mem : ∀ (l : List Hp.Ob) {x : Int}, x ∈ flat l → ∃ o ∈ l, x = o.1 ∨ x = (o.2.length : Int) ∨ x ∈ o.2 := by
  intro l
  induction l with
  | nil => intro x h; exact (List.not_mem_nil h).elim
  | cons o l ih =>
    intro x h
    simp only [flat, List.mem_cons, List.mem_append] at h
    rcases h with h | h | h | h
    · exact ⟨o, List.mem_cons_self, .inl h⟩
    · exact ⟨o, List.mem_cons_self, .inr (.inl h)⟩
    · exact ⟨o, List.mem_cons_self, .inr (.inr h)⟩
    · obtain ⟨p, hp, h2⟩ := ih h
      exact ⟨p, List.mem_cons_of_mem _ hp, h2⟩
theorem mem_flat : ∀ (l : List Hp.Ob) {o : Hp.Ob} {x : Int}, o ∈ l → (x = o.1 ∨ x = (o.2.length : Int) ∨ x ∈ o.2) → x ∈ flat l := by
  intro l
  induction l with
  | nil => intro o x h; exact (List.not_mem_nil h).elim
  | cons p l ih =>
    intro o x h h2
    simp only [flat, List.mem_cons, List.mem_append]
    rcases List.mem_cons.1 h with h | h
    · subst h
      rcases h2 with h2 | h2 | h2
      · exact .inl h2
      · exact .inr (.inl h2)
      · exact .inr (.inr (.inl h2))
    · exact .inr (.inr (.inr (ih h h2)))
theorem look_mem {l : List Hp.Ob} {a : Int} {o : Hp.Ob} (h : lookO l a = some o) : o ∈ l := by
  obtain ⟨j, hj, rfl⟩ := look_inv l h
  rw [look_at l j hj] at h
  exact List.mem_of_getElem? h
/-- What is copied is of 32 bits. -/
theorem copy_i32 {H : List Hp.Ob} {R : Int → Nat → Bool} {roots : List Int} (hI : ∀ x ∈ flat H, inI32 x) (hl : (flat H).length ≤ 1000000) : ∀ x ∈ flat (copyO H R roots), inI32 x := by
  intro x hx
  obtain ⟨o, ho, h⟩ := flat_mem _ hx
  unfold copyO at ho
  obtain ⟨a, ha, rfl⟩ := List.mem_map.1 ho
  obtain ⟨p, hp⟩ := Option.isSome_iff_exists.1 ((live_good H R roots).ok a ha)
  have hpm := look_mem hp
  have hob : objO H a = p := obj_eq hp
  unfold trO at h
  rw [hob] at h
  simp only [List.length_mapIdx] at h
  rcases h with h | h | h
  · exact hI x (mem_flat H hpm (.inl h))
  · exact hI x (mem_flat H hpm (.inr (.inl h)))
  · obtain ⟨k, hk, rfl⟩ := List.mem_mapIdx.1 h
    unfold trW
    split
    · have := newO_bd H R roots (p.2[k] - 1)
      unfold inI32
      omega
    · exact hI _ (mem_flat H hpm (.inr (.inr (List.getElem_mem _))))
theorem copy_le {H : List Hp.Ob} {R : Int → Nat → Bool} {roots : List Int} : (flat (copyO H R roots)).length ≤ (flat H).length := by
  unfold copyO
  rw [flat_tr]
  exact (good_le H _ (live_good H R roots)).2
/-- A word of the copy, by numbers. -/
def allW (os : List Hp.Ob) (L : List Int) (kd : Int) (k : Nat) (x : Int) : Int := if refB kd k = true ∧ 0 < x then (szI os (L.take (idxI L (x - 1)).toNat) : Int) + 1 else x
theorem idx_nd {L : List Int} (hn : L.Nodup) {j : Nat} {x : Int} (h : L[j]? = some x) : idxI L x = (j : Int) := by
  obtain ⟨i, h1, h2⟩ := idxI_some L x (List.mem_of_getElem? h)
  have hi := (List.getElem?_eq_some_iff.1 h2).1
  have hj := (List.getElem?_eq_some_iff.1 h).1
  rw [h1, ((List.getElem?_inj hi hn).1 (h2.trans h.symm))]
theorem sz_pre {os : List Hp.Ob} {L : List Int} {j : Nat} {y : Int} (h : L[j]? = some y) : szI os (L.take (j + 1)) = szI os (L.take j) + (2 + (objI os y).2.length) := by
  have : ∀ (A B : List Int), szI os (A ++ B) = szI os A + szI os B := by
    intro A B
    induction A with
    | nil => simp [szI]
    | cons a A ih => simp only [List.cons_append, szI, ih]; omega
  rw [List.take_add_one, h, this]
  simp [szI]
theorem sz_le {os : List Hp.Ob} (hc : Cut os) {rs : List Int} (hr : ∀ y ∈ rs, y < (os.length : Int)) : szI os (orderI os rs) ≤ (flat os).length := by
  obtain ⟨h1, h2⟩ := live_map hc.fine hr
  have := (good_le (laidO os) _ (live_good (laidO os) refB (rs.map (pl os)))).2
  rw [h1, szs_pl h2] at this
  have h3 := laid_flat os os.length
  rw [List.take_of_length_le (by rw [laid_length]; exact Nat.le_refl _), List.take_of_length_le (Nat.le_refl _)] at h3
  omega
section
variable {os : List Hp.Ob} {rs : List Int}
/-- What lives is closed, by numbers. -/
theorem order_closed (hc : Cut os) (hr : ∀ y ∈ rs, y < (os.length : Int)) {y x : Int} {k : Nat} (hy : y ∈ orderI os rs) (hx : (objI os y).2[k]? = some x) (hk : refB (objI os y).1 k = true) (h0 : 0 < x) : (x - 1) ∈ orderI os rs := by
  obtain ⟨h1, h2⟩ := live_map hc.fine hr
  have hin := h2 y hy
  have hcl := live_closed (laidO os) refB (rs.map (pl os)) (pl os y) (by rw [h1]; exact List.mem_map_of_mem hy) k (laidW os (objI os y).1 k x) (by rw [objO_pl hin, List.getElem?_mapIdx, hx]; rfl) (by rw [objO_pl hin]; exact hk)
  have hw : laidW os (objI os y).1 k x - 1 = pl os (x - 1) := by
    unfold laidW
    rw [if_pos ⟨hk, h0⟩]; omega
  have hxl := hc.fine _ (objI_mem hin) x (List.mem_of_getElem? hx)
  rw [hw] at hcl
  rcases hcl with hcl | hcl
  · rw [h1] at hcl
    obtain ⟨z, hz, he⟩ := List.mem_map.1 hcl
    have := pl_inj (h2 z hz).2 (by omega) he
    rw [← this]; exact hz
  · obtain ⟨j, hj⟩ := Int.eq_ofNat_of_zero_le (show 0 ≤ x - 1 by omega)
    rw [hj, laid_look (by omega)] at hcl
    cases hcl
theorem order_in (hc : Cut os) (hr : ∀ y ∈ rs, y < (os.length : Int)) {y : Int} (hy : y ∈ orderI os rs) : 0 ≤ y ∧ y < (os.length : Int) := (live_map hc.fine hr).2 y hy
/-- The roots' new places. -/
theorem all_moved (hc : Cut os) (hr : ∀ y ∈ rs, -1 ≤ y ∧ y < (os.length : Int)) : movedO (laidO os) refB (rs.map (pl os)) = rs.map fun r => if r < 0 then -1 else (szI os ((orderI os rs).take (idxI (orderI os rs) r).toNat) : Int) := by
  have hr' : ∀ y ∈ rs, y < (os.length : Int) := fun y hy => (hr y hy).2
  obtain ⟨h1, h2⟩ := live_map hc.fine hr'
  unfold movedO
  rw [List.map_map, h1]
  refine List.map_congr_left fun r hrm => ?_
  show newO _ _ (pl os r) = _
  split
  · rename_i hneg
    rw [pl_neg hneg]
    exact new_neg _ _ hneg
  · rename_i hpos
    have hm : r ∈ orderI os rs := by
      have := live_roots (H := laidO os) (R := refB) (roots := rs.map (pl os)) (List.mem_map_of_mem hrm) (by
        obtain ⟨j, hj⟩ := Int.eq_ofNat_of_zero_le (show 0 ≤ r by omega)
        have := hr' r hrm
        rw [hj, laid_look (by omega)]; rfl)
      rw [h1] at this
      obtain ⟨z, hz, he⟩ := List.mem_map.1 this
      rw [← pl_inj (h2 z hz).2 (hr' r hrm) he]; exact hz
    obtain ⟨j, e1, e2⟩ := idxI_some _ _ hm
    rw [new_pl hc.fine hr' e2, e1]; rfl
/-- The copy's object, by numbers. -/
theorem all_obj (hc : Cut os) (hr : ∀ y ∈ rs, -1 ≤ y ∧ y < (os.length : Int)) {i : Nat} {y : Int} (hi : (orderI os rs)[i]? = some y) :
    lookO (copyO (laidO os) refB (rs.map (pl os))) (szI os ((orderI os rs).take i) : Int) = some ((objI os y).1, (objI os y).2.mapIdx fun k x => allW os (orderI os rs) (objI os y).1 k x) := by
  have hr' : ∀ y ∈ rs, y < (os.length : Int) := fun y hy => (hr y hy).2
  obtain ⟨h1, h2⟩ := live_map hc.fine hr'
  have hg := live_good (laidO os) refB (rs.map (pl os))
  have hm := List.mem_of_getElem? hi
  rw [← new_pl hc.fine hr' hi]
  unfold copyO
  rw [h1] at hg ⊢
  rw [copy_look hg (List.mem_map_of_mem hm)]
  unfold trO
  rw [objO_pl (h2 y hm)]
  simp only [List.mapIdx_mapIdx]
  congr 2
  refine List.ext_getElem? fun k => ?_
  simp only [List.getElem?_mapIdx]
  rcases hx : (objI os y).2[k]? with _ | x
  · rfl
  · simp only [Option.map_some]
    congr 1
    have hxb := hc.fine _ (objI_mem (h2 y hm)) x (List.mem_of_getElem? hx)
    show trW _ _ _ _ _ (laidW _ _ _ _) = allW _ _ _ _ _
    unfold trW allW
    by_cases hk : refB (objI os y).1 k = true
    · rw [if_pos hk]
      by_cases h0 : 0 < x
      · rw [if_pos ⟨hk, h0⟩]
        unfold laidW
        rw [if_pos ⟨hk, h0⟩, Int.add_sub_cancel]
        obtain ⟨j, e1, e2⟩ := idxI_some _ _ (order_closed hc hr' hm hx hk h0)
        rw [new_pl hc.fine hr' e2, e1]; rfl
      · have : x = 0 := by omega
        subst this
        rw [if_neg (fun h => h0 h.2)]
        unfold laidW
        rw [if_neg (fun h => h0 h.2), new_neg _ _ (by omega)]
        rfl
    · rw [if_neg hk, if_neg (fun h => hk h.1)]
      unfold laidW
      rw [if_neg (fun h => hk h.1)]
theorem all_size (hc : Cut os) (hr : ∀ y ∈ rs, y < (os.length : Int)) : (flat (copyO (laidO os) refB (rs.map (pl os)))).length = szI os (orderI os rs) := by
  obtain ⟨h1, h2⟩ := live_map hc.fine hr
  unfold copyO
  rw [flat_tr, h1, szs_pl h2]
end
/-- The first root is copied first. -/
theorem moved_one {H : List Hp.Ob} {R : Int → Nat → Bool} {p : Int} (h : (lookO H p).isSome = true) : movedO H R [p] = [0] := by
  have hpre : [p] <+: liveF H R [p] := by
    have := grow_pre H R H.length 0 ([p].foldl (addO H) [])
    simp only [List.foldl_cons, List.foldl_nil, add_new h List.not_mem_nil, List.nil_append] at this
    unfold liveF
    simp only [List.foldl_cons, List.foldl_nil, add_new h List.not_mem_nil, List.nil_append]
    exact this
  have h0 : (liveF H R [p])[0]? = some p := (pre_get hpre (by simp)).trans rfl
  unfold movedO newO
  simp only [List.map_cons, List.map_nil, if_pos h, offO_at H _ 0 p (live_good H R [p]).nd h0, List.take_zero, szs]
  rfl
theorem copied_one {H : List Hp.Ob} {R : Int → Nat → Bool} {p : Int} (h : (lookO H p).isSome = true) : (lookO (copyO H R [p]) 0).isSome = true := by
  have hm : p ∈ liveF H R [p] := live_roots List.mem_cons_self h
  have h1 := copy_look (R := R) (live_good H R [p]) hm
  have h2 := moved_one (R := R) h
  unfold movedO at h2
  rw [List.map_cons, List.map_nil] at h2
  rw [List.cons.inj h2 |>.1] at h1
  unfold copyO
  rw [h1]; rfl
theorem twice_same {H : List Hp.Ob} {R : Int → Nat → Bool} {p : Int} (h : (lookO H p).isSome = true) : copyO (copyO H R [p]) R [0] = copyO H R [p] := by
  have := copy_twice H R [p] (live_closed H R [p])
  have h2 := moved_one (R := R) h
  unfold movedO at h2
  simp only at this
  rw [h2] at this
  exact this
/-- Heaps of one shape. -/
def Like (H H2 : List Hp.Ob) : Prop := H.map (fun o => o.2.length) = H2.map (fun o => o.2.length)
theorem Like.look : ∀ {H H2 : List Hp.Ob}, Like H H2 → ∀ a, (lookO H a).isSome = (lookO H2 a).isSome := by
  intro H
  induction H with
  | nil =>
    intro H2 h a
    cases H2 with
    | nil => rfl
    | cons o H2 => simp [Like] at h
  | cons o H ih =>
    intro H2 h a
    cases H2 with
    | nil => simp [Like] at h
    | cons p H2 =>
      simp only [Like, List.map_cons, List.cons.injEq] at h
      unfold lookO
      rw [h.1]
      split
      · rfl
      · exact ih h.2 _
theorem Like.flat : ∀ {H H2 : List Hp.Ob}, Like H H2 → (Hp.flat H).length = (Hp.flat H2).length := by
  intro H
  induction H with
  | nil =>
    intro H2 h
    cases H2 with
    | nil => rfl
    | cons o H2 => simp [Like] at h
  | cons o H ih =>
    intro H2 h
    cases H2 with
    | nil => simp [Like] at h
    | cons p H2 =>
      simp only [Like, List.map_cons, List.cons.injEq] at h
      have := ih h.2
      simp only [Hp.flat, List.length_cons, List.length_append]
      omega
theorem Like.refl (H : List Hp.Ob) : Like H H := rfl
theorem Like.symm {H H2 : List Hp.Ob} (h : Like H H2) : Like H2 H := Eq.symm h
theorem Like.trans {H H2 H3 : List Hp.Ob} (h : Like H H2) (h2 : Like H2 H3) : Like H H3 := Eq.trans h h2
theorem Like.length {H H2 : List Hp.Ob} (h : Like H H2) : H.length = H2.length := by
  have := congrArg List.length h
  simpa using this
theorem Like.take {H H2 : List Hp.Ob} (h : Like H H2) (i : Nat) : Like (H.take i) (H2.take i) := by
  unfold Like at *
  rw [List.map_take, List.map_take, h]
theorem Like.places {H H2 : List Hp.Ob} (h : Like H H2) : placesO H = placesO H2 := by
  unfold placesO
  rw [h.length]
  exact List.map_congr_left fun i _ => by rw [(h.take i).flat]
theorem laid_like (os : List Hp.Ob) : Like os (laidO os) := by
  unfold Like laidO
  rw [List.map_map]
  exact List.map_congr_left fun o _ => by simp
/-- The numbers of the words that name nothing, written into first words. -/
structure Wild (os H : List Hp.Ob) (ws : List Nat) (i : Nat) : Prop where
  like : Like (laidO os) H
  i32 : ∀ x ∈ flat H, inI32 x
  wild : ∀ j ∈ ws, j < i ∧ ∃ o x, H[j]? = some o ∧ o.2[0]? = some x ∧ lookO (laidO os) (x - 1) = none
theorem Wild.next {os H : List Hp.Ob} {ws : List Nat} {i : Nat} (h : Wild os H ws i) : Wild os H ws (i + 1) :=
  ⟨h.like, h.i32, fun j hj => ⟨Nat.lt_succ_of_lt (h.wild j hj).1, (h.wild j hj).2⟩⟩
theorem wild_place {os H : List Hp.Ob} (h : Like (laidO os) H) (i : Nat) : pl os (i : Int) = ((flat (H.take i)).length : Int) := by
  rw [pl_nat, ← (((laid_like os).trans h).take i).flat]
theorem Wild.obj {os H : List Hp.Ob} {ws : List Nat} {i j : Nat} (h : Wild os H ws i) {o : Hp.Ob} (ho : os[j]? = some o) : ∃ p, H[j]? = some p ∧ p.2.length = o.2.length ∧ lookO H (pl os (j : Int)) = some p := by
  have hl := ((laid_like os).trans h.like)
  have hj := (List.getElem?_eq_some_iff.1 ho).1
  have hj2 : j < H.length := by rw [← hl.length]; exact hj
  refine ⟨H[j], List.getElem?_eq_getElem hj2, ?_, ?_⟩
  · have := congrArg (fun l : List Nat => l[j]?) hl
    simp only [List.getElem?_map, ho, List.getElem?_eq_getElem hj2, Option.map_some, Option.some.injEq] at this
    exact this.symm
  · rw [wild_place h.like, look_at H j hj2, List.getElem?_eq_getElem hj2]
theorem Wild.put {os H : List Hp.Ob} {ws : List Nat} {i : Nat} (h : Wild os H ws i) {o : Hp.Ob} {x : Int} (ho : os[i]? = some o) (hn : 0 < o.2.length) (hx : inI32 x) (hno : lookO (laidO os) (x - 1) = none) : Wild os (Hp.put H (pl os (i : Int)) 0 x) (ws ++ [i]) (i + 1) := by
  obtain ⟨p, hp, hl, hlk⟩ := h.obj ho
  have hi := (List.getElem?_eq_some_iff.1 hp).1
  rw [wild_place h.like, put_at H i 0 x p hp]
  refine ⟨h.like.trans ?_, fun y hy => ?_, fun j hj => ?_⟩
  · unfold Like
    rw [List.map_set]
    refine List.ext_getElem? fun k => ?_
    rw [List.getElem?_set]
    split
    · rename_i hk
      subst hk
      obtain ⟨_, e⟩ := List.getElem?_eq_some_iff.1 hp
      simp [hi, e]
    · rfl
  · obtain ⟨q, hq, hy2⟩ := flat_mem _ hy
    rcases List.mem_or_eq_of_mem_set hq with hq | rfl
    · exact h.i32 y (mem_flat _ hq hy2)
    · simp only [List.length_set] at hy2
      rcases hy2 with rfl | rfl | hy2
      · exact h.i32 _ (mem_flat H (List.mem_of_getElem? hp) (.inl rfl))
      · exact h.i32 _ (mem_flat H (List.mem_of_getElem? hp) (.inr (.inl rfl)))
      · rcases List.mem_or_eq_of_mem_set hy2 with hy2 | rfl
        · exact h.i32 _ (mem_flat H (List.mem_of_getElem? hp) (.inr (.inr hy2)))
        · exact hx
  · rcases List.mem_append.1 hj with hj | hj
    · obtain ⟨h1, q, y, h2, h3, h4⟩ := h.wild j hj
      refine ⟨by omega, q, y, ?_, h3, h4⟩
      rw [List.getElem?_set_ne (by omega)]
      exact h2
    · rw [List.mem_singleton] at hj
      subst hj
      refine ⟨by omega, (p.1, p.2.set 0 x), x, ?_, ?_, hno⟩
      · rw [List.getElem?_set_self hi]
      · show (p.2.set 0 x)[0]? = some x
        rw [List.getElem?_set_self (by omega)]
section
variable {os H : List Hp.Ob} {ws : List Nat} {i : Nat} {rs : List Int}
def wildRoots (os : List Hp.Ob) (rs : List Int) : List Int := rs ++ (List.range os.length).map fun i : Nat => pl os (i : Int)
theorem wild_mem (h : Wild os H ws i) (a : Int) : a ∈ (List.range os.length).map (fun i : Nat => pl os (i : Int)) ↔ (lookO H a).isSome = true := by
  rw [← h.like.look, ← (laid_like os).look, ← places_mem]
  unfold placesO
  rw [List.map_congr_left fun i _ => pl_nat os i]
theorem wild_used (h : Wild os H ws i) : (flat (copyO H refB (wildRoots os rs))).length = (flat H).length := by
  unfold copyO
  rw [flat_tr]
  refine Cp.all_used fun a ha => List.mem_append_right _ ?_
  rw [wild_mem h, ← places_mem]
  exact ha
/-- A root is gone just if it stands nowhere. -/
theorem wild_gone (h : Wild os H ws i) (a : Int) (F : List Int) : decide (newO H F a = -1) = decide (idxI ((List.range os.length).map (fun i : Nat => pl os (i : Int))) a < 0) := by
  have h1 := idxI_mem ((List.range os.length).map (fun i : Nat => pl os (i : Int))) a
  have h2 := wild_mem h a
  unfold newO
  split
  · rename_i hs
    rw [decide_eq_true (h2.2 hs)] at h1
    have := of_decide_eq_true h1
    rw [decide_eq_false (by omega), decide_eq_false (by omega)]
  · rename_i hs
    rw [decide_eq_false (fun e => hs (h2.1 e))] at h1
    have := of_decide_eq_false h1
    rw [decide_eq_true rfl, decide_eq_true (by omega)]
/-- What named nothing is null. -/
theorem wild_null (h : Wild os H ws i) {j : Nat} (hj : j ∈ ws) : getO (copyO H refB (wildRoots os rs)) (newO H (liveF H refB (wildRoots os rs)) (pl os (j : Int))) 0 = 0 := by
  obtain ⟨_, o, x, ho, hx, hno⟩ := h.wild j hj
  have hjl := (List.getElem?_eq_some_iff.1 ho).1
  have hlk : lookO H (pl os (j : Int)) = some o := by
    rw [wild_place h.like, look_at H j hjl, ho]
  have hm : pl os (j : Int) ∈ liveF H refB (wildRoots os rs) := by
    refine live_roots (List.mem_append_right _ ?_) (by rw [hlk]; rfl)
    rw [wild_mem h, hlk]; rfl
  have hc := copy_look (R := refB) (live_good H refB (wildRoots os rs)) hm
  have hno2 : lookO H (x - 1) = none := by
    have := h.like.look (x - 1)
    rw [hno] at this
    exact Option.isSome_eq_false_iff.1 this.symm |> Option.isNone_iff_eq_none.1
  have hw : (trO H refB (liveF H refB (wildRoots os rs)) (pl os (j : Int))).2[0]? = some 0 := by
    unfold trO
    rw [obj_eq hlk]
    simp only [List.getElem?_mapIdx, hx, Option.map_some]
    unfold trW
    rw [if_pos (by unfold refB; simp), new_none _ hno2]
    rfl
  exact get_word (k := 0) hc hw
end
end Go.Proofs.Ytjjoelhemhnojaa
