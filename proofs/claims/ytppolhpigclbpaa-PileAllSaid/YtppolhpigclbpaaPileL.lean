/- The law's steps in memory; least; an append within a region that draws. -/
import Derived.Test.YtppolhpigclbpaaPileK
set_option linter.unusedVariables false
namespace Go.Proofs.Ytppolhpigclbpaa
open Go.ChangeShapes Go.WideShapes Go.Deep Go.RowKit Go.Instr

/-- A step: its kind, its thing. -/
abbrev O3 := Int × T
def oCells : List O3 → List Value
  | [] => []
  | o :: l => .int .i64 o.1 :: .int .i64 o.2.1 :: .int .i64 o.2.2 :: oCells l
theorem oCells_length (l : List O3) : (oCells l).length = l.length * 3 := by
  induction l with
  | nil => rfl
  | cons v l ih => simp [oCells, ih]; omega
theorem oCells_append (l m : List O3) : oCells (l ++ m) = oCells l ++ oCells m := by
  induction l with
  | nil => rfl
  | cons v l ih => simp [oCells, ih]
theorem oCells_at (l : List O3) : ∀ {i : Nat} {v : O3}, l[i]? = some v → (oCells l)[i * 3]? = some (.int .i64 v.1) ∧ (oCells l)[i * 3 + 1]? = some (.int .i64 v.2.1) ∧ (oCells l)[i * 3 + 2]? = some (.int .i64 v.2.2) := by
  induction l with
  | nil => intro i v h; simp at h
  | cons p l ih =>
    intro i v h
    cases i with
    | zero => simp at h; subst h; exact ⟨rfl, rfl, rfl⟩
    | succ i =>
      simp at h
      have e : (i + 1) * 3 = i * 3 + 1 + 1 + 1 := by omega
      simp only [oCells, e, List.getElem?_cons_succ]
      exact ih h
theorem oCells_take (l : List O3) : ∀ (n : Nat), oCells (l.take n) = (oCells l).take (n * 3) := by
  induction l with
  | nil => intro n; simp [oCells]
  | cons v l ih =>
    intro n
    cases n with
    | zero => simp [oCells]
    | succ n => rw [List.take_succ_cons, show (n + 1) * 3 = n * 3 + 1 + 1 + 1 from by omega]; simp [oCells, ih]
theorem oCells_drop (l : List O3) : ∀ (n : Nat), oCells (l.drop n) = (oCells l).drop (n * 3) := by
  induction l with
  | nil => intro n; simp [oCells]
  | cons v l ih =>
    intro n
    cases n with
    | zero => simp
    | succ n => rw [List.drop_succ_cons, show (n + 1) * 3 = n * 3 + 1 + 1 + 1 from by omega]; simp [oCells, ih]
theorem oCells_one (l : List O3) : ∀ u ∈ oCells l, u.oneCell' = true := by
  induction l with
  | nil => intro u hu; cases hu
  | cons v l ih =>
    intro u hu
    simp [oCells] at hu
    rcases hu with rfl | rfl | rfl | hu
    · rfl
    · rfl
    · rfl
    · exact ih u hu
def SeesO (w : World) (B : Nat) (A : Option Addr) (n : Nat) (os : List O3) : Prop := Sees w B A (n * 3) (oCells os)
theorem SeesO.len {w : World} {B n : Nat} {A : Option Addr} {os : List O3} (h : SeesO w B A n os) : os.length = n := by
  have := h.1
  rw [oCells_length] at this
  omega
def atO (os : List O3) (k : Nat) : O3 := os.getD k (0, 0, 0)
theorem atO_eq {os : List O3} {k : Nat} (h : k < os.length) : os[k]? = some (atO os k) := by
  unfold atO
  rw [List.getD_eq_getElem?_getD, List.getElem?_eq_getElem h]
  rfl
theorem SeesO.at3 {w : World} {B n k : Nat} {A : Option Addr} {os : List O3} (h : SeesO w B A n os) (hk : k < n) : ∃ b off, A = some ⟨b, off, none⟩ ∧ b < B ∧ w.cell? ⟨b, off + k * 3, none⟩ = some (.int .i64 (atO os k).1) ∧ w.cell? ⟨b, off + k * 3 + 1, none⟩ = some (.int .i64 (atO os k).2.1) ∧ w.cell? ⟨b, off + k * 3 + 2, none⟩ = some (.int .i64 (atO os k).2.2) := by
  obtain ⟨b, off, rfl, hb, hc⟩ := h.2 (by omega)
  have hl := h.len
  obtain ⟨c0, c1, c2⟩ := oCells_at os (atO_eq (show k < os.length by omega))
  refine ⟨b, off, rfl, hb, hc _ _ c0, ?_, ?_⟩
  · rw [Nat.add_assoc]; exact hc _ _ c1
  · rw [Nat.add_assoc]; exact hc _ _ c2
/-- What the row's reading tells of the law's steps. -/
structure StepsIn (w : World) (a : Option Addr) (len cap : Nat) (os : List O3) : Prop where
  sees : SeesO w w.heap.size a len os
  le : len ≤ cap ∧ cap ≤ maxLen
theorem steps_of {H : Type} {enc : TypeId × Value → H} {w : World} {fuel : Nat} {a : Option Addr} {len cap : Nat} {x : DataW H × List MemPlace} (h : DataW.trod enc Try.prog w 0 (fun _ => true) true fuel 53 [.slice a len cap] = some x) : ∃ os, StepsIn w a len cap os := by
  rcases open_slice_fields Try.underlying53 Try.underlying57 (by kernel_rfl) (by kernel_rfl) h with ⟨hcs, _⟩ | ⟨ad, len', cap', m, D, Pl, hcs, _, hlc, hmc, hm, _, hi⟩
  · simp at hcs
    obtain ⟨rfl, rfl, rfl⟩ := hcs
    exact ⟨[], Sees.nil_ _ _ _, ⟨Nat.le_refl _, Nat.zero_le _⟩⟩
  · simp at hcs
    obtain ⟨rfl, rfl, rfl⟩ := hcs
    simp at hm
    subst hm
    have key : ∀ i, i < m → ∃ o : O3, w.cell? (ad.add (i * 3)) = some (.int .i64 o.1) ∧ w.cell? (ad.add (i * 3 + 1)) = some (.int .i64 o.2.1) ∧ w.cell? (ad.add (i * 3 + 2)) = some (.int .i64 o.2.2) := by
      intro i him
      obtain ⟨ys, n, _, _, _, hf⟩ := hi i him
      obtain ⟨v0, y0, c0, _, t0⟩ := hf 0 _ rfl
      obtain ⟨v1, y1, c1, _, t1⟩ := hf 1 _ rfl
      obtain ⟨v2, y2, c2, _, t2⟩ := hf 2 _ rfl
      obtain ⟨z0, rfl, _⟩ := int_cell Try.underlying3 t0
      obtain ⟨z1, rfl, _⟩ := int_cell Try.underlying3 t1
      obtain ⟨z2, rfl, _⟩ := int_cell Try.underlying3 t2
      exact ⟨(z0, z1, z2), c0, c1, c2⟩
    obtain ⟨b, off, spot⟩ := ad
    obtain ⟨f, hf⟩ : ∃ f : Nat → O3, ∀ i, i < m → w.cell? ((⟨b, off, spot⟩ : Addr).add (i * 3)) = some (.int .i64 (f i).1) ∧ w.cell? ((⟨b, off, spot⟩ : Addr).add (i * 3 + 1)) = some (.int .i64 (f i).2.1) ∧ w.cell? ((⟨b, off, spot⟩ : Addr).add (i * 3 + 2)) = some (.int .i64 (f i).2.2) :=
      ⟨fun i => if h : i < m then (key i h).choose else (0, 0, 0), fun i h => by have := (key i h).choose_spec; simpa only [dif_pos h] using this⟩
    refine ⟨(List.range len).map f, ⟨by rw [oCells_length]; simp, fun hn => ?_⟩, ⟨hlc, hmc⟩⟩
    have h0 := (hf 0 (by omega)).1
    have hspot : spot = none := by simpa [Addr.add] using World.cell?_spot h0
    subst hspot
    refine ⟨b, off, rfl, ?_, fun j u hu => ?_⟩
    · have := cell_lt h0
      simpa [Addr.add] using this
    · have hjl : j < len * 3 := by have := (List.getElem?_eq_some_iff.1 hu).1; rw [oCells_length] at this; simpa using this
      have hil : j / 3 < len := by omega
      have hv : ((List.range len).map f)[j / 3]? = some (f (j / 3)) := by simp [hil]
      obtain ⟨q0, q1, q2⟩ := oCells_at _ hv
      obtain ⟨c0, c1, c2⟩ := hf (j / 3) (by omega)
      rw [add_lit0] at c0 c1 c2
      have h3 : j % 3 = 0 ∨ j % 3 = 1 ∨ j % 3 = 2 := by omega
      rcases h3 with hj | hj | hj
      · have e : j / 3 * 3 = j := by omega
        rw [e] at q0 c0
        rw [hu] at q0
        rw [c0, q0]
      · have e : j / 3 * 3 + 1 = j := by omega
        rw [e] at q1 c1
        rw [hu] at q1
        rw [c1, q1]
      · have e : j / 3 * 3 + 2 = j := by omega
        rw [e] at q2 c2
        rw [hu] at q2
        rw [c2, q2]
/-- The place of what goes next. -/
def LeastAt (os : List O3) (n : Nat) (u : Value) : Prop := (n = 0 ∧ u = .int .i64 (-1)) ∨ ∃ k, k < n ∧ u = .int .i64 (k : Int) ∧ ∀ j, j < n → le (atO os k).2 (atO os j).2
theorem LeastAt.next {os : List O3} {i : Nat} {u : Value} (h : LeastAt os i u) : (i = 0 → LeastAt os (i + 1) (.int .i64 (i : Int))) ∧ (∀ k, k < i → u = .int .i64 (k : Int) → (∀ j, j < i → le (atO os k).2 (atO os j).2) → (lessB (atO os i).2 (atO os k).2 = true → LeastAt os (i + 1) (.int .i64 (i : Int))) ∧ (lessB (atO os i).2 (atO os k).2 = false → LeastAt os (i + 1) (.int .i64 (k : Int)))) := by
  refine ⟨fun h0 => .inr ⟨i, by omega, rfl, fun j hj => ?_⟩, fun k hk hu hmin => ⟨fun hl => .inr ⟨i, by omega, rfl, fun j hj => ?_⟩, fun hl => .inr ⟨k, by omega, rfl, fun j hj => ?_⟩⟩⟩
  · have : j = i := by omega
    subst this
    exact le_refl _
  · by_cases e : j = i
    · subst e; exact le_refl _
    · exact le_trans (le_of_less hl) (hmin j (by omega))
  · by_cases e : j = i
    · subst e; exact le_of_not hl
    · exact hmin j (by omega)
set_option maxHeartbeats 4000000 in
theorem least_any (w : World) (A : Option Addr) (n c C : Nat) (os : List O3) (h : SeesO w C A n os) (hn : (n : Int) ≤ 1000) : Calls Try.prog 42 #[.slice A n c] w fun e w' => (∃ u, e = .returned u ∧ LeastAt os n u) ∧ ∃ q, w' = w.drewN q := by
  have H := hide h
  clear h
  go_enter Try.func42, Try.ntmps42
  go_wp2
  go_loopw [3, 4] (fun u3 u4 wr => ∃ i : Nat, u4 = .int .i64 (i : Int) ∧ i ≤ n ∧ LeastAt os i u3 ∧ ∃ q, wr = w.drewN q) (fun _ u4 _ => n - (intOf u4).toNat)
  case atStart => exact ⟨0, rfl, by omega, .inl ⟨rfl, rfl⟩, 0, rfl⟩
  case round =>
    obtain ⟨i, rfl, hi, hl, q, hq⟩ := hrel
    have HQ := hide hq
    by_cases hlt : i < n
    · have hs : SeesO wr C A n os := by rw [hq]; exact H.out.drewN q
      have hlt' : (i : Int) < (n : Int) := by omega
      obtain ⟨b, off, rfl, hb, c0, c1, c2⟩ := hs.at3 hlt
      have hnx := hl.next
      rcases hl with ⟨rfl, rfl⟩ | ⟨k, hk, rfl, hmin⟩
      · have HN := hide (hnx.1 rfl)
        clear hs hq hnx
        go_wp2
        go_quiet (fail)
        go_wp2
        go_roundw
        case rel => exact ⟨1, rfl, by omega, HN.out, q + nq, by rw [HQ.out]; exact World.drewN_drewN _ _ _⟩
        case measure => simp [intOf]; omega
      · obtain ⟨b', off', he, hb', d0, d1, d2⟩ := hs.at3 (show k < n by omega)
        cases he
        obtain ⟨hn1, hn2⟩ := hnx.2 k hk rfl hmin
        have hk' : (k : Int) < (n : Int) := by omega
        have hk0 : decide ((k : Int) < 0) = false := decide_eq_false (by omega)
        have HN1 := hide hn1
        have HN2 := hide hn2
        clear hs hq hnx hn1 hn2 hmin
        generalize atO os i = u at *
        generalize atO os k = v at *
        obtain ⟨u0, u1, u2⟩ := u
        obtain ⟨v0, v1, v2⟩ := v
        dsimp only at *
        by_cases h1 : u1 < v1
        · have e1 : decide (u1 < v1) = true := decide_eq_true h1
          have HN := hide (HN1.out (by simp [lessB, h1]))
          clear HN1 HN2
          go_wp2
          go_quiet (fail)
          go_wp2
          go_roundw
          case rel => exact ⟨i + 1, by go_num, by omega, HN.out, q + nq, by rw [HQ.out]; exact World.drewN_drewN _ _ _⟩
          case measure => simp [intOf]; omega
        · have e1 : decide (u1 < v1) = false := decide_eq_false h1
          by_cases h2 : u1 = v1
          · subst h2
            by_cases h3 : u2 < v2
            · have e3 : decide (u2 < v2) = true := decide_eq_true h3
              have HN := hide (HN1.out (by simp [lessB, h3]))
              clear HN1 HN2 h1
              go_wp2
              go_quiet (fail)
              go_wp2
              go_roundw
              case rel => exact ⟨i + 1, by go_num, by omega, HN.out, q + nq, by rw [HQ.out]; exact World.drewN_drewN _ _ _⟩
              case measure => simp [intOf]; omega
            · have e3 : decide (u2 < v2) = false := decide_eq_false h3
              have HN := hide (HN2.out (by simp [lessB]; omega))
              clear HN1 HN2 h1
              go_wp2
              go_quiet (fail)
              go_wp2
              go_roundw
              case rel => exact ⟨i + 1, by go_num, by omega, HN.out, q + nq, by rw [HQ.out]; exact World.drewN_drewN _ _ _⟩
              case measure => simp [intOf]; omega
          · have e2 : (u1 == v1) = false := by simpa using h2
            have HN := hide (HN2.out (by simp [lessB, h2]; omega))
            clear HN1 HN2
            go_wp2
            go_quiet (fail)
            go_wp2
            go_roundw
            case rel => exact ⟨i + 1, by go_num, by omega, HN.out, q + nq, by rw [HQ.out]; exact World.drewN_drewN _ _ _⟩
            case measure => simp [intOf]; omega
    · obtain rfl : n = i := by omega
      have HL := hide hl
      clear hl hq
      go_wp2
      go_ret
      exact ⟨⟨_, rfl, HL.out⟩, q, HQ.out⟩
section
variable {P : Program} (w : World)
/-- append onto a row of the call's own, from any slice, within a region that draws. -/
theorem step_append_seesN {ops : Array Oper} {o : Oper} {a : Act} {K : Act → World → Prop} {Q : Exit → Act → World → Prop} {E : Prop} (hgd : o.guard = none) (s x : Operand) (t : TypeId)
    (ho : o.op = .call { callee := .builtin .append, args := #[s, x], argTypes := #[t, t] })
    (base : Nat) (e : TypeId) (i : TypeInfo) (z : Value) (size bytes : Nat) (ht : P.underlying t = some (.slice e)) (hi : P.info? e = some i) (hz : i.zero = some z)
    (hsize : i.size = size) (hby : i.bytes = bytes) (hzs : z.cells.size = size) (hs0 : 0 < size)
    (v : Value) (n : Nat) (xs : List Value) (hs : a.eval s = v) (hown : w.ownsRow base e size v n xs)
    (B : Nat) (A : Option Addr) (m c : Nat) (news : List Value) (hx : a.eval x = .slice A m c) (hr : Sees w B A (m * size) news) (hc0 : A = none → c = 0) (h1 : ∀ u ∈ news, u.oneCell' = true)
    (h63 : n + m ≤ maxLen) (hbytes : (n + m) * bytes ≤ 140737488355328) (hbase : base ≤ w.heap.size)
    (h : ∀ v' w', w'.ownsRow base e size v' (n + m) (xs ++ news) → w.grownBy w' v.ownBlock → (v'.ownBlock = v.ownBlock ∨ v'.ownBlock = some w.heap.size) → K (a.put o.dst v') w') :
    if Region.wanted o (yielded ops a.tmps) = true then Oper.wp P o a w K Q else E := by
  have hw : Region.wanted o (yielded ops a.tmps) = true := by simp [Region.wanted, hgd]
  rw [if_pos hw]
  obtain ⟨v', w', hrun, h2, h3, h4⟩ := run_append_seesN (P := P) w base t o.type e i z size bytes ht hi hz hsize hby hzs hs0 v n xs hown B A m c news hr hc0 h1 h63 hbytes hbase
  unfold Oper.wp execOp
  simp only [ho, resolve, invoke, builtin, Sem.run_bind, Sem.run_pure, Result.andThen_ok, List.map_toArray, List.map_cons, List.map_nil, hs, hx, hrun]
  exact h v' w' h2 h3 h4
end
end Go.Proofs.Ytppolhpigclbpaa
