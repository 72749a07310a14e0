/- append(own, make([]T, m)...), as the model has it: an append of nought cells onto a row of the call's own, nil let in; elements of several cells. Conditions: the new length fits. -/
import Derived.Test.YtppolhpigclbpaaFrameM
set_option linter.unusedVariables false
namespace Go.Proofs.Ytppolhpigclbpaa
open Go.RowKit

theorem vCells_zeros (m : Nat) : Builtin.zeroCells #[.bool false, .int .i32 0] m = (vCells (List.replicate m (false, 0))).toArray := by
  have key : ∀ m, (List.range (m * 2)).map (fun i => (#[Value.bool false, .int .i32 0] : Array Value)[i % 2]!) = vCells (List.replicate m (false, 0)) := by
    intro m
    induction m with
    | zero => rfl
    | succ m ih =>
      rw [show (m + 1) * 2 = m * 2 + 1 + 1 from by omega, List.range_succ, List.range_succ, List.map_append, List.map_append, ih, List.replicate_succ', vCells_append]
      have h0 : m * 2 % 2 = 0 := by omega
      have h1 : (m * 2 + 1) % 2 = 1 := by omega
      simp [h0, h1, vCells]
  unfold Builtin.zeroCells
  rw [← key]
  apply Array.ext'
  simp [Array.toList_range]
section
variable {P : Program} (w : World)
theorem run_append_zerosN (base : Nat) (t u ty e : TypeId) (i : TypeInfo) (z : Value) (size bytes : Nat) (ht : P.underlying t = some (.slice e)) (hu : P.underlying u = some (.int .i64)) (hi : P.info? e = some i) (hz : i.zero = some z)
    (hsize : i.size = size) (hby : i.bytes = bytes) (hzs : z.cells.size = size) (hs0 : 0 < size)
    (v : Value) (n : Nat) (xs : List Value) (hown : w.ownsRow base e size v n xs)
    (m : Nat) (zs : List Value) (hzc : Builtin.zeroCells z.cells m = zs.toArray) (hone : ∀ x ∈ zs, x.oneCell' = true) (h63 : n + m ≤ maxLen) (hm48 : m * bytes ≤ 281474976710656) (hbytes : (n + m) * bytes ≤ 140737488355328) (hbase : base ≤ w.heap.size) :
    ∃ v' w', (Builtin.append_ #[t, u] ty #[v, .int .i64 (m : Int)]).run P w = .ok v' w' ∧ w'.ownsRow base e size v' (n + m) (xs ++ zs) ∧ w.grownBy w' v.ownBlock ∧
      (v'.ownBlock = v.ownBlock ∨ v'.ownBlock = some w.heap.size) := by
  subst hby
  have hwrap : IntKind.i64.wrap (m : Int) = (m : Int) := by
    rw [IntKind.wrap_i64]
    simp only [maxLen] at h63
    omega
  have hneg : ¬ ((m : Int) < 0) := by omega
  have hai : ∀ (W : World) (k : Int), (asInt (.int .i64 k)).run P W = .ok k W := fun W k => by simp [asInt, asIntOf]
  have h48 : ¬ ((281474976710656 : Int) < (m : Int) * (i.bytes : Int)) := by
    have : ((m * i.bytes : Nat) : Int) ≤ 281474976710656 := by omega
    rw [Int.natCast_mul] at this
    omega
  have hzl : zs.length = m * size := by
    have := congrArg Array.size hzc
    rw [size_zeroCells, hzs] at this
    simpa using this.symm
  have hlen : (xs ++ zs).length = (n + m) * size := by rw [List.length_append, hzl, hown.1, Nat.add_mul]
  have hxl : xs.length = n * size := hown.1
  have grow : ∀ cap, cap < n + m → ∃ newcap, n + m ≤ newcap ∧ newcap = grownCap w (n + m) cap e ∧ newcap ≤ maxLen := fun cap h => ⟨_, grownCap_ge w (n + m) cap e, rfl, grownCap_le_maxLen w (n + m) cap e h63⟩
  rcases hown.2 with ⟨rfl, h0⟩ | ⟨g, cap, cur, rfl, hbg, hg, hnc, hcm, hcs, htake⟩
  · obtain rfl : n = 0 := h0
    obtain rfl : xs = [] := List.eq_nil_of_length_eq_zero (by simpa using hxl)
    by_cases hm0 : m = 0
    · subst hm0
      obtain rfl : zs = [] := List.eq_nil_of_length_eq_zero (by simpa using hzl)
      refine ⟨.slice none 0 0, w, ?_, by simpa using hown, World.grownBy.refl w _, .inl rfl⟩
      simp [Builtin.append_, run_underlying ht, run_underlying hu, sizeOf, typeInfo, hi, hai, IntKind.wrap_i64]
    · have hge := grownCap_ge w (0 + m) 0 e
      have hcm2 : grownCap w (0 + m) 0 e ≤ maxLen := grownCap_le_maxLen w (0 + m) 0 e h63
      have hfit := growslice_fits (show 0 < 0 + m by omega) hbytes
      have h48' : ¬ (281474976710656 < Builtin.nextslicecap (0 + m) 0 * i.bytes) := by omega
      have h63' : ¬ (9223372036854775807 < (((0 + m : Nat) : Int))) := by simp only [maxLen] at h63; omega
      have hroom : ¬ (0 + m ≤ 0) := by omega
      refine ⟨.slice (some ⟨w.heap.size, 0, none⟩) (0 + m) (grownCap w (0 + m) 0 e), w.drew.alloc (.cells (zs.toArray ++ Builtin.zeroCells z.cells (grownCap w (0 + m) 0 e - (0 + m))) e), ?_,
        ⟨hlen, .inr ⟨w.heap.size, _, _, rfl, hbase, heap_alloc_new w.drew _, hge, hcm2, ?_, ?_⟩⟩, ⟨rfl, rfl, rfl, by simp, fun k hk _ => Below.heap_alloc w.drew _ k hk⟩, .inr rfl⟩
      · have hms : ¬ (m * i.size = 0) := by rw [hsize]; exact Nat.mul_ne_zero hm0 (by omega)
        simp [Builtin.append_, run_underlying ht, run_underlying hu, sizeOf, typeInfo, zeroValue, hz, hi, hai, hwrap, hneg, h48, hzc, hm0, Question.forced, Builtin.firstCells, newRow, grownCap] at h48' h63' hms ⊢
        have hA : ¬ (9223372036854775807 < (m : Int)) := by omega
        have hB : ¬ (281474976710656 < Builtin.nextslicecap m 0 * i.bytes) := by omega
        rw [if_neg hA, if_neg hB]
        simp
        exact fun h => absurd h (by rw [hsize]; exact Nat.mul_ne_zero hm0 (by omega))
      · simp only [Array.size_append, List.size_toArray, size_zeroCells, hzs, hzl]
        rw [← Nat.add_mul]
        congr 1
        omega
      · simp only [Array.toList_append]
        exact List.take_left' (by rw [hzl]; simp)
  · by_cases hm0 : m = 0
    · subst hm0
      obtain rfl : zs = [] := List.eq_nil_of_length_eq_zero (by simpa using hzl)
      refine ⟨.slice (some ⟨g, 0, none⟩) n cap, w, ?_, by simpa using hown, World.grownBy.refl w _, .inl rfl⟩
      simp [Builtin.append_, run_underlying ht, run_underlying hu, sizeOf, typeInfo, hi, hnc, Addr.add_lit, storeCells, hai, IntKind.wrap_i64]
    · have hms : ¬ (m * size = 0) := Nat.mul_ne_zero hm0 (by omega)
      by_cases hroom : n + m ≤ cap
      · have hsz : (n + m) * size ≤ cap * size := Nat.mul_le_mul_right _ hroom
        have hst := run_storeCells_at P g (n * size) e zs 0 cur w hg (by rw [hzl]; rw [Nat.add_mul] at hsz; omega) hone
        simp only [Nat.add_zero] at hst
        refine ⟨.slice (some ⟨g, 0, none⟩) (n + m) cap, w.setRow g (cur.toList.take (n * size) ++ zs ++ cur.toList.drop (n * size + zs.length)).toArray, ?_, ⟨hlen, .inr ⟨g, cap, _, rfl, hbg, setRow_heap w g cur _ e _ hg, hroom, hcm, ?_, ?_⟩⟩,
          ⟨rfl, rfl, rfl, by simp, fun k _ hk => setRow_other w g k _ (fun e => hk (by rw [e]; rfl))⟩, .inl rfl⟩
        · simp [Builtin.append_, run_underlying ht, run_underlying hu, sizeOf, typeInfo, zeroValue, hz, hi, hsize, hroom, Addr.add_lit, hai, hwrap, hneg, h48, hms, hzc, hst]
        · simp only [List.size_toArray, List.length_append, List.length_take, List.length_drop, Array.length_toList, hzl]
          rw [Nat.add_mul] at hsz
          omega
        · rw [htake, ← hlen]
          exact List.take_left
      · have hge := grownCap_ge w (n + m) cap e
        have hcm2 : grownCap w (n + m) cap e ≤ maxLen := grownCap_le_maxLen w (n + m) cap e h63
        have hfit := growslice_fits (show cap < n + m by omega) hbytes
        have h48' : ¬ (281474976710656 < Builtin.nextslicecap (n + m) cap * i.bytes) := by omega
        have h63' : ¬ (9223372036854775807 < ((n : Int) + (m : Int))) := by simp only [maxLen] at h63; omega
        have holds : ∀ j u, xs[j]? = some u → w.drew.cell? ((⟨g, 0, none⟩ : Addr).add j) = some u := hown.cells (g := g) rfl
        have hfo := run_firstCells_some (P := P) w.drew i.size n ⟨g, 0, none⟩ n cap xs (by rw [hsize]; exact hown.1) holds
        refine ⟨.slice (some ⟨w.heap.size, 0, none⟩) (n + m) (grownCap w (n + m) cap e), w.drew.alloc (.cells (xs.toArray ++ zs.toArray ++ Builtin.zeroCells z.cells (grownCap w (n + m) cap e - (n + m))) e), ?_,
          ⟨hlen, .inr ⟨w.heap.size, _, _, rfl, hbase, heap_alloc_new w.drew _, hge, hcm2, ?_, ?_⟩⟩, ⟨rfl, rfl, rfl, by simp, fun k hk _ => Below.heap_alloc w.drew _ k hk⟩, .inr rfl⟩
        · have hms' : ¬ (m * i.size = 0) := by rw [hsize]; exact hms
          simp [Builtin.append_, run_underlying ht, run_underlying hu, sizeOf, typeInfo, zeroValue, hz, hi, hroom, hai, hwrap, hneg, h48, hzc, h48', h63', Question.forced, hfo, newRow, grownCap]
          rw [if_neg hms', ← Array.append_assoc]
          simp
        · simp only [Array.size_append, List.size_toArray, size_zeroCells, hzs, hxl, hzl]
          rw [← Nat.add_mul, ← Nat.add_mul]
          congr 1
          omega
        · simp only [Array.toList_append, List.append_assoc]
          rw [← List.append_assoc]
          exact List.take_left' hlen
theorem wpList_append_zerosN {ops : Array Oper} {rest : List Oper} {o : Oper} {a : Act} {Q : Exit → Act → World → Prop} (hgd : o.guard = none) (s x : Operand) (t u : TypeId)
    (ho : o.op = .call { callee := .builtin .append, args := #[s, x], argTypes := #[t, u] })
    (base : Nat) (e : TypeId) (i : TypeInfo) (z : Value) (size bytes : Nat) (ht : P.underlying t = some (.slice e)) (hu : P.underlying u = some (.int .i64)) (hi : P.info? e = some i) (hz : i.zero = some z)
    (hsize : i.size = size) (hby : i.bytes = bytes) (hzs : z.cells.size = size) (hs0 : 0 < size)
    (v : Value) (n : Nat) (xs : List Value) (hs : a.eval s = v) (hown : w.ownsRow base e size v n xs)
    (m : Nat) (hx : a.eval x = .int .i64 (m : Int)) (zs : List Value) (hzc : Builtin.zeroCells z.cells m = zs.toArray) (hone : ∀ x ∈ zs, x.oneCell' = true) (h63 : n + m ≤ maxLen) (hm48 : m * bytes ≤ 281474976710656) (hbytes : (n + m) * bytes ≤ 140737488355328) (hbase : base ≤ w.heap.size)
    (h : ∀ v' w', w'.ownsRow base e size v' (n + m) (xs ++ zs) → w.grownBy w' v.ownBlock → (v'.ownBlock = v.ownBlock ∨ v'.ownBlock = some w.heap.size) → wpList P ops Q rest (a.put o.dst v') w') : wpList P ops Q (o :: rest) a w := by
  refine wpList_plain hgd fun K hK => ?_
  obtain ⟨v', w', hrun, h2, h3, h4⟩ := run_append_zerosN (P := P) w base t u o.type e i z size bytes ht hu hi hz hsize hby hzs hs0 v n xs hown m zs hzc hone h63 hm48 hbytes hbase
  unfold Oper.wp execOp
  simp only [ho, resolve, invoke, builtin, Sem.run_bind, Sem.run_pure, Result.andThen_ok, List.map_toArray, List.map_cons, List.map_nil, hs, hx, hrun]
  exact hK _ _ (h v' w' h2 h3 h4)
end
end Go.Proofs.Ytppolhpigclbpaa
