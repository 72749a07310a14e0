/- The walks of the two sums: crc.More, crc.Sum and the reference's Sum give the plain law's sum of the bytes that the slice shows, and leave the world alone. Conditions: the slice shows those bytes; its length is a Go length. -/
import Derived.Test.YthhglbocoogefaaRows
import Derived.Test.YthhglbocoogefaaWords
import Derived.Test.YthhglbocoogefaaCrcLaw
import Derived.Lib.SlBytesConst
namespace Go.Proofs.Ythhglbocoogefaa
open Go.RowKit Crc

/-- Bytes as cells; a word as a cell. -/
def bvs (l : List (BitVec 8)) : List Value := l.map fun c => .int .u8 (c.toNat : Int)
theorem bvs_at {l : List (BitVec 8)} {k : Nat} {u : Value} (h : (bvs l)[k]? = some u) : ∃ c, l[k]? = some c ∧ u = .int .u8 (c.toNat : Int) := by
  unfold bvs at h
  rw [List.getElem?_map] at h
  cases hk : l[k]? with
  | none => rw [hk] at h; cases h
  | some c => rw [hk] at h; cases h; exact ⟨c, rfl, rfl⟩

/-! The operations on words of 32 bits, as the walk writes them. -/
theorem u32_max : IntKind.u32.max = 4294967295 := by decide
theorem wrap_bv (x : BitVec 32) : IntKind.u32.wrap (x.toNat : Int) = (x.toNat : Int) := by
  have := x.isLt
  rw [IntKind.wrap_u32']; omega
theorem k_xor (x y : BitVec 32) : bits .xor .u32 (x.toNat : Int) (y.toNat : Int) = ((x ^^^ y).toNat : Int) := by
  rw [u32_xor_nat _ _ x.isLt y.isLt, BitVec.toNat_xor]
theorem k_and (x y : BitVec 32) : bits .and .u32 (x.toNat : Int) (y.toNat : Int) = ((x &&& y).toNat : Int) := by
  rw [u32_and_nat _ _ x.isLt y.isLt, BitVec.toNat_and]
theorem k_not (x : BitVec 32) : bits .xor .u32 IntKind.u32.max (x.toNat : Int) = ((~~~ x).toNat : Int) := by
  rw [u32_max, show (4294967295 : Int) = ((4294967295#32 : BitVec 32).toNat : Int) from rfl, k_xor]
  rw [show 4294967295#32 = BitVec.allOnes 32 from rfl, BitVec.allOnes_xor]

/-- The same, behind names that simp does not open. -/
def W (x : BitVec 32) : Int := (x.toNat : Int)
def inv (x : BitVec 32) : BitVec 32 := ~~~ x
def mix (x : BitVec 32) (c : BitVec 8) : BitVec 32 := x ^^^ c.setWidth 32
theorem k_inv (x : BitVec 32) : bits .xor .u32 IntKind.u32.max (W x) = W (inv x) := k_not x

theorem k_mix (x : BitVec 32) (c : BitVec 8) : bits .xor .u32 (W x) (c.toNat : Int) = W (mix x c) := by
  have := c.isLt
  show bits .xor .u32 (x.toNat : Int) (c.toNat : Int) = ((x ^^^ c.setWidth 32).toNat : Int)
  rw [← k_xor, BitVec.toNat_setWidth, Nat.mod_eq_of_lt (by omega)]
theorem k_shr (x : BitVec 32) : W x / (2 : Int) = W (x >>> (1 : Nat)) := by
  show (x.toNat : Int) / (2 : Int) = ((x >>> (1 : Nat)).toNat : Int)
  rw [BitVec.toNat_ushiftRight, Nat.shiftRight_eq_div_pow]
  omega
theorem k_bit (x : BitVec 32) : bits .and .u32 (W x) 1 = if x.getLsbD 0 then 1 else 0 := by
  have h := k_and x 1#32
  show bits .and .u32 (x.toNat : Int) ((1#32 : BitVec 32).toNat : Int) = _
  rw [h, BitVec.toNat_and, show (1#32 : BitVec 32).toNat = 1 from rfl, nat_mask1]
  have hb : x.getLsbD 0 = decide (x.toNat % 2 = 1) := by simp [BitVec.getLsbD, Nat.testBit_zero]
  rw [hb]
  by_cases h2 : x.toNat % 2 = 1
  · simp [h2]
  · simp [h2]; omega
theorem k_stp (x : BitVec 32) : bits .xor .u32 (W x / 2) (bits .and .u32 3988292384 (-bits .and .u32 (W x) 1 % 4294967296)) = W (stp x) := by
  rw [k_shr, k_bit]
  unfold stp
  by_cases hb : x.getLsbD 0
  · rw [if_pos hb, if_pos hb]
    have h1 : bits .and .u32 3988292384 (-1 % 4294967296) = 3988292384 := by decide +kernel
    rw [h1]
    exact k_xor (x >>> 1) 3988292384#32
  · rw [if_neg hb, if_neg hb]
    have h1 : bits .and .u32 3988292384 (-0 % 4294967296) = 0 := by decide +kernel
    rw [h1]
    exact k_xor (x >>> 1) 0#32
theorem k_odd (x : BitVec 32) : ((W x).tmod 2 == 1) = x.getLsbD 0 := by
  have hb : x.getLsbD 0 = decide (x.toNat % 2 = 1) := by simp [BitVec.getLsbD, Nat.testBit_zero]
  rw [hb]
  show ((x.toNat : Int).tmod 2 == 1) = _
  rw [Int.tmod_eq_emod_of_nonneg (by omega)]
  by_cases h : x.toNat % 2 = 1
  · have : (x.toNat : Int) % 2 = 1 := by omega
    simp [h, this]
  · have : (x.toNat : Int) % 2 = 0 := by omega
    simp [h, this]
theorem k_stp1 (x : BitVec 32) (h : ((W x).tmod 2 == 1) = true) : bits .xor .u32 (W x / 2) 3988292384 = W (stp x) := by
  rw [k_odd] at h
  rw [k_shr]
  unfold stp
  rw [if_pos h]
  exact k_xor (x >>> 1) 3988292384#32
theorem k_stp0 (x : BitVec 32) (h : ((W x).tmod 2 == 1) = false) : W x / 2 = W (stp x) := by
  rw [k_odd] at h
  rw [k_shr]
  unfold stp
  rw [h]
  simp
theorem run_take (x : BitVec 32) (l : List (BitVec 8)) (k : Nat) (c : BitVec 8) (h : l[k]? = some c) : run x (l.take (k + 1)) = stpN 8 (mix (run x (l.take k)) c) := by
  rw [List.take_add_one, h, run_append]
  rfl
theorem ret_int {k : IntKind} {a b : Int} (h : a = b) : Ending.returned (.int k a) = .returned (.int k b) := by rw [h]
theorem val_int {k : IntKind} {a b : Int} (h : a = b) : Value.int k a = .int k b := by rw [h]

set_option maxHeartbeats 400000 in
theorem more_any (A : Option Addr) (n c : Nat) (l : List (BitVec 8)) (s : BitVec 32) (w : World) (B : Nat) (hs : Sees w B A n (bvs l)) (hn : n ≤ maxLen) :
    Calls Try.prog 18 #[.int .u32 (W s), .slice A n c] w fun e w' => e = .returned (.int .u32 (W (more s l))) ∧ w = w' := by
  unfold maxLen at hn
  have kn := k_inv s
  go_enter Try.func18, Try.ntmps18
  go_wp2
  clear kn
  go_loop [5, 12] (fun x i => ∃ k : Nat, k ≤ n ∧ i = .int .i64 k ∧ x = .int .u32 (W (run (inv s) (l.take k)))) (fun _ i => n - (intOf i).toNat)
  case atStart => exact ⟨0, Nat.zero_le _, rfl, rfl⟩
  case round =>
    obtain ⟨k, hk, rfl, rfl⟩ := hrel
    by_cases hlt : k < n
    · obtain ⟨b, off, u, rfl, hb, hu, hc⟩ := hs.at_ hlt
      obtain ⟨c8, hu8, rfl⟩ := bvs_at hu
      have km := k_mix (run (inv s) (l.take k)) c8
      have hrt := hide (run_take (inv s) l k c8 hu8)
      clear hu hu8
      go_wp2
      go_loop [5, 20] (fun x i => ∃ j : Nat, j ≤ 8 ∧ i = .int .i64 j ∧ x = .int .u32 (W (stpN j (mix (run (inv s) (l.take k)) c8)))) (fun _ i => 8 - (intOf i).toNat)
      case atStart => exact ⟨0, Nat.zero_le _, rfl, rfl⟩
      case round =>
        obtain ⟨j, hj, rfl, rfl⟩ := hrel
        by_cases hj8 : j < 8
        · clear km
          go_wp2
          go_round
          case rel => exact ⟨j + 1, by omega, by go_num, val_int (by rw [stpN_succ', k_stp])⟩
          case measure => simp [intOf]; omega
        · obtain rfl : j = 8 := by omega
          clear km
          go_wp2
          go_round
          case rel => exact ⟨k + 1, by omega, by go_num, val_int (by rw [hrt.out])⟩
          case measure => simp [intOf]; omega
    · obtain rfl : k = n := by omega
      have kn := k_inv (run (inv s) (l.take k))
      go_wp2
      go_ret
      refine ⟨ret_int ?_, rfl⟩
      have hl : l.length = k := by have := hs.1; simpa [bvs] using this
      rw [List.take_of_length_le (by omega)]
      rfl

/-- crc.Sum. -/
theorem sum_any (A : Option Addr) (n c : Nat) (l : List (BitVec 8)) (w : World) (B : Nat) (hs : Sees w B A n (bvs l)) (hn : n ≤ maxLen) :
    Calls Try.prog 16 #[.slice A n c] w fun e w' => e = .returned (.int .u32 (W (sum l))) ∧ w = w' := by
  have hm : Calls Try.prog 18 #[.int .u32 0, .slice A n c] w fun e w' => e = .returned (.int .u32 (W (more 0#32 l))) ∧ w = w' := more_any A n c l 0#32 w B hs hn
  have HM := hide hm
  clear hm
  go_enter Try.func16, Try.ntmps16
  go_wp2_with (go_at_call 18; refine HM.out.mono ?_; rintro e w' ⟨rfl, rfl⟩)
  go_ret
  exact ⟨rfl, rfl⟩

/-- The reference's Sum. -/
theorem refSum_any (A : Option Addr) (n c : Nat) (l : List (BitVec 8)) (w : World) (B : Nat) (hs : Sees w B A n (bvs l)) (hn : n ≤ maxLen) :
    Calls Try.prog 17 #[.slice A n c] w fun e w' => e = .returned (.int .u32 (W (sum l))) ∧ w = w' := by
  unfold maxLen at hn
  go_enter Try.func17, Try.ntmps17
  go_wp2
  go_loop [3, 4] (fun x i => ∃ k : Nat, k ≤ n ∧ i = .int .i64 k ∧ x = .int .u32 (W (run (inv 0#32) (l.take k)))) (fun _ i => n - (intOf i).toNat)
  case atStart => exact ⟨0, Nat.zero_le _, rfl, rfl⟩
  case round =>
    obtain ⟨k, hk, rfl, rfl⟩ := hrel
    by_cases hlt : k < n
    · obtain ⟨b, off, u, rfl, hb, hu, hc⟩ := hs.at_ hlt
      obtain ⟨c8, hu8, rfl⟩ := bvs_at hu
      have km := k_mix (run (inv 0#32) (l.take k)) c8
      have hrt := hide (run_take (inv 0#32) l k c8 hu8)
      clear hu hu8
      go_wp2
      go_loop [3, 5] (fun x i => ∃ j : Nat, j ≤ 8 ∧ i = .int .i64 j ∧ x = .int .u32 (W (stpN j (mix (run (inv 0#32) (l.take k)) c8)))) (fun _ i => 8 - (intOf i).toNat)
      case atStart => exact ⟨0, Nat.zero_le _, rfl, rfl⟩
      case round =>
        obtain ⟨j, hj, rfl, rfl⟩ := hrel
        by_cases hj8 : j < 8
        · clear km
          go_wp2
          · go_round
            case rel => exact ⟨j + 1, by omega, by go_num, val_int (by rw [stpN_succ']; exact k_stp1 _ (by assumption))⟩
            case measure => simp [intOf]; omega
          · go_round
            case rel => exact ⟨j + 1, by omega, by go_num, val_int (by rw [stpN_succ']; exact k_stp0 _ (by assumption))⟩
            case measure => simp [intOf]; omega
        · obtain rfl : j = 8 := by omega
          clear km
          go_wp2
          go_round
          case rel => exact ⟨k + 1, by omega, by go_num, val_int (by rw [hrt.out])⟩
          case measure => simp [intOf]; omega
    · obtain rfl : k = n := by omega
      have kn := k_inv (run (inv 0#32) (l.take k))
      go_wp2
      go_ret
      refine ⟨ret_int ?_, rfl⟩
      have hl : l.length = k := by have := hs.1; simpa [bvs] using this
      rw [List.take_of_length_le (by omega)]
      rfl

/-- Short: a slice that is cut to n, or stays. -/
theorem short_any (A : Option Addr) (len c n : Nat) (l : List Value) (w : World) (B : Nat) (hs : Sees w B A len l) (hn : len ≤ maxLen) (hc : len ≤ c) (hn2 : n ≤ 1000) :
    Calls Try.prog 15 #[.slice A len c, .int .i64 (n : Int)] w fun e w' => e = .returned (.slice A (min len n) c) ∧ w = w' := by
  unfold maxLen at hn
  by_cases hlt : n < len
  · obtain ⟨b, off, rfl, hb, hcell⟩ := hs.2 (by omega)
    rw [Nat.min_eq_right (by omega)]
    have : n ≤ c := by omega
    go_enter Try.func15, Try.ntmps15
    go_wp2
    go_ret
    exact ⟨rfl, rfl⟩
  · rw [Nat.min_eq_left (by omega)]
    go_enter Try.func15, Try.ntmps15
    go_wp2
    go_ret
    exact ⟨rfl, rfl⟩

theorem sum_digits : sum [49#8, 50#8, 51#8, 52#8, 53#8, 54#8, 55#8, 56#8, 57#8] = 3421780262#32 := by decide +kernel
theorem sum_nil : sum [] = 0#32 := by decide +kernel
/-- A block that was just laid shows its cells. -/
theorem sees_new (w : World) (cs : Array Value) (t : TypeId) (m : Nat × Nat) : Sees (w.alloc (.cells cs t m)) (w.heap.size + 1) (some ⟨w.heap.size, 0, none⟩) cs.size cs.toList := by
  refine ⟨by simp, fun _ => ⟨w.heap.size, 0, rfl, by omega, fun j u hu => ?_⟩⟩
  rw [Nat.zero_add, World.cell?_alloc_mark]
  simpa using hu
theorem begun_one (w : World) : Calls Try.prog 16 #[.slice (some ⟨w.heap.size, 0, none⟩) 9 9] (w.alloc (.cells #[.int .u8 49, .int .u8 50, .int .u8 51, .int .u8 52, .int .u8 53, .int .u8 54, .int .u8 55, .int .u8 56, .int .u8 57] 5 (9, 10)))
    fun e w' => e = .returned (.int .u32 3421780262) ∧ (w.alloc (.cells #[.int .u8 49, .int .u8 50, .int .u8 51, .int .u8 52, .int .u8 53, .int .u8 54, .int .u8 55, .int .u8 56, .int .u8 57] 5 (9, 10))) = w' := by
  have h := sum_any (some ⟨w.heap.size, 0, none⟩) 9 9 [49#8, 50#8, 51#8, 52#8, 53#8, 54#8, 55#8, 56#8, 57#8] _ _ (sees_new w #[.int .u8 49, .int .u8 50, .int .u8 51, .int .u8 52, .int .u8 53, .int .u8 54, .int .u8 55, .int .u8 56, .int .u8 57] 5 (9, 10)) (by decide)
  rw [sum_digits] at h
  exact h
theorem begun_two (w : World) : Calls Try.prog 16 #[.slice none 0 0] w fun e w' => e = .returned (.int .u32 0) ∧ w = w' := by
  have h := sum_any none 0 0 [] w 0 (Sees.nil_ _ _ _) (by decide)
  rw [sum_nil] at h
  exact h
theorem begun_any (w : World) : Calls Try.prog 14 #[] w fun e w' => e = .returned (.bool true) ∧ Below w.heap.size w w' := by
  have kc := fun (w : World) (C : Array Value) (n c : Nat) => Lib.run_convert_bytes_const (P := Try.prog) w 24 5 C n c Try.underlying24 Try.underlying5
  go_enter Try.func14, Try.ntmps14
  go_wp2_with fail
  refine (begun_one w).mono ?_
  rintro e w' ⟨rfl, rfl⟩
  go_wp2_with fail
  refine (begun_two _).mono ?_
  rintro e w' ⟨rfl, rfl⟩
  go_wp2_with fail
  go_ret
  exact ⟨rfl, (Below.refl _ _).alloc (Nat.le_refl _) _⟩

/-- What the row's reading tells of a slice of integers. -/
def IsRow (k : IntKind) (w : World) (a : Option Addr) (len cap : Nat) (zs : List Int) : Prop :=
  (a = none ∧ len = 0 ∧ cap = 0 ∧ zs = []) ∨
  ∃ x, a = some x ∧ len ≤ cap ∧ cap ≤ maxLen ∧ zs.length = cap ∧ (∀ i, i < zs.length → w.cell? (x.add i) = some (.int k (zs.getD i 0))) ∧ ∀ n ∈ zs, (Lit.int k n).wf = true

theorem cell_lt {w : World} {p : Addr} {v : Value} (h : w.cell? p = some v) : p.block < w.heap.size := by
  rcases Nat.lt_or_ge p.block w.heap.size with hlt | hge
  · exact hlt
  · simp [World.cell?, Array.getElem?_eq_none hge] at h
theorem IsRow.cells {k : IntKind} {w : World} {a : Option Addr} {len cap : Nat} {zs : List Int} (h : IsRow k w a len cap zs) :
    len ≤ cap ∧ cap ≤ maxLen ∧ (a = none → cap = 0) ∧ zs.length = cap ∧ (∀ n ∈ zs, (Lit.int k n).wf = true) ∧ Sees w w.heap.size a len ((zs.take len).map (Value.int k)) := by
  rcases h with ⟨rfl, rfl, rfl, rfl⟩ | ⟨x, rfl, hl, hm, hz, hc, hw⟩
  · exact ⟨Nat.le_refl _, Nat.zero_le _, fun _ => rfl, rfl, (fun n hn => by simp at hn), Sees.nil_ _ _ _⟩
  · refine ⟨hl, hm, (fun e => by simp at e), hz, hw, by rw [List.length_map, List.length_take]; omega, fun hn => ?_⟩
    obtain ⟨b, off, spot⟩ := x
    have h0 := hc 0 (by omega)
    have hspot : spot = none := by simpa [Addr.add] using World.cell?_spot h0
    subst hspot
    refine ⟨b, off, rfl, ?_, fun j u hu => ?_⟩
    · have := cell_lt h0
      simpa [Addr.add] using this
    · rw [List.getElem?_map, List.getElem?_take] at hu
      split at hu
      · rename_i hj
        have hj' : j < zs.length := by omega
        rw [List.getElem?_eq_getElem hj'] at hu
        cases hu
        have := hc j hj'
        rw [List.getD_eq_getElem?_getD, List.getElem?_eq_getElem hj'] at this
        unfold Addr.add at this
        split at this
        · rename_i hj0; subst hj0; exact this
        · exact this
      · cases hu
theorem u8_back {n : Int} (h : (Lit.int .u8 n).wf = true) : n = (((BitVec.ofInt 8 n).toNat : Nat) : Int) := by
  have h := bounds_u8 h
  rw [BitVec.toNat_ofInt]
  omega
theorem IsRow.bytes {w : World} {a : Option Addr} {len cap : Nat} {zs : List Int} (h : IsRow .u8 w a len cap zs) :
    len ≤ cap ∧ len ≤ maxLen ∧ (a = none → cap = 0) ∧ ∃ l : List (BitVec 8), l.length = len ∧ Sees w w.heap.size a len (bvs l) := by
  obtain ⟨h1, h2, h3, hz, hw, hs⟩ := h.cells
  refine ⟨h1, Nat.le_trans h1 h2, h3, (zs.take len).map (BitVec.ofInt 8), by simp; omega, ?_⟩
  have : bvs ((zs.take len).map (BitVec.ofInt 8)) = (zs.take len).map (Value.int .u8) := by
    unfold bvs
    rw [List.map_map]
    refine List.map_congr_left fun n hn => ?_
    have := u8_back (hw n (List.mem_of_mem_take hn))
    show Value.int .u8 _ = _
    rw [← this]
  rw [this]
  exact hs
theorem bvs_length (l : List (BitVec 8)) : (bvs l).length = l.length := by simp [bvs]
theorem bvs_append (l m : List (BitVec 8)) : bvs (l ++ m) = bvs l ++ bvs m := by simp [bvs]
theorem bvs_take (l : List (BitVec 8)) (k : Nat) : (bvs l).take k = bvs (l.take k) := by simp [bvs, List.map_take]
theorem bvs_one (l : List (BitVec 8)) : ∀ u ∈ bvs l, u.oneCell' = true := by
  intro u hu
  simp [bvs] at hu
  obtain ⟨c, _, rfl⟩ := hu
  rfl
theorem bvs_get (l : List (BitVec 8)) (k : Nat) (hk : k < l.length) : (bvs l)[k]? = some (.int .u8 ((l.getD k 0#8).toNat : Int)) := by
  unfold bvs
  rw [List.getElem?_map, List.getElem?_eq_getElem hk, List.getD_eq_getElem?_getD, List.getElem?_eq_getElem hk]
  rfl
theorem bvs_set (l : List (BitVec 8)) (k : Nat) (c : BitVec 8) : (bvs l).set k (.int .u8 (c.toNat : Int)) = bvs (l.set k c) := by simp [bvs, List.map_set]
/-- Bytes' exclusive or, behind a name. -/
def xor8 (a b : BitVec 8) : BitVec 8 := a ^^^ b
theorem k_xor8 (a b : BitVec 8) : bits .xor .u8 (a.toNat : Int) (b.toNat : Int) = ((xor8 a b).toNat : Int) := by
  rw [u8_xor_nat _ _ a.isLt b.isLt]
  show _ = ((a ^^^ b).toNat : Int)
  rw [BitVec.toNat_xor]
theorem W_inj {x y : BitVec 32} (h : W x = W y) : x = y := by
  unfold W at h
  exact BitVec.eq_of_toNat_eq (by omega)
theorem W_ne {x y : BitVec 32} (h : x ≠ y) : (W x != W y) = true := by
  simp only [bne_iff_ne]
  exact fun e => h (W_inj e)
theorem Try.info5 : (Try.prog.info? 5).map (fun i => (i.zero, i.size, i.bytes)) = some (some (.int .u8 0), 1, 1) := by kernel_rfl

end Go.Proofs.Ythhglbocoogefaa
