/-
  No cell of these rows narrows 'for every input' (looked for: loops, veiled, ifaces, maps, wideKeys, modest, calm, conditions, laid).
  DERIVED. THE GIVEN ROWS OF THIS SEAT. 11 by the template 'for every input the law returns true; each argument reads behind the call as it read before'; 0 by the template 'total and deterministic' (their statements: YthhglbocoogefaaTotals.lean).
  GIVEN WITH THE SEED: the statements are not yours to turn. If you find one false, say at which input.
  Laid BY PROGRAM, IN A SANDBOX (cutbox-rows.mjs): the forced cells as the released guide's own fill.sh prints them over the translation fdf9042e2c6ae441… (all of the seat's roots in one cut). By AI agents, Wed Nov 11 2026. No macro, syntax, notation, axiom, sorry.
-/
import Derived.Test.YthhglbocoogefaaChecked
import GoSem.Claim
import GoSem.ClaimJoined
import GoSem.ClaimMapViews
import Derived.JoinedTies
import Derived.KernelRfl
namespace Go.Proofs.Ythhglbocoogefaa
/- THE CELL 'sum', in the pinned program and in every row, IS THE sha256 OF THE DUMP (.gsa) THAT YthhglbocoogefaaProg.lean LOADS. Nothing in Lean hashes anything: it is a label: what it is worth is what the hold of that sum in a sandbox is worth. -/
noncomputable def Try.pinned : Pinned := { name := "ythhglbocoogefaa", sum := "fdf9042e2c6ae441fba3a17fd7b05f66dc29a9a1271bb801a5d27a3466a403b5", checked := Try.checked }
namespace Rows
def none {H : Type} : Left H := { results := [], args := [] }

/-- 'daguerrelaw0.Names': WHATEVER THE INPUT: true; the input reads as it did. -/
def namesSpec : ChangeSpec := { name := "names", fn := fun _ => fun
  | [] => { results := [.lit (.bool true)], args := [] }
  | _ => none }
def namesRow : OpenClaim := { program := "ythhglbocoogefaa", sum := "fdf9042e2c6ae441fba3a17fd7b05f66dc29a9a1271bb801a5d27a3466a403b5", func := "daguerre/daguerrelaw0.Names", spec := "names", apart := false }
def NamesSaid : Prop := namesRow.holds Try.pinned (OpenSpec.ofChange namesSpec)

/-- ITS FALSE NEIGHBOUR: 'it returns false'. Refute it at one input. -/
def namesWrong : ChangeSpec := { name := "names", fn := fun _ => fun
  | [] => { results := [.lit (.bool false)], args := [] }
  | _ => none }
def NamesWrongFalsely : Prop := namesRow.holds Try.pinned (OpenSpec.ofChange namesWrong)

/-- 'daguerrelaw2.CrcAll': WHATEVER THE INPUT: true; the input reads as it did. -/
def crcAllSpec : ChangeSpec := { name := "crcAll", fn := fun _ => fun
  | [d1, d2] => { results := [.lit (.bool true)], args := [d1, d2] }
  | _ => none }
def crcAllRow : OpenClaim := { program := "ythhglbocoogefaa", sum := "fdf9042e2c6ae441fba3a17fd7b05f66dc29a9a1271bb801a5d27a3466a403b5", func := "daguerre/daguerrelaw2.CrcAll", spec := "crcAll", apart := false }
def CrcAllSaid : Prop := crcAllRow.holds Try.pinned (OpenSpec.ofChange crcAllSpec)

/-- ITS FALSE NEIGHBOUR: 'it returns false'. Refute it at one input. -/
def crcAllWrong : ChangeSpec := { name := "crcAll", fn := fun _ => fun
  | [d1, d2] => { results := [.lit (.bool false)], args := [d1, d2] }
  | _ => none }
def CrcAllWrongFalsely : Prop := crcAllRow.holds Try.pinned (OpenSpec.ofChange crcAllWrong)

/-- 'daguerrelaw2.CrcBurst': WHATEVER THE INPUT: true; the input reads as it did. -/
def crcBurstSpec : ChangeSpec := { name := "crcBurst", fn := fun _ => fun
  | [d1, d2, d3] => { results := [.lit (.bool true)], args := [d1, d2, d3] }
  | _ => none }
def crcBurstRow : OpenClaim := { program := "ythhglbocoogefaa", sum := "fdf9042e2c6ae441fba3a17fd7b05f66dc29a9a1271bb801a5d27a3466a403b5", func := "daguerre/daguerrelaw2.CrcBurst", spec := "crcBurst", apart := false }
def CrcBurstSaid : Prop := crcBurstRow.holds Try.pinned (OpenSpec.ofChange crcBurstSpec)

/-- ITS FALSE NEIGHBOUR: 'it returns false'. Refute it at one input. -/
def crcBurstWrong : ChangeSpec := { name := "crcBurst", fn := fun _ => fun
  | [d1, d2, d3] => { results := [.lit (.bool false)], args := [d1, d2, d3] }
  | _ => none }
def CrcBurstWrongFalsely : Prop := crcBurstRow.holds Try.pinned (OpenSpec.ofChange crcBurstWrong)

/-- 'daguerrelaw2.CrcOne': WHATEVER THE INPUT: true; the input reads as it did. -/
def crcOneSpec : ChangeSpec := { name := "crcOne", fn := fun _ => fun
  | [d1, d2, d3] => { results := [.lit (.bool true)], args := [d1, d2, d3] }
  | _ => none }
def crcOneRow : OpenClaim := { program := "ythhglbocoogefaa", sum := "fdf9042e2c6ae441fba3a17fd7b05f66dc29a9a1271bb801a5d27a3466a403b5", func := "daguerre/daguerrelaw2.CrcOne", spec := "crcOne", apart := false }
def CrcOneSaid : Prop := crcOneRow.holds Try.pinned (OpenSpec.ofChange crcOneSpec)

/-- ITS FALSE NEIGHBOUR: 'it returns false'. Refute it at one input. -/
def crcOneWrong : ChangeSpec := { name := "crcOne", fn := fun _ => fun
  | [d1, d2, d3] => { results := [.lit (.bool false)], args := [d1, d2, d3] }
  | _ => none }
def CrcOneWrongFalsely : Prop := crcOneRow.holds Try.pinned (OpenSpec.ofChange crcOneWrong)

/-- 'daguerrelaw2.CrcMany': WHATEVER THE INPUT: true; the input reads as it did. -/
def crcManySpec : ChangeSpec := { name := "crcMany", fn := fun _ => fun
  | [d1, d2] => { results := [.lit (.bool true)], args := [d1, d2] }
  | _ => none }
def crcManyRow : OpenClaim := { program := "ythhglbocoogefaa", sum := "fdf9042e2c6ae441fba3a17fd7b05f66dc29a9a1271bb801a5d27a3466a403b5", func := "daguerre/daguerrelaw2.CrcMany", spec := "crcMany", apart := false }
def CrcManySaid : Prop := crcManyRow.holds Try.pinned (OpenSpec.ofChange crcManySpec)

/-- ITS FALSE NEIGHBOUR: 'it returns false'. Refute it at one input. -/
def crcManyWrong : ChangeSpec := { name := "crcMany", fn := fun _ => fun
  | [d1, d2] => { results := [.lit (.bool false)], args := [d1, d2] }
  | _ => none }
def CrcManyWrongFalsely : Prop := crcManyRow.holds Try.pinned (OpenSpec.ofChange crcManyWrong)

/-- 'daguerrelaw2.CrcThree': WHATEVER THE INPUT: true; the input reads as it did. -/
def crcThreeSpec : ChangeSpec := { name := "crcThree", fn := fun _ => fun
  | [d1, d2, d3] => { results := [.lit (.bool true)], args := [d1, d2, d3] }
  | _ => none }
def crcThreeRow : OpenClaim := { program := "ythhglbocoogefaa", sum := "fdf9042e2c6ae441fba3a17fd7b05f66dc29a9a1271bb801a5d27a3466a403b5", func := "daguerre/daguerrelaw2.CrcThree", spec := "crcThree", apart := false }
def CrcThreeSaid : Prop := crcThreeRow.holds Try.pinned (OpenSpec.ofChange crcThreeSpec)

/-- ITS FALSE NEIGHBOUR: 'it returns false'. Refute it at one input. -/
def crcThreeWrong : ChangeSpec := { name := "crcThree", fn := fun _ => fun
  | [d1, d2, d3] => { results := [.lit (.bool false)], args := [d1, d2, d3] }
  | _ => none }
def CrcThreeWrongFalsely : Prop := crcThreeRow.holds Try.pinned (OpenSpec.ofChange crcThreeWrong)

/-- 'daguerrelaw3.KindAll': WHATEVER THE INPUT: true; the input reads as it did. -/
def kindAllSpec : ChangeSpec := { name := "kindAll", fn := fun _ => fun
  | [d] => { results := [.lit (.bool true)], args := [d] }
  | _ => none }
def kindAllRow : OpenClaim := { program := "ythhglbocoogefaa", sum := "fdf9042e2c6ae441fba3a17fd7b05f66dc29a9a1271bb801a5d27a3466a403b5", func := "daguerre/daguerrelaw3.KindAll", spec := "kindAll", apart := false }
def KindAllSaid : Prop := kindAllRow.holds Try.pinned (OpenSpec.ofChange kindAllSpec)

/-- ITS FALSE NEIGHBOUR: 'it returns false'. Refute it at one input. -/
def kindAllWrong : ChangeSpec := { name := "kindAll", fn := fun _ => fun
  | [d] => { results := [.lit (.bool false)], args := [d] }
  | _ => none }
def KindAllWrongFalsely : Prop := kindAllRow.holds Try.pinned (OpenSpec.ofChange kindAllWrong)

/-- 'daguerrelaw3.KindBytes': WHATEVER THE INPUT: true; the input reads as it did. -/
def kindBytesSpec : ChangeSpec := { name := "kindBytes", fn := fun _ => fun
  | [d1, d2] => { results := [.lit (.bool true)], args := [d1, d2] }
  | _ => none }
def kindBytesRow : OpenClaim := { program := "ythhglbocoogefaa", sum := "fdf9042e2c6ae441fba3a17fd7b05f66dc29a9a1271bb801a5d27a3466a403b5", func := "daguerre/daguerrelaw3.KindBytes", spec := "kindBytes", apart := false }
def KindBytesSaid : Prop := kindBytesRow.holds Try.pinned (OpenSpec.ofChange kindBytesSpec)

/-- ITS FALSE NEIGHBOUR: 'it returns false'. Refute it at one input. -/
def kindBytesWrong : ChangeSpec := { name := "kindBytes", fn := fun _ => fun
  | [d1, d2] => { results := [.lit (.bool false)], args := [d1, d2] }
  | _ => none }
def KindBytesWrongFalsely : Prop := kindBytesRow.holds Try.pinned (OpenSpec.ofChange kindBytesWrong)

/-- 'daguerrelaw3.KindArrays': WHATEVER THE INPUT: true; the input reads as it did. -/
def kindArraysSpec : ChangeSpec := { name := "kindArrays", fn := fun _ => fun
  | [d] => { results := [.lit (.bool true)], args := [d] }
  | _ => none }
def kindArraysRow : OpenClaim := { program := "ythhglbocoogefaa", sum := "fdf9042e2c6ae441fba3a17fd7b05f66dc29a9a1271bb801a5d27a3466a403b5", func := "daguerre/daguerrelaw3.KindArrays", spec := "kindArrays", apart := false }
def KindArraysSaid : Prop := kindArraysRow.holds Try.pinned (OpenSpec.ofChange kindArraysSpec)

/-- ITS FALSE NEIGHBOUR: 'it returns false'. Refute it at one input. -/
def kindArraysWrong : ChangeSpec := { name := "kindArrays", fn := fun _ => fun
  | [d] => { results := [.lit (.bool false)], args := [d] }
  | _ => none }
def KindArraysWrongFalsely : Prop := kindArraysRow.holds Try.pinned (OpenSpec.ofChange kindArraysWrong)

/-- 'daguerrelaw3.KindLong': WHATEVER THE INPUT: true; the input reads as it did. -/
def kindLongSpec : ChangeSpec := { name := "kindLong", fn := fun _ => fun
  | [d1, d2] => { results := [.lit (.bool true)], args := [d1, d2] }
  | _ => none }
def kindLongRow : OpenClaim := { program := "ythhglbocoogefaa", sum := "fdf9042e2c6ae441fba3a17fd7b05f66dc29a9a1271bb801a5d27a3466a403b5", func := "daguerre/daguerrelaw3.KindLong", spec := "kindLong", apart := false }
def KindLongSaid : Prop := kindLongRow.holds Try.pinned (OpenSpec.ofChange kindLongSpec)

/-- ITS FALSE NEIGHBOUR: 'it returns false'. Refute it at one input. -/
def kindLongWrong : ChangeSpec := { name := "kindLong", fn := fun _ => fun
  | [d1, d2] => { results := [.lit (.bool false)], args := [d1, d2] }
  | _ => none }
def KindLongWrongFalsely : Prop := kindLongRow.holds Try.pinned (OpenSpec.ofChange kindLongWrong)

/-- 'daguerrelaw3.KindNest': WHATEVER THE INPUT: true; the input reads as it did. -/
def kindNestSpec : ChangeSpec := { name := "kindNest", fn := fun _ => fun
  | [d1, d2] => { results := [.lit (.bool true)], args := [d1, d2] }
  | _ => none }
def kindNestRow : OpenClaim := { program := "ythhglbocoogefaa", sum := "fdf9042e2c6ae441fba3a17fd7b05f66dc29a9a1271bb801a5d27a3466a403b5", func := "daguerre/daguerrelaw3.KindNest", spec := "kindNest", apart := false }
def KindNestSaid : Prop := kindNestRow.holds Try.pinned (OpenSpec.ofChange kindNestSpec)

/-- ITS FALSE NEIGHBOUR: 'it returns false'. Refute it at one input. -/
def kindNestWrong : ChangeSpec := { name := "kindNest", fn := fun _ => fun
  | [d1, d2] => { results := [.lit (.bool false)], args := [d1, d2] }
  | _ => none }
def KindNestWrongFalsely : Prop := kindNestRow.holds Try.pinned (OpenSpec.ofChange kindNestWrong)

/- THE SECOND FORM. 'bulk': how many values and letters a reading holds, each counted each time it is reached (what is shared counts as often as it is met; a slice's spare places count too). A statement '..UptoSaid' is the law's where the arguments, and the package variables that the reading takes, are together of bulk at most 1048576: NARROWER than '..Said'. Prove '..Said' where nothing that the law and all that it calls make is longer than what came in: it says more and counts as full. Else prove '..UptoSaid'. A law counts once. -/
mutual
def uptoBulk {H : Type} : DataW H → Nat
  | .lit (.string bytes) => bytes.length + 1
  | .lit _ => 1
  | .nil => 1
  | .ptr d => uptoBulk d + 1
  | .slice elems spare => uptoBulkAll elems + uptoBulkAll spare + 1
  | .agg parts => uptoBulkAll parts + 1
  | .iface _ d => uptoBulk d + 1
  | .map entries => uptoBulkEntries entries + 1
  | .held _ => 1
def uptoBulkAll {H : Type} : List (DataW H) → Nat
  | [] => 0
  | d :: r => uptoBulk d + uptoBulkAll r
def uptoBulkEntries {H : Type} : List (Lit × DataW H) → Nat
  | [] => 0
  | x :: r => uptoBulkEntry x + uptoBulkEntries r
def uptoBulkEntry {H : Type} : Lit × DataW H → Nat
  | (.string bytes, d) => bytes.length + uptoBulk d + 1
  | (_, d) => uptoBulk d + 1
 end
def uptoSmall : (H : Type) → List (DataW H) → Bool := fun _ ds => decide (uptoBulkAll ds ≤ 1048576)
def OpenSpec.upto (s : _root_.Go.ChangeSpec) : _root_.Go.OpenSpec := { _root_.Go.OpenSpec.ofChange s with cond := some uptoSmall }

/-- 'daguerrelaw0.Names', WHERE WHAT IT READS IS OF BULK AT MOST 1048576: true; the input reads as it did. -/
def namesUptoRow : OpenClaim := { program := "ythhglbocoogefaa", sum := "fdf9042e2c6ae441fba3a17fd7b05f66dc29a9a1271bb801a5d27a3466a403b5", func := "daguerre/daguerrelaw0.Names", spec := "names", apart := false, narrowed := true }
def NamesUptoSaid : Prop := namesUptoRow.holds Try.pinned (OpenSpec.upto namesSpec)

/-- 'daguerrelaw2.CrcAll', WHERE WHAT IT READS IS OF BULK AT MOST 1048576: true; the input reads as it did. -/
def crcAllUptoRow : OpenClaim := { program := "ythhglbocoogefaa", sum := "fdf9042e2c6ae441fba3a17fd7b05f66dc29a9a1271bb801a5d27a3466a403b5", func := "daguerre/daguerrelaw2.CrcAll", spec := "crcAll", apart := false, narrowed := true }
def CrcAllUptoSaid : Prop := crcAllUptoRow.holds Try.pinned (OpenSpec.upto crcAllSpec)

/-- 'daguerrelaw2.CrcBurst', WHERE WHAT IT READS IS OF BULK AT MOST 1048576: true; the input reads as it did. -/
def crcBurstUptoRow : OpenClaim := { program := "ythhglbocoogefaa", sum := "fdf9042e2c6ae441fba3a17fd7b05f66dc29a9a1271bb801a5d27a3466a403b5", func := "daguerre/daguerrelaw2.CrcBurst", spec := "crcBurst", apart := false, narrowed := true }
def CrcBurstUptoSaid : Prop := crcBurstUptoRow.holds Try.pinned (OpenSpec.upto crcBurstSpec)

/-- 'daguerrelaw2.CrcOne', WHERE WHAT IT READS IS OF BULK AT MOST 1048576: true; the input reads as it did. -/
def crcOneUptoRow : OpenClaim := { program := "ythhglbocoogefaa", sum := "fdf9042e2c6ae441fba3a17fd7b05f66dc29a9a1271bb801a5d27a3466a403b5", func := "daguerre/daguerrelaw2.CrcOne", spec := "crcOne", apart := false, narrowed := true }
def CrcOneUptoSaid : Prop := crcOneUptoRow.holds Try.pinned (OpenSpec.upto crcOneSpec)

/-- 'daguerrelaw2.CrcMany', WHERE WHAT IT READS IS OF BULK AT MOST 1048576: true; the input reads as it did. -/
def crcManyUptoRow : OpenClaim := { program := "ythhglbocoogefaa", sum := "fdf9042e2c6ae441fba3a17fd7b05f66dc29a9a1271bb801a5d27a3466a403b5", func := "daguerre/daguerrelaw2.CrcMany", spec := "crcMany", apart := false, narrowed := true }
def CrcManyUptoSaid : Prop := crcManyUptoRow.holds Try.pinned (OpenSpec.upto crcManySpec)

/-- 'daguerrelaw2.CrcThree', WHERE WHAT IT READS IS OF BULK AT MOST 1048576: true; the input reads as it did. -/
def crcThreeUptoRow : OpenClaim := { program := "ythhglbocoogefaa", sum := "fdf9042e2c6ae441fba3a17fd7b05f66dc29a9a1271bb801a5d27a3466a403b5", func := "daguerre/daguerrelaw2.CrcThree", spec := "crcThree", apart := false, narrowed := true }
def CrcThreeUptoSaid : Prop := crcThreeUptoRow.holds Try.pinned (OpenSpec.upto crcThreeSpec)

/-- 'daguerrelaw3.KindAll', WHERE WHAT IT READS IS OF BULK AT MOST 1048576: true; the input reads as it did. -/
def kindAllUptoRow : OpenClaim := { program := "ythhglbocoogefaa", sum := "fdf9042e2c6ae441fba3a17fd7b05f66dc29a9a1271bb801a5d27a3466a403b5", func := "daguerre/daguerrelaw3.KindAll", spec := "kindAll", apart := false, narrowed := true }
def KindAllUptoSaid : Prop := kindAllUptoRow.holds Try.pinned (OpenSpec.upto kindAllSpec)

/-- 'daguerrelaw3.KindBytes', WHERE WHAT IT READS IS OF BULK AT MOST 1048576: true; the input reads as it did. -/
def kindBytesUptoRow : OpenClaim := { program := "ythhglbocoogefaa", sum := "fdf9042e2c6ae441fba3a17fd7b05f66dc29a9a1271bb801a5d27a3466a403b5", func := "daguerre/daguerrelaw3.KindBytes", spec := "kindBytes", apart := false, narrowed := true }
def KindBytesUptoSaid : Prop := kindBytesUptoRow.holds Try.pinned (OpenSpec.upto kindBytesSpec)

/-- 'daguerrelaw3.KindArrays', WHERE WHAT IT READS IS OF BULK AT MOST 1048576: true; the input reads as it did. -/
def kindArraysUptoRow : OpenClaim := { program := "ythhglbocoogefaa", sum := "fdf9042e2c6ae441fba3a17fd7b05f66dc29a9a1271bb801a5d27a3466a403b5", func := "daguerre/daguerrelaw3.KindArrays", spec := "kindArrays", apart := false, narrowed := true }
def KindArraysUptoSaid : Prop := kindArraysUptoRow.holds Try.pinned (OpenSpec.upto kindArraysSpec)

/-- 'daguerrelaw3.KindLong', WHERE WHAT IT READS IS OF BULK AT MOST 1048576: true; the input reads as it did. -/
def kindLongUptoRow : OpenClaim := { program := "ythhglbocoogefaa", sum := "fdf9042e2c6ae441fba3a17fd7b05f66dc29a9a1271bb801a5d27a3466a403b5", func := "daguerre/daguerrelaw3.KindLong", spec := "kindLong", apart := false, narrowed := true }
def KindLongUptoSaid : Prop := kindLongUptoRow.holds Try.pinned (OpenSpec.upto kindLongSpec)

/-- 'daguerrelaw3.KindNest', WHERE WHAT IT READS IS OF BULK AT MOST 1048576: true; the input reads as it did. -/
def kindNestUptoRow : OpenClaim := { program := "ythhglbocoogefaa", sum := "fdf9042e2c6ae441fba3a17fd7b05f66dc29a9a1271bb801a5d27a3466a403b5", func := "daguerre/daguerrelaw3.KindNest", spec := "kindNest", apart := false, narrowed := true }
def KindNestUptoSaid : Prop := kindNestUptoRow.holds Try.pinned (OpenSpec.upto kindNestSpec)

end Rows
end Go.Proofs.Ythhglbocoogefaa
