/-
  No cell of these rows narrows 'for every input' (looked for: loops, veiled, ifaces, maps, wideKeys, modest, calm, conditions, laid).
  DERIVED. THE GIVEN ROWS OF THIS SEAT. 12 by the template 'for every input the law returns true; each argument reads behind the call as it read before'; 0 by the template 'total and deterministic' (their statements: YtjjoelhemhnojaaTotals.lean).
  GIVEN WITH THE SEED: the statements are not yours to turn. If you find one false, say at which input.
  Laid BY PROGRAM, IN A SANDBOX (cutbox-rows.mjs): the forced cells as the released guide's own fill.sh prints them over the translation 369db99ccc15f323… (all of the seat's roots in one cut). By AI agents, Wed Nov 11 2026. No macro, syntax, notation, axiom, sorry.
-/
import Derived.Test.YtjjoelhemhnojaaChecked
import GoSem.Claim
import GoSem.ClaimJoined
import GoSem.ClaimMapViews
import Derived.JoinedTies
import Derived.KernelRfl
namespace Go.Proofs.Ytjjoelhemhnojaa
/- THE CELL 'sum', in the pinned program and in every row, IS THE sha256 OF THE DUMP (.gsa) THAT YtjjoelhemhnojaaProg.lean LOADS. Nothing in Lean hashes anything: it is a label: what it is worth is what the hold of that sum in a sandbox is worth. -/
noncomputable def Try.pinned : Pinned := { name := "ytjjoelhemhnojaa", sum := "369db99ccc15f3230dc714a654c3dba2a30ef9ce59a44727f054577120ad2b86", checked := Try.checked }
namespace Rows
def none {H : Type} : Left H := { results := [], args := [] }

/-- 'daguerrelaw13.HeapAll': WHATEVER THE INPUT: true; the input reads as it did. -/
def heapAllSpec : ChangeSpec := { name := "heapAll", fn := fun _ => fun
  | [d1, d2] => { results := [.lit (.bool true)], args := [d1, d2] }
  | _ => none }
def heapAllRow : OpenClaim := { program := "ytjjoelhemhnojaa", sum := "369db99ccc15f3230dc714a654c3dba2a30ef9ce59a44727f054577120ad2b86", func := "daguerre/daguerrelaw13.HeapAll", spec := "heapAll", apart := false }
def HeapAllSaid : Prop := heapAllRow.holds Try.pinned (OpenSpec.ofChange heapAllSpec)

/-- ITS FALSE NEIGHBOUR: 'it returns false'. Refute it at one input. -/
def heapAllWrong : ChangeSpec := { name := "heapAll", fn := fun _ => fun
  | [d1, d2] => { results := [.lit (.bool false)], args := [d1, d2] }
  | _ => none }
def HeapAllWrongFalsely : Prop := heapAllRow.holds Try.pinned (OpenSpec.ofChange heapAllWrong)

/-- 'daguerrelaw13.HeapOf': WHATEVER THE INPUT: true; the input reads as it did. -/
def heapOfSpec : ChangeSpec := { name := "heapOf", fn := fun _ => fun
  | [d1, d2] => { results := [.lit (.bool true)], args := [d1, d2] }
  | _ => none }
def heapOfRow : OpenClaim := { program := "ytjjoelhemhnojaa", sum := "369db99ccc15f3230dc714a654c3dba2a30ef9ce59a44727f054577120ad2b86", func := "daguerre/daguerrelaw13.HeapOf", spec := "heapOf", apart := false }
def HeapOfSaid : Prop := heapOfRow.holds Try.pinned (OpenSpec.ofChange heapOfSpec)

/-- ITS FALSE NEIGHBOUR: 'it returns false'. Refute it at one input. -/
def heapOfWrong : ChangeSpec := { name := "heapOf", fn := fun _ => fun
  | [d1, d2] => { results := [.lit (.bool false)], args := [d1, d2] }
  | _ => none }
def HeapOfWrongFalsely : Prop := heapOfRow.holds Try.pinned (OpenSpec.ofChange heapOfWrong)

/-- 'daguerrelaw13.HeapFull': WHATEVER THE INPUT: true; the input reads as it did. -/
def heapFullSpec : ChangeSpec := { name := "heapFull", fn := fun _ => fun
  | [d1, d2] => { results := [.lit (.bool true)], args := [d1, d2] }
  | _ => none }
def heapFullRow : OpenClaim := { program := "ytjjoelhemhnojaa", sum := "369db99ccc15f3230dc714a654c3dba2a30ef9ce59a44727f054577120ad2b86", func := "daguerre/daguerrelaw13.HeapFull", spec := "heapFull", apart := false }
def HeapFullSaid : Prop := heapFullRow.holds Try.pinned (OpenSpec.ofChange heapFullSpec)

/-- ITS FALSE NEIGHBOUR: 'it returns false'. Refute it at one input. -/
def heapFullWrong : ChangeSpec := { name := "heapFull", fn := fun _ => fun
  | [d1, d2] => { results := [.lit (.bool false)], args := [d1, d2] }
  | _ => none }
def HeapFullWrongFalsely : Prop := heapFullRow.holds Try.pinned (OpenSpec.ofChange heapFullWrong)

/-- 'daguerrelaw13.HeapNone': WHATEVER THE INPUT: true; the input reads as it did. -/
def heapNoneSpec : ChangeSpec := { name := "heapNone", fn := fun _ => fun
  | [] => { results := [.lit (.bool true)], args := [] }
  | _ => none }
def heapNoneRow : OpenClaim := { program := "ytjjoelhemhnojaa", sum := "369db99ccc15f3230dc714a654c3dba2a30ef9ce59a44727f054577120ad2b86", func := "daguerre/daguerrelaw13.HeapNone", spec := "heapNone", apart := false }
def HeapNoneSaid : Prop := heapNoneRow.holds Try.pinned (OpenSpec.ofChange heapNoneSpec)

/-- ITS FALSE NEIGHBOUR: 'it returns false'. Refute it at one input. -/
def heapNoneWrong : ChangeSpec := { name := "heapNone", fn := fun _ => fun
  | [] => { results := [.lit (.bool false)], args := [] }
  | _ => none }
def HeapNoneWrongFalsely : Prop := heapNoneRow.holds Try.pinned (OpenSpec.ofChange heapNoneWrong)

/-- 'daguerrelaw13.HeapApart': WHATEVER THE INPUT: true; the input reads as it did. -/
def heapApartSpec : ChangeSpec := { name := "heapApart", fn := fun _ => fun
  | [d1, d2, d3, d4] => { results := [.lit (.bool true)], args := [d1, d2, d3, d4] }
  | _ => none }
def heapApartRow : OpenClaim := { program := "ytjjoelhemhnojaa", sum := "369db99ccc15f3230dc714a654c3dba2a30ef9ce59a44727f054577120ad2b86", func := "daguerre/daguerrelaw13.HeapApart", spec := "heapApart", apart := false }
def HeapApartSaid : Prop := heapApartRow.holds Try.pinned (OpenSpec.ofChange heapApartSpec)

/-- ITS FALSE NEIGHBOUR: 'it returns false'. Refute it at one input. -/
def heapApartWrong : ChangeSpec := { name := "heapApart", fn := fun _ => fun
  | [d1, d2, d3, d4] => { results := [.lit (.bool false)], args := [d1, d2, d3, d4] }
  | _ => none }
def HeapApartWrongFalsely : Prop := heapApartRow.holds Try.pinned (OpenSpec.ofChange heapApartWrong)

/-- 'daguerrelaw13.HeapSizes': WHATEVER THE INPUT: true; the input reads as it did. -/
def heapSizesSpec : ChangeSpec := { name := "heapSizes", fn := fun _ => fun
  | [d] => { results := [.lit (.bool true)], args := [d] }
  | _ => none }
def heapSizesRow : OpenClaim := { program := "ytjjoelhemhnojaa", sum := "369db99ccc15f3230dc714a654c3dba2a30ef9ce59a44727f054577120ad2b86", func := "daguerre/daguerrelaw13.HeapSizes", spec := "heapSizes", apart := false }
def HeapSizesSaid : Prop := heapSizesRow.holds Try.pinned (OpenSpec.ofChange heapSizesSpec)

/-- ITS FALSE NEIGHBOUR: 'it returns false'. Refute it at one input. -/
def heapSizesWrong : ChangeSpec := { name := "heapSizes", fn := fun _ => fun
  | [d] => { results := [.lit (.bool false)], args := [d] }
  | _ => none }
def HeapSizesWrongFalsely : Prop := heapSizesRow.holds Try.pinned (OpenSpec.ofChange heapSizesWrong)

/-- 'daguerrelaw14.CopyAll': WHATEVER THE INPUT: true; the input reads as it did. -/
def copyAllSpec : ChangeSpec := { name := "copyAll", fn := fun _ => fun
  | [d1, d2] => { results := [.lit (.bool true)], args := [d1, d2] }
  | _ => none }
def copyAllRow : OpenClaim := { program := "ytjjoelhemhnojaa", sum := "369db99ccc15f3230dc714a654c3dba2a30ef9ce59a44727f054577120ad2b86", func := "daguerre/daguerrelaw14.CopyAll", spec := "copyAll", unfollowed := true, recurses := true, apart := false }
def CopyAllSaid : Prop := copyAllRow.holds Try.pinned (OpenSpec.ofChange copyAllSpec)

/-- ITS FALSE NEIGHBOUR: 'it returns false'. Refute it at one input. -/
def copyAllWrong : ChangeSpec := { name := "copyAll", fn := fun _ => fun
  | [d1, d2] => { results := [.lit (.bool false)], args := [d1, d2] }
  | _ => none }
def CopyAllWrongFalsely : Prop := copyAllRow.holds Try.pinned (OpenSpec.ofChange copyAllWrong)

/-- 'daguerrelaw14.CopyTwice': WHATEVER THE INPUT: true; the input reads as it did. -/
def copyTwiceSpec : ChangeSpec := { name := "copyTwice", fn := fun _ => fun
  | [d1, d2] => { results := [.lit (.bool true)], args := [d1, d2] }
  | _ => none }
def copyTwiceRow : OpenClaim := { program := "ytjjoelhemhnojaa", sum := "369db99ccc15f3230dc714a654c3dba2a30ef9ce59a44727f054577120ad2b86", func := "daguerre/daguerrelaw14.CopyTwice", spec := "copyTwice", unfollowed := true, recurses := true, apart := false }
def CopyTwiceSaid : Prop := copyTwiceRow.holds Try.pinned (OpenSpec.ofChange copyTwiceSpec)

/-- ITS FALSE NEIGHBOUR: 'it returns false'. Refute it at one input. -/
def copyTwiceWrong : ChangeSpec := { name := "copyTwice", fn := fun _ => fun
  | [d1, d2] => { results := [.lit (.bool false)], args := [d1, d2] }
  | _ => none }
def CopyTwiceWrongFalsely : Prop := copyTwiceRow.holds Try.pinned (OpenSpec.ofChange copyTwiceWrong)

/-- 'daguerrelaw14.CopyWild': WHATEVER THE INPUT: true; the input reads as it did. -/
def copyWildSpec : ChangeSpec := { name := "copyWild", fn := fun _ => fun
  | [d1, d2, d3] => { results := [.lit (.bool true)], args := [d1, d2, d3] }
  | _ => none }
def copyWildRow : OpenClaim := { program := "ytjjoelhemhnojaa", sum := "369db99ccc15f3230dc714a654c3dba2a30ef9ce59a44727f054577120ad2b86", func := "daguerre/daguerrelaw14.CopyWild", spec := "copyWild", unfollowed := true, recurses := true, apart := false }
def CopyWildSaid : Prop := copyWildRow.holds Try.pinned (OpenSpec.ofChange copyWildSpec)

/-- ITS FALSE NEIGHBOUR: 'it returns false'. Refute it at one input. -/
def copyWildWrong : ChangeSpec := { name := "copyWild", fn := fun _ => fun
  | [d1, d2, d3] => { results := [.lit (.bool false)], args := [d1, d2, d3] }
  | _ => none }
def CopyWildWrongFalsely : Prop := copyWildRow.holds Try.pinned (OpenSpec.ofChange copyWildWrong)

/-- 'daguerrelaw14.CopyNone': WHATEVER THE INPUT: true; the input reads as it did. -/
def copyNoneSpec : ChangeSpec := { name := "copyNone", fn := fun _ => fun
  | [] => { results := [.lit (.bool true)], args := [] }
  | _ => none }
def copyNoneRow : OpenClaim := { program := "ytjjoelhemhnojaa", sum := "369db99ccc15f3230dc714a654c3dba2a30ef9ce59a44727f054577120ad2b86", func := "daguerre/daguerrelaw14.CopyNone", spec := "copyNone", unfollowed := true, recurses := true, apart := false }
def CopyNoneSaid : Prop := copyNoneRow.holds Try.pinned (OpenSpec.ofChange copyNoneSpec)

/-- ITS FALSE NEIGHBOUR: 'it returns false'. Refute it at one input. -/
def copyNoneWrong : ChangeSpec := { name := "copyNone", fn := fun _ => fun
  | [] => { results := [.lit (.bool false)], args := [] }
  | _ => none }
def CopyNoneWrongFalsely : Prop := copyNoneRow.holds Try.pinned (OpenSpec.ofChange copyNoneWrong)

/-- 'daguerrelaw14.CopyRing': WHATEVER THE INPUT: true; the input reads as it did. -/
def copyRingSpec : ChangeSpec := { name := "copyRing", fn := fun _ => fun
  | [d1, d2] => { results := [.lit (.bool true)], args := [d1, d2] }
  | _ => none }
def copyRingRow : OpenClaim := { program := "ytjjoelhemhnojaa", sum := "369db99ccc15f3230dc714a654c3dba2a30ef9ce59a44727f054577120ad2b86", func := "daguerre/daguerrelaw14.CopyRing", spec := "copyRing", unfollowed := true, recurses := true, apart := false }
def CopyRingSaid : Prop := copyRingRow.holds Try.pinned (OpenSpec.ofChange copyRingSpec)

/-- ITS FALSE NEIGHBOUR: 'it returns false'. Refute it at one input. -/
def copyRingWrong : ChangeSpec := { name := "copyRing", fn := fun _ => fun
  | [d1, d2] => { results := [.lit (.bool false)], args := [d1, d2] }
  | _ => none }
def CopyRingWrongFalsely : Prop := copyRingRow.holds Try.pinned (OpenSpec.ofChange copyRingWrong)

/-- 'daguerrelaw14.CopyShared': WHATEVER THE INPUT: true; the input reads as it did. -/
def copySharedSpec : ChangeSpec := { name := "copyShared", fn := fun _ => fun
  | [d] => { results := [.lit (.bool true)], args := [d] }
  | _ => none }
def copySharedRow : OpenClaim := { program := "ytjjoelhemhnojaa", sum := "369db99ccc15f3230dc714a654c3dba2a30ef9ce59a44727f054577120ad2b86", func := "daguerre/daguerrelaw14.CopyShared", spec := "copyShared", unfollowed := true, recurses := true, apart := false }
def CopySharedSaid : Prop := copySharedRow.holds Try.pinned (OpenSpec.ofChange copySharedSpec)

/-- ITS FALSE NEIGHBOUR: 'it returns false'. Refute it at one input. -/
def copySharedWrong : ChangeSpec := { name := "copyShared", fn := fun _ => fun
  | [d] => { results := [.lit (.bool false)], args := [d] }
  | _ => none }
def CopySharedWrongFalsely : Prop := copySharedRow.holds Try.pinned (OpenSpec.ofChange copySharedWrong)

/- THE SECOND FORM. 'bulk': how many values and letters a reading holds, each counted each time it is reached (what is shared counts as often as it is met; a slice's spare places count too). A statement '..UptoSaid' is the law's where the arguments, and the package variables that the reading takes, are together of bulk at most 1048576: NARROWER than '..Said'. Prove '..Said' where nothing that the law and all that it calls make is longer than what came in: it says more and counts as full. Else prove '..UptoSaid'. A law counts once. -/
mutual
def uptoBulk {H : Type} : DataW H → Nat
  | .lit (.string bytes) => bytes.length + 1
  | .lit _ => 1
  | .nil => 1
  | .ptr d => uptoBulk d + 1
  | .slice elems spare => uptoBulkAll elems + uptoBulkAll spare + 1
  | .agg parts => uptoBulkAll parts + 1
  | .iface _ d => uptoBulk d + 1
  | .map entries => uptoBulkEntries entries + 1
  | .held _ => 1
def uptoBulkAll {H : Type} : List (DataW H) → Nat
  | [] => 0
  | d :: r => uptoBulk d + uptoBulkAll r
def uptoBulkEntries {H : Type} : List (Lit × DataW H) → Nat
  | [] => 0
  | x :: r => uptoBulkEntry x + uptoBulkEntries r
def uptoBulkEntry {H : Type} : Lit × DataW H → Nat
  | (.string bytes, d) => bytes.length + uptoBulk d + 1
  | (_, d) => uptoBulk d + 1
 end
def uptoSmall : (H : Type) → List (DataW H) → Bool := fun _ ds => decide (uptoBulkAll ds ≤ 1048576)
def OpenSpec.upto (s : _root_.Go.ChangeSpec) : _root_.Go.OpenSpec := { _root_.Go.OpenSpec.ofChange s with cond := some uptoSmall }

/-- 'daguerrelaw13.HeapAll', WHERE WHAT IT READS IS OF BULK AT MOST 1048576: true; the input reads as it did. -/
def heapAllUptoRow : OpenClaim := { program := "ytjjoelhemhnojaa", sum := "369db99ccc15f3230dc714a654c3dba2a30ef9ce59a44727f054577120ad2b86", func := "daguerre/daguerrelaw13.HeapAll", spec := "heapAll", apart := false, narrowed := true }
def HeapAllUptoSaid : Prop := heapAllUptoRow.holds Try.pinned (OpenSpec.upto heapAllSpec)

/-- 'daguerrelaw13.HeapOf', WHERE WHAT IT READS IS OF BULK AT MOST 1048576: true; the input reads as it did. -/
def heapOfUptoRow : OpenClaim := { program := "ytjjoelhemhnojaa", sum := "369db99ccc15f3230dc714a654c3dba2a30ef9ce59a44727f054577120ad2b86", func := "daguerre/daguerrelaw13.HeapOf", spec := "heapOf", apart := false, narrowed := true }
def HeapOfUptoSaid : Prop := heapOfUptoRow.holds Try.pinned (OpenSpec.upto heapOfSpec)

/-- 'daguerrelaw13.HeapFull', WHERE WHAT IT READS IS OF BULK AT MOST 1048576: true; the input reads as it did. -/
def heapFullUptoRow : OpenClaim := { program := "ytjjoelhemhnojaa", sum := "369db99ccc15f3230dc714a654c3dba2a30ef9ce59a44727f054577120ad2b86", func := "daguerre/daguerrelaw13.HeapFull", spec := "heapFull", apart := false, narrowed := true }
def HeapFullUptoSaid : Prop := heapFullUptoRow.holds Try.pinned (OpenSpec.upto heapFullSpec)

/-- 'daguerrelaw13.HeapNone', WHERE WHAT IT READS IS OF BULK AT MOST 1048576: true; the input reads as it did. -/
def heapNoneUptoRow : OpenClaim := { program := "ytjjoelhemhnojaa", sum := "369db99ccc15f3230dc714a654c3dba2a30ef9ce59a44727f054577120ad2b86", func := "daguerre/daguerrelaw13.HeapNone", spec := "heapNone", apart := false, narrowed := true }
def HeapNoneUptoSaid : Prop := heapNoneUptoRow.holds Try.pinned (OpenSpec.upto heapNoneSpec)

/-- 'daguerrelaw13.HeapApart', WHERE WHAT IT READS IS OF BULK AT MOST 1048576: true; the input reads as it did. -/
def heapApartUptoRow : OpenClaim := { program := "ytjjoelhemhnojaa", sum := "369db99ccc15f3230dc714a654c3dba2a30ef9ce59a44727f054577120ad2b86", func := "daguerre/daguerrelaw13.HeapApart", spec := "heapApart", apart := false, narrowed := true }
def HeapApartUptoSaid : Prop := heapApartUptoRow.holds Try.pinned (OpenSpec.upto heapApartSpec)

/-- 'daguerrelaw13.HeapSizes', WHERE WHAT IT READS IS OF BULK AT MOST 1048576: true; the input reads as it did. -/
def heapSizesUptoRow : OpenClaim := { program := "ytjjoelhemhnojaa", sum := "369db99ccc15f3230dc714a654c3dba2a30ef9ce59a44727f054577120ad2b86", func := "daguerre/daguerrelaw13.HeapSizes", spec := "heapSizes", apart := false, narrowed := true }
def HeapSizesUptoSaid : Prop := heapSizesUptoRow.holds Try.pinned (OpenSpec.upto heapSizesSpec)

/-- 'daguerrelaw14.CopyAll', WHERE WHAT IT READS IS OF BULK AT MOST 1048576: true; the input reads as it did. -/
def copyAllUptoRow : OpenClaim := { program := "ytjjoelhemhnojaa", sum := "369db99ccc15f3230dc714a654c3dba2a30ef9ce59a44727f054577120ad2b86", func := "daguerre/daguerrelaw14.CopyAll", spec := "copyAll", unfollowed := true, recurses := true, apart := false, narrowed := true }
def CopyAllUptoSaid : Prop := copyAllUptoRow.holds Try.pinned (OpenSpec.upto copyAllSpec)

/-- 'daguerrelaw14.CopyTwice', WHERE WHAT IT READS IS OF BULK AT MOST 1048576: true; the input reads as it did. -/
def copyTwiceUptoRow : OpenClaim := { program := "ytjjoelhemhnojaa", sum := "369db99ccc15f3230dc714a654c3dba2a30ef9ce59a44727f054577120ad2b86", func := "daguerre/daguerrelaw14.CopyTwice", spec := "copyTwice", unfollowed := true, recurses := true, apart := false, narrowed := true }
def CopyTwiceUptoSaid : Prop := copyTwiceUptoRow.holds Try.pinned (OpenSpec.upto copyTwiceSpec)

/-- 'daguerrelaw14.CopyWild', WHERE WHAT IT READS IS OF BULK AT MOST 1048576: true; the input reads as it did. -/
def copyWildUptoRow : OpenClaim := { program := "ytjjoelhemhnojaa", sum := "369db99ccc15f3230dc714a654c3dba2a30ef9ce59a44727f054577120ad2b86", func := "daguerre/daguerrelaw14.CopyWild", spec := "copyWild", unfollowed := true, recurses := true, apart := false, narrowed := true }
def CopyWildUptoSaid : Prop := copyWildUptoRow.holds Try.pinned (OpenSpec.upto copyWildSpec)

/-- 'daguerrelaw14.CopyNone', WHERE WHAT IT READS IS OF BULK AT MOST 1048576: true; the input reads as it did. -/
def copyNoneUptoRow : OpenClaim := { program := "ytjjoelhemhnojaa", sum := "369db99ccc15f3230dc714a654c3dba2a30ef9ce59a44727f054577120ad2b86", func := "daguerre/daguerrelaw14.CopyNone", spec := "copyNone", unfollowed := true, recurses := true, apart := false, narrowed := true }
def CopyNoneUptoSaid : Prop := copyNoneUptoRow.holds Try.pinned (OpenSpec.upto copyNoneSpec)

/-- 'daguerrelaw14.CopyRing', WHERE WHAT IT READS IS OF BULK AT MOST 1048576: true; the input reads as it did. -/
def copyRingUptoRow : OpenClaim := { program := "ytjjoelhemhnojaa", sum := "369db99ccc15f3230dc714a654c3dba2a30ef9ce59a44727f054577120ad2b86", func := "daguerre/daguerrelaw14.CopyRing", spec := "copyRing", unfollowed := true, recurses := true, apart := false, narrowed := true }
def CopyRingUptoSaid : Prop := copyRingUptoRow.holds Try.pinned (OpenSpec.upto copyRingSpec)

/-- 'daguerrelaw14.CopyShared', WHERE WHAT IT READS IS OF BULK AT MOST 1048576: true; the input reads as it did. -/
def copySharedUptoRow : OpenClaim := { program := "ytjjoelhemhnojaa", sum := "369db99ccc15f3230dc714a654c3dba2a30ef9ce59a44727f054577120ad2b86", func := "daguerre/daguerrelaw14.CopyShared", spec := "copyShared", unfollowed := true, recurses := true, apart := false, narrowed := true }
def CopySharedUptoSaid : Prop := copySharedUptoRow.holds Try.pinned (OpenSpec.upto copySharedSpec)

end Rows
end Go.Proofs.Ytjjoelhemhnojaa
