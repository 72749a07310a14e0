/-
  No cell of these rows narrows 'for every input' (looked for: loops, veiled, ifaces, maps, wideKeys, modest, calm, conditions, laid).
  DERIVED. THE GIVEN ROWS OF THIS SEAT. 12 by the template 'for every input the law returns true; each argument reads behind the call as it read before'; 0 by the template 'total and deterministic' (their statements: YtppolhpigclbpaaTotals.lean).
  GIVEN WITH THE SEED: the statements are not yours to turn. If you find one false, say at which input.
  Laid BY PROGRAM, IN A SANDBOX (cutbox-rows.mjs): the forced cells as the released guide's own fill.sh prints them over the translation a20deb733114e9be… (all of the seat's roots in one cut). By AI agents, Wed Nov 11 2026. No macro, syntax, notation, axiom, sorry.
-/
import Derived.Test.YtppolhpigclbpaaChecked
import GoSem.Claim
import GoSem.ClaimJoined
import GoSem.ClaimMapViews
import Derived.JoinedTies
import Derived.KernelRfl
namespace Go.Proofs.Ytppolhpigclbpaa
/- THE CELL 'sum', in the pinned program and in every row, IS THE sha256 OF THE DUMP (.gsa) THAT YtppolhpigclbpaaProg.lean LOADS. Nothing in Lean hashes anything: it is a label: what it is worth is what the hold of that sum in a sandbox is worth. -/
noncomputable def Try.pinned : Pinned := { name := "ytppolhpigclbpaa", sum := "a20deb733114e9becfaeccb5760b720c061506645da378fac8f655cfc9c46396", checked := Try.checked }
namespace Rows
def none {H : Type} : Left H := { results := [], args := [] }

/-- 'daguerrelaw12.IntsAll': WHATEVER THE INPUT: true; the input reads as it did. -/
def intsAllSpec : ChangeSpec := { name := "intsAll", fn := fun _ => fun
  | [d1, d2, d3] => { results := [.lit (.bool true)], args := [d1, d2, d3] }
  | _ => none }
def intsAllRow : OpenClaim := { program := "ytppolhpigclbpaa", sum := "a20deb733114e9becfaeccb5760b720c061506645da378fac8f655cfc9c46396", func := "daguerre/daguerrelaw12.IntsAll", spec := "intsAll", apart := false }
def IntsAllSaid : Prop := intsAllRow.holds Try.pinned (OpenSpec.ofChange intsAllSpec)

/-- ITS FALSE NEIGHBOUR: 'it returns false'. Refute it at one input. -/
def intsAllWrong : ChangeSpec := { name := "intsAll", fn := fun _ => fun
  | [d1, d2, d3] => { results := [.lit (.bool false)], args := [d1, d2, d3] }
  | _ => none }
def IntsAllWrongFalsely : Prop := intsAllRow.holds Try.pinned (OpenSpec.ofChange intsAllWrong)

/-- 'daguerrelaw12.IntsEach': WHATEVER THE INPUT: true; the input reads as it did. -/
def intsEachSpec : ChangeSpec := { name := "intsEach", fn := fun _ => fun
  | [d1, d2] => { results := [.lit (.bool true)], args := [d1, d2] }
  | _ => none }
def intsEachRow : OpenClaim := { program := "ytppolhpigclbpaa", sum := "a20deb733114e9becfaeccb5760b720c061506645da378fac8f655cfc9c46396", func := "daguerre/daguerrelaw12.IntsEach", spec := "intsEach", apart := false }
def IntsEachSaid : Prop := intsEachRow.holds Try.pinned (OpenSpec.ofChange intsEachSpec)

/-- ITS FALSE NEIGHBOUR: 'it returns false'. Refute it at one input. -/
def intsEachWrong : ChangeSpec := { name := "intsEach", fn := fun _ => fun
  | [d1, d2] => { results := [.lit (.bool false)], args := [d1, d2] }
  | _ => none }
def IntsEachWrongFalsely : Prop := intsEachRow.holds Try.pinned (OpenSpec.ofChange intsEachWrong)

/-- 'daguerrelaw12.IntsLaws': WHATEVER THE INPUT: true; the input reads as it did. -/
def intsLawsSpec : ChangeSpec := { name := "intsLaws", fn := fun _ => fun
  | [d1, d2] => { results := [.lit (.bool true)], args := [d1, d2] }
  | _ => none }
def intsLawsRow : OpenClaim := { program := "ytppolhpigclbpaa", sum := "a20deb733114e9becfaeccb5760b720c061506645da378fac8f655cfc9c46396", func := "daguerre/daguerrelaw12.IntsLaws", spec := "intsLaws", apart := false }
def IntsLawsSaid : Prop := intsLawsRow.holds Try.pinned (OpenSpec.ofChange intsLawsSpec)

/-- ITS FALSE NEIGHBOUR: 'it returns false'. Refute it at one input. -/
def intsLawsWrong : ChangeSpec := { name := "intsLaws", fn := fun _ => fun
  | [d1, d2] => { results := [.lit (.bool false)], args := [d1, d2] }
  | _ => none }
def IntsLawsWrongFalsely : Prop := intsLawsRow.holds Try.pinned (OpenSpec.ofChange intsLawsWrong)

/-- 'daguerrelaw12.IntsShift': WHATEVER THE INPUT: true; the input reads as it did. -/
def intsShiftSpec : ChangeSpec := { name := "intsShift", fn := fun _ => fun
  | [d1, d2] => { results := [.lit (.bool true)], args := [d1, d2] }
  | _ => none }
def intsShiftRow : OpenClaim := { program := "ytppolhpigclbpaa", sum := "a20deb733114e9becfaeccb5760b720c061506645da378fac8f655cfc9c46396", func := "daguerre/daguerrelaw12.IntsShift", spec := "intsShift", apart := false }
def IntsShiftSaid : Prop := intsShiftRow.holds Try.pinned (OpenSpec.ofChange intsShiftSpec)

/-- ITS FALSE NEIGHBOUR: 'it returns false'. Refute it at one input. -/
def intsShiftWrong : ChangeSpec := { name := "intsShift", fn := fun _ => fun
  | [d1, d2] => { results := [.lit (.bool false)], args := [d1, d2] }
  | _ => none }
def IntsShiftWrongFalsely : Prop := intsShiftRow.holds Try.pinned (OpenSpec.ofChange intsShiftWrong)

/-- 'daguerrelaw12.IntsOrder': WHATEVER THE INPUT: true; the input reads as it did. -/
def intsOrderSpec : ChangeSpec := { name := "intsOrder", fn := fun _ => fun
  | [d1, d2] => { results := [.lit (.bool true)], args := [d1, d2] }
  | _ => none }
def intsOrderRow : OpenClaim := { program := "ytppolhpigclbpaa", sum := "a20deb733114e9becfaeccb5760b720c061506645da378fac8f655cfc9c46396", func := "daguerre/daguerrelaw12.IntsOrder", spec := "intsOrder", apart := false }
def IntsOrderSaid : Prop := intsOrderRow.holds Try.pinned (OpenSpec.ofChange intsOrderSpec)

/-- ITS FALSE NEIGHBOUR: 'it returns false'. Refute it at one input. -/
def intsOrderWrong : ChangeSpec := { name := "intsOrder", fn := fun _ => fun
  | [d1, d2] => { results := [.lit (.bool false)], args := [d1, d2] }
  | _ => none }
def IntsOrderWrongFalsely : Prop := intsOrderRow.holds Try.pinned (OpenSpec.ofChange intsOrderWrong)

/-- 'daguerrelaw15.FrameRefs': WHATEVER THE INPUT: true; the input reads as it did. -/
def frameRefsSpec : ChangeSpec := { name := "frameRefs", fn := fun _ => fun
  | [d1, d2, d3] => { results := [.lit (.bool true)], args := [d1, d2, d3] }
  | _ => none }
def frameRefsRow : OpenClaim := { program := "ytppolhpigclbpaa", sum := "a20deb733114e9becfaeccb5760b720c061506645da378fac8f655cfc9c46396", func := "daguerre/daguerrelaw15.FrameRefs", spec := "frameRefs", apart := false }
def FrameRefsSaid : Prop := frameRefsRow.holds Try.pinned (OpenSpec.ofChange frameRefsSpec)

/-- ITS FALSE NEIGHBOUR: 'it returns false'. Refute it at one input. -/
def frameRefsWrong : ChangeSpec := { name := "frameRefs", fn := fun _ => fun
  | [d1, d2, d3] => { results := [.lit (.bool false)], args := [d1, d2, d3] }
  | _ => none }
def FrameRefsWrongFalsely : Prop := frameRefsRow.holds Try.pinned (OpenSpec.ofChange frameRefsWrong)

/-- 'daguerrelaw15.FrameAll': WHATEVER THE INPUT: true; the input reads as it did. -/
def frameAllSpec : ChangeSpec := { name := "frameAll", fn := fun _ => fun
  | [d1, d2, d3, d4, d5] => { results := [.lit (.bool true)], args := [d1, d2, d3, d4, d5] }
  | _ => none }
def frameAllRow : OpenClaim := { program := "ytppolhpigclbpaa", sum := "a20deb733114e9becfaeccb5760b720c061506645da378fac8f655cfc9c46396", func := "daguerre/daguerrelaw15.FrameAll", spec := "frameAll", apart := false }
def FrameAllSaid : Prop := frameAllRow.holds Try.pinned (OpenSpec.ofChange frameAllSpec)

/-- ITS FALSE NEIGHBOUR: 'it returns false'. Refute it at one input. -/
def frameAllWrong : ChangeSpec := { name := "frameAll", fn := fun _ => fun
  | [d1, d2, d3, d4, d5] => { results := [.lit (.bool false)], args := [d1, d2, d3, d4, d5] }
  | _ => none }
def FrameAllWrongFalsely : Prop := frameAllRow.holds Try.pinned (OpenSpec.ofChange frameAllWrong)

/-- 'daguerrelaw15.FrameNone': WHATEVER THE INPUT: true; the input reads as it did. -/
def frameNoneSpec : ChangeSpec := { name := "frameNone", fn := fun _ => fun
  | [] => { results := [.lit (.bool true)], args := [] }
  | _ => none }
def frameNoneRow : OpenClaim := { program := "ytppolhpigclbpaa", sum := "a20deb733114e9becfaeccb5760b720c061506645da378fac8f655cfc9c46396", func := "daguerre/daguerrelaw15.FrameNone", spec := "frameNone", apart := false }
def FrameNoneSaid : Prop := frameNoneRow.holds Try.pinned (OpenSpec.ofChange frameNoneSpec)

/-- ITS FALSE NEIGHBOUR: 'it returns false'. Refute it at one input. -/
def frameNoneWrong : ChangeSpec := { name := "frameNone", fn := fun _ => fun
  | [] => { results := [.lit (.bool false)], args := [] }
  | _ => none }
def FrameNoneWrongFalsely : Prop := frameNoneRow.holds Try.pinned (OpenSpec.ofChange frameNoneWrong)

/-- 'daguerrelaw18.PileAll': WHATEVER THE INPUT: true; the input reads as it did. -/
def pileAllSpec : ChangeSpec := { name := "pileAll", fn := fun _ => fun
  | [d] => { results := [.lit (.bool true)], args := [d] }
  | _ => none }
def pileAllRow : OpenClaim := { program := "ytppolhpigclbpaa", sum := "a20deb733114e9becfaeccb5760b720c061506645da378fac8f655cfc9c46396", func := "daguerre/daguerrelaw18.PileAll", spec := "pileAll", unfollowed := true, recurses := true, apart := false }
def PileAllSaid : Prop := pileAllRow.holds Try.pinned (OpenSpec.ofChange pileAllSpec)

/-- ITS FALSE NEIGHBOUR: 'it returns false'. Refute it at one input. -/
def pileAllWrong : ChangeSpec := { name := "pileAll", fn := fun _ => fun
  | [d] => { results := [.lit (.bool false)], args := [d] }
  | _ => none }
def PileAllWrongFalsely : Prop := pileAllRow.holds Try.pinned (OpenSpec.ofChange pileAllWrong)

/-- 'daguerrelaw18.PileSorted': WHATEVER THE INPUT: true; the input reads as it did. -/
def pileSortedSpec : ChangeSpec := { name := "pileSorted", fn := fun _ => fun
  | [d] => { results := [.lit (.bool true)], args := [d] }
  | _ => none }
def pileSortedRow : OpenClaim := { program := "ytppolhpigclbpaa", sum := "a20deb733114e9becfaeccb5760b720c061506645da378fac8f655cfc9c46396", func := "daguerre/daguerrelaw18.PileSorted", spec := "pileSorted", unfollowed := true, recurses := true, apart := false }
def PileSortedSaid : Prop := pileSortedRow.holds Try.pinned (OpenSpec.ofChange pileSortedSpec)

/-- ITS FALSE NEIGHBOUR: 'it returns false'. Refute it at one input. -/
def pileSortedWrong : ChangeSpec := { name := "pileSorted", fn := fun _ => fun
  | [d] => { results := [.lit (.bool false)], args := [d] }
  | _ => none }
def PileSortedWrongFalsely : Prop := pileSortedRow.holds Try.pinned (OpenSpec.ofChange pileSortedWrong)

/-- 'daguerrelaw18.PileNone': WHATEVER THE INPUT: true; the input reads as it did. -/
def pileNoneSpec : ChangeSpec := { name := "pileNone", fn := fun _ => fun
  | [] => { results := [.lit (.bool true)], args := [] }
  | _ => none }
def pileNoneRow : OpenClaim := { program := "ytppolhpigclbpaa", sum := "a20deb733114e9becfaeccb5760b720c061506645da378fac8f655cfc9c46396", func := "daguerre/daguerrelaw18.PileNone", spec := "pileNone", unfollowed := true, recurses := true, apart := false }
def PileNoneSaid : Prop := pileNoneRow.holds Try.pinned (OpenSpec.ofChange pileNoneSpec)

/-- ITS FALSE NEIGHBOUR: 'it returns false'. Refute it at one input. -/
def pileNoneWrong : ChangeSpec := { name := "pileNone", fn := fun _ => fun
  | [] => { results := [.lit (.bool false)], args := [] }
  | _ => none }
def PileNoneWrongFalsely : Prop := pileNoneRow.holds Try.pinned (OpenSpec.ofChange pileNoneWrong)

/-- 'daguerrelaw18.PileRanks': WHATEVER THE INPUT: true; the input reads as it did. -/
def pileRanksSpec : ChangeSpec := { name := "pileRanks", fn := fun _ => fun
  | [d] => { results := [.lit (.bool true)], args := [d] }
  | _ => none }
def pileRanksRow : OpenClaim := { program := "ytppolhpigclbpaa", sum := "a20deb733114e9becfaeccb5760b720c061506645da378fac8f655cfc9c46396", func := "daguerre/daguerrelaw18.PileRanks", spec := "pileRanks", unfollowed := true, recurses := true, apart := false }
def PileRanksSaid : Prop := pileRanksRow.holds Try.pinned (OpenSpec.ofChange pileRanksSpec)

/-- ITS FALSE NEIGHBOUR: 'it returns false'. Refute it at one input. -/
def pileRanksWrong : ChangeSpec := { name := "pileRanks", fn := fun _ => fun
  | [d] => { results := [.lit (.bool false)], args := [d] }
  | _ => none }
def PileRanksWrongFalsely : Prop := pileRanksRow.holds Try.pinned (OpenSpec.ofChange pileRanksWrong)

/- THE SECOND FORM. 'bulk': how many values and letters a reading holds, each counted each time it is reached (what is shared counts as often as it is met; a slice's spare places count too). A statement '..UptoSaid' is the law's where the arguments, and the package variables that the reading takes, are together of bulk at most 1048576: NARROWER than '..Said'. Prove '..Said' where nothing that the law and all that it calls make is longer than what came in: it says more and counts as full. Else prove '..UptoSaid'. A law counts once. -/
mutual
def uptoBulk {H : Type} : DataW H → Nat
  | .lit (.string bytes) => bytes.length + 1
  | .lit _ => 1
  | .nil => 1
  | .ptr d => uptoBulk d + 1
  | .slice elems spare => uptoBulkAll elems + uptoBulkAll spare + 1
  | .agg parts => uptoBulkAll parts + 1
  | .iface _ d => uptoBulk d + 1
  | .map entries => uptoBulkEntries entries + 1
  | .held _ => 1
def uptoBulkAll {H : Type} : List (DataW H) → Nat
  | [] => 0
  | d :: r => uptoBulk d + uptoBulkAll r
def uptoBulkEntries {H : Type} : List (Lit × DataW H) → Nat
  | [] => 0
  | x :: r => uptoBulkEntry x + uptoBulkEntries r
def uptoBulkEntry {H : Type} : Lit × DataW H → Nat
  | (.string bytes, d) => bytes.length + uptoBulk d + 1
  | (_, d) => uptoBulk d + 1
 end
def uptoSmall : (H : Type) → List (DataW H) → Bool := fun _ ds => decide (uptoBulkAll ds ≤ 1048576)
def OpenSpec.upto (s : _root_.Go.ChangeSpec) : _root_.Go.OpenSpec := { _root_.Go.OpenSpec.ofChange s with cond := some uptoSmall }

/-- 'daguerrelaw12.IntsAll', WHERE WHAT IT READS IS OF BULK AT MOST 1048576: true; the input reads as it did. -/
def intsAllUptoRow : OpenClaim := { program := "ytppolhpigclbpaa", sum := "a20deb733114e9becfaeccb5760b720c061506645da378fac8f655cfc9c46396", func := "daguerre/daguerrelaw12.IntsAll", spec := "intsAll", apart := false, narrowed := true }
def IntsAllUptoSaid : Prop := intsAllUptoRow.holds Try.pinned (OpenSpec.upto intsAllSpec)

/-- 'daguerrelaw12.IntsEach', WHERE WHAT IT READS IS OF BULK AT MOST 1048576: true; the input reads as it did. -/
def intsEachUptoRow : OpenClaim := { program := "ytppolhpigclbpaa", sum := "a20deb733114e9becfaeccb5760b720c061506645da378fac8f655cfc9c46396", func := "daguerre/daguerrelaw12.IntsEach", spec := "intsEach", apart := false, narrowed := true }
def IntsEachUptoSaid : Prop := intsEachUptoRow.holds Try.pinned (OpenSpec.upto intsEachSpec)

/-- 'daguerrelaw12.IntsLaws', WHERE WHAT IT READS IS OF BULK AT MOST 1048576: true; the input reads as it did. -/
def intsLawsUptoRow : OpenClaim := { program := "ytppolhpigclbpaa", sum := "a20deb733114e9becfaeccb5760b720c061506645da378fac8f655cfc9c46396", func := "daguerre/daguerrelaw12.IntsLaws", spec := "intsLaws", apart := false, narrowed := true }
def IntsLawsUptoSaid : Prop := intsLawsUptoRow.holds Try.pinned (OpenSpec.upto intsLawsSpec)

/-- 'daguerrelaw12.IntsShift', WHERE WHAT IT READS IS OF BULK AT MOST 1048576: true; the input reads as it did. -/
def intsShiftUptoRow : OpenClaim := { program := "ytppolhpigclbpaa", sum := "a20deb733114e9becfaeccb5760b720c061506645da378fac8f655cfc9c46396", func := "daguerre/daguerrelaw12.IntsShift", spec := "intsShift", apart := false, narrowed := true }
def IntsShiftUptoSaid : Prop := intsShiftUptoRow.holds Try.pinned (OpenSpec.upto intsShiftSpec)

/-- 'daguerrelaw12.IntsOrder', WHERE WHAT IT READS IS OF BULK AT MOST 1048576: true; the input reads as it did. -/
def intsOrderUptoRow : OpenClaim := { program := "ytppolhpigclbpaa", sum := "a20deb733114e9becfaeccb5760b720c061506645da378fac8f655cfc9c46396", func := "daguerre/daguerrelaw12.IntsOrder", spec := "intsOrder", apart := false, narrowed := true }
def IntsOrderUptoSaid : Prop := intsOrderUptoRow.holds Try.pinned (OpenSpec.upto intsOrderSpec)

/-- 'daguerrelaw15.FrameRefs', WHERE WHAT IT READS IS OF BULK AT MOST 1048576: true; the input reads as it did. -/
def frameRefsUptoRow : OpenClaim := { program := "ytppolhpigclbpaa", sum := "a20deb733114e9becfaeccb5760b720c061506645da378fac8f655cfc9c46396", func := "daguerre/daguerrelaw15.FrameRefs", spec := "frameRefs", apart := false, narrowed := true }
def FrameRefsUptoSaid : Prop := frameRefsUptoRow.holds Try.pinned (OpenSpec.upto frameRefsSpec)

/-- 'daguerrelaw15.FrameAll', WHERE WHAT IT READS IS OF BULK AT MOST 1048576: true; the input reads as it did. -/
def frameAllUptoRow : OpenClaim := { program := "ytppolhpigclbpaa", sum := "a20deb733114e9becfaeccb5760b720c061506645da378fac8f655cfc9c46396", func := "daguerre/daguerrelaw15.FrameAll", spec := "frameAll", apart := false, narrowed := true }
def FrameAllUptoSaid : Prop := frameAllUptoRow.holds Try.pinned (OpenSpec.upto frameAllSpec)

/-- 'daguerrelaw15.FrameNone', WHERE WHAT IT READS IS OF BULK AT MOST 1048576: true; the input reads as it did. -/
def frameNoneUptoRow : OpenClaim := { program := "ytppolhpigclbpaa", sum := "a20deb733114e9becfaeccb5760b720c061506645da378fac8f655cfc9c46396", func := "daguerre/daguerrelaw15.FrameNone", spec := "frameNone", apart := false, narrowed := true }
def FrameNoneUptoSaid : Prop := frameNoneUptoRow.holds Try.pinned (OpenSpec.upto frameNoneSpec)

/-- 'daguerrelaw18.PileAll', WHERE WHAT IT READS IS OF BULK AT MOST 1048576: true; the input reads as it did. -/
def pileAllUptoRow : OpenClaim := { program := "ytppolhpigclbpaa", sum := "a20deb733114e9becfaeccb5760b720c061506645da378fac8f655cfc9c46396", func := "daguerre/daguerrelaw18.PileAll", spec := "pileAll", unfollowed := true, recurses := true, apart := false, narrowed := true }
def PileAllUptoSaid : Prop := pileAllUptoRow.holds Try.pinned (OpenSpec.upto pileAllSpec)

/-- 'daguerrelaw18.PileSorted', WHERE WHAT IT READS IS OF BULK AT MOST 1048576: true; the input reads as it did. -/
def pileSortedUptoRow : OpenClaim := { program := "ytppolhpigclbpaa", sum := "a20deb733114e9becfaeccb5760b720c061506645da378fac8f655cfc9c46396", func := "daguerre/daguerrelaw18.PileSorted", spec := "pileSorted", unfollowed := true, recurses := true, apart := false, narrowed := true }
def PileSortedUptoSaid : Prop := pileSortedUptoRow.holds Try.pinned (OpenSpec.upto pileSortedSpec)

/-- 'daguerrelaw18.PileNone', WHERE WHAT IT READS IS OF BULK AT MOST 1048576: true; the input reads as it did. -/
def pileNoneUptoRow : OpenClaim := { program := "ytppolhpigclbpaa", sum := "a20deb733114e9becfaeccb5760b720c061506645da378fac8f655cfc9c46396", func := "daguerre/daguerrelaw18.PileNone", spec := "pileNone", unfollowed := true, recurses := true, apart := false, narrowed := true }
def PileNoneUptoSaid : Prop := pileNoneUptoRow.holds Try.pinned (OpenSpec.upto pileNoneSpec)

/-- 'daguerrelaw18.PileRanks', WHERE WHAT IT READS IS OF BULK AT MOST 1048576: true; the input reads as it did. -/
def pileRanksUptoRow : OpenClaim := { program := "ytppolhpigclbpaa", sum := "a20deb733114e9becfaeccb5760b720c061506645da378fac8f655cfc9c46396", func := "daguerre/daguerrelaw18.PileRanks", spec := "pileRanks", unfollowed := true, recurses := true, apart := false, narrowed := true }
def PileRanksUptoSaid : Prop := pileRanksUptoRow.holds Try.pinned (OpenSpec.upto pileRanksSpec)

end Rows
end Go.Proofs.Ytppolhpigclbpaa
