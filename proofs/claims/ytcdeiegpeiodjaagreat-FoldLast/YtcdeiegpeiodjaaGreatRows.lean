/-
  No cell of these rows narrows 'for every input' (looked for: loops, veiled, ifaces, maps, wideKeys, modest, calm, conditions, laid).
  DERIVED. THE GIVEN ROWS OF THIS SEAT. 3 by the template 'for every input the law returns true; each argument reads behind the call as it read before'; 0 by the template 'total and deterministic' (their statements: YtcdeiegpeiodjaaGreatTotals.lean).
  GIVEN WITH THE SEED: the statements are not yours to turn. If you find one false, say at which input.
  Laid BY PROGRAM, IN A SANDBOX (cutbox-rows.mjs): the forced cells as the released guide's own fill.sh prints them over the translation 7c9709aea8a0f710… (all of the seat's roots in one cut). By AI agents, Wed Nov 11 2026. No macro, syntax, notation, axiom, sorry.
-/
import Derived.Test.YtcdeiegpeiodjaaGreatChecked
import GoSem.Claim
import GoSem.ClaimJoined
import GoSem.ClaimMapViews
import Derived.JoinedTies
import Derived.KernelRfl
namespace Go.Proofs.YtcdeiegpeiodjaaGreat
/- THE CELL 'sum', in the pinned program and in every row, IS THE sha256 OF THE DUMP (.gsa) THAT YtcdeiegpeiodjaaGreatProg.lean LOADS. Nothing in Lean hashes anything: it is a label: what it is worth is what the hold of that sum in a sandbox is worth. -/
noncomputable def Tryz.pinned : Pinned := { name := "ytcdeiegpeiodjaagreat", sum := "7c9709aea8a0f71014849d470771a113d1924da385a9b708c722832823401b0a", checked := Tryz.checked }
namespace Rows
def none {H : Type} : Left H := { results := [], args := [] }

/-- 'typeballlaw09.CutMasks': WHATEVER THE INPUT: true; the input reads as it did. -/
def cutMasksSpec : ChangeSpec := { name := "cutMasks", fn := fun _ => fun
  | [d1, d2, d3] => { results := [.lit (.bool true)], args := [d1, d2, d3] }
  | _ => none }
def cutMasksRow : OpenClaim := { program := "ytcdeiegpeiodjaagreat", sum := "7c9709aea8a0f71014849d470771a113d1924da385a9b708c722832823401b0a", func := "typeball/typeballlaw09.CutMasks", spec := "cutMasks", unfollowed := true, recurses := true, apart := false }
def CutMasksSaid : Prop := cutMasksRow.holds Tryz.pinned (OpenSpec.ofChange cutMasksSpec)

/-- ITS FALSE NEIGHBOUR: 'it returns false'. Refute it at one input. -/
def cutMasksWrong : ChangeSpec := { name := "cutMasks", fn := fun _ => fun
  | [d1, d2, d3] => { results := [.lit (.bool false)], args := [d1, d2, d3] }
  | _ => none }
def CutMasksWrongFalsely : Prop := cutMasksRow.holds Tryz.pinned (OpenSpec.ofChange cutMasksWrong)

/-- 'typeballlaw09.CutParts': WHATEVER THE INPUT: true; the input reads as it did. -/
def cutPartsSpec : ChangeSpec := { name := "cutParts", fn := fun _ => fun
  | [d1, d2] => { results := [.lit (.bool true)], args := [d1, d2] }
  | _ => none }
def cutPartsRow : OpenClaim := { program := "ytcdeiegpeiodjaagreat", sum := "7c9709aea8a0f71014849d470771a113d1924da385a9b708c722832823401b0a", func := "typeball/typeballlaw09.CutParts", spec := "cutParts", unfollowed := true, recurses := true, apart := false }
def CutPartsSaid : Prop := cutPartsRow.holds Tryz.pinned (OpenSpec.ofChange cutPartsSpec)

/-- ITS FALSE NEIGHBOUR: 'it returns false'. Refute it at one input. -/
def cutPartsWrong : ChangeSpec := { name := "cutParts", fn := fun _ => fun
  | [d1, d2] => { results := [.lit (.bool false)], args := [d1, d2] }
  | _ => none }
def CutPartsWrongFalsely : Prop := cutPartsRow.holds Tryz.pinned (OpenSpec.ofChange cutPartsWrong)

/-- 'typeballlaw19.FoldLast': WHATEVER THE INPUT: true; the input reads as it did. -/
def foldLastSpec : ChangeSpec := { name := "foldLast", fn := fun _ => fun
  | [d1, d2] => { results := [.lit (.bool true)], args := [d1, d2] }
  | _ => none }
def foldLastRow : OpenClaim := { program := "ytcdeiegpeiodjaagreat", sum := "7c9709aea8a0f71014849d470771a113d1924da385a9b708c722832823401b0a", func := "typeball/typeballlaw19.FoldLast", spec := "foldLast", unfollowed := true, recurses := true, apart := false }
def FoldLastSaid : Prop := foldLastRow.holds Tryz.pinned (OpenSpec.ofChange foldLastSpec)

/-- ITS FALSE NEIGHBOUR: 'it returns false'. Refute it at one input. -/
def foldLastWrong : ChangeSpec := { name := "foldLast", fn := fun _ => fun
  | [d1, d2] => { results := [.lit (.bool false)], args := [d1, d2] }
  | _ => none }
def FoldLastWrongFalsely : Prop := foldLastRow.holds Tryz.pinned (OpenSpec.ofChange foldLastWrong)

/- THE SECOND FORM. 'bulk': how many values and letters a reading holds, each counted each time it is reached (what is shared counts as often as it is met; a slice's spare places count too). A statement '..UptoSaid' is the law's where the arguments, and the package variables that the reading takes, are together of bulk at most 1048576: NARROWER than '..Said'. Prove '..Said' where nothing that the law and all that it calls make is longer than what came in: it says more and counts as full. Else prove '..UptoSaid'. A law counts once. -/
mutual
def uptoBulk {H : Type} : DataW H → Nat
  | .lit (.string bytes) => bytes.length + 1
  | .lit _ => 1
  | .nil => 1
  | .ptr d => uptoBulk d + 1
  | .slice elems spare => uptoBulkAll elems + uptoBulkAll spare + 1
  | .agg parts => uptoBulkAll parts + 1
  | .iface _ d => uptoBulk d + 1
  | .map entries => uptoBulkEntries entries + 1
  | .held _ => 1
def uptoBulkAll {H : Type} : List (DataW H) → Nat
  | [] => 0
  | d :: r => uptoBulk d + uptoBulkAll r
def uptoBulkEntries {H : Type} : List (Lit × DataW H) → Nat
  | [] => 0
  | x :: r => uptoBulkEntry x + uptoBulkEntries r
def uptoBulkEntry {H : Type} : Lit × DataW H → Nat
  | (.string bytes, d) => bytes.length + uptoBulk d + 1
  | (_, d) => uptoBulk d + 1
 end
def uptoSmall : (H : Type) → List (DataW H) → Bool := fun _ ds => decide (uptoBulkAll ds ≤ 1048576)
def OpenSpec.upto (s : _root_.Go.ChangeSpec) : _root_.Go.OpenSpec := { _root_.Go.OpenSpec.ofChange s with cond := some uptoSmall }

/-- 'typeballlaw09.CutMasks', WHERE WHAT IT READS IS OF BULK AT MOST 1048576: true; the input reads as it did. -/
def cutMasksUptoRow : OpenClaim := { program := "ytcdeiegpeiodjaagreat", sum := "7c9709aea8a0f71014849d470771a113d1924da385a9b708c722832823401b0a", func := "typeball/typeballlaw09.CutMasks", spec := "cutMasks", unfollowed := true, recurses := true, apart := false, narrowed := true }
def CutMasksUptoSaid : Prop := cutMasksUptoRow.holds Tryz.pinned (OpenSpec.upto cutMasksSpec)

/-- 'typeballlaw09.CutParts', WHERE WHAT IT READS IS OF BULK AT MOST 1048576: true; the input reads as it did. -/
def cutPartsUptoRow : OpenClaim := { program := "ytcdeiegpeiodjaagreat", sum := "7c9709aea8a0f71014849d470771a113d1924da385a9b708c722832823401b0a", func := "typeball/typeballlaw09.CutParts", spec := "cutParts", unfollowed := true, recurses := true, apart := false, narrowed := true }
def CutPartsUptoSaid : Prop := cutPartsUptoRow.holds Tryz.pinned (OpenSpec.upto cutPartsSpec)

/-- 'typeballlaw19.FoldLast', WHERE WHAT IT READS IS OF BULK AT MOST 1048576: true; the input reads as it did. -/
def foldLastUptoRow : OpenClaim := { program := "ytcdeiegpeiodjaagreat", sum := "7c9709aea8a0f71014849d470771a113d1924da385a9b708c722832823401b0a", func := "typeball/typeballlaw19.FoldLast", spec := "foldLast", unfollowed := true, recurses := true, apart := false, narrowed := true }
def FoldLastUptoSaid : Prop := foldLastUptoRow.holds Tryz.pinned (OpenSpec.upto foldLastSpec)

end Rows
end Go.Proofs.YtcdeiegpeiodjaaGreat
