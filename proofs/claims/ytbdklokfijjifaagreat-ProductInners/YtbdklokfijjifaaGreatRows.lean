/-
  No cell of these rows narrows 'for every input' (looked for: loops, veiled, ifaces, maps, wideKeys, modest, calm, conditions, laid).
  DERIVED. THE GIVEN ROWS OF THIS SEAT. 6 by the template 'for every input the law returns true; each argument reads behind the call as it read before'; 0 by the template 'total and deterministic' (their statements: YtbdklokfijjifaaGreatTotals.lean).
  GIVEN WITH THE SEED: the statements are not yours to turn. If you find one false, say at which input.
  Laid BY PROGRAM, IN A SANDBOX (cutbox-rows.mjs): the forced cells as the released guide's own fill.sh prints them over the translation b0d995b7ba7562a1… (all of the seat's roots in one cut). By AI agents, Wed Nov 11 2026. No macro, syntax, notation, axiom, sorry.
-/
import Derived.Test.YtbdklokfijjifaaGreatChecked
import GoSem.Claim
import GoSem.ClaimJoined
import GoSem.ClaimMapViews
import Derived.JoinedTies
import Derived.KernelRfl
namespace Go.Proofs.YtbdklokfijjifaaGreat
/- THE CELL 'sum', in the pinned program and in every row, IS THE sha256 OF THE DUMP (.gsa) THAT YtbdklokfijjifaaGreatProg.lean LOADS. Nothing in Lean hashes anything: it is a label: what it is worth is what the hold of that sum in a sandbox is worth. -/
noncomputable def Tryz.pinned : Pinned := { name := "ytbdklokfijjifaagreat", sum := "b0d995b7ba7562a15f9d65debef244d1ef3af8cbadc77dd81be949afb706fc2a", checked := Tryz.checked }
namespace Rows
def none {H : Type} : Left H := { results := [], args := [] }

/-- 'typeballlaw19.FoldUnits': WHATEVER THE INPUT: true; the input reads as it did. -/
def foldUnitsSpec : ChangeSpec := { name := "foldUnits", fn := fun _ => fun
  | [d] => { results := [.lit (.bool true)], args := [d] }
  | _ => none }
def foldUnitsRow : OpenClaim := { program := "ytbdklokfijjifaagreat", sum := "b0d995b7ba7562a15f9d65debef244d1ef3af8cbadc77dd81be949afb706fc2a", func := "typeball/typeballlaw19.FoldUnits", spec := "foldUnits", apart := false }
def FoldUnitsSaid : Prop := foldUnitsRow.holds Tryz.pinned (OpenSpec.ofChange foldUnitsSpec)

/-- ITS FALSE NEIGHBOUR: 'it returns false'. Refute it at one input. -/
def foldUnitsWrong : ChangeSpec := { name := "foldUnits", fn := fun _ => fun
  | [d] => { results := [.lit (.bool false)], args := [d] }
  | _ => none }
def FoldUnitsWrongFalsely : Prop := foldUnitsRow.holds Tryz.pinned (OpenSpec.ofChange foldUnitsWrong)

/-- 'typeballlaw19.FoldJoins': WHATEVER THE INPUT: true; the input reads as it did. -/
def foldJoinsSpec : ChangeSpec := { name := "foldJoins", fn := fun _ => fun
  | [d1, d2] => { results := [.lit (.bool true)], args := [d1, d2] }
  | _ => none }
def foldJoinsRow : OpenClaim := { program := "ytbdklokfijjifaagreat", sum := "b0d995b7ba7562a15f9d65debef244d1ef3af8cbadc77dd81be949afb706fc2a", func := "typeball/typeballlaw19.FoldJoins", spec := "foldJoins", apart := false }
def FoldJoinsSaid : Prop := foldJoinsRow.holds Tryz.pinned (OpenSpec.ofChange foldJoinsSpec)

/-- ITS FALSE NEIGHBOUR: 'it returns false'. Refute it at one input. -/
def foldJoinsWrong : ChangeSpec := { name := "foldJoins", fn := fun _ => fun
  | [d1, d2] => { results := [.lit (.bool false)], args := [d1, d2] }
  | _ => none }
def FoldJoinsWrongFalsely : Prop := foldJoinsRow.holds Tryz.pinned (OpenSpec.ofChange foldJoinsWrong)

/-- 'typeballlaw19.FoldReduces': WHATEVER THE INPUT: true; the input reads as it did. -/
def foldReducesSpec : ChangeSpec := { name := "foldReduces", fn := fun _ => fun
  | [d1, d2, d3] => { results := [.lit (.bool true)], args := [d1, d2, d3] }
  | _ => none }
def foldReducesRow : OpenClaim := { program := "ytbdklokfijjifaagreat", sum := "b0d995b7ba7562a15f9d65debef244d1ef3af8cbadc77dd81be949afb706fc2a", func := "typeball/typeballlaw19.FoldReduces", spec := "foldReduces", apart := false }
def FoldReducesSaid : Prop := foldReducesRow.holds Tryz.pinned (OpenSpec.ofChange foldReducesSpec)

/-- ITS FALSE NEIGHBOUR: 'it returns false'. Refute it at one input. -/
def foldReducesWrong : ChangeSpec := { name := "foldReduces", fn := fun _ => fun
  | [d1, d2, d3] => { results := [.lit (.bool false)], args := [d1, d2, d3] }
  | _ => none }
def FoldReducesWrongFalsely : Prop := foldReducesRow.holds Tryz.pinned (OpenSpec.ofChange foldReducesWrong)

/-- 'typeballlaw20.ProductUnit': WHATEVER THE INPUT: true; the input reads as it did. -/
def productUnitSpec : ChangeSpec := { name := "productUnit", fn := fun _ => fun
  | [d1, d2] => { results := [.lit (.bool true)], args := [d1, d2] }
  | _ => none }
def productUnitRow : OpenClaim := { program := "ytbdklokfijjifaagreat", sum := "b0d995b7ba7562a15f9d65debef244d1ef3af8cbadc77dd81be949afb706fc2a", func := "typeball/typeballlaw20.ProductUnit", spec := "productUnit", unfollowed := true, recurses := true, apart := false }
def ProductUnitSaid : Prop := productUnitRow.holds Tryz.pinned (OpenSpec.ofChange productUnitSpec)

/-- ITS FALSE NEIGHBOUR: 'it returns false'. Refute it at one input. -/
def productUnitWrong : ChangeSpec := { name := "productUnit", fn := fun _ => fun
  | [d1, d2] => { results := [.lit (.bool false)], args := [d1, d2] }
  | _ => none }
def ProductUnitWrongFalsely : Prop := productUnitRow.holds Tryz.pinned (OpenSpec.ofChange productUnitWrong)

/-- 'typeballlaw20.ProductOuters': WHATEVER THE INPUT: true; the input reads as it did. -/
def productOutersSpec : ChangeSpec := { name := "productOuters", fn := fun _ => fun
  | [d1, d2, d3] => { results := [.lit (.bool true)], args := [d1, d2, d3] }
  | _ => none }
def productOutersRow : OpenClaim := { program := "ytbdklokfijjifaagreat", sum := "b0d995b7ba7562a15f9d65debef244d1ef3af8cbadc77dd81be949afb706fc2a", func := "typeball/typeballlaw20.ProductOuters", spec := "productOuters", apart := false }
def ProductOutersSaid : Prop := productOutersRow.holds Tryz.pinned (OpenSpec.ofChange productOutersSpec)

/-- ITS FALSE NEIGHBOUR: 'it returns false'. Refute it at one input. -/
def productOutersWrong : ChangeSpec := { name := "productOuters", fn := fun _ => fun
  | [d1, d2, d3] => { results := [.lit (.bool false)], args := [d1, d2, d3] }
  | _ => none }
def ProductOutersWrongFalsely : Prop := productOutersRow.holds Tryz.pinned (OpenSpec.ofChange productOutersWrong)

/-- 'typeballlaw20.ProductInners': WHATEVER THE INPUT: true; the input reads as it did. -/
def productInnersSpec : ChangeSpec := { name := "productInners", fn := fun _ => fun
  | [d1, d2, d3, d4] => { results := [.lit (.bool true)], args := [d1, d2, d3, d4] }
  | _ => none }
def productInnersRow : OpenClaim := { program := "ytbdklokfijjifaagreat", sum := "b0d995b7ba7562a15f9d65debef244d1ef3af8cbadc77dd81be949afb706fc2a", func := "typeball/typeballlaw20.ProductInners", spec := "productInners", apart := false }
def ProductInnersSaid : Prop := productInnersRow.holds Tryz.pinned (OpenSpec.ofChange productInnersSpec)

/-- ITS FALSE NEIGHBOUR: 'it returns false'. Refute it at one input. -/
def productInnersWrong : ChangeSpec := { name := "productInners", fn := fun _ => fun
  | [d1, d2, d3, d4] => { results := [.lit (.bool false)], args := [d1, d2, d3, d4] }
  | _ => none }
def ProductInnersWrongFalsely : Prop := productInnersRow.holds Tryz.pinned (OpenSpec.ofChange productInnersWrong)

/- THE SECOND FORM. 'bulk': how many values and letters a reading holds, each counted each time it is reached (what is shared counts as often as it is met; a slice's spare places count too). A statement '..UptoSaid' is the law's where the arguments, and the package variables that the reading takes, are together of bulk at most 1048576: NARROWER than '..Said'. Prove '..Said' where nothing that the law and all that it calls make is longer than what came in: it says more and counts as full. Else prove '..UptoSaid'. A law counts once. -/
mutual
def uptoBulk {H : Type} : DataW H → Nat
  | .lit (.string bytes) => bytes.length + 1
  | .lit _ => 1
  | .nil => 1
  | .ptr d => uptoBulk d + 1
  | .slice elems spare => uptoBulkAll elems + uptoBulkAll spare + 1
  | .agg parts => uptoBulkAll parts + 1
  | .iface _ d => uptoBulk d + 1
  | .map entries => uptoBulkEntries entries + 1
  | .held _ => 1
def uptoBulkAll {H : Type} : List (DataW H) → Nat
  | [] => 0
  | d :: r => uptoBulk d + uptoBulkAll r
def uptoBulkEntries {H : Type} : List (Lit × DataW H) → Nat
  | [] => 0
  | x :: r => uptoBulkEntry x + uptoBulkEntries r
def uptoBulkEntry {H : Type} : Lit × DataW H → Nat
  | (.string bytes, d) => bytes.length + uptoBulk d + 1
  | (_, d) => uptoBulk d + 1
 end
def uptoSmall : (H : Type) → List (DataW H) → Bool := fun _ ds => decide (uptoBulkAll ds ≤ 1048576)
def OpenSpec.upto (s : _root_.Go.ChangeSpec) : _root_.Go.OpenSpec := { _root_.Go.OpenSpec.ofChange s with cond := some uptoSmall }

/-- 'typeballlaw19.FoldUnits', WHERE WHAT IT READS IS OF BULK AT MOST 1048576: true; the input reads as it did. -/
def foldUnitsUptoRow : OpenClaim := { program := "ytbdklokfijjifaagreat", sum := "b0d995b7ba7562a15f9d65debef244d1ef3af8cbadc77dd81be949afb706fc2a", func := "typeball/typeballlaw19.FoldUnits", spec := "foldUnits", apart := false, narrowed := true }
def FoldUnitsUptoSaid : Prop := foldUnitsUptoRow.holds Tryz.pinned (OpenSpec.upto foldUnitsSpec)

/-- 'typeballlaw19.FoldJoins', WHERE WHAT IT READS IS OF BULK AT MOST 1048576: true; the input reads as it did. -/
def foldJoinsUptoRow : OpenClaim := { program := "ytbdklokfijjifaagreat", sum := "b0d995b7ba7562a15f9d65debef244d1ef3af8cbadc77dd81be949afb706fc2a", func := "typeball/typeballlaw19.FoldJoins", spec := "foldJoins", apart := false, narrowed := true }
def FoldJoinsUptoSaid : Prop := foldJoinsUptoRow.holds Tryz.pinned (OpenSpec.upto foldJoinsSpec)

/-- 'typeballlaw19.FoldReduces', WHERE WHAT IT READS IS OF BULK AT MOST 1048576: true; the input reads as it did. -/
def foldReducesUptoRow : OpenClaim := { program := "ytbdklokfijjifaagreat", sum := "b0d995b7ba7562a15f9d65debef244d1ef3af8cbadc77dd81be949afb706fc2a", func := "typeball/typeballlaw19.FoldReduces", spec := "foldReduces", apart := false, narrowed := true }
def FoldReducesUptoSaid : Prop := foldReducesUptoRow.holds Tryz.pinned (OpenSpec.upto foldReducesSpec)

/-- 'typeballlaw20.ProductUnit', WHERE WHAT IT READS IS OF BULK AT MOST 1048576: true; the input reads as it did. -/
def productUnitUptoRow : OpenClaim := { program := "ytbdklokfijjifaagreat", sum := "b0d995b7ba7562a15f9d65debef244d1ef3af8cbadc77dd81be949afb706fc2a", func := "typeball/typeballlaw20.ProductUnit", spec := "productUnit", unfollowed := true, recurses := true, apart := false, narrowed := true }
def ProductUnitUptoSaid : Prop := productUnitUptoRow.holds Tryz.pinned (OpenSpec.upto productUnitSpec)

/-- 'typeballlaw20.ProductOuters', WHERE WHAT IT READS IS OF BULK AT MOST 1048576: true; the input reads as it did. -/
def productOutersUptoRow : OpenClaim := { program := "ytbdklokfijjifaagreat", sum := "b0d995b7ba7562a15f9d65debef244d1ef3af8cbadc77dd81be949afb706fc2a", func := "typeball/typeballlaw20.ProductOuters", spec := "productOuters", apart := false, narrowed := true }
def ProductOutersUptoSaid : Prop := productOutersUptoRow.holds Tryz.pinned (OpenSpec.upto productOutersSpec)

/-- 'typeballlaw20.ProductInners', WHERE WHAT IT READS IS OF BULK AT MOST 1048576: true; the input reads as it did. -/
def productInnersUptoRow : OpenClaim := { program := "ytbdklokfijjifaagreat", sum := "b0d995b7ba7562a15f9d65debef244d1ef3af8cbadc77dd81be949afb706fc2a", func := "typeball/typeballlaw20.ProductInners", spec := "productInners", apart := false, narrowed := true }
def ProductInnersUptoSaid : Prop := productInnersUptoRow.holds Tryz.pinned (OpenSpec.upto productInnersSpec)

end Rows
end Go.Proofs.YtbdklokfijjifaaGreat
