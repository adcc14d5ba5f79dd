/-
  No cell of these rows narrows 'for every input' (looked for: loops, veiled, ifaces, maps, wideKeys, modest, calm, conditions, laid).
  DERIVED. THE GIVEN ROWS OF THIS SEAT. 5 by the template 'for every input the law returns true; each argument reads behind the call as it read before'; 0 by the template 'total and deterministic' (their statements: YtliiekhmpgopnaaGreatTotals.lean).
  GIVEN WITH THE SEED: the statements are not yours to turn. If you find one false, say at which input.
  Laid BY PROGRAM, IN A SANDBOX (cutbox-rows.mjs): the forced cells as the released guide's own fill.sh prints them over the translation 20c24f43959b93d9… (all of the seat's roots in one cut). By AI agents, Wed Nov 11 2026. No macro, syntax, notation, axiom, sorry.
-/
import Derived.Test.YtliiekhmpgopnaaGreatChecked
import GoSem.Claim
import GoSem.ClaimJoined
import GoSem.ClaimMapViews
import Derived.JoinedTies
import Derived.KernelRfl
namespace Go.Proofs.YtliiekhmpgopnaaGreat
/- THE CELL 'sum', in the pinned program and in every row, IS THE sha256 OF THE DUMP (.gsa) THAT YtliiekhmpgopnaaGreatProg.lean LOADS. Nothing in Lean hashes anything: it is a label: what it is worth is what the hold of that sum in a sandbox is worth. -/
noncomputable def Tryz.pinned : Pinned := { name := "ytliiekhmpgopnaagreat", sum := "20c24f43959b93d9f5221b51ab6d5fa5330bb96d36272c65fd1805fab1d4edb9", checked := Tryz.checked }
namespace Rows
def none {H : Type} : Left H := { results := [], args := [] }

/-- 'typeballlaw10.JoinCatenates': WHATEVER THE INPUT: true; the input reads as it did. -/
def joinCatenatesSpec : ChangeSpec := { name := "joinCatenates", fn := fun _ => fun
  | [d1, d2, d3] => { results := [.lit (.bool true)], args := [d1, d2, d3] }
  | _ => none }
def joinCatenatesRow : OpenClaim := { program := "ytliiekhmpgopnaagreat", sum := "20c24f43959b93d9f5221b51ab6d5fa5330bb96d36272c65fd1805fab1d4edb9", func := "typeball/typeballlaw10.JoinCatenates", spec := "joinCatenates", apart := false }
def JoinCatenatesSaid : Prop := joinCatenatesRow.holds Tryz.pinned (OpenSpec.ofChange joinCatenatesSpec)

/-- ITS FALSE NEIGHBOUR: 'it returns false'. Refute it at one input. -/
def joinCatenatesWrong : ChangeSpec := { name := "joinCatenates", fn := fun _ => fun
  | [d1, d2, d3] => { results := [.lit (.bool false)], args := [d1, d2, d3] }
  | _ => none }
def JoinCatenatesWrongFalsely : Prop := joinCatenatesRow.holds Tryz.pinned (OpenSpec.ofChange joinCatenatesWrong)

/-- 'typeballlaw10.JoinLaminates': WHATEVER THE INPUT: true; the input reads as it did. -/
def joinLaminatesSpec : ChangeSpec := { name := "joinLaminates", fn := fun _ => fun
  | [d1, d2, d3] => { results := [.lit (.bool true)], args := [d1, d2, d3] }
  | _ => none }
def joinLaminatesRow : OpenClaim := { program := "ytliiekhmpgopnaagreat", sum := "20c24f43959b93d9f5221b51ab6d5fa5330bb96d36272c65fd1805fab1d4edb9", func := "typeball/typeballlaw10.JoinLaminates", spec := "joinLaminates", apart := false }
def JoinLaminatesSaid : Prop := joinLaminatesRow.holds Tryz.pinned (OpenSpec.ofChange joinLaminatesSpec)

/-- ITS FALSE NEIGHBOUR: 'it returns false'. Refute it at one input. -/
def joinLaminatesWrong : ChangeSpec := { name := "joinLaminates", fn := fun _ => fun
  | [d1, d2, d3] => { results := [.lit (.bool false)], args := [d1, d2, d3] }
  | _ => none }
def JoinLaminatesWrongFalsely : Prop := joinLaminatesRow.holds Tryz.pinned (OpenSpec.ofChange joinLaminatesWrong)

/-- 'typeballlaw14.PervadeTwos': WHATEVER THE INPUT: true; the input reads as it did. -/
def pervadeTwosSpec : ChangeSpec := { name := "pervadeTwos", fn := fun _ => fun
  | [d1, d2, d3] => { results := [.lit (.bool true)], args := [d1, d2, d3] }
  | _ => none }
def pervadeTwosRow : OpenClaim := { program := "ytliiekhmpgopnaagreat", sum := "20c24f43959b93d9f5221b51ab6d5fa5330bb96d36272c65fd1805fab1d4edb9", func := "typeball/typeballlaw14.PervadeTwos", spec := "pervadeTwos", apart := false }
def PervadeTwosSaid : Prop := pervadeTwosRow.holds Tryz.pinned (OpenSpec.ofChange pervadeTwosSpec)

/-- ITS FALSE NEIGHBOUR: 'it returns false'. Refute it at one input. -/
def pervadeTwosWrong : ChangeSpec := { name := "pervadeTwos", fn := fun _ => fun
  | [d1, d2, d3] => { results := [.lit (.bool false)], args := [d1, d2, d3] }
  | _ => none }
def PervadeTwosWrongFalsely : Prop := pervadeTwosRow.holds Tryz.pinned (OpenSpec.ofChange pervadeTwosWrong)

/-- 'typeballlaw14.PervadeFits': WHATEVER THE INPUT: true; the input reads as it did. -/
def pervadeFitsSpec : ChangeSpec := { name := "pervadeFits", fn := fun _ => fun
  | [d1, d2] => { results := [.lit (.bool true)], args := [d1, d2] }
  | _ => none }
def pervadeFitsRow : OpenClaim := { program := "ytliiekhmpgopnaagreat", sum := "20c24f43959b93d9f5221b51ab6d5fa5330bb96d36272c65fd1805fab1d4edb9", func := "typeball/typeballlaw14.PervadeFits", spec := "pervadeFits", apart := false }
def PervadeFitsSaid : Prop := pervadeFitsRow.holds Tryz.pinned (OpenSpec.ofChange pervadeFitsSpec)

/-- ITS FALSE NEIGHBOUR: 'it returns false'. Refute it at one input. -/
def pervadeFitsWrong : ChangeSpec := { name := "pervadeFits", fn := fun _ => fun
  | [d1, d2] => { results := [.lit (.bool false)], args := [d1, d2] }
  | _ => none }
def PervadeFitsWrongFalsely : Prop := pervadeFitsRow.holds Tryz.pinned (OpenSpec.ofChange pervadeFitsWrong)

/-- 'typeballlaw14.PervadeOnes': WHATEVER THE INPUT: true; the input reads as it did. -/
def pervadeOnesSpec : ChangeSpec := { name := "pervadeOnes", fn := fun _ => fun
  | [d1, d2, d3] => { results := [.lit (.bool true)], args := [d1, d2, d3] }
  | _ => none }
def pervadeOnesRow : OpenClaim := { program := "ytliiekhmpgopnaagreat", sum := "20c24f43959b93d9f5221b51ab6d5fa5330bb96d36272c65fd1805fab1d4edb9", func := "typeball/typeballlaw14.PervadeOnes", spec := "pervadeOnes", apart := false }
def PervadeOnesSaid : Prop := pervadeOnesRow.holds Tryz.pinned (OpenSpec.ofChange pervadeOnesSpec)

/-- ITS FALSE NEIGHBOUR: 'it returns false'. Refute it at one input. -/
def pervadeOnesWrong : ChangeSpec := { name := "pervadeOnes", fn := fun _ => fun
  | [d1, d2, d3] => { results := [.lit (.bool false)], args := [d1, d2, d3] }
  | _ => none }
def PervadeOnesWrongFalsely : Prop := pervadeOnesRow.holds Tryz.pinned (OpenSpec.ofChange pervadeOnesWrong)

/- THE SECOND FORM. 'bulk': how many values and letters a reading holds, each counted each time it is reached (what is shared counts as often as it is met; a slice's spare places count too). A statement '..UptoSaid' is the law's where the arguments, and the package variables that the reading takes, are together of bulk at most 1048576: NARROWER than '..Said'. Prove '..Said' where nothing that the law and all that it calls make is longer than what came in: it says more and counts as full. Else prove '..UptoSaid'. A law counts once. -/
mutual
def uptoBulk {H : Type} : DataW H → Nat
  | .lit (.string bytes) => bytes.length + 1
  | .lit _ => 1
  | .nil => 1
  | .ptr d => uptoBulk d + 1
  | .slice elems spare => uptoBulkAll elems + uptoBulkAll spare + 1
  | .agg parts => uptoBulkAll parts + 1
  | .iface _ d => uptoBulk d + 1
  | .map entries => uptoBulkEntries entries + 1
  | .held _ => 1
def uptoBulkAll {H : Type} : List (DataW H) → Nat
  | [] => 0
  | d :: r => uptoBulk d + uptoBulkAll r
def uptoBulkEntries {H : Type} : List (Lit × DataW H) → Nat
  | [] => 0
  | x :: r => uptoBulkEntry x + uptoBulkEntries r
def uptoBulkEntry {H : Type} : Lit × DataW H → Nat
  | (.string bytes, d) => bytes.length + uptoBulk d + 1
  | (_, d) => uptoBulk d + 1
 end
def uptoSmall : (H : Type) → List (DataW H) → Bool := fun _ ds => decide (uptoBulkAll ds ≤ 1048576)
def OpenSpec.upto (s : _root_.Go.ChangeSpec) : _root_.Go.OpenSpec := { _root_.Go.OpenSpec.ofChange s with cond := some uptoSmall }

/-- 'typeballlaw10.JoinCatenates', WHERE WHAT IT READS IS OF BULK AT MOST 1048576: true; the input reads as it did. -/
def joinCatenatesUptoRow : OpenClaim := { program := "ytliiekhmpgopnaagreat", sum := "20c24f43959b93d9f5221b51ab6d5fa5330bb96d36272c65fd1805fab1d4edb9", func := "typeball/typeballlaw10.JoinCatenates", spec := "joinCatenates", apart := false, narrowed := true }
def JoinCatenatesUptoSaid : Prop := joinCatenatesUptoRow.holds Tryz.pinned (OpenSpec.upto joinCatenatesSpec)

/-- 'typeballlaw10.JoinLaminates', WHERE WHAT IT READS IS OF BULK AT MOST 1048576: true; the input reads as it did. -/
def joinLaminatesUptoRow : OpenClaim := { program := "ytliiekhmpgopnaagreat", sum := "20c24f43959b93d9f5221b51ab6d5fa5330bb96d36272c65fd1805fab1d4edb9", func := "typeball/typeballlaw10.JoinLaminates", spec := "joinLaminates", apart := false, narrowed := true }
def JoinLaminatesUptoSaid : Prop := joinLaminatesUptoRow.holds Tryz.pinned (OpenSpec.upto joinLaminatesSpec)

/-- 'typeballlaw14.PervadeTwos', WHERE WHAT IT READS IS OF BULK AT MOST 1048576: true; the input reads as it did. -/
def pervadeTwosUptoRow : OpenClaim := { program := "ytliiekhmpgopnaagreat", sum := "20c24f43959b93d9f5221b51ab6d5fa5330bb96d36272c65fd1805fab1d4edb9", func := "typeball/typeballlaw14.PervadeTwos", spec := "pervadeTwos", apart := false, narrowed := true }
def PervadeTwosUptoSaid : Prop := pervadeTwosUptoRow.holds Tryz.pinned (OpenSpec.upto pervadeTwosSpec)

/-- 'typeballlaw14.PervadeFits', WHERE WHAT IT READS IS OF BULK AT MOST 1048576: true; the input reads as it did. -/
def pervadeFitsUptoRow : OpenClaim := { program := "ytliiekhmpgopnaagreat", sum := "20c24f43959b93d9f5221b51ab6d5fa5330bb96d36272c65fd1805fab1d4edb9", func := "typeball/typeballlaw14.PervadeFits", spec := "pervadeFits", apart := false, narrowed := true }
def PervadeFitsUptoSaid : Prop := pervadeFitsUptoRow.holds Tryz.pinned (OpenSpec.upto pervadeFitsSpec)

/-- 'typeballlaw14.PervadeOnes', WHERE WHAT IT READS IS OF BULK AT MOST 1048576: true; the input reads as it did. -/
def pervadeOnesUptoRow : OpenClaim := { program := "ytliiekhmpgopnaagreat", sum := "20c24f43959b93d9f5221b51ab6d5fa5330bb96d36272c65fd1805fab1d4edb9", func := "typeball/typeballlaw14.PervadeOnes", spec := "pervadeOnes", apart := false, narrowed := true }
def PervadeOnesUptoSaid : Prop := pervadeOnesUptoRow.holds Tryz.pinned (OpenSpec.upto pervadeOnesSpec)

end Rows
end Go.Proofs.YtliiekhmpgopnaaGreat
