/-
  No cell of these rows narrows 'for every input' (looked for: loops, veiled, ifaces, maps, wideKeys, modest, calm, conditions, laid).
  DERIVED. THE GIVEN ROWS OF THIS SEAT. 11 by the template 'for every input the law returns true; each argument reads behind the call as it read before'; 0 by the template 'total and deterministic' (their statements: YtabgankeaagibaaTotals.lean).
  GIVEN WITH THE SEED: the statements are not yours to turn. If you find one false, say at which input.
  Laid BY PROGRAM, IN A SANDBOX (cutbox-rows.mjs): the forced cells as the released guide's own fill.sh prints them over the translation e8222f01da5dbfe2… (all of the seat's roots in one cut). By AI agents, Wed Nov 11 2026. No macro, syntax, notation, axiom, sorry.
-/
import Derived.Test.YtabgankeaagibaaChecked
import GoSem.Claim
import GoSem.ClaimJoined
import GoSem.ClaimMapViews
import Derived.JoinedTies
import Derived.KernelRfl
namespace Go.Proofs.Ytabgankeaagibaa
/- THE CELL 'sum', in the pinned program and in every row, IS THE sha256 OF THE DUMP (.gsa) THAT YtabgankeaagibaaProg.lean LOADS. Nothing in Lean hashes anything: it is a label: what it is worth is what the hold of that sum in a sandbox is worth. -/
noncomputable def Try.pinned : Pinned := { name := "ytabgankeaagibaa", sum := "e8222f01da5dbfe2edf366bd2bd42a2ff3a63baa56dbc080aa1ba8192b3309aa", checked := Try.checked }
namespace Rows
def none {H : Type} : Left H := { results := [], args := [] }

/-- 'typeballlaw03.RatioMakes': WHATEVER THE INPUT: true; the input reads as it did. -/
def ratioMakesSpec : ChangeSpec := { name := "ratioMakes", fn := fun _ => fun
  | [d1, d2, d3] => { results := [.lit (.bool true)], args := [d1, d2, d3] }
  | _ => none }
def ratioMakesRow : OpenClaim := { program := "ytabgankeaagibaa", sum := "e8222f01da5dbfe2edf366bd2bd42a2ff3a63baa56dbc080aa1ba8192b3309aa", func := "typeball/typeballlaw03.RatioMakes", spec := "ratioMakes", apart := false }
def RatioMakesSaid : Prop := ratioMakesRow.holds Try.pinned (OpenSpec.ofChange ratioMakesSpec)

/-- ITS FALSE NEIGHBOUR: 'it returns false'. Refute it at one input. -/
def ratioMakesWrong : ChangeSpec := { name := "ratioMakes", fn := fun _ => fun
  | [d1, d2, d3] => { results := [.lit (.bool false)], args := [d1, d2, d3] }
  | _ => none }
def RatioMakesWrongFalsely : Prop := ratioMakesRow.holds Try.pinned (OpenSpec.ofChange ratioMakesWrong)

/-- 'typeballlaw03.RatioPowers': WHATEVER THE INPUT: true; the input reads as it did. -/
def ratioPowersSpec : ChangeSpec := { name := "ratioPowers", fn := fun _ => fun
  | [d1, d2, d3] => { results := [.lit (.bool true)], args := [d1, d2, d3] }
  | _ => none }
def ratioPowersRow : OpenClaim := { program := "ytabgankeaagibaa", sum := "e8222f01da5dbfe2edf366bd2bd42a2ff3a63baa56dbc080aa1ba8192b3309aa", func := "typeball/typeballlaw03.RatioPowers", spec := "ratioPowers", apart := false }
def RatioPowersSaid : Prop := ratioPowersRow.holds Try.pinned (OpenSpec.ofChange ratioPowersSpec)

/-- ITS FALSE NEIGHBOUR: 'it returns false'. Refute it at one input. -/
def ratioPowersWrong : ChangeSpec := { name := "ratioPowers", fn := fun _ => fun
  | [d1, d2, d3] => { results := [.lit (.bool false)], args := [d1, d2, d3] }
  | _ => none }
def RatioPowersWrongFalsely : Prop := ratioPowersRow.holds Try.pinned (OpenSpec.ofChange ratioPowersWrong)

/-- 'typeballlaw12.MonoOnes': WHATEVER THE INPUT: true; the input reads as it did. -/
def monoOnesSpec : ChangeSpec := { name := "monoOnes", fn := fun _ => fun
  | [d1, d2, d3] => { results := [.lit (.bool true)], args := [d1, d2, d3] }
  | _ => none }
def monoOnesRow : OpenClaim := { program := "ytabgankeaagibaa", sum := "e8222f01da5dbfe2edf366bd2bd42a2ff3a63baa56dbc080aa1ba8192b3309aa", func := "typeball/typeballlaw12.MonoOnes", spec := "monoOnes", apart := false }
def MonoOnesSaid : Prop := monoOnesRow.holds Try.pinned (OpenSpec.ofChange monoOnesSpec)

/-- ITS FALSE NEIGHBOUR: 'it returns false'. Refute it at one input. -/
def monoOnesWrong : ChangeSpec := { name := "monoOnes", fn := fun _ => fun
  | [d1, d2, d3] => { results := [.lit (.bool false)], args := [d1, d2, d3] }
  | _ => none }
def MonoOnesWrongFalsely : Prop := monoOnesRow.holds Try.pinned (OpenSpec.ofChange monoOnesWrong)

/-- 'typeballlaw03.RatioReckons': WHATEVER THE INPUT: true; the input reads as it did. -/
def ratioReckonsSpec : ChangeSpec := { name := "ratioReckons", fn := fun _ => fun
  | [d1, d2] => { results := [.lit (.bool true)], args := [d1, d2] }
  | _ => none }
def ratioReckonsRow : OpenClaim := { program := "ytabgankeaagibaa", sum := "e8222f01da5dbfe2edf366bd2bd42a2ff3a63baa56dbc080aa1ba8192b3309aa", func := "typeball/typeballlaw03.RatioReckons", spec := "ratioReckons", apart := false }
def RatioReckonsSaid : Prop := ratioReckonsRow.holds Try.pinned (OpenSpec.ofChange ratioReckonsSpec)

/-- ITS FALSE NEIGHBOUR: 'it returns false'. Refute it at one input. -/
def ratioReckonsWrong : ChangeSpec := { name := "ratioReckons", fn := fun _ => fun
  | [d1, d2] => { results := [.lit (.bool false)], args := [d1, d2] }
  | _ => none }
def RatioReckonsWrongFalsely : Prop := ratioReckonsRow.holds Try.pinned (OpenSpec.ofChange ratioReckonsWrong)

/-- 'typeballlaw03.RatioBack': WHATEVER THE INPUT: true; the input reads as it did. -/
def ratioBackSpec : ChangeSpec := { name := "ratioBack", fn := fun _ => fun
  | [d1, d2, d3] => { results := [.lit (.bool true)], args := [d1, d2, d3] }
  | _ => none }
def ratioBackRow : OpenClaim := { program := "ytabgankeaagibaa", sum := "e8222f01da5dbfe2edf366bd2bd42a2ff3a63baa56dbc080aa1ba8192b3309aa", func := "typeball/typeballlaw03.RatioBack", spec := "ratioBack", apart := false }
def RatioBackSaid : Prop := ratioBackRow.holds Try.pinned (OpenSpec.ofChange ratioBackSpec)

/-- ITS FALSE NEIGHBOUR: 'it returns false'. Refute it at one input. -/
def ratioBackWrong : ChangeSpec := { name := "ratioBack", fn := fun _ => fun
  | [d1, d2, d3] => { results := [.lit (.bool false)], args := [d1, d2, d3] }
  | _ => none }
def RatioBackWrongFalsely : Prop := ratioBackRow.holds Try.pinned (OpenSpec.ofChange ratioBackWrong)

/-- 'typeballlaw03.RatioRests': WHATEVER THE INPUT: true; the input reads as it did. -/
def ratioRestsSpec : ChangeSpec := { name := "ratioRests", fn := fun _ => fun
  | [d1, d2] => { results := [.lit (.bool true)], args := [d1, d2] }
  | _ => none }
def ratioRestsRow : OpenClaim := { program := "ytabgankeaagibaa", sum := "e8222f01da5dbfe2edf366bd2bd42a2ff3a63baa56dbc080aa1ba8192b3309aa", func := "typeball/typeballlaw03.RatioRests", spec := "ratioRests", apart := false }
def RatioRestsSaid : Prop := ratioRestsRow.holds Try.pinned (OpenSpec.ofChange ratioRestsSpec)

/-- ITS FALSE NEIGHBOUR: 'it returns false'. Refute it at one input. -/
def ratioRestsWrong : ChangeSpec := { name := "ratioRests", fn := fun _ => fun
  | [d1, d2] => { results := [.lit (.bool false)], args := [d1, d2] }
  | _ => none }
def RatioRestsWrongFalsely : Prop := ratioRestsRow.holds Try.pinned (OpenSpec.ofChange ratioRestsWrong)

/-- 'typeballlaw03.RatioTells': WHATEVER THE INPUT: true; the input reads as it did. -/
def ratioTellsSpec : ChangeSpec := { name := "ratioTells", fn := fun _ => fun
  | [d1, d2] => { results := [.lit (.bool true)], args := [d1, d2] }
  | _ => none }
def ratioTellsRow : OpenClaim := { program := "ytabgankeaagibaa", sum := "e8222f01da5dbfe2edf366bd2bd42a2ff3a63baa56dbc080aa1ba8192b3309aa", func := "typeball/typeballlaw03.RatioTells", spec := "ratioTells", apart := false }
def RatioTellsSaid : Prop := ratioTellsRow.holds Try.pinned (OpenSpec.ofChange ratioTellsSpec)

/-- ITS FALSE NEIGHBOUR: 'it returns false'. Refute it at one input. -/
def ratioTellsWrong : ChangeSpec := { name := "ratioTells", fn := fun _ => fun
  | [d1, d2] => { results := [.lit (.bool false)], args := [d1, d2] }
  | _ => none }
def RatioTellsWrongFalsely : Prop := ratioTellsRow.holds Try.pinned (OpenSpec.ofChange ratioTellsWrong)

/-- 'typeballlaw12.MonoBack': WHATEVER THE INPUT: true; the input reads as it did. -/
def monoBackSpec : ChangeSpec := { name := "monoBack", fn := fun _ => fun
  | [d] => { results := [.lit (.bool true)], args := [d] }
  | _ => none }
def monoBackRow : OpenClaim := { program := "ytabgankeaagibaa", sum := "e8222f01da5dbfe2edf366bd2bd42a2ff3a63baa56dbc080aa1ba8192b3309aa", func := "typeball/typeballlaw12.MonoBack", spec := "monoBack", apart := false }
def MonoBackSaid : Prop := monoBackRow.holds Try.pinned (OpenSpec.ofChange monoBackSpec)

/-- ITS FALSE NEIGHBOUR: 'it returns false'. Refute it at one input. -/
def monoBackWrong : ChangeSpec := { name := "monoBack", fn := fun _ => fun
  | [d] => { results := [.lit (.bool false)], args := [d] }
  | _ => none }
def MonoBackWrongFalsely : Prop := monoBackRow.holds Try.pinned (OpenSpec.ofChange monoBackWrong)

/-- 'typeballlaw13.DyadOrders': WHATEVER THE INPUT: true; the input reads as it did. -/
def dyadOrdersSpec : ChangeSpec := { name := "dyadOrders", fn := fun _ => fun
  | [d1, d2] => { results := [.lit (.bool true)], args := [d1, d2] }
  | _ => none }
def dyadOrdersRow : OpenClaim := { program := "ytabgankeaagibaa", sum := "e8222f01da5dbfe2edf366bd2bd42a2ff3a63baa56dbc080aa1ba8192b3309aa", func := "typeball/typeballlaw13.DyadOrders", spec := "dyadOrders", apart := false }
def DyadOrdersSaid : Prop := dyadOrdersRow.holds Try.pinned (OpenSpec.ofChange dyadOrdersSpec)

/-- ITS FALSE NEIGHBOUR: 'it returns false'. Refute it at one input. -/
def dyadOrdersWrong : ChangeSpec := { name := "dyadOrders", fn := fun _ => fun
  | [d1, d2] => { results := [.lit (.bool false)], args := [d1, d2] }
  | _ => none }
def DyadOrdersWrongFalsely : Prop := dyadOrdersRow.holds Try.pinned (OpenSpec.ofChange dyadOrdersWrong)

/-- 'typeballlaw13.DyadTurned': WHATEVER THE INPUT: true; the input reads as it did. -/
def dyadTurnedSpec : ChangeSpec := { name := "dyadTurned", fn := fun _ => fun
  | [d1, d2] => { results := [.lit (.bool true)], args := [d1, d2] }
  | _ => none }
def dyadTurnedRow : OpenClaim := { program := "ytabgankeaagibaa", sum := "e8222f01da5dbfe2edf366bd2bd42a2ff3a63baa56dbc080aa1ba8192b3309aa", func := "typeball/typeballlaw13.DyadTurned", spec := "dyadTurned", apart := false }
def DyadTurnedSaid : Prop := dyadTurnedRow.holds Try.pinned (OpenSpec.ofChange dyadTurnedSpec)

/-- ITS FALSE NEIGHBOUR: 'it returns false'. Refute it at one input. -/
def dyadTurnedWrong : ChangeSpec := { name := "dyadTurned", fn := fun _ => fun
  | [d1, d2] => { results := [.lit (.bool false)], args := [d1, d2] }
  | _ => none }
def DyadTurnedWrongFalsely : Prop := dyadTurnedRow.holds Try.pinned (OpenSpec.ofChange dyadTurnedWrong)

/-- 'typeballlaw13.DyadPowers': WHATEVER THE INPUT: true; the input reads as it did. -/
def dyadPowersSpec : ChangeSpec := { name := "dyadPowers", fn := fun _ => fun
  | [d1, d2, d3] => { results := [.lit (.bool true)], args := [d1, d2, d3] }
  | _ => none }
def dyadPowersRow : OpenClaim := { program := "ytabgankeaagibaa", sum := "e8222f01da5dbfe2edf366bd2bd42a2ff3a63baa56dbc080aa1ba8192b3309aa", func := "typeball/typeballlaw13.DyadPowers", spec := "dyadPowers", apart := false }
def DyadPowersSaid : Prop := dyadPowersRow.holds Try.pinned (OpenSpec.ofChange dyadPowersSpec)

/-- ITS FALSE NEIGHBOUR: 'it returns false'. Refute it at one input. -/
def dyadPowersWrong : ChangeSpec := { name := "dyadPowers", fn := fun _ => fun
  | [d1, d2, d3] => { results := [.lit (.bool false)], args := [d1, d2, d3] }
  | _ => none }
def DyadPowersWrongFalsely : Prop := dyadPowersRow.holds Try.pinned (OpenSpec.ofChange dyadPowersWrong)

/- THE SECOND FORM. 'bulk': how many values and letters a reading holds, each counted each time it is reached (what is shared counts as often as it is met; a slice's spare places count too). A statement '..UptoSaid' is the law's where the arguments, and the package variables that the reading takes, are together of bulk at most 1048576: NARROWER than '..Said'. Prove '..Said' where nothing that the law and all that it calls make is longer than what came in: it says more and counts as full. Else prove '..UptoSaid'. A law counts once. -/
mutual
def uptoBulk {H : Type} : DataW H → Nat
  | .lit (.string bytes) => bytes.length + 1
  | .lit _ => 1
  | .nil => 1
  | .ptr d => uptoBulk d + 1
  | .slice elems spare => uptoBulkAll elems + uptoBulkAll spare + 1
  | .agg parts => uptoBulkAll parts + 1
  | .iface _ d => uptoBulk d + 1
  | .map entries => uptoBulkEntries entries + 1
  | .held _ => 1
def uptoBulkAll {H : Type} : List (DataW H) → Nat
  | [] => 0
  | d :: r => uptoBulk d + uptoBulkAll r
def uptoBulkEntries {H : Type} : List (Lit × DataW H) → Nat
  | [] => 0
  | x :: r => uptoBulkEntry x + uptoBulkEntries r
def uptoBulkEntry {H : Type} : Lit × DataW H → Nat
  | (.string bytes, d) => bytes.length + uptoBulk d + 1
  | (_, d) => uptoBulk d + 1
 end
def uptoSmall : (H : Type) → List (DataW H) → Bool := fun _ ds => decide (uptoBulkAll ds ≤ 1048576)
def OpenSpec.upto (s : _root_.Go.ChangeSpec) : _root_.Go.OpenSpec := { _root_.Go.OpenSpec.ofChange s with cond := some uptoSmall }

/-- 'typeballlaw03.RatioMakes', WHERE WHAT IT READS IS OF BULK AT MOST 1048576: true; the input reads as it did. -/
def ratioMakesUptoRow : OpenClaim := { program := "ytabgankeaagibaa", sum := "e8222f01da5dbfe2edf366bd2bd42a2ff3a63baa56dbc080aa1ba8192b3309aa", func := "typeball/typeballlaw03.RatioMakes", spec := "ratioMakes", apart := false, narrowed := true }
def RatioMakesUptoSaid : Prop := ratioMakesUptoRow.holds Try.pinned (OpenSpec.upto ratioMakesSpec)

/-- 'typeballlaw03.RatioPowers', WHERE WHAT IT READS IS OF BULK AT MOST 1048576: true; the input reads as it did. -/
def ratioPowersUptoRow : OpenClaim := { program := "ytabgankeaagibaa", sum := "e8222f01da5dbfe2edf366bd2bd42a2ff3a63baa56dbc080aa1ba8192b3309aa", func := "typeball/typeballlaw03.RatioPowers", spec := "ratioPowers", apart := false, narrowed := true }
def RatioPowersUptoSaid : Prop := ratioPowersUptoRow.holds Try.pinned (OpenSpec.upto ratioPowersSpec)

/-- 'typeballlaw12.MonoOnes', WHERE WHAT IT READS IS OF BULK AT MOST 1048576: true; the input reads as it did. -/
def monoOnesUptoRow : OpenClaim := { program := "ytabgankeaagibaa", sum := "e8222f01da5dbfe2edf366bd2bd42a2ff3a63baa56dbc080aa1ba8192b3309aa", func := "typeball/typeballlaw12.MonoOnes", spec := "monoOnes", apart := false, narrowed := true }
def MonoOnesUptoSaid : Prop := monoOnesUptoRow.holds Try.pinned (OpenSpec.upto monoOnesSpec)

/-- 'typeballlaw03.RatioReckons', WHERE WHAT IT READS IS OF BULK AT MOST 1048576: true; the input reads as it did. -/
def ratioReckonsUptoRow : OpenClaim := { program := "ytabgankeaagibaa", sum := "e8222f01da5dbfe2edf366bd2bd42a2ff3a63baa56dbc080aa1ba8192b3309aa", func := "typeball/typeballlaw03.RatioReckons", spec := "ratioReckons", apart := false, narrowed := true }
def RatioReckonsUptoSaid : Prop := ratioReckonsUptoRow.holds Try.pinned (OpenSpec.upto ratioReckonsSpec)

/-- 'typeballlaw03.RatioBack', WHERE WHAT IT READS IS OF BULK AT MOST 1048576: true; the input reads as it did. -/
def ratioBackUptoRow : OpenClaim := { program := "ytabgankeaagibaa", sum := "e8222f01da5dbfe2edf366bd2bd42a2ff3a63baa56dbc080aa1ba8192b3309aa", func := "typeball/typeballlaw03.RatioBack", spec := "ratioBack", apart := false, narrowed := true }
def RatioBackUptoSaid : Prop := ratioBackUptoRow.holds Try.pinned (OpenSpec.upto ratioBackSpec)

/-- 'typeballlaw03.RatioRests', WHERE WHAT IT READS IS OF BULK AT MOST 1048576: true; the input reads as it did. -/
def ratioRestsUptoRow : OpenClaim := { program := "ytabgankeaagibaa", sum := "e8222f01da5dbfe2edf366bd2bd42a2ff3a63baa56dbc080aa1ba8192b3309aa", func := "typeball/typeballlaw03.RatioRests", spec := "ratioRests", apart := false, narrowed := true }
def RatioRestsUptoSaid : Prop := ratioRestsUptoRow.holds Try.pinned (OpenSpec.upto ratioRestsSpec)

/-- 'typeballlaw03.RatioTells', WHERE WHAT IT READS IS OF BULK AT MOST 1048576: true; the input reads as it did. -/
def ratioTellsUptoRow : OpenClaim := { program := "ytabgankeaagibaa", sum := "e8222f01da5dbfe2edf366bd2bd42a2ff3a63baa56dbc080aa1ba8192b3309aa", func := "typeball/typeballlaw03.RatioTells", spec := "ratioTells", apart := false, narrowed := true }
def RatioTellsUptoSaid : Prop := ratioTellsUptoRow.holds Try.pinned (OpenSpec.upto ratioTellsSpec)

/-- 'typeballlaw12.MonoBack', WHERE WHAT IT READS IS OF BULK AT MOST 1048576: true; the input reads as it did. -/
def monoBackUptoRow : OpenClaim := { program := "ytabgankeaagibaa", sum := "e8222f01da5dbfe2edf366bd2bd42a2ff3a63baa56dbc080aa1ba8192b3309aa", func := "typeball/typeballlaw12.MonoBack", spec := "monoBack", apart := false, narrowed := true }
def MonoBackUptoSaid : Prop := monoBackUptoRow.holds Try.pinned (OpenSpec.upto monoBackSpec)

/-- 'typeballlaw13.DyadOrders', WHERE WHAT IT READS IS OF BULK AT MOST 1048576: true; the input reads as it did. -/
def dyadOrdersUptoRow : OpenClaim := { program := "ytabgankeaagibaa", sum := "e8222f01da5dbfe2edf366bd2bd42a2ff3a63baa56dbc080aa1ba8192b3309aa", func := "typeball/typeballlaw13.DyadOrders", spec := "dyadOrders", apart := false, narrowed := true }
def DyadOrdersUptoSaid : Prop := dyadOrdersUptoRow.holds Try.pinned (OpenSpec.upto dyadOrdersSpec)

/-- 'typeballlaw13.DyadTurned', WHERE WHAT IT READS IS OF BULK AT MOST 1048576: true; the input reads as it did. -/
def dyadTurnedUptoRow : OpenClaim := { program := "ytabgankeaagibaa", sum := "e8222f01da5dbfe2edf366bd2bd42a2ff3a63baa56dbc080aa1ba8192b3309aa", func := "typeball/typeballlaw13.DyadTurned", spec := "dyadTurned", apart := false, narrowed := true }
def DyadTurnedUptoSaid : Prop := dyadTurnedUptoRow.holds Try.pinned (OpenSpec.upto dyadTurnedSpec)

/-- 'typeballlaw13.DyadPowers', WHERE WHAT IT READS IS OF BULK AT MOST 1048576: true; the input reads as it did. -/
def dyadPowersUptoRow : OpenClaim := { program := "ytabgankeaagibaa", sum := "e8222f01da5dbfe2edf366bd2bd42a2ff3a63baa56dbc080aa1ba8192b3309aa", func := "typeball/typeballlaw13.DyadPowers", spec := "dyadPowers", apart := false, narrowed := true }
def DyadPowersUptoSaid : Prop := dyadPowersUptoRow.holds Try.pinned (OpenSpec.upto dyadPowersSpec)

end Rows
end Go.Proofs.Ytabgankeaagibaa
