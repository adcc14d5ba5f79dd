/- An abstract program logic over tree values (part 16): small words for a seat's own texts. -/
import Derived.Test.YtjpefafkejklaaaAL15
set_option linter.unusedVariables false
namespace Go.AL
open Go Go.RowKit

theorem TIok.mk {P : Program} {t : Nat} {sd : SD} {z : Value} {size bytes : Nat} (h1 : (P.underlying t).map sdOf = some sd)
    (h2 : (P.info? t).map (fun i => (i.zero, i.size, i.bytes)) = some (some z, size, bytes)) (h3 : z.cells.toList.length = size) (h4 : (z.cells.toList.all Value.oneCell') = true) : TIok P t ⟨sd, size, bytes, z.cells.toList⟩ := by
  cases hu : P.underlying t with
  | none => rw [hu] at h1; cases h1
  | some d =>
    cases hi : P.info? t with
    | none => rw [hi] at h2; cases h2
    | some inf =>
      rw [hu] at h1
      rw [hi] at h2
      simp only [Option.map_some, Option.some.injEq, Prod.mk.injEq] at h1 h2
      exact ⟨d, inf, z, hu, h1, hi, h2.2.1, h2.2.2, h2.1, rfl, h3, h4⟩

theorem enter_of {P : Program} {f : FuncId} {fn : Func} (hf : P.funcs[f]? = some fn) (hn : (fn.name == "runtime.NumGoroutine") = false) (hb : fn.body.isNone = false) (vals : Array Value) (w : World) :
    (callFunc f vals).run P w = .ok (.enter f vals) w := by
  simp only [callFunc, Sem.run_bind, run_program, Result.andThen_ok, hf, hn, Bool.false_eq_true, if_false, hb, Sem.run_pure]

/-- A test that nobody can decide ahead. -/
theorem caseb {b : Bool} {X Y : Prop} (h1 : b = true → X) (h2 : b = false → Y) : (match (generalizing := false) b with | true => X | false => Y) := by
  cases b
  · exact h2 rfl
  · exact h1 rfl

end Go.AL
