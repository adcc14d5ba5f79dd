/- The statement MonoOnes: the row, out of the walk. -/
import Derived.Test.YtabgankeaagibaaRows
import Derived.Test.YtabgankeaagibaaB5
import Derived.WalkKit
import Derived.ProofKit
import Derived.OpenShut
import Derived.ShutString
import Derived.ChangeOld
import Derived.Below
import Derived.SizedLaws
import Derived.Carry
set_option linter.unusedVariables false
namespace Go.Proofs.Ytabgankeaagibaa.monoOnes
open Go Go.AL NM
open Go.ChangeShapes Go.WideShapes Go.ChangeAt Go.RowKit
open Go.ChangeMaps (open_string shut_string)

theorem own : ownKnob Try.prog.godebug = none := by kernel_rfl
theorem laidOut : laidOutB Try.prog = true := by kernel_rfl
theorem u21 : Try.prog.underlying 21 = some (.int .i32) := by kernel_rfl
theorem u4 : Try.prog.underlying 4 = some .bool := by kernel_rfl
theorem u9 : Try.prog.underlying 9 = some .string := by kernel_rfl
theorem u3 : Try.prog.underlying 3 = some (.int .i64) := by kernel_rfl
theorem u23 : Try.prog.underlying 23 = some (.struct (Try.prog.fieldsOf 23)) := by kernel_rfl
theorem op23 : Opens Try.prog 23 (fun xs => ∃ b s t, xs = [.val (.bool b), .val (.string s), .val (.string t)]) := by
  have h := opens_struct (l := [(0, 4), (1, 9), (2, 9)]) (n := 3) u23 (by kernel_rfl) (by kernel_rfl) (.cons _ _ 0 1 3 _ _ (by kernel_rfl) (opens_bool u4) (.cons _ _ 1 1 3 _ _ (by kernel_rfl) (opens_str u9) (.cons _ _ 2 1 3 _ _ (by kernel_rfl) (opens_str u9) (.nil 3))))
  refine h.mono ?_
  rintro xs ⟨a, b, rfl, ⟨x, rfl⟩, c, d, rfl, ⟨y, rfl, _⟩, e, f, rfl, ⟨z, rfl, _⟩, rfl⟩
  exact ⟨x, y, z, rfl⟩
set_option maxRecDepth 100000 in
theorem lifted (os : Os) (started : os.Started) (H : Type) (enc : TypeId × Value → H) :
    ReturnsInHanded {} Try.checked os 5 .any (Rows.monoOnesSpec.pre6 enc Try.prog Try.f5 Rows.monoOnesRow.domain false) (Rows.monoOnesSpec.post enc Try.prog Try.f5 false true false false) := by
  refine returnsInHanded_of_change_sized (C := Try.checked) own started (by kernel_rfl) Try.func5
    (ChangeSpec.witness6 (enc := enc) (C := Try.checked) false ⟨#[], #[.int .i32 0, .agg #[.bool false, .string ByteArray.empty, .string ByteArray.empty], .int .i64 0], []⟩ 8 (by kernel_rfl) (by kernel_rfl) (by kernel_rfl) (by kernel_rfl)) ?_
  intro W base args ds gs before hval0 hW hcnd hsz0 _
  have hp : Try.f5.params = #[21, 23, 3] := rfl
  have hsz : (DataW.weightsEach Try.prog (Try.f5.params.toList ++ Rows.monoOnesSpec.plain.varTypes Try.prog) (ds ++ gs)).all (· ≤ reachBytes) = true := hsz0
  have hval : ∀ (j : Nat) t v, Try.f5.params[j]? = some t → args[j]? = some v → Value.okWide Try.prog W .any base t v := hval0
  have hW' := hW
  obtain ⟨p, q, hA0, hV, rfl, hfz, hnd⟩ := hW
  have hA : DataW.TrodAll enc Try.prog W 0 (fun _ => true) true Try.f5.params.toList args.toList ds p := hA0
  rw [hp] at hA hval hsz
  obtain ⟨v0, vs0, d0, ds0, p0, q0, hargs, rfl, rfl, h0, r0⟩ := trodAll_cons hA
  obtain ⟨v1, vs1, d1, ds1, p1, q1, rfl, rfl, rfl, h1, r1⟩ := trodAll_cons r0
  obtain ⟨v2, vs2, d2, ds2, p2, q2, rfl, rfl, rfl, h2, r2⟩ := trodAll_cons r1
  obtain ⟨rfl, rfl, rfl⟩ := trodAll_nil r2
  obtain rfl : args = #[v0, v1, v2] := by cases args; simp_all
  obtain ⟨rfl, rfl⟩ := trodVars_none hV
  obtain ⟨a0, rfl, rfl, rfl, w0⟩ := open_int u21 (hval 0 21 v0 rfl rfl) h0
  have hw0 : -2147483648 ≤ a0 ∧ a0 < 2147483648 := by
    have := w0
    simp [Lit.wf, IntKind.min, IntKind.max, IntKind.signed, IntKind.bits] at this
    omega
  obtain ⟨c1, rfl, _⟩ := okWide_struct u23 (hval 1 23 v1 rfl rfl)
  obtain ⟨xs1, ⟨b1, s1, t1, rfl⟩, vr1, _⟩ := Opens.struct op23 h1
  have lt1 : ∀ x ∈ p1, x.block < W.heap.size := by obtain ⟨m, hm⟩ := h1; exact DataW.trod_lt m _ _ _ hm
  obtain ⟨a2, rfl, rfl, rfl, w2⟩ := open_int u3 (hval 2 3 v2 rfl rfl) h2
  have hw2 : -9223372036854775808 ≤ a2 ∧ a2 < 9223372036854775808 := by
    have := w2
    simp [Lit.wf, IntKind.min, IntKind.max, IntKind.signed, IntKind.bits] at this
    omega
  clear hA0 hval0 hsz0 hsz
  refine ((holds a0 b1 s1 t1 a2 hw0 hw2).law W _ rfl (fun i x hx => by
    rcases i with _ | i
    · simp at hx; subst hx; exact .val _
    rcases i with _ | i
    · simp at hx; subst hx; exact vr1
    rcases i with _ | i
    · simp at hx; subst hx; exact .val _
    · simp at hx)).mono fun e W' ⟨he, bel⟩ => ?_
  subst he
  exact ⟨_, rfl, _, _, _, [], _, [], hW', trodAll_mk1 (shut_bool u4 _), (trodAll_cons_mk (shut_int u21 w0) (trodAll_cons_mk (Below.trod laidOut (by kernel_rfl) (of_decide_eq_true (by kernel_rfl)) h1 bel lt1) (trodAll_cons_mk (shut_int u3 w2) trodAll_mk0))), rfl, bel.frame _, fun h => by cases h⟩
theorem over : Rows.monoOnesRow.holds Try.pinned (OpenSpec.ofChange Rows.monoOnesSpec) :=
  OpenClaim.holds_of_wide 5 Try.f5 rfl rfl rfl rfl rfl rfl rfl ⟨rfl, rfl, rfl, rfl, rfl⟩ rfl rfl rfl rfl rfl (by kernel_rfl) Try.func5 (by kernel_rfl)
    (of_decide_eq_true (by kernel_rfl)) (by unfold Func.isWrapper; first | (rw [if_pos (by decide +kernel)]; kernel_rfl) | (rw [if_neg (by decide +kernel)]; exact ⟨rfl, rfl⟩))
    (fun os started H enc _ => lifted os started H enc)
theorem proved : Rows.MonoOnesSaid := over
end Go.Proofs.Ytabgankeaagibaa.monoOnes
namespace Go.Proofs.Ytabgankeaagibaa
theorem monoOnes_holds : Rows.MonoOnesSaid := monoOnes.proved
end Go.Proofs.Ytabgankeaagibaa

