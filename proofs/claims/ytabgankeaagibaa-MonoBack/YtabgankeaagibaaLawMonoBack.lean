/- The statement MonoBack: the row, out of the walk. -/
import Derived.Test.YtabgankeaagibaaRows
import Derived.Test.YtabgankeaagibaaB5
import Derived.WalkKit
import Derived.ProofKit
import Derived.OpenShut
import Derived.ShutString
import Derived.ChangeOld
import Derived.Below
import Derived.SizedLaws
import Derived.Carry
set_option linter.unusedVariables false
namespace Go.Proofs.Ytabgankeaagibaa.monoBack
open Go Go.AL NM
open Go.ChangeShapes Go.WideShapes Go.ChangeAt Go.RowKit
open Go.ChangeMaps (open_string shut_string)

theorem own : ownKnob Try.prog.godebug = none := by kernel_rfl
theorem laidOut : laidOutB Try.prog = true := by kernel_rfl
theorem u4 : Try.prog.underlying 4 = some .bool := by kernel_rfl
theorem u9 : Try.prog.underlying 9 = some .string := by kernel_rfl
theorem u23 : Try.prog.underlying 23 = some (.struct (Try.prog.fieldsOf 23)) := by kernel_rfl
theorem op23 : Opens Try.prog 23 (fun xs => ∃ b s t, xs = [.val (.bool b), .val (.string s), .val (.string t)]) := by
  have h := opens_struct (l := [(0, 4), (1, 9), (2, 9)]) (n := 3) u23 (by kernel_rfl) (by kernel_rfl) (.cons _ _ 0 1 3 _ _ (by kernel_rfl) (opens_bool u4) (.cons _ _ 1 1 3 _ _ (by kernel_rfl) (opens_str u9) (.cons _ _ 2 1 3 _ _ (by kernel_rfl) (opens_str u9) (.nil 3))))
  refine h.mono ?_
  rintro xs ⟨a, b, rfl, ⟨x, rfl⟩, c, d, rfl, ⟨y, rfl, _⟩, e, f, rfl, ⟨z, rfl, _⟩, rfl⟩
  exact ⟨x, y, z, rfl⟩
set_option maxRecDepth 100000 in
theorem lifted (os : Os) (started : os.Started) (H : Type) (enc : TypeId × Value → H) :
    ReturnsInHanded {} Try.checked os 10 .any (Rows.monoBackSpec.pre6 enc Try.prog Try.f10 Rows.monoBackRow.domain false) (Rows.monoBackSpec.post enc Try.prog Try.f10 false true false false) := by
  refine returnsInHanded_of_change_sized (C := Try.checked) own started (by kernel_rfl) Try.func10
    (ChangeSpec.witness6 (enc := enc) (C := Try.checked) false ⟨#[], #[.agg #[.bool false, .string ByteArray.empty, .string ByteArray.empty]], []⟩ 8 (by kernel_rfl) (by kernel_rfl) (by kernel_rfl) (by kernel_rfl)) ?_
  intro W base args ds gs before hval0 hW hcnd hsz0 _
  have hp : Try.f10.params = #[23] := rfl
  have hsz : (DataW.weightsEach Try.prog (Try.f10.params.toList ++ Rows.monoBackSpec.plain.varTypes Try.prog) (ds ++ gs)).all (· ≤ reachBytes) = true := hsz0
  have hval : ∀ (j : Nat) t v, Try.f10.params[j]? = some t → args[j]? = some v → Value.okWide Try.prog W .any base t v := hval0
  have hW' := hW
  obtain ⟨p, q, hA0, hV, rfl, hfz, hnd⟩ := hW
  have hA : DataW.TrodAll enc Try.prog W 0 (fun _ => true) true Try.f10.params.toList args.toList ds p := hA0
  rw [hp] at hA hval hsz
  obtain ⟨v0, vs0, d0, ds0, p0, q0, hargs, rfl, rfl, h0, r0⟩ := trodAll_cons hA
  obtain ⟨rfl, rfl, rfl⟩ := trodAll_nil r0
  obtain rfl : args = #[v0] := by cases args; simp_all
  obtain ⟨rfl, rfl⟩ := trodVars_none hV
  obtain ⟨c0, rfl, _⟩ := okWide_struct u23 (hval 0 23 v0 rfl rfl)
  obtain ⟨xs0, ⟨b0, s0, t0, rfl⟩, vr0, _⟩ := Opens.struct op23 h0
  have lt0 : ∀ x ∈ p0, x.block < W.heap.size := by obtain ⟨m, hm⟩ := h0; exact DataW.trod_lt m _ _ _ hm
  clear hA0 hval0 hsz0 hsz
  refine ((holds b0 s0 t0).law W _ rfl (fun i x hx => by
    rcases i with _ | i
    · simp at hx; subst hx; exact vr0
    · simp at hx)).mono fun e W' ⟨he, bel⟩ => ?_
  subst he
  exact ⟨_, rfl, _, _, _, [], _, [], hW', trodAll_mk1 (shut_bool u4 _), (trodAll_cons_mk (Below.trod laidOut (by kernel_rfl) (of_decide_eq_true (by kernel_rfl)) h0 bel lt0) trodAll_mk0), rfl, bel.frame _, fun h => by cases h⟩
theorem over : Rows.monoBackRow.holds Try.pinned (OpenSpec.ofChange Rows.monoBackSpec) :=
  OpenClaim.holds_of_wide 10 Try.f10 rfl rfl rfl rfl rfl rfl rfl ⟨rfl, rfl, rfl, rfl, rfl⟩ rfl rfl rfl rfl rfl (by kernel_rfl) Try.func10 (by kernel_rfl)
    (of_decide_eq_true (by kernel_rfl)) (by unfold Func.isWrapper; first | (rw [if_pos (by decide +kernel)]; kernel_rfl) | (rw [if_neg (by decide +kernel)]; exact ⟨rfl, rfl⟩))
    (fun os started H enc _ => lifted os started H enc)
theorem proved : Rows.MonoBackSaid := over
end Go.Proofs.Ytabgankeaagibaa.monoBack
namespace Go.Proofs.Ytabgankeaagibaa
theorem monoBack_holds : Rows.MonoBackSaid := monoBack.proved
end Go.Proofs.Ytabgankeaagibaa

