/- The statement OrderParses: the row, out of the walk. -/
import Derived.Test.YtdlonboheckdoaaRows
import Derived.Test.YtdlonboheckdoaaB3
import Derived.Test.YtdlonboheckdoaaB2
import Derived.WalkKit
import Derived.ProofKit
import Derived.OpenShut
import Derived.ShutString
import Derived.ChangeOld
import Derived.Below
import Derived.SizedLaws
import Derived.Carry
set_option linter.unusedVariables false
namespace Go.Proofs.Ytdlonboheckdoaa.orderParses
open Go Go.AL
open Go.ChangeShapes Go.WideShapes Go.ChangeAt Go.RowKit
open Go.ChangeMaps (open_string shut_string)

theorem own : ownKnob Try.prog.godebug = none := by kernel_rfl
theorem laidOut : laidOutB Try.prog = true := by kernel_rfl
theorem u21 : Try.prog.underlying 21 = some (.int .i32) := by kernel_rfl
theorem u4 : Try.prog.underlying 4 = some .bool := by kernel_rfl
theorem u29 : Try.prog.underlying 29 = some (.slice 21) := by kernel_rfl
theorem op29 : Opens Try.prog 29 (fun xs => ∃ L : List Int, xs = [.sl 1 (irows .i32 L) false] ∧ L.length < 9223372036854775808) := by
  refine (opens_slice (c := 1) u29 (by kernel_rfl) (Nat.le_of_ble_eq_true rfl) (opens_int u21)).mono ?_
  rintro xs ⟨rows, rfl, hl, hr⟩
  have key : ∀ rows : List (List AV), (∀ r ∈ rows, r.length = 1 ∧ ∃ n, r = [.val (.int .i32 n)] ∧ (Lit.int .i32 n).wf = true) → ∃ L : List Int, rows = irows .i32 L := by
    intro rows
    induction rows with
    | nil => exact fun _ => ⟨[], rfl⟩
    | cons r rows ih =>
      intro h
      obtain ⟨_, n, hn, _⟩ := h r List.mem_cons_self
      obtain ⟨L, hL⟩ := ih (fun r hr => h r (List.mem_cons_of_mem _ hr))
      exact ⟨n :: L, by rw [hn, hL]; rfl⟩
  obtain ⟨L, rfl⟩ := key rows hr
  refine ⟨L, rfl, ?_⟩
  rw [irows_len] at hl
  unfold maxLen at hl
  omega
set_option maxRecDepth 100000 in
theorem lifted (os : Os) (started : os.Started) (H : Type) (enc : TypeId × Value → H) :
    ReturnsInHanded {} Try.checked os 4 .any (Rows.orderParsesSpec.pre6 enc Try.prog Try.f4 Rows.orderParsesRow.domain false) (Rows.orderParsesSpec.post enc Try.prog Try.f4 false true false false) := by
  refine returnsInHanded_of_change_sized (C := Try.checked) own started (by kernel_rfl) Try.func4
    (ChangeSpec.witness6 (enc := enc) (C := Try.checked) false ⟨#[], #[.slice none 0 0], []⟩ 8 (by kernel_rfl) (by kernel_rfl) (by kernel_rfl) (by kernel_rfl)) ?_
  intro W base args ds gs before hval0 hW hcnd hsz0 _
  have hp : Try.f4.params = #[29] := rfl
  have hsz : (DataW.weightsEach Try.prog (Try.f4.params.toList ++ Rows.orderParsesSpec.plain.varTypes Try.prog) (ds ++ gs)).all (· ≤ reachBytes) = true := hsz0
  have hval : ∀ (j : Nat) t v, Try.f4.params[j]? = some t → args[j]? = some v → Value.okWide Try.prog W .any base t v := hval0
  have hW' := hW
  obtain ⟨p, q, hA0, hV, rfl, hfz, hnd⟩ := hW
  have hA : DataW.TrodAll enc Try.prog W 0 (fun _ => true) true Try.f4.params.toList args.toList ds p := hA0
  rw [hp] at hA hval hsz
  obtain ⟨v0, vs0, d0, ds0, p0, q0, hargs, rfl, rfl, h0, r0⟩ := trodAll_cons hA
  obtain ⟨rfl, rfl, rfl⟩ := trodAll_nil r0
  obtain rfl : args = #[v0] := by cases args; simp_all
  obtain ⟨rfl, rfl⟩ := trodVars_none hV
  obtain ⟨A0, n0, c0, rfl⟩ := okWide_slice u29 (hval 0 29 v0 rfl rfl)
  obtain ⟨x0, ⟨L0, e0, l0⟩, vr0, _⟩ := Opens.cell op29 h0 rfl
  injection e0 with e0 _
  subst e0
  have lt0 : ∀ x ∈ p0, x.block < W.heap.size := by obtain ⟨m, hm⟩ := h0; exact DataW.trod_lt m _ _ _ hm
  clear hA0 hval0 hsz0 hsz
  refine ((holds L0 l0).law W _ rfl (fun i x hx => by
    rcases i with _ | i
    · simp at hx; subst hx; exact vr0
    · simp at hx)).mono fun e W' ⟨he, bel⟩ => ?_
  subst he
  exact ⟨_, rfl, _, _, _, [], _, [], hW', trodAll_mk1 (shut_bool u4 _), (trodAll_cons_mk (Below.trod laidOut (by kernel_rfl) (of_decide_eq_true (by kernel_rfl)) h0 bel lt0) trodAll_mk0), rfl, bel.frame _, fun h => by cases h⟩
theorem over : Rows.orderParsesRow.holds Try.pinned (OpenSpec.ofChange Rows.orderParsesSpec) :=
  OpenClaim.holds_of_wide 4 Try.f4 rfl rfl rfl rfl rfl rfl rfl ⟨rfl, rfl, rfl, rfl, rfl⟩ rfl rfl rfl rfl rfl (by kernel_rfl) Try.func4 (by kernel_rfl)
    (of_decide_eq_true (by kernel_rfl)) (by unfold Func.isWrapper; first | (rw [if_pos (by decide +kernel)]; kernel_rfl) | (rw [if_neg (by decide +kernel)]; exact ⟨rfl, rfl⟩))
    (fun os started H enc _ => lifted os started H enc)
theorem proved : Rows.OrderParsesSaid := over
end Go.Proofs.Ytdlonboheckdoaa.orderParses
namespace Go.Proofs.Ytdlonboheckdoaa
theorem orderParses_holds : Rows.OrderParsesSaid := orderParses.proved
end Go.Proofs.Ytdlonboheckdoaa

