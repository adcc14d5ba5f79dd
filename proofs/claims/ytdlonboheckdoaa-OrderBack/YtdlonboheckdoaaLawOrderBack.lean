/- The statement OrderBack: the row, out of the walk. -/
import Derived.Test.YtdlonboheckdoaaRows
import Derived.Test.YtdlonboheckdoaaB3
import Derived.Test.YtdlonboheckdoaaB2
import Derived.WalkKit
import Derived.ProofKit
import Derived.OpenShut
import Derived.ShutString
import Derived.ChangeOld
import Derived.Below
import Derived.SizedLaws
import Derived.Carry
set_option linter.unusedVariables false
namespace Go.Proofs.Ytdlonboheckdoaa.orderBack
open Go Go.AL
open Go.ChangeShapes Go.WideShapes Go.ChangeAt Go.RowKit
open Go.ChangeMaps (open_string shut_string)

theorem own : ownKnob Try.prog.godebug = none := by kernel_rfl
theorem laidOut : laidOutB Try.prog = true := by kernel_rfl
theorem u5 : Try.prog.underlying 5 = some (.int .u8) := by kernel_rfl
theorem u9 : Try.prog.underlying 9 = some .string := by kernel_rfl
theorem u4 : Try.prog.underlying 4 = some .bool := by kernel_rfl
theorem u22 : Try.prog.underlying 22 = some (.slice 9) := by kernel_rfl
theorem op22 : Opens Try.prog 22 (fun xs => ∃ L : List ByteArray, xs = [.sl 1 (L.map fun s => [.val (.string s)]) false] ∧ L.length < 9223372036854775808 ∧ ∀ s ∈ L, s.size < 9223372036854775808) := by
  refine (opens_slice (c := 1) u22 (by kernel_rfl) (Nat.le_of_ble_eq_true rfl) (opens_str u9)).mono ?_
  rintro xs ⟨rows, rfl, hl, hr⟩
  have key : ∀ rows : List (List AV), (∀ r ∈ rows, r.length = 1 ∧ ∃ s, r = [.val (.string s)] ∧ s.size ≤ maxLen) → ∃ L : List ByteArray, rows = (L.map fun s => [.val (.string s)]) ∧ ∀ s ∈ L, s.size ≤ maxLen := by
    intro rows
    induction rows with
    | nil => exact fun _ => ⟨[], rfl, fun s hs => by cases hs⟩
    | cons r rows ih =>
      intro h
      obtain ⟨_, s, hs, hz⟩ := h r List.mem_cons_self
      obtain ⟨L, hL, hLz⟩ := ih (fun r hr => h r (List.mem_cons_of_mem _ hr))
      refine ⟨s :: L, by rw [hs, hL]; rfl, fun t ht => ?_⟩
      rcases List.mem_cons.1 ht with rfl | ht
      · exact hz
      · exact hLz t ht
  obtain ⟨L, rfl, hz⟩ := key rows hr
  refine ⟨L, rfl, ?_, fun s hs => ?_⟩
  · rw [List.length_map] at hl
    unfold maxLen at hl
    omega
  · have := hz s hs
    unfold maxLen at this
    omega
set_option maxRecDepth 100000 in
theorem lifted (os : Os) (started : os.Started) (H : Type) (enc : TypeId × Value → H) :
    ReturnsInHanded {} Try.checked os 3 .any (Rows.orderBackSpec.pre6 enc Try.prog Try.f3 Rows.orderBackRow.domain false) (Rows.orderBackSpec.post enc Try.prog Try.f3 false true false false) := by
  refine returnsInHanded_of_change_sized (C := Try.checked) own started (by kernel_rfl) Try.func3
    (ChangeSpec.witness6 (enc := enc) (C := Try.checked) false ⟨#[], #[.int .u8 0, .slice none 0 0], []⟩ 8 (by kernel_rfl) (by kernel_rfl) (by kernel_rfl) (by kernel_rfl)) ?_
  intro W base args ds gs before hval0 hW hcnd hsz0 _
  have hp : Try.f3.params = #[5, 22] := rfl
  have hsz : (DataW.weightsEach Try.prog (Try.f3.params.toList ++ Rows.orderBackSpec.plain.varTypes Try.prog) (ds ++ gs)).all (· ≤ reachBytes) = true := hsz0
  have hval : ∀ (j : Nat) t v, Try.f3.params[j]? = some t → args[j]? = some v → Value.okWide Try.prog W .any base t v := hval0
  have hW' := hW
  obtain ⟨p, q, hA0, hV, rfl, hfz, hnd⟩ := hW
  have hA : DataW.TrodAll enc Try.prog W 0 (fun _ => true) true Try.f3.params.toList args.toList ds p := hA0
  rw [hp] at hA hval hsz
  obtain ⟨v0, vs0, d0, ds0, p0, q0, hargs, rfl, rfl, h0, r0⟩ := trodAll_cons hA
  obtain ⟨v1, vs1, d1, ds1, p1, q1, rfl, rfl, rfl, h1, r1⟩ := trodAll_cons r0
  obtain ⟨rfl, rfl, rfl⟩ := trodAll_nil r1
  obtain rfl : args = #[v0, v1] := by cases args; simp_all
  obtain ⟨rfl, rfl⟩ := trodVars_none hV
  obtain ⟨a0, rfl, rfl, rfl, w0⟩ := open_int u5 (hval 0 5 v0 rfl rfl) h0
  have hw0 : 0 ≤ a0 ∧ a0 < 256 := by
    have := w0
    simp [Lit.wf, IntKind.min, IntKind.max, IntKind.signed, IntKind.bits] at this
    omega
  obtain ⟨A1, n1, c1, rfl⟩ := okWide_slice u22 (hval 1 22 v1 rfl rfl)
  obtain ⟨x1, ⟨L1, e1, l1⟩, vr1, _⟩ := Opens.cell op22 h1 rfl
  injection e1 with e1 _
  subst e1
  have lt1 : ∀ x ∈ p1, x.block < W.heap.size := by obtain ⟨m, hm⟩ := h1; exact DataW.trod_lt m _ _ _ hm
  clear hA0 hval0 hsz0 hsz
  refine ((holds a0 L1 hw0 l1.1 l1.2).law W _ rfl (fun i x hx => by
    rcases i with _ | i
    · simp at hx; subst hx; exact .val _
    rcases i with _ | i
    · simp at hx; subst hx; exact vr1
    · simp at hx)).mono fun e W' ⟨he, bel⟩ => ?_
  subst he
  exact ⟨_, rfl, _, _, _, [], _, [], hW', trodAll_mk1 (shut_bool u4 _), (trodAll_cons_mk (shut_int u5 w0) (trodAll_cons_mk (Below.trod laidOut (by kernel_rfl) (of_decide_eq_true (by kernel_rfl)) h1 bel lt1) trodAll_mk0)), rfl, bel.frame _, fun h => by cases h⟩
theorem over : Rows.orderBackRow.holds Try.pinned (OpenSpec.ofChange Rows.orderBackSpec) :=
  OpenClaim.holds_of_wide 3 Try.f3 rfl rfl rfl rfl rfl rfl rfl ⟨rfl, rfl, rfl, rfl, rfl⟩ rfl rfl rfl rfl rfl (by kernel_rfl) Try.func3 (by kernel_rfl)
    (of_decide_eq_true (by kernel_rfl)) (by unfold Func.isWrapper; first | (rw [if_pos (by decide +kernel)]; kernel_rfl) | (rw [if_neg (by decide +kernel)]; exact ⟨rfl, rfl⟩))
    (fun os started H enc _ => lifted os started H enc)
theorem proved : Rows.OrderBackSaid := over
end Go.Proofs.Ytdlonboheckdoaa.orderBack
namespace Go.Proofs.Ytdlonboheckdoaa
theorem orderBack_holds : Rows.OrderBackSaid := orderBack.proved
end Go.Proofs.Ytdlonboheckdoaa

