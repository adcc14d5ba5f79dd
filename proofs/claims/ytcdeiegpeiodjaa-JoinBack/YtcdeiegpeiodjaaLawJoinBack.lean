/- The statement JoinBack: the row, out of the walk. -/
import Derived.Test.YtcdeiegpeiodjaaRows
import Derived.Test.YtcdeiegpeiodjaaB4
import Derived.Test.YtcdeiegpeiodjaaB3
import Derived.WalkKit
import Derived.ProofKit
import Derived.OpenShut
import Derived.ShutString
import Derived.ChangeOld
import Derived.Below
import Derived.SizedLaws
import Derived.Carry
set_option linter.unusedVariables false
namespace Go.Proofs.Ytcdeiegpeiodjaa.joinBack
open Go Go.AL
open Go.ChangeShapes Go.WideShapes Go.ChangeAt Go.RowKit
open Go.ChangeMaps (open_string shut_string)

theorem own : ownKnob Try.prog.godebug = none := by kernel_rfl
theorem laidOut : laidOutB Try.prog = true := by kernel_rfl
theorem u26 : Try.prog.underlying 26 = some (.int .i8) := by kernel_rfl
theorem u4 : Try.prog.underlying 4 = some .bool := by kernel_rfl
theorem u22 : Try.prog.underlying 22 = some (.slice 26) := by kernel_rfl
theorem op22 : Opens Try.prog 22 (fun xs => ∃ L : List Int, xs = [.sl 1 (irows .i8 L) false] ∧ L.length < 9223372036854775808 ∧ ∀ n ∈ L, -128 ≤ n ∧ n < 128) := by
  refine (opens_slice (c := 1) u22 (by kernel_rfl) (Nat.le_of_ble_eq_true rfl) (opens_int u26)).mono ?_
  rintro xs ⟨rows, rfl, hl, hr⟩
  have key : ∀ rows : List (List AV), (∀ r ∈ rows, r.length = 1 ∧ ∃ n, r = [.val (.int .i8 n)] ∧ (Lit.int .i8 n).wf = true) → ∃ L : List Int, rows = irows .i8 L ∧ ∀ n ∈ L, -128 ≤ n ∧ n < 128 := by
    intro rows
    induction rows with
    | nil => exact fun _ => ⟨[], rfl, fun n hn => by cases hn⟩
    | cons r rows ih =>
      intro h
      obtain ⟨_, n, hn, hw⟩ := h r List.mem_cons_self
      obtain ⟨L, hL, hLz⟩ := ih (fun r hr => h r (List.mem_cons_of_mem _ hr))
      refine ⟨n :: L, by rw [hn, hL]; rfl, fun t ht => ?_⟩
      rcases List.mem_cons.1 ht with rfl | ht
      · simp [Lit.wf, IntKind.min, IntKind.max, IntKind.signed, IntKind.bits] at hw
        omega
      · exact hLz t ht
  obtain ⟨L, rfl, hz⟩ := key rows hr
  refine ⟨L, rfl, ?_, hz⟩
  rw [irows_len] at hl
  unfold maxLen at hl
  omega
set_option maxRecDepth 100000 in
theorem lifted (os : Os) (started : os.Started) (H : Type) (enc : TypeId × Value → H) :
    ReturnsInHanded {} Try.checked os 4 .any (Rows.joinBackSpec.pre6 enc Try.prog Try.f4 Rows.joinBackRow.domain false) (Rows.joinBackSpec.post enc Try.prog Try.f4 false true false false) := by
  refine returnsInHanded_of_change_sized (C := Try.checked) own started (by kernel_rfl) Try.func4
    (ChangeSpec.witness6 (enc := enc) (C := Try.checked) false ⟨#[], #[.slice none 0 0, .slice none 0 0, .slice none 0 0], []⟩ 8 (by kernel_rfl) (by kernel_rfl) (by kernel_rfl) (by kernel_rfl)) ?_
  intro W base args ds gs before hval0 hW hcnd hsz0 _
  have hp : Try.f4.params = #[22, 22, 22] := rfl
  have hsz : (DataW.weightsEach Try.prog (Try.f4.params.toList ++ Rows.joinBackSpec.plain.varTypes Try.prog) (ds ++ gs)).all (· ≤ reachBytes) = true := hsz0
  have hval : ∀ (j : Nat) t v, Try.f4.params[j]? = some t → args[j]? = some v → Value.okWide Try.prog W .any base t v := hval0
  have hW' := hW
  obtain ⟨p, q, hA0, hV, rfl, hfz, hnd⟩ := hW
  have hA : DataW.TrodAll enc Try.prog W 0 (fun _ => true) true Try.f4.params.toList args.toList ds p := hA0
  rw [hp] at hA hval hsz
  obtain ⟨v0, vs0, d0, ds0, p0, q0, hargs, rfl, rfl, h0, r0⟩ := trodAll_cons hA
  obtain ⟨v1, vs1, d1, ds1, p1, q1, rfl, rfl, rfl, h1, r1⟩ := trodAll_cons r0
  obtain ⟨v2, vs2, d2, ds2, p2, q2, rfl, rfl, rfl, h2, r2⟩ := trodAll_cons r1
  obtain ⟨rfl, rfl, rfl⟩ := trodAll_nil r2
  obtain rfl : args = #[v0, v1, v2] := by cases args; simp_all
  obtain ⟨rfl, rfl⟩ := trodVars_none hV
  obtain ⟨A0, n0, c0, rfl⟩ := okWide_slice u22 (hval 0 22 v0 rfl rfl)
  obtain ⟨x0, ⟨L0, e0, l0⟩, vr0, _⟩ := Opens.cell op22 h0 rfl
  injection e0 with e0 _
  subst e0
  have lt0 : ∀ x ∈ p0, x.block < W.heap.size := by obtain ⟨m, hm⟩ := h0; exact DataW.trod_lt m _ _ _ hm
  obtain ⟨A1, n1, c1, rfl⟩ := okWide_slice u22 (hval 1 22 v1 rfl rfl)
  obtain ⟨x1, ⟨L1, e1, l1⟩, vr1, _⟩ := Opens.cell op22 h1 rfl
  injection e1 with e1 _
  subst e1
  have lt1 : ∀ x ∈ p1, x.block < W.heap.size := by obtain ⟨m, hm⟩ := h1; exact DataW.trod_lt m _ _ _ hm
  obtain ⟨A2, n2, c2, rfl⟩ := okWide_slice u22 (hval 2 22 v2 rfl rfl)
  obtain ⟨x2, ⟨L2, e2, l2⟩, vr2, _⟩ := Opens.cell op22 h2 rfl
  injection e2 with e2 _
  subst e2
  have lt2 : ∀ x ∈ p2, x.block < W.heap.size := by obtain ⟨m, hm⟩ := h2; exact DataW.trod_lt m _ _ _ hm
  clear hA0 hval0 hsz0 hsz
  refine ((holds L0 L1 L2 l0.1 l0.2 l1.1 l1.2 l2.1 l2.2).law W _ rfl (fun i x hx => by
    rcases i with _ | i
    · simp at hx; subst hx; exact vr0
    rcases i with _ | i
    · simp at hx; subst hx; exact vr1
    rcases i with _ | i
    · simp at hx; subst hx; exact vr2
    · simp at hx)).mono fun e W' ⟨he, bel⟩ => ?_
  subst he
  exact ⟨_, rfl, _, _, _, [], _, [], hW', trodAll_mk1 (shut_bool u4 _), (trodAll_cons_mk (Below.trod laidOut (by kernel_rfl) (of_decide_eq_true (by kernel_rfl)) h0 bel lt0) (trodAll_cons_mk (Below.trod laidOut (by kernel_rfl) (of_decide_eq_true (by kernel_rfl)) h1 bel lt1) (trodAll_cons_mk (Below.trod laidOut (by kernel_rfl) (of_decide_eq_true (by kernel_rfl)) h2 bel lt2) trodAll_mk0))), rfl, bel.frame _, fun h => by cases h⟩
theorem over : Rows.joinBackRow.holds Try.pinned (OpenSpec.ofChange Rows.joinBackSpec) :=
  OpenClaim.holds_of_wide 4 Try.f4 rfl rfl rfl rfl rfl rfl rfl ⟨rfl, rfl, rfl, rfl, rfl⟩ rfl rfl rfl rfl rfl (by kernel_rfl) Try.func4 (by kernel_rfl)
    (of_decide_eq_true (by kernel_rfl)) (by unfold Func.isWrapper; first | (rw [if_pos (by decide +kernel)]; kernel_rfl) | (rw [if_neg (by decide +kernel)]; exact ⟨rfl, rfl⟩))
    (fun os started H enc _ => lifted os started H enc)
theorem proved : Rows.JoinBackSaid := over
end Go.Proofs.Ytcdeiegpeiodjaa.joinBack
namespace Go.Proofs.Ytcdeiegpeiodjaa
theorem joinBack_holds : Rows.JoinBackSaid := joinBack.proved
end Go.Proofs.Ytcdeiegpeiodjaa

