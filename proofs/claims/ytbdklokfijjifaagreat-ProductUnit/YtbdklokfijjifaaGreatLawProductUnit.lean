/- The statement ProductUnit: the row, out of the walk. -/
import Derived.Test.YtbdklokfijjifaaGreatRows
import Derived.Test.YtbdklokfijjifaaGreatB6
import Derived.Test.YtbdklokfijjifaaGreatB2
import Derived.WalkKit
import Derived.ProofKit
import Derived.OpenShut
import Derived.ShutString
import Derived.ChangeOld
import Derived.Below
import Derived.SizedLaws
import Derived.Carry
set_option linter.unusedVariables false
namespace Go.Proofs.YtbdklokfijjifaaGreat.productUnit
open Go Go.AL
open Go.ChangeShapes Go.WideShapes Go.ChangeAt Go.RowKit
open Go.ChangeMaps (open_string shut_string)
theorem own : ownKnob Tryz.prog.godebug = none := by kernel_rfl
theorem laidOut : laidOutB Tryz.prog = true := by kernel_rfl
theorem u28 : Tryz.prog.underlying 28 = some (.int .i8) := by kernel_rfl
theorem u4 : Tryz.prog.underlying 4 = some .bool := by kernel_rfl
theorem u26 : Tryz.prog.underlying 26 = some (.slice 28) := by kernel_rfl
theorem op26 : Opens Tryz.prog 26 (fun xs => ∃ L : List Int, xs = [.sl 1 (irows .i8 L) false] ∧ L.length < 9223372036854775808 ∧ ∀ n ∈ L, -128 ≤ n ∧ n < 128) := by
 refine (opens_slice (c := 1) u26 (by kernel_rfl) (nbq rfl) (opens_int u28)).mono ?_
 rintro xs ⟨rows, rfl, hl, hr⟩
 have key : ∀ rows : List (List AV), (∀ r ∈ rows, r.length = 1 ∧ ∃ n, r = [.val (.int .i8 n)] ∧ (Lit.int .i8 n).wf = true) → ∃ L : List Int, rows = irows .i8 L ∧ ∀ n ∈ L, -128 ≤ n ∧ n < 128 := by
  intro rows
  induction rows with
  | nil => exact fun _ => ⟨[], rfl, fun n hn => by cases hn⟩
  | cons r rows ih =>
   intro h
   obtain ⟨_, n, hn, hw⟩ := h r List.mem_cons_self
   obtain ⟨L, hL, hLz⟩ := ih (fun r hr => h r (List.mem_cons_of_mem _ hr))
   refine ⟨n :: L, by rw [hn, hL]; rfl, fun t ht => ?_⟩
   rcases List.mem_cons.1 ht with rfl | ht
   ·simp [Lit.wf, IntKind.min, IntKind.max, IntKind.signed, IntKind.bits] at hw
    omega
   ·exact hLz t ht
 obtain ⟨L, rfl, hz⟩ := key rows hr
 refine ⟨L, rfl, ?_, hz⟩
 rw [irows_len] at hl
 unfold maxLen at hl
 omega
set_option maxRecDepth 100000 in
theorem lifted (os : Os) (started : os.Started) (H : Type) (enc : TypeId × Value → H) :
  ReturnsInHanded {} Tryz.checked os 6 .any (Rows.productUnitSpec.pre6 enc Tryz.prog Tryz.f6 Rows.productUnitRow.domain false) (Rows.productUnitSpec.post enc Tryz.prog Tryz.f6 false true false false) := by
 refine returnsInHanded_of_change_sized (C := Tryz.checked) own started (by kernel_rfl) Tryz.func6
  (ChangeSpec.witness6 (enc := enc) (C := Tryz.checked) false ⟨#[], #[.slice none 0 0, .slice none 0 0], []⟩ 8 (by kernel_rfl) (by kernel_rfl) (by kernel_rfl) (by kernel_rfl)) ?_
 intro W base args ds gs before hval0 hW hcnd hsz0 _
 have hp : Tryz.f6.params = #[26, 26] := rfl
 have hsz : (DataW.weightsEach Tryz.prog (Tryz.f6.params.toList ++ Rows.productUnitSpec.plain.varTypes Tryz.prog) (ds ++ gs)).all (· ≤ reachBytes) = true := hsz0
 have hval : ∀ (j : Nat) t v, Tryz.f6.params[j]? = some t → args[j]? = some v → Value.okWide Tryz.prog W .any base t v := hval0
 have hW' := hW
 obtain ⟨p, q, hA0, hV, rfl, hfz, hnd⟩ := hW
 have hA : DataW.TrodAll enc Tryz.prog W 0 (fun _ => true) true Tryz.f6.params.toList args.toList ds p := hA0
 rw [hp] at hA hval hsz
 obtain ⟨v0, vs0, d0, ds0, p0, q0, hargs, rfl, rfl, h0, r0⟩ := trodAll_cons hA
 obtain ⟨v1, vs1, d1, ds1, p1, q1, rfl, rfl, rfl, h1, r1⟩ := trodAll_cons r0
 obtain ⟨rfl, rfl, rfl⟩ := trodAll_nil r1
 obtain rfl : args = #[v0, v1] := by cases args; simp_all
 obtain ⟨rfl, rfl⟩ := trodVars_none hV
 obtain ⟨A0, n0, c0, rfl⟩ := okWide_slice u26 (hval 0 26 v0 rfl rfl)
 obtain ⟨x0, ⟨L0, e0, l0⟩, vr0, _⟩ := Opens.cell op26 h0 rfl
 injection e0 with e0 _
 subst e0
 have lt0 : ∀ x ∈ p0, x.block < W.heap.size := by obtain ⟨m, hm⟩ := h0; exact DataW.trod_lt m _ _ _ hm
 obtain ⟨A1, n1, c1, rfl⟩ := okWide_slice u26 (hval 1 26 v1 rfl rfl)
 obtain ⟨x1, ⟨L1, e1, l1⟩, vr1, _⟩ := Opens.cell op26 h1 rfl
 injection e1 with e1 _
 subst e1
 have lt1 : ∀ x ∈ p1, x.block < W.heap.size := by obtain ⟨m, hm⟩ := h1; exact DataW.trod_lt m _ _ _ hm
 clear hA0 hval0 hsz0 hsz
 refine ((holds L0 L1 l0.1 l0.2 l1.1 l1.2).law W _ rfl (fun i x hx => by
  rcases i with _ | i
  ·simp at hx; subst hx; exact vr0
  rcases i with _ | i
  ·simp at hx; subst hx; exact vr1
  ·simp at hx)).mono fun e W' ⟨he, bel⟩ => ?_
 subst he
 exact ⟨_, rfl, _, _, _, [], _, [], hW', trodAll_mk1 (shut_bool u4 _), (trodAll_cons_mk (Below.trod laidOut (by kernel_rfl) (of_decide_eq_true (by kernel_rfl)) h0 bel lt0) (trodAll_cons_mk (Below.trod laidOut (by kernel_rfl) (of_decide_eq_true (by kernel_rfl)) h1 bel lt1) trodAll_mk0)), rfl, bel.frame _, fun h => by cases h⟩
theorem over : Rows.productUnitRow.holds Tryz.pinned (OpenSpec.ofChange Rows.productUnitSpec) :=
 OpenClaim.holds_of_wide 6 Tryz.f6 rfl rfl rfl rfl rfl rfl rfl ⟨rfl, rfl, rfl, rfl, rfl⟩ rfl rfl rfl rfl rfl (by kernel_rfl) Tryz.func6 (by kernel_rfl)
  (of_decide_eq_true (by kernel_rfl)) (by unfold Func.isWrapper; first | (rw [if_pos (by decide +kernel)]; kernel_rfl) | (rw [if_neg (by decide +kernel)]; exact q2r))
  (fun os started H enc _ => lifted os started H enc)
theorem proved : Rows.ProductUnitSaid := over
end Go.Proofs.YtbdklokfijjifaaGreat.productUnit
namespace Go.Proofs.YtbdklokfijjifaaGreat
theorem productUnit_holds : Rows.ProductUnitSaid := productUnit.proved
end Go.Proofs.YtbdklokfijjifaaGreat
