/- The statement FoldLast: the row, out of the walk. -/
import Derived.Test.YtcdeiegpeiodjaaGreatRows
import Derived.Test.YtcdeiegpeiodjaaGreatB5
import Derived.Test.YtcdeiegpeiodjaaGreatB2
import Derived.WalkKit
import Derived.ProofKit
import Derived.OpenShut
import Derived.ShutString
import Derived.ChangeOld
import Derived.Below
import Derived.SizedLaws
import Derived.Carry
set_option linter.unusedVariables false
namespace Go.Proofs.YtcdeiegpeiodjaaGreat.foldLast
open Go Go.AL
open Go.ChangeShapes Go.WideShapes Go.ChangeAt Go.RowKit
open Go.ChangeMaps (open_string shut_string)
theorem own : ownKnob Tryz.prog.godebug = none := by kernel_rfl
theorem laidOut : laidOutB Tryz.prog = true := by kernel_rfl
theorem u21 : Tryz.prog.underlying 21 = some (.int .i32) := by kernel_rfl
theorem u44 : Tryz.prog.underlying 44 = some (.int .i8) := by kernel_rfl
theorem u4 : Tryz.prog.underlying 4 = some .bool := by kernel_rfl
theorem u43 : Tryz.prog.underlying 43 = some (.slice 44) := by kernel_rfl
theorem op43 : Opens Tryz.prog 43 (fun xs => ∃ L : List Int, xs = [.sl 1 (irows .i8 L) false] ∧ L.length < 9223372036854775808 ∧ ∀ n ∈ L, -128 ≤ n ∧ n < 128) := by
 refine (opens_slice (c := 1) u43 (by kernel_rfl) (nbq rfl) (opens_int u44)).mono ?_
 rintro xs ⟨rows, rfl, hl, hr⟩
 have key : ∀ rows : List (List AV), (∀ r ∈ rows, r.length = 1 ∧ ∃ n, r = [.val (.int .i8 n)] ∧ (Lit.int .i8 n).wf = true) → ∃ L : List Int, rows = irows .i8 L ∧ ∀ n ∈ L, -128 ≤ n ∧ n < 128 := by
  intro rows
  induction rows with
  | nil => exact fun _ => ⟨[], rfl, fun n hn => by cases hn⟩
  | cons r rows ih =>
   intro h
   obtain ⟨_, n, hn, hw⟩ := h r List.mem_cons_self
   obtain ⟨L, hL, hLz⟩ := ih (fun r hr => h r (List.mem_cons_of_mem _ hr))
   refine ⟨n :: L, by rw [hn, hL]; rfl, fun t ht => ?_⟩
   rcases List.mem_cons.1 ht with rfl | ht
   ·simp [Lit.wf, IntKind.min, IntKind.max, IntKind.signed, IntKind.bits] at hw
    omega
   ·exact hLz t ht
 obtain ⟨L, rfl, hz⟩ := key rows hr
 refine ⟨L, rfl, ?_, hz⟩
 rw [irows_len] at hl
 unfold maxLen at hl
 omega
set_option maxRecDepth 100000 in
theorem lifted (os : Os) (started : os.Started) (H : Type) (enc : TypeId × Value → H) :
  ReturnsInHanded {} Tryz.checked os 5 .any (Rows.foldLastSpec.pre6 enc Tryz.prog Tryz.f5 Rows.foldLastRow.domain false) (Rows.foldLastSpec.post enc Tryz.prog Tryz.f5 false true false false) := by
 refine returnsInHanded_of_change_sized (C := Tryz.checked) own started (by kernel_rfl) Tryz.func5
  (ChangeSpec.witness6 (enc := enc) (C := Tryz.checked) false ⟨#[], #[.int .i32 0, .slice none 0 0], []⟩ 8 (by kernel_rfl) (by kernel_rfl) (by kernel_rfl) (by kernel_rfl)) ?_
 intro W base args ds gs before hval0 hW hcnd hsz0 _
 have hp : Tryz.f5.params = #[21, 43] := rfl
 have hsz : (DataW.weightsEach Tryz.prog (Tryz.f5.params.toList ++ Rows.foldLastSpec.plain.varTypes Tryz.prog) (ds ++ gs)).all (· ≤ reachBytes) = true := hsz0
 have hval : ∀ (j : Nat) t v, Tryz.f5.params[j]? = some t → args[j]? = some v → Value.okWide Tryz.prog W .any base t v := hval0
 have hW' := hW
 obtain ⟨p, q, hA0, hV, rfl, hfz, hnd⟩ := hW
 have hA : DataW.TrodAll enc Tryz.prog W 0 (fun _ => true) true Tryz.f5.params.toList args.toList ds p := hA0
 rw [hp] at hA hval hsz
 obtain ⟨v0, vs0, d0, ds0, p0, q0, hargs, rfl, rfl, h0, r0⟩ := trodAll_cons hA
 obtain ⟨v1, vs1, d1, ds1, p1, q1, rfl, rfl, rfl, h1, r1⟩ := trodAll_cons r0
 obtain ⟨rfl, rfl, rfl⟩ := trodAll_nil r1
 obtain rfl : args = #[v0, v1] := by cases args; simp_all
 obtain ⟨rfl, rfl⟩ := trodVars_none hV
 obtain ⟨a0, rfl, rfl, rfl, w0⟩ := open_int u21 (hval 0 21 v0 rfl rfl) h0
 have hw0 : -2147483648 ≤ a0 ∧ a0 < 2147483648 := by
  have := w0
  simp [Lit.wf, IntKind.min, IntKind.max, IntKind.signed, IntKind.bits] at this
  omega
 obtain ⟨A1, n1, c1, rfl⟩ := okWide_slice u43 (hval 1 43 v1 rfl rfl)
 obtain ⟨x1, ⟨L1, e1, l1⟩, vr1, _⟩ := Opens.cell op43 h1 rfl
 injection e1 with e1 _
 subst e1
 have lt1 : ∀ x ∈ p1, x.block < W.heap.size := by obtain ⟨m, hm⟩ := h1; exact DataW.trod_lt m _ _ _ hm
 clear hA0 hval0 hsz0 hsz
 refine ((holds a0 L1 hw0 l1.1 l1.2).law W _ rfl (fun i x hx => by
  rcases i with _ | i
  ·simp at hx; subst hx; exact .val _
  rcases i with _ | i
  ·simp at hx; subst hx; exact vr1
  ·simp at hx)).mono fun e W' ⟨he, bel⟩ => ?_
 subst he
 exact ⟨_, rfl, _, _, _, [], _, [], hW', trodAll_mk1 (shut_bool u4 _), (trodAll_cons_mk (shut_int u21 w0) (trodAll_cons_mk (Below.trod laidOut (by kernel_rfl) (of_decide_eq_true (by kernel_rfl)) h1 bel lt1) trodAll_mk0)), rfl, bel.frame _, fun h => by cases h⟩
theorem over : Rows.foldLastRow.holds Tryz.pinned (OpenSpec.ofChange Rows.foldLastSpec) :=
 OpenClaim.holds_of_wide 5 Tryz.f5 rfl rfl rfl rfl rfl rfl rfl ⟨rfl, rfl, rfl, rfl, rfl⟩ rfl rfl rfl rfl rfl (by kernel_rfl) Tryz.func5 (by kernel_rfl)
  (of_decide_eq_true (by kernel_rfl)) (by unfold Func.isWrapper; first | (rw [if_pos (by decide +kernel)]; kernel_rfl) | (rw [if_neg (by decide +kernel)]; exact q2r))
  (fun os started H enc _ => lifted os started H enc)
theorem proved : Rows.FoldLastSaid := over
end Go.Proofs.YtcdeiegpeiodjaaGreat.foldLast
namespace Go.Proofs.YtcdeiegpeiodjaaGreat
theorem foldLast_holds : Rows.FoldLastSaid := foldLast.proved
end Go.Proofs.YtcdeiegpeiodjaaGreat
