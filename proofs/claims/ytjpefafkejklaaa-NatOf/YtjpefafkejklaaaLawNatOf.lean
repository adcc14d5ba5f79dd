/- The statement NatOf: the walk through the law, and the row. -/
import Derived.Test.YtjpefafkejklaaaRows
import Derived.Test.YtjpefafkejklaaaN11
import Derived.WalkKit
import Derived.ProofKit
import Derived.OpenShut
import Derived.ShutString
import Derived.ChangeOld
import Derived.Below
import Derived.SizedLaws
set_option linter.unusedVariables false
namespace Go.Proofs.Ytjpefafkejklaaa.natOf
open Go Go.AL NM
open Go.ChangeShapes Go.WideShapes Go.ChangeAt Go.RowKit
open Go.ChangeMaps (open_string shut_string)

theorem NatOf_ok (n : Nat) (hn : n < 18446744073709551616) : AC Try.prog 7 [.val (.int .u64 n)] (.pure (.val (.bool true))) := by
  refine AC.of_body TTok Try.func7 rfl (enter_of Try.func7 (by kernel_rfl) (by kernel_rfl)) (noid1 (.val _)) (.val _) (Nat.le_of_ble_eq_true rfl) ?_
  have hU := Uint_ok n
  rw [if_pos hn, decide_eq_true hn] at hU
  have hlen : (limbs n).length ≤ 2 := limbs_len_le (by omega)
  have hT := Text_ok n (by omega)
  have hself : ((decS n).toList == (decS n).toList) = true := beq_self_eq_true _
  have hn2 : ((n : Int) == (n : Int)) = true := beq_self_eq_true _
  conv => whnf
  refine ⟨_, Of_ok n hn, ?_⟩
  conv => whnf
  refine ⟨_, hU, ?_⟩
  conv => whnf
  refine ⟨_, hT, ?_⟩
  conv => whnf
  refine ⟨_, ROf_ok n hn, ?_⟩
  conv => whnf
  refine caseb (fun _ => ?_) (fun h => Bool.noConfusion (hself.symm.trans h))
  conv => whnf
  refine caseb (fun _ => ?_) (fun h => Bool.noConfusion (hn2.symm.trans h))
  conv => whnf
  refine ⟨_, awake_ok, ?_⟩
  conv => whnf
  exact rfl

theorem walk (a : Int) (W : World) (h0 : 0 ≤ a) (h1 : a < 18446744073709551616) : Calls Try.prog 7 #[.int .u64 a] W fun e w' => e = .returned (.bool true) ∧ Below W.heap.size W w' := by
  have h := NatOf_ok a.toNat (by omega)
  rw [Int.toNat_of_nonneg h0] at h
  exact h.law W _ rfl (fun i x hx => by
    rcases i with _ | i
    · simp at hx; subst hx; exact .val _
    · simp at hx)

theorem own : ownKnob Try.prog.godebug = none := by kernel_rfl
theorem u56 : Try.prog.underlying 56 = some (.int .u64) := by kernel_rfl
theorem u4 : Try.prog.underlying 4 = some .bool := by kernel_rfl
set_option maxRecDepth 100000 in
theorem lifted (os : Os) (started : os.Started) (H : Type) (enc : TypeId × Value → H) :
    ReturnsInHanded {} Try.checked os 7 .any (Rows.natOfSpec.pre6 enc Try.prog Try.f7 Rows.natOfRow.domain false) (Rows.natOfSpec.post enc Try.prog Try.f7 false true false false) := by
  refine returnsInHanded_of_change_sized (C := Try.checked) own started (by kernel_rfl) Try.func7
    (ChangeSpec.witness6 (enc := enc) (C := Try.checked) false ⟨#[], #[.int .u64 0], []⟩ 8 (by kernel_rfl) (by kernel_rfl) (by kernel_rfl) (by kernel_rfl)) ?_
  intro W base args ds gs before hval0 hW hcnd hsz0 _
  have hp : Try.f7.params = #[56] := rfl
  have hval : ∀ (j : Nat) t v, Try.f7.params[j]? = some t → args[j]? = some v → Value.okWide Try.prog W .any base t v := hval0
  have hW' := hW
  obtain ⟨p, q, hA0, hV, rfl, hfz, hnd⟩ := hW
  have hA : DataW.TrodAll enc Try.prog W 0 (fun _ => true) true Try.f7.params.toList args.toList ds p := hA0
  rw [hp] at hA hval
  obtain ⟨v0, vs0, d0, ds0, p0, q0, hargs, rfl, rfl, h0, r0⟩ := trodAll_cons hA
  obtain ⟨rfl, rfl, rfl⟩ := trodAll_nil r0
  obtain rfl : args = #[v0] := by cases args; simp_all
  obtain ⟨rfl, rfl⟩ := trodVars_none hV
  obtain ⟨a0, rfl, rfl, rfl, w0⟩ := open_int u56 (hval 0 56 v0 rfl rfl) h0
  clear hA0 hval0 hsz0
  have hw : 0 ≤ a0 ∧ a0 < 18446744073709551616 := by
    have := w0
    simp [Lit.wf, IntKind.min, IntKind.max, IntKind.signed, IntKind.bits] at this
    omega
  refine (walk a0 W hw.1 hw.2).mono fun e W' ⟨he, bel⟩ => ?_
  subst he
  exact ⟨_, rfl, _, _, _, [], _, [], hW', trodAll_mk1 (shut_bool u4 _), (trodAll_cons_mk (shut_int u56 w0) trodAll_mk0), rfl, bel.frame _, fun h => by cases h⟩
theorem over : Rows.natOfRow.holds Try.pinned (OpenSpec.ofChange Rows.natOfSpec) :=
  OpenClaim.holds_of_wide 7 Try.f7 rfl rfl rfl rfl rfl rfl rfl ⟨rfl, rfl, rfl, rfl, rfl⟩ rfl rfl rfl rfl rfl (by kernel_rfl) Try.func7 (by kernel_rfl)
    (of_decide_eq_true (by kernel_rfl)) (by unfold Func.isWrapper; first | (rw [if_pos (by decide +kernel)]; kernel_rfl) | (rw [if_neg (by decide +kernel)]; exact ⟨rfl, rfl⟩))
    (fun os started H enc _ => lifted os started H enc)
theorem proved : Rows.NatOfSaid := over
end Go.Proofs.Ytjpefafkejklaaa.natOf
namespace Go.Proofs.Ytjpefafkejklaaa
theorem natOf_holds : Rows.NatOfSaid := natOf.proved
end Go.Proofs.Ytjpefafkejklaaa
