/- The statement DeciBack: the row, out of the walk. -/
import Derived.Test.YthodfkfgdoolnaaGreatDoorRows
import Derived.Test.YthodfkfgdoolnaaGreatDoorCards
import Derived.Test.YthodfkfgdoolnaaGreatDoorTie
import Derived.Test.YthodfkfgdoolnaaGreatDoorB5
import Derived.Test.YthodfkfgdoolnaaGreatDoorB4
import Derived.WalkKit
import Derived.ProofKit
import Derived.OpenShut
import Derived.ShutString
import Derived.ChangeOld
import Derived.Below
import Derived.SizedLaws
import Derived.Carry
import Derived.MakeChecks
import Derived.Lay
import Derived.Handed
import Derived.SevenTiedAt
import Derived.Stop.Joined
set_option linter.unusedVariables false
namespace Go.Proofs.YthodfkfgdoolnaaGreatDoor.deciBack
open Go Go.AL NM
open Go.ChangeShapes Go.WideShapes Go.ChangeAt Go.RowKit
open Go.ChangeMaps (open_string shut_string)

theorem own : ownKnob Tryz.prog.godebug = none := by kernel_rfl
theorem laidOut : laidOutB Tryz.prog = true := by kernel_rfl
theorem u4 : Tryz.prog.underlying 4 = some .bool := by kernel_rfl
theorem u9 : Tryz.prog.underlying 9 = some .string := by kernel_rfl
theorem u3 : Tryz.prog.underlying 3 = some (.int .i64) := by kernel_rfl
theorem u23 : Tryz.prog.underlying 23 = some (.struct (Tryz.prog.fieldsOf 23)) := by kernel_rfl
theorem op23 : Opens Tryz.prog 23 (fun xs => ∃ b s t, xs = [.val (.bool b), .val (.string s), .val (.string t)]) := by
  have h := opens_struct (l := [(0, 4), (1, 9), (2, 9)]) (n := 3) u23 (by kernel_rfl) (by kernel_rfl) (.cons _ _ 0 1 3 _ _ (by kernel_rfl) (opens_bool u4) (.cons _ _ 1 1 3 _ _ (by kernel_rfl) (opens_str u9) (.cons _ _ 2 1 3 _ _ (by kernel_rfl) (opens_str u9) (.nil 3))))
  refine h.mono ?_
  rintro xs ⟨a, b, rfl, ⟨x, rfl⟩, c, d, rfl, ⟨y, rfl, _⟩, e, f, rfl, ⟨z, rfl, _⟩, rfl⟩
  exact ⟨x, y, z, rfl⟩
set_option maxRecDepth 100000 in
theorem lifted (os : Os) (started : os.Started) (H : Type) (enc : TypeId × Value → H) :
    ReturnsInHanded {} Tryz.checked os 5 .any (fun w args => (Rows.deciBackSpec.pre enc Tryz.prog Tryz.f5 Rows.deciBackRow.domain false w args ∧ laidMetH Tryz.prog Rows.deciBackRow.laid w) ∧ sizedMet enc Tryz.prog Tryz.f5 (OpenSpec.ofChange Rows.deciBackSpec) false w args) (Rows.deciBackSpec.post enc Tryz.prog Tryz.f5 false true false false) := by
  refine returnsInHanded_of_change_and (C := Tryz.checked) (X := fun w _ => laidMetH Tryz.prog Rows.deciBackRow.laid w) (fun _ _ _ hh h => h.of_heap hh) own started (by kernel_rfl) Tryz.func5
    (ChangeSpec.witness_shaped (enc := enc) (C := Tryz.checked) (os := os) (X := fun w _ => laidMetH Tryz.prog Rows.deciBackRow.laid w) false (World.laidAll Tryz.prog os Rows.deciBackRow.laid) #[.agg #[.bool false, .string ByteArray.empty, .string ByteArray.empty], .int .i64 0] 8 (World.laidAll_os _ _ _)
      (World.shaped_of_ZipB (by kernel_rfl) (by kernel_rfl)) (by kernel_rfl) (by kernel_rfl) (by kernel_rfl)
      (by rw [MakeChecks.laidMetH_plain _ _ _ (by kernel_rfl)]; exact laidMet_laidAll _ (by kernel_rfl) (by kernel_rfl))) ?_
  intro W base args ds gs before hval0 hW hcnd hsz0 hL _
  have hp : Tryz.f5.params = #[23, 3] := rfl
  have hsz : (DataW.weightsEach Tryz.prog (Tryz.f5.params.toList ++ Rows.deciBackSpec.plain.varTypes Tryz.prog) (ds ++ gs)).all (· ≤ reachBytes) = true := hsz0
  have hval : ∀ (j : Nat) t v, Tryz.f5.params[j]? = some t → args[j]? = some v → Value.okWide Tryz.prog W .any base t v := hval0
  have hW' := hW
  obtain ⟨p, q, hA0, hV, rfl, hfz, hnd⟩ := hW
  have hA : DataW.TrodAll enc Tryz.prog W 0 (fun _ => true) true Tryz.f5.params.toList args.toList ds p := hA0
  rw [hp] at hA hval hsz
  obtain ⟨v0, vs0, d0, ds0, p0, q0, hargs, rfl, rfl, h0, r0⟩ := trodAll_cons hA
  obtain ⟨v1, vs1, d1, ds1, p1, q1, rfl, rfl, rfl, h1, r1⟩ := trodAll_cons r0
  obtain ⟨rfl, rfl, rfl⟩ := trodAll_nil r1
  obtain rfl : args = #[v0, v1] := by cases args; simp_all
  obtain ⟨rfl, rfl⟩ := trodVars_none hV
  obtain ⟨c0, rfl, _⟩ := okWide_struct u23 (hval 0 23 v0 rfl rfl)
  obtain ⟨xs0, ⟨b0, s0, t0, rfl⟩, vr0, _⟩ := Opens.struct op23 h0
  have lt0 : ∀ x ∈ p0, x.block < W.heap.size := by obtain ⟨m, hm⟩ := h0; exact DataW.trod_lt m _ _ _ hm
  obtain ⟨a1, rfl, rfl, rfl, w1⟩ := open_int u3 (hval 1 3 v1 rfl rfl) h1
  have hw1 : -9223372036854775808 ≤ a1 ∧ a1 < 9223372036854775808 := by
    have := w1
    simp [Lit.wf, IntKind.min, IntKind.max, IntKind.signed, IntKind.bits] at this
    omega
  clear hA0 hval0 hsz0 hsz
  refine ((holds b0 s0 t0 a1 hw1).law W _ rfl (fun i x hx => by
    rcases i with _ | i
    · simp at hx; subst hx; exact vr0
    rcases i with _ | i
    · simp at hx; subst hx; exact .val _
    · simp at hx)).mono fun e W' ⟨he, bel⟩ => ?_
  subst he
  exact ⟨_, rfl, _, _, _, [], _, [], hW', trodAll_mk1 (shut_bool u4 _), (trodAll_cons_mk (Below.trod laidOut (by kernel_rfl) (of_decide_eq_true (by kernel_rfl)) h0 bel lt0) (trodAll_cons_mk (shut_int u3 w1) trodAll_mk0)), rfl, bel.frame _, fun h => by cases h⟩
theorem over : Rows.deciBackRow.holds Tryz.pinned (OpenSpec.ofChange Rows.deciBackSpec) :=
  OpenClaim.holds_of_wide 5 Tryz.f5 rfl rfl rfl rfl rfl rfl rfl ⟨rfl, rfl, rfl, rfl, rfl⟩ rfl rfl rfl rfl rfl (by kernel_rfl) Tryz.func5 (by kernel_rfl)
    (of_decide_eq_true (by kernel_rfl)) (by unfold Func.isWrapper; first | (rw [if_pos (by decide +kernel)]; kernel_rfl) | (rw [if_neg (by decide +kernel)]; exact ⟨rfl, rfl⟩))
    (fun os started H enc _ => lifted os started H enc)
theorem proved : Rows.DeciBackCardSaid :=
  Claim7.holds_tied_plain_at .later [] [.data, .pinned] true (true, "c5bb2ce7228c831a0c6df185f268886494311e4b98afd99983a42ef82779922a") false over (fun _ h => by cases h) (by kernel_rfl) (fun _ h => by cases h) deciBack_row_tie rfl ⟨rfl, rfl⟩ (by kernel_rfl) rfl
    (fun f fn hf hfn => by
      obtain rfl : f = 5 := Option.some.inj ((show Tryz.prog.funcNamed Rows.deciBackRow.func = some 5 by kernel_rfl).symm.trans hf) |>.symm
      obtain rfl : fn = Tryz.f5 := (Option.some.inj (Tryz.func5.symm.trans hfn)).symm
      exact ⟨by kernel_rfl, fun j t ht => by
        have hp : Tryz.f5.params = #[23, 3] := rfl
        rw [hp] at ht
        have hm : t ∈ [23, 3] := by simpa using Array.mem_of_getElem? ht
        have hall : ([23, 3].all fun u => !Tryz.prog.wantsStandIn u) = true := by kernel_rfl
        exact (show Tryz.prog.wantsStandIn t = false by simpa using List.all_eq_true.1 hall t hm)⟩)
    (by kernel_rfl)
end Go.Proofs.YthodfkfgdoolnaaGreatDoor.deciBack
namespace Go.Proofs.YthodfkfgdoolnaaGreatDoor
theorem deciBack_holds : Rows.DeciBackCardSaid := deciBack.proved
end Go.Proofs.YthodfkfgdoolnaaGreatDoor

