/- Contracts of nat: quotient and rest, where the divisor is nothing, or more, or one limb. -/
import Derived.Test.YtjpefafkejklaaaN7
set_option linter.unusedVariables false
namespace Go.Proofs.Ytjpefafkejklaaa
open Go Go.AL NM

theorem zero_le : AVle (.agg [.sl 0 [] true]) (natA 0) := by
  unfold natA
  rw [limbs_zero]
  exact .agg1 (.sl _ _ _)
theorem zero_noid : NoId (.agg [.sl 0 [] true]) := .agg _ (noid1 (.sl _ _ _ (fun r hr => (nomatch hr))))
theorem noid3 {x y z : AV} (h : NoId x) (h' : NoId y) (h'' : NoId z) : ∀ u ∈ [x, y, z], NoId u := by
  intro u hu; simp at hu; rcases hu with rfl | rfl | rfl; exact h; exact h'; exact h''
theorem limbs_one {m : Nat} (h0 : 0 < m) (h1 : m < 4294967296) : limbs m = [(m : Int)] := by
  rw [limbs_pos h0, Nat.mod_eq_of_lt h1, Nat.div_eq_of_lt h1, limbs_zero]

theorem DivMod_zero (n : Nat) : AC Try.prog 23 [natA n, natA 0] (.pure (.tup [natA 0, natA 0, .val (.bool false)])) := by
  refine AC.le_res (v := .tup [.agg [.sl 0 [] true], .agg [.sl 0 [] true], .val (.bool false)]) ?_ (.tup3 zero_le zero_le (.refl _)) (.tup _ (noid3 (natA_noid _) (natA_noid _) (.val _)))
  refine AC.of_body TTok Try.func23 rfl (enter_of Try.func23 (by kernel_rfl) (by kernel_rfl)) (noid2 (natA_noid n) (natA_noid 0)) (.tup _ (noid3 zero_noid zero_noid (.val _))) (Nat.le_of_ble_eq_true rfl) ?_
  have e : natA 0 = .agg [.sl 1 (irows .u32 []) false] := by unfold natA; rw [limbs_zero]
  rw [e]
  conv => whnf
  exact rfl

theorem DivMod_lt (n m : Nat) (h : n < m) (hb : (limbs n).length < 4000000000) (hb' : (limbs m).length < 4000000000) : AC Try.prog 23 [natA n, natA m] (.pure (.tup [natA (n / m), natA (n % m), .val (.bool true)])) := by
  rw [Nat.div_eq_of_lt h, Nat.mod_eq_of_lt h]
  refine AC.le_res (v := .tup [.agg [.sl 0 [] true], natA n, .val (.bool true)]) ?_ (.tup3 zero_le (.refl _) (.refl _)) (.tup _ (noid3 (natA_noid _) (natA_noid _) (.val _)))
  refine AC.of_body TTok Try.func23 rfl (enter_of Try.func23 (by kernel_rfl) (by kernel_rfl)) (noid2 (natA_noid n) (natA_noid m)) (.tup _ (noid3 zero_noid (natA_noid _) (.val _))) (Nat.le_of_ble_eq_true rfl) ?_
  have hc := Cmp_ok n m hb hb'
  rw [cmpN_lt h] at hc
  have hne : limbs m ≠ [] := fun e => by have := (limbs_nil m).1 e; omega
  have hpos := List.length_pos_iff.2 hne
  conv => whnf
  refine caseb (fun h1 => ?_) (fun h1 => ?_)
  · have h1' : ((irows .u32 (limbs m)).length : Int) = 0 := of_decide_eq_true h1
    rw [irows_len] at h1'
    omega
  conv => whnf
  refine ⟨_, hc, ?_⟩
  conv => whnf
  refine ⟨by kernel_rfl, ?_⟩
  conv => whnf
  exact rfl

theorem DivMod_one (n m : Nat) (h : m ≤ n) (h0 : 0 < m) (h1 : m < 4294967296) (hb : (limbs n).length < 4000000000) : AC Try.prog 23 [natA n, natA m] (.pure (.tup [natA (n / m), natA (n % m), .val (.bool true)])) := by
  refine AC.of_body TTok Try.func23 rfl (enter_of Try.func23 (by kernel_rfl) (by kernel_rfl)) (noid2 (natA_noid n) (natA_noid m)) (.tup _ (noid3 (natA_noid _) (natA_noid _) (.val _))) (Nat.le_of_ble_eq_true rfl) ?_
  have e : natA m = .agg [.sl 1 (irows .u32 [(m : Int)]) false] := by unfold natA; rw [limbs_one h0 h1]
  have hc := Cmp_ok n m hb (by rw [limbs_one h0 h1]; show 1 < 4000000000; omega)
  have hs := small_ok n m h0 h1 (by omega)
  have ho : AC Try.prog 34 [.val (.int .u64 (IntKind.u64.wrap ((n % m : Nat) : Int)))] (.pure (natA (n % m))) := by
    have hlt : n % m < m := Nat.mod_lt _ h0
    have : IntKind.u64.wrap ((n % m : Nat) : Int) = ((n % m : Nat) : Int) := by rw [IntKind.wrap_u64]; omega
    rw [this]
    exact Of_ok _ (by omega)
  rw [e] at hc ⊢
  have hcn : ¬ cmpN n m < 0 := by
    unfold cmpN
    rw [if_neg (by omega)]
    split <;> decide
  conv => whnf
  refine ⟨_, hc, ?_⟩
  conv => whnf
  refine caseb (fun h2 => ?_) (fun h2 => ?_)
  · exact absurd (of_decide_eq_true h2) hcn
  conv => whnf
  refine ⟨[.val (.int .u32 (m : Int))], ⟨by decide, rfl⟩, ?_⟩
  conv => whnf
  refine ⟨_, hs, ?_⟩
  conv => whnf
  refine ⟨by kernel_rfl, ?_⟩
  conv => whnf
  refine ⟨_, ho, ?_⟩
  conv => whnf
  refine ⟨by kernel_rfl, ?_⟩
  conv => whnf
  exact rfl

end Go.Proofs.Ytjpefafkejklaaa
