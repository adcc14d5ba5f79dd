/- The chapter's examples: what awake computes. -/
import Derived.Test.YtjpefafkejklaaaN10
set_option linter.unusedVariables false
namespace Go.Proofs.Ytjpefafkejklaaa
open Go Go.AL NM

theorem decL_one (d : Nat) (h : d < 10) : decL d = [((48 + d : Nat) : Int)] := by
  have := decL_valL (l := [((48 + d : Nat) : Int)]) (by intro x hx; simp at hx; omega) (by simp) (.inl rfl)
  rw [show valL [((48 + d : Nat) : Int)] = d by simp [valL, valR]; omega] at this
  exact this
theorem decS_is (n : Nat) (l : List Int) (hl : Byt l) : ((decS n).toList == (strL l).toList) = decide (decL n = l) := str_beq (fun x hx => by have := decL_byt n x hx; omega) hl

theorem awake_ok : AC Try.prog 22 [] (.pure (.val (.bool true))) := by
  have p1 : AC Try.prog 37 [.val (.string { data := #[48, 48, 55] })] (.pure (.tup [natA 7, .val (.bool true)])) :=
    Parse_ok [48, 48, 55] (by intro x hx; simp at hx; rcases hx with rfl | rfl <;> omega) (by simp) (by decide)
  have p2 : AC Try.prog 34 [.val (.int .u64 10)] (.pure (natA 10)) := Of_ok 10 (by decide)
  have p3 : AC Try.prog 34 [.val (.int .u64 4)] (.pure (natA 4)) := Of_ok 4 (by decide)
  have p4 : AC Try.prog 23 [natA 10, natA 4] (.pure (.tup [natA 2, natA 2, .val (.bool true)])) :=
    DivMod_one 10 4 (by decide) (by decide) (by decide) (Nat.lt_of_le_of_lt (limbs_ten (k := 2) (by decide)) (by decide))
  have t7 := Text_ok 7 (Nat.lt_of_le_of_lt (limbs_ten (k := 1) (by decide)) (by decide))
  have t2 := Text_ok 2 (Nat.lt_of_le_of_lt (limbs_ten (k := 1) (by decide)) (by decide))
  have p5 : AC Try.prog 34 [.val (.int .u64 4294967296)] (.pure (natA 4294967296)) := Of_ok 4294967296 (by decide)
  have l2 : limbs 4294967296 = [0, 1] := by
    rw [limbs_pos (by decide), show 4294967296 / 4294967296 = 1 from rfl, limbs_pos (by decide), show 1 / 4294967296 = 0 from rfl, limbs_zero]
    rfl
  have p6 : AC Try.prog 45 [natA 4294967296] (.pure (.val (.int .i64 2))) := by
    have := Limbs_ok 4294967296
    rw [l2] at this
    exact this
  have p7 : AC Try.prog 43 [natA 4294967296] (.pure (.val (.int .i64 33))) := by
    have := Bits_ok 4294967296 (by rw [l2]; decide)
    rw [show blen 4294967296 = 33 by kernel_rfl] at this
    exact this
  have s7 : ((decS 7).toList == (strL [55]).toList) = true := by rw [decS_is 7 [55] (by intro x hx; simp at hx; omega), decL_one 7 (by decide)]; rfl
  have s2 : ((decS 2).toList == (strL [50]).toList) = true := by rw [decS_is 2 [50] (by intro x hx; simp at hx; omega), decL_one 2 (by decide)]; rfl
  refine AC.of_body TTok Try.func22 rfl (enter_of Try.func22 (by kernel_rfl) (by kernel_rfl)) (by intro x hx; cases hx) (.val _) (Nat.le_of_ble_eq_true rfl) ?_
  conv => whnf
  refine ⟨_, p1, ?_⟩
  conv => whnf
  refine ⟨_, p2, ?_⟩
  conv => whnf
  refine ⟨_, p3, ?_⟩
  conv => whnf
  refine ⟨_, p4, ?_⟩
  conv => whnf
  refine ⟨_, t7, ?_⟩
  conv => whnf
  refine caseb (fun _ => ?_) (fun h => Bool.noConfusion (s7.symm.trans h))
  conv => whnf
  refine ⟨_, t2, ?_⟩
  conv => whnf
  refine caseb (fun _ => ?_) (fun h => Bool.noConfusion (s2.symm.trans h))
  conv => whnf
  refine ⟨_, t2, ?_⟩
  conv => whnf
  refine caseb (fun _ => ?_) (fun h => Bool.noConfusion (s2.symm.trans h))
  conv => whnf
  refine ⟨_, p5, ?_⟩
  conv => whnf
  refine ⟨_, p6, ?_⟩
  conv => whnf
  refine ⟨_, p5, ?_⟩
  conv => whnf
  refine ⟨_, p7, ?_⟩
  conv => whnf
  exact rfl

end Go.Proofs.Ytjpefafkejklaaa
