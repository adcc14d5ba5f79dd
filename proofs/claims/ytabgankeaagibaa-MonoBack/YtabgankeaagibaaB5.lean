/- Functions of one number: the document's. -/
import Derived.Test.YtabgankeaagibaaB4
import Derived.Test.YtabgankeaagibaaB3
import Derived.ChangeSlices
import Derived.Below
set_option linter.unusedVariables false
namespace Go.Proofs.Ytabgankeaagibaa
open Go Go.AL NM

theorem SOne43 (x : Rat) (most : Int) (hm : most ≤ 200) (lx : Sz x 90) : AC Try.prog 32 [.val (.int .i32 43), RN x.num x.den, .val (.int .i64 most)] (.pure (.tup [RN (monoQ 43 x most).1.num (monoQ 43 x most).1.den, .val (.int .i64 (monoQ 43 x most).2)])) := by
  have hH := SMHas_ok 43
  rw [decide_eq_true (show isOne 43 by decide)] at hH
  have hZ := SZero_ok
  rw [show monoQ 43 x most = withQ x most from rfl]
  have hP := Swithin_ok x most (lx.mono (by decide))
  refine AC.of_body TTok Try.func32 rfl (enter_of Try.func32 (by kernel_rfl) (by kernel_rfl)) (noid3 (.val _) (RN_noid _ _) (.val _)) (.tup _ (noid2 (RN_noid _ _) (.val _))) (Nat.le_of_ble_eq_true rfl) ?_
  revert hP
  generalize (withQ x most).1 = r
  generalize (withQ x most).2 = e
  intro hP
  generalize r.num = rn at *
  generalize r.den = rd at *
  unfold RN at *
  repeat
    conv => whnf
    first
      | refine ⟨_, by assumption, ?_⟩
      | refine ⟨(Nat.le_of_ble_eq_true rfl), _, by assumption, ?_⟩
      | refine ⟨by kernel_rfl, ?_⟩
      | exact rfl
      | refine ⟨by decide, ?_⟩

theorem SOne45 (x : Rat) (most : Int) (hm : most ≤ 200) (lx : Sz x 90) : AC Try.prog 32 [.val (.int .i32 45), RN x.num x.den, .val (.int .i64 most)] (.pure (.tup [RN (monoQ 45 x most).1.num (monoQ 45 x most).1.den, .val (.int .i64 (monoQ 45 x most).2)])) := by
  have hH := SMHas_ok 45
  rw [decide_eq_true (show isOne 45 by decide)] at hH
  have hZ := SZero_ok
  rw [show monoQ 45 x most = withQ (-x) most from rfl]
  have hM := SMinus_ok x.num x.den
  have hM : AC Try.prog 63 [RN x.num x.den] (.pure (RN (-x).num x.den)) := hM
  have hP := Swithin_ok (-x) most ((Sz_neg lx).mono (by decide))
  refine AC.of_body TTok Try.func32 rfl (enter_of Try.func32 (by kernel_rfl) (by kernel_rfl)) (noid3 (.val _) (RN_noid _ _) (.val _)) (.tup _ (noid2 (RN_noid _ _) (.val _))) (Nat.le_of_ble_eq_true rfl) ?_
  revert hP
  generalize (withQ (-x) most).1 = r
  generalize (withQ (-x) most).2 = e
  intro hP
  rw [show (-x).den = x.den from rfl] at hP
  generalize (-x).num = y at *
  generalize r.num = rn at *
  generalize r.den = rd at *
  unfold RN at *
  repeat
    conv => whnf
    first
      | refine ⟨_, by assumption, ?_⟩
      | refine ⟨(Nat.le_of_ble_eq_true rfl), _, by assumption, ?_⟩
      | refine ⟨by kernel_rfl, ?_⟩
      | exact rfl
      | refine ⟨by decide, ?_⟩

theorem SOne215 (x : Rat) (most : Int) (hm : most ≤ 200) (lx : Sz x 90) : AC Try.prog 32 [.val (.int .i32 215), RN x.num x.den, .val (.int .i64 most)] (.pure (.tup [RN (monoQ 215 x most).1.num (monoQ 215 x most).1.den, .val (.int .i64 (monoQ 215 x most).2)])) := by
  have hH := SMHas_ok 215
  rw [decide_eq_true (show isOne 215 by decide)] at hH
  have hZ := SZero_ok
  rw [show monoQ 215 x most = withQ ((sigW x.num : Int) : Rat) most from rfl]
  have hT := STop_ok x.num x.den (Nat.le_trans lx.1 (by decide))
  have hS := RSignW_ok x.num
  have hF := SFrom_ok (sigW x.num) (sig_small _)
  have hP := Swithin_ok ((sigW x.num : Int) : Rat) most (Sz_int (by decide) (Nat.le_trans (limbs_small (by unfold sigW; split <;> (try split) <;> decide)) (by decide)))
  refine AC.of_body TTok Try.func32 rfl (enter_of Try.func32 (by kernel_rfl) (by kernel_rfl)) (noid3 (.val _) (RN_noid _ _) (.val _)) (.tup _ (noid2 (RN_noid _ _) (.val _))) (Nat.le_of_ble_eq_true rfl) ?_
  revert hP
  generalize (withQ ((sigW x.num : Int) : Rat) most).1 = r
  generalize (withQ ((sigW x.num : Int) : Rat) most).2 = e
  intro hP
  rw [show (((sigW x.num : Int) : Rat)).num = sigW x.num from rfl, show (((sigW x.num : Int) : Rat)).den = 1 from rfl] at hP
  generalize sigW x.num = s at *
  generalize r.num = rn at *
  generalize r.den = rd at *
  unfold RN WR at *
  repeat
    conv => whnf
    first
      | refine ⟨_, by assumption, ?_⟩
      | refine ⟨(Nat.le_of_ble_eq_true rfl), _, by assumption, ?_⟩
      | refine ⟨by kernel_rfl, ?_⟩
      | exact rfl
      | refine ⟨by decide, ?_⟩

theorem SOne247 (x : Rat) (most : Int) (hm : most ≤ 200) (lx : Sz x 90) : AC Try.prog 32 [.val (.int .i32 247), RN x.num x.den, .val (.int .i64 most)] (.pure (.tup [RN (monoQ 247 x most).1.num (monoQ 247 x most).1.den, .val (.int .i64 (monoQ 247 x most).2)])) := by
  have hH := SMHas_ok 247
  rw [decide_eq_true (show isOne 247 by decide)] at hH
  have hZ := SZero_ok
  rw [show monoQ 247 x most = (if x = 0 then (0, 22) else withQ (1 / x) most) from rfl]
  have j0 := is0 x.num.natAbs
  by_cases h0 : x = 0
  · rw [if_pos h0]
    rw [decide_eq_true (by rw [h0]; rfl)] at j0
    have fb : (!((decS x.num.natAbs).toList == ({ data := #[48] } : ByteArray).toList)) = false := by rw [j0]; rfl
    show AC Try.prog 32 _ (.pure (.tup [RN 0 1, .val (.int .i64 22)]))
    refine AC.of_body TTok Try.func32 rfl (enter_of Try.func32 (by kernel_rfl) (by kernel_rfl)) (noid3 (.val _) (RN_noid _ _) (.val _)) (.tup _ (noid2 (RN_noid _ _) (.val _))) (Nat.le_of_ble_eq_true rfl) ?_
    unfold RN at *
    conv => whnf
    refine ⟨_, hH, ?_⟩
    conv => whnf
    refine caseb (fun h => Bool.noConfusion ((fb).symm.trans h)) (fun _ => ?_)
    repeat
      conv => whnf
      first
        | refine ⟨_, by assumption, ?_⟩
        | refine ⟨(Nat.le_of_ble_eq_true rfl), _, by assumption, ?_⟩
        | refine ⟨by kernel_rfl, ?_⟩
        | exact rfl
        | refine ⟨by decide, ?_⟩
  · rw [if_neg h0]
    rw [decide_eq_false (by have := num_ne h0; omega)] at j0
    have fb : (!((decS x.num.natAbs).toList == ({ data := #[48] } : ByteArray).toList)) = true := by rw [j0]; rfl
    obtain ⟨i1, i2⟩ := inv_parts h0
    have i3 := inv_sgn x
    have hP := Swithin_ok (1 / x) most ⟨by rw [i1]; exact Nat.le_trans lx.2 (by decide), by rw [i2]; exact Nat.le_trans lx.1 (by decide)⟩
    refine AC.of_body TTok Try.func32 rfl (enter_of Try.func32 (by kernel_rfl) (by kernel_rfl)) (noid3 (.val _) (RN_noid _ _) (.val _)) (.tup _ (noid2 (RN_noid _ _) (.val _))) (Nat.le_of_ble_eq_true rfl) ?_
    revert hP
    generalize (withQ (1 / x) most).1 = r
    generalize (withQ (1 / x) most).2 = e
    intro hP
    generalize r.num = rn at *
    generalize r.den = rd at *
    unfold RN at *
    rw [i1, i2, i3] at hP
    conv => whnf
    refine ⟨_, hH, ?_⟩
    conv => whnf
    refine caseb (fun _ => ?_) (fun h => Bool.noConfusion ((fb).symm.trans h))
    repeat
      conv => whnf
      first
        | refine ⟨_, by assumption, ?_⟩
        | refine ⟨(Nat.le_of_ble_eq_true rfl), _, by assumption, ?_⟩
        | refine ⟨by kernel_rfl, ?_⟩
        | exact rfl
        | refine ⟨by decide, ?_⟩

theorem SOne8968 (x : Rat) (most : Int) (hm : most ≤ 200) (lx : Sz x 90) : AC Try.prog 32 [.val (.int .i32 8968), RN x.num x.den, .val (.int .i64 most)] (.pure (.tup [RN (monoQ 8968 x most).1.num (monoQ 8968 x most).1.den, .val (.int .i64 (monoQ 8968 x most).2)])) := by
  have hH := SMHas_ok 8968
  rw [decide_eq_true (show isOne 8968 by decide)] at hH
  have hZ := SZero_ok
  rw [show monoQ 8968 x most = withQ ((x.ceil : Int) : Rat) most from rfl]
  have hC := SCeil_ok x (lx.mono (by decide))
  have hW := SWhole_ok x.ceil
  have hP := Swithin_ok ((x.ceil : Int) : Rat) most (Sz_int (by decide) (by rw [ceil_floor, Int.natAbs_neg]; exact Nat.le_trans (limbs_floor (Sz_neg lx)) (by decide)))
  refine AC.of_body TTok Try.func32 rfl (enter_of Try.func32 (by kernel_rfl) (by kernel_rfl)) (noid3 (.val _) (RN_noid _ _) (.val _)) (.tup _ (noid2 (RN_noid _ _) (.val _))) (Nat.le_of_ble_eq_true rfl) ?_
  revert hP
  generalize (withQ ((x.ceil : Int) : Rat) most).1 = r
  generalize (withQ ((x.ceil : Int) : Rat) most).2 = e
  intro hP
  rw [show (((x.ceil : Int) : Rat)).num = x.ceil from rfl, show (((x.ceil : Int) : Rat)).den = 1 from rfl] at hP
  generalize x.ceil = y at *
  generalize r.num = rn at *
  generalize r.den = rd at *
  unfold RN WR at *
  repeat
    conv => whnf
    first
      | refine ⟨_, by assumption, ?_⟩
      | refine ⟨(Nat.le_of_ble_eq_true rfl), _, by assumption, ?_⟩
      | refine ⟨by kernel_rfl, ?_⟩
      | exact rfl
      | refine ⟨by decide, ?_⟩

theorem SOne8970 (x : Rat) (most : Int) (hm : most ≤ 200) (lx : Sz x 90) : AC Try.prog 32 [.val (.int .i32 8970), RN x.num x.den, .val (.int .i64 most)] (.pure (.tup [RN (monoQ 8970 x most).1.num (monoQ 8970 x most).1.den, .val (.int .i64 (monoQ 8970 x most).2)])) := by
  have hH := SMHas_ok 8970
  rw [decide_eq_true (show isOne 8970 by decide)] at hH
  have hZ := SZero_ok
  rw [show monoQ 8970 x most = withQ ((x.floor : Int) : Rat) most from rfl]
  have hC := SFloor_ok x (lx.mono (by decide))
  have hW := SWhole_ok x.floor
  have hP := Swithin_ok ((x.floor : Int) : Rat) most (Sz_int (by decide) (Nat.le_trans (limbs_floor lx) (by decide)))
  refine AC.of_body TTok Try.func32 rfl (enter_of Try.func32 (by kernel_rfl) (by kernel_rfl)) (noid3 (.val _) (RN_noid _ _) (.val _)) (.tup _ (noid2 (RN_noid _ _) (.val _))) (Nat.le_of_ble_eq_true rfl) ?_
  revert hP
  generalize (withQ ((x.floor : Int) : Rat) most).1 = r
  generalize (withQ ((x.floor : Int) : Rat) most).2 = e
  intro hP
  rw [show (((x.floor : Int) : Rat)).num = x.floor from rfl, show (((x.floor : Int) : Rat)).den = 1 from rfl] at hP
  generalize x.floor = y at *
  generalize r.num = rn at *
  generalize r.den = rd at *
  unfold RN WR at *
  repeat
    conv => whnf
    first
      | refine ⟨_, by assumption, ?_⟩
      | refine ⟨(Nat.le_of_ble_eq_true rfl), _, by assumption, ?_⟩
      | refine ⟨by kernel_rfl, ?_⟩
      | exact rfl
      | refine ⟨by decide, ?_⟩

theorem SOne124 (x : Rat) (most : Int) (hm : most ≤ 200) (lx : Sz x 90) : AC Try.prog 32 [.val (.int .i32 124), RN x.num x.den, .val (.int .i64 most)] (.pure (.tup [RN (monoQ 124 x most).1.num (monoQ 124 x most).1.den, .val (.int .i64 (monoQ 124 x most).2)])) := by
  have hH := SMHas_ok 124
  rw [decide_eq_true (show isOne 124 by decide)] at hH
  have hZ := SZero_ok
  rw [show monoQ 124 x most = withQ (if x.num < 0 then -x else x) most from rfl]
  have ha : RN (if x.num < 0 then -x else x).num (if x.num < 0 then -x else x).den = .agg [.val (.bool false), .val (.string (decS x.num.natAbs)), .val (.string (decS x.den))] := by
    by_cases h : x.num < 0
    · rw [if_pos h]
      unfold RN
      rw [decide_eq_false (show ¬ (-x).num < 0 by rw [Rat.neg_num]; omega), Rat.neg_num, Int.natAbs_neg, Rat.neg_den]
    · rw [if_neg h]
      unfold RN
      rw [decide_eq_false h]
  have hP := Swithin_ok (if x.num < 0 then -x else x) most (by
    split
    · exact (Sz_neg lx).mono (by decide)
    · exact lx.mono (by decide))
  rw [ha] at hP
  refine AC.of_body TTok Try.func32 rfl (enter_of Try.func32 (by kernel_rfl) (by kernel_rfl)) (noid3 (.val _) (RN_noid _ _) (.val _)) (.tup _ (noid2 (RN_noid _ _) (.val _))) (Nat.le_of_ble_eq_true rfl) ?_
  revert hP
  generalize (withQ (if x.num < 0 then -x else x) most).1 = r
  generalize (withQ (if x.num < 0 then -x else x) most).2 = e
  intro hP
  clear ha
  generalize r.num = rn at *
  generalize r.den = rd at *
  unfold RN at *
  repeat
    conv => whnf
    first
      | refine ⟨_, by assumption, ?_⟩
      | refine ⟨(Nat.le_of_ble_eq_true rfl), _, by assumption, ?_⟩
      | refine ⟨by kernel_rfl, ?_⟩
      | exact rfl
      | refine ⟨by decide, ?_⟩

theorem SOne33 (x : Rat) (most : Int) (hm : most ≤ 200) (lx : Sz x 90) : AC Try.prog 32 [.val (.int .i32 33), RN x.num x.den, .val (.int .i64 most)] (.pure (.tup [RN (monoQ 33 x most).1.num (monoQ 33 x most).1.den, .val (.int .i64 (monoQ 33 x most).2)])) := by
  have hH := SMHas_ok 33
  rw [decide_eq_true (show isOne 33 by decide)] at hH
  have hZ := SZero_ok
  have i1 := is1 x.den
  by_cases hd : x.den = 1
  · rw [decide_eq_true hd] at i1
    by_cases hn : x.num < 0
    · have f1 : (!(decide (x.num < 0))) = false := by rw [decide_eq_true hn]; rfl
      rw [show monoQ 33 x most = (0, 22) from show facQ x most = (0, 22) from if_neg (fun h : natQ x => absurd h.2 (by omega))]
      show AC Try.prog 32 _ (.pure (.tup [RN 0 1, .val (.int .i64 22)]))
      refine AC.of_body TTok Try.func32 rfl (enter_of Try.func32 (by kernel_rfl) (by kernel_rfl)) (noid3 (.val _) (RN_noid _ _) (.val _)) (.tup _ (noid2 (RN_noid _ _) (.val _))) (Nat.le_of_ble_eq_true rfl) ?_
      unfold RN at *
      conv => whnf
      refine ⟨_, hH, ?_⟩
      conv => whnf
      refine caseb (fun _ => ?_) (fun h => Bool.noConfusion ((i1).symm.trans h))
      conv => whnf
      refine caseb (fun h => Bool.noConfusion ((f1).symm.trans h)) (fun _ => ?_)
      repeat
        conv => whnf
        first
          | refine ⟨_, by assumption, ?_⟩
          | refine ⟨(Nat.le_of_ble_eq_true rfl), _, by assumption, ?_⟩
          | refine ⟨by kernel_rfl, ?_⟩
          | exact rfl
          | refine ⟨by decide, ?_⟩
    · have f1 : (!(decide (x.num < 0))) = true := by rw [decide_eq_false hn]; rfl
      obtain ⟨k, hk⟩ : ∃ k : Nat, x.num = (k : Int) := ⟨x.num.toNat, by omega⟩
      rw [show monoQ 33 x most = withQ (((fac k : Nat) : Int) : Rat) most from facQ_is hd hk most]
      have hP := SFac_ok x most hm hd k hk (lx.mono (by decide))
      refine AC.of_body TTok Try.func32 rfl (enter_of Try.func32 (by kernel_rfl) (by kernel_rfl)) (noid3 (.val _) (RN_noid _ _) (.val _)) (.tup _ (noid2 (RN_noid _ _) (.val _))) (Nat.le_of_ble_eq_true rfl) ?_
      revert hP
      generalize (withQ (((fac k : Nat) : Int) : Rat) most).1 = r
      generalize (withQ (((fac k : Nat) : Int) : Rat) most).2 = e
      intro hP
      generalize r.num = rn at *
      generalize r.den = rd at *
      unfold RN at *
      conv => whnf
      refine ⟨_, hH, ?_⟩
      conv => whnf
      refine caseb (fun _ => ?_) (fun h => Bool.noConfusion ((i1).symm.trans h))
      conv => whnf
      refine caseb (fun _ => ?_) (fun h => Bool.noConfusion ((f1).symm.trans h))
      repeat
        conv => whnf
        first
          | refine ⟨_, by assumption, ?_⟩
          | refine ⟨(Nat.le_of_ble_eq_true rfl), _, by assumption, ?_⟩
          | refine ⟨by kernel_rfl, ?_⟩
          | exact rfl
          | refine ⟨by decide, ?_⟩
  · rw [decide_eq_false hd] at i1
    rw [show monoQ 33 x most = (0, 22) from show facQ x most = (0, 22) from if_neg (fun h : natQ x => hd h.1)]
    show AC Try.prog 32 _ (.pure (.tup [RN 0 1, .val (.int .i64 22)]))
    refine AC.of_body TTok Try.func32 rfl (enter_of Try.func32 (by kernel_rfl) (by kernel_rfl)) (noid3 (.val _) (RN_noid _ _) (.val _)) (.tup _ (noid2 (RN_noid _ _) (.val _))) (Nat.le_of_ble_eq_true rfl) ?_
    unfold RN at *
    conv => whnf
    refine ⟨_, hH, ?_⟩
    conv => whnf
    refine caseb (fun h => Bool.noConfusion ((i1).symm.trans h)) (fun _ => ?_)
    repeat
      conv => whnf
      first
        | refine ⟨_, by assumption, ?_⟩
        | refine ⟨(Nat.le_of_ble_eq_true rfl), _, by assumption, ?_⟩
        | refine ⟨by kernel_rfl, ?_⟩
        | exact rfl
        | refine ⟨by decide, ?_⟩

theorem not_flip (b : Bool) (s : ByteArray) (y most : Int) (hb : s.size = 1) (h1 : b = true → (s.toList == ({ data := #[48] } : ByteArray).toList) = true) (h2 : b = false → (s.toList == ({ data := #[48] } : ByteArray).toList) = false ∧ (s.toList == ({ data := #[49] } : ByteArray).toList) = true) (hy : y = if b then 1 else 0) (hv : byteAt s 0 = if b then 48 else 49) (t : ByteArray) (ht : (t.toList == ({ data := #[49] } : ByteArray).toList) = true) :
    AC Try.prog 32 [.val (.int .i32 126), .agg [.val (.bool false), .val (.string s), .val (.string t)], .val (.int .i64 most)] (.pure (.tup [RN y 1, .val (.int .i64 0)])) := by
  have hH := SMHas_ok 126
  rw [decide_eq_true (show isOne 126 by decide)] at hH
  have hF := SFrom_ok y (by rw [hy]; cases b <;> decide)
  have e : IntKind.i64.wrap (1 - IntKind.i64.wrap (IntKind.u8.wrap (byteAt s 0 - 48))) = y := by rw [hv, hy]; cases b <;> decide
  refine AC.of_body TTok Try.func32 rfl (enter_of Try.func32 (by kernel_rfl) (by kernel_rfl)) (noid3 (.val _) (.agg _ (noid3 (.val _) (.val _) (.val _))) (.val _)) (.tup _ (noid2 (RN_noid _ _) (.val _))) (Nat.le_of_ble_eq_true rfl) ?_
  rw [← e] at hF ⊢
  unfold RN at *
  cases b
  · obtain ⟨j0, j1⟩ := h2 rfl
    conv => whnf
    refine ⟨_, hH, ?_⟩
    conv => whnf
    refine caseb (fun _ => ?_) (fun h => Bool.noConfusion ((ht).symm.trans h))
    conv => whnf
    refine caseb (fun h => Bool.noConfusion ((j0).symm.trans h)) (fun _ => ?_)
    conv => whnf
    refine caseb (fun _ => ?_) (fun h => Bool.noConfusion ((j1).symm.trans h))
    conv => whnf
    refine ⟨⟨by omega, by omega⟩, ?_⟩
    conv => whnf
    refine ⟨_, hF, ?_⟩
    conv => whnf
    exact rfl
  · have j0 := h1 rfl
    conv => whnf
    refine ⟨_, hH, ?_⟩
    conv => whnf
    refine caseb (fun _ => ?_) (fun h => Bool.noConfusion ((ht).symm.trans h))
    conv => whnf
    refine caseb (fun _ => ?_) (fun h => Bool.noConfusion ((j0).symm.trans h))
    conv => whnf
    refine ⟨⟨by omega, by omega⟩, ?_⟩
    conv => whnf
    refine ⟨_, hF, ?_⟩
    conv => whnf
    exact rfl

theorem SOne126 (x : Rat) (most : Int) (hm : most ≤ 200) (lx : Sz x 90) : AC Try.prog 32 [.val (.int .i32 126), RN x.num x.den, .val (.int .i64 most)] (.pure (.tup [RN (monoQ 126 x most).1.num (monoQ 126 x most).1.den, .val (.int .i64 (monoQ 126 x most).2)])) := by
  have hH := SMHas_ok 126
  rw [decide_eq_true (show isOne 126 by decide)] at hH
  have hZ := SZero_ok
  rw [show monoQ 126 x most = notQ x from rfl]
  have i1 := is1 x.den
  have j0 := is0 x.num.natAbs
  have j1 := is1 x.num.natAbs
  unfold notQ
  by_cases h0 : x = 0
  · subst h0
    rw [if_pos rfl]
    exact not_flip true (decS 0) 1 most (by rw [decS_zero]; rfl) (fun _ => (is0 0).trans rfl) (fun h => Bool.noConfusion h) rfl (by rw [decS_zero]; rfl) (decS 1) ((is1 1).trans rfl)
  rw [if_neg h0]
  by_cases h1 : x = 1
  · subst h1
    rw [if_pos rfl]
    exact not_flip false (decS 1) 0 most (by rw [decS_one]; rfl) (fun h => Bool.noConfusion h) (fun _ => ⟨(is0 1).trans rfl, (is1 1).trans rfl⟩) rfl (by rw [decS_one]; rfl) (decS 1) ((is1 1).trans rfl)
  rw [if_neg h1]
  show AC Try.prog 32 _ (.pure (.tup [RN 0 1, .val (.int .i64 22)]))
  refine AC.of_body TTok Try.func32 rfl (enter_of Try.func32 (by kernel_rfl) (by kernel_rfl)) (noid3 (.val _) (RN_noid _ _) (.val _)) (.tup _ (noid2 (RN_noid _ _) (.val _))) (Nat.le_of_ble_eq_true rfl) ?_
  by_cases hd : x.den = 1
  · rw [decide_eq_true hd] at i1
    by_cases hn : x.num < 0
    · have f1 : (!(decide (x.num < 0))) = false := by rw [decide_eq_true hn]; rfl
      unfold RN at *
      conv => whnf
      refine ⟨_, hH, ?_⟩
      conv => whnf
      refine caseb (fun _ => ?_) (fun h => Bool.noConfusion ((i1).symm.trans h))
      conv => whnf
      refine caseb (fun h => Bool.noConfusion ((f1).symm.trans h)) (fun _ => ?_)
      repeat
        conv => whnf
        first
          | refine ⟨_, by assumption, ?_⟩
          | refine ⟨(Nat.le_of_ble_eq_true rfl), _, by assumption, ?_⟩
          | refine ⟨by kernel_rfl, ?_⟩
          | exact rfl
          | refine ⟨by decide, ?_⟩
    · have f1 : (!(decide (x.num < 0))) = true := by rw [decide_eq_false hn]; rfl
      rw [decide_eq_false (by have := num_ne h0; omega)] at j0
      rw [decide_eq_false (fun e => h1 (Rat.ext (show x.num = 1 by omega) hd))] at j1
      unfold RN at *
      conv => whnf
      refine ⟨_, hH, ?_⟩
      conv => whnf
      refine caseb (fun _ => ?_) (fun h => Bool.noConfusion ((i1).symm.trans h))
      conv => whnf
      refine caseb (fun _ => ?_) (fun h => Bool.noConfusion ((f1).symm.trans h))
      conv => whnf
      refine caseb (fun h => Bool.noConfusion ((j0).symm.trans h)) (fun _ => ?_)
      conv => whnf
      refine caseb (fun h => Bool.noConfusion ((j1).symm.trans h)) (fun _ => ?_)
      repeat
        conv => whnf
        first
          | refine ⟨_, by assumption, ?_⟩
          | refine ⟨(Nat.le_of_ble_eq_true rfl), _, by assumption, ?_⟩
          | refine ⟨by kernel_rfl, ?_⟩
          | exact rfl
          | refine ⟨by decide, ?_⟩
  · rw [decide_eq_false hd] at i1
    unfold RN at *
    conv => whnf
    refine ⟨_, hH, ?_⟩
    conv => whnf
    refine caseb (fun h => Bool.noConfusion ((i1).symm.trans h)) (fun _ => ?_)
    repeat
      conv => whnf
      first
        | refine ⟨_, by assumption, ?_⟩
        | refine ⟨(Nat.le_of_ble_eq_true rfl), _, by assumption, ?_⟩
        | refine ⟨by kernel_rfl, ?_⟩
        | exact rfl
        | refine ⟨by decide, ?_⟩

theorem SOne42 (x : Rat) (most : Int) (hm : most ≤ 200) (lx : Sz x 90) : AC Try.prog 32 [.val (.int .i32 42), RN x.num x.den, .val (.int .i64 most)] (.pure (.tup [RN (monoQ 42 x most).1.num (monoQ 42 x most).1.den, .val (.int .i64 (monoQ 42 x most).2)])) := by
  have hH := SMHas_ok 42
  rw [decide_eq_true (show isOne 42 by decide)] at hH
  have hZ := SZero_ok
  show AC Try.prog 32 _ (.pure (.tup [RN 0 1, .val (.int .i64 22)]))
  refine AC.of_body TTok Try.func32 rfl (enter_of Try.func32 (by kernel_rfl) (by kernel_rfl)) (noid3 (.val _) (RN_noid _ _) (.val _)) (.tup _ (noid2 (RN_noid _ _) (.val _))) (Nat.le_of_ble_eq_true rfl) ?_
  unfold RN at *
  repeat
    conv => whnf
    first
      | refine ⟨_, by assumption, ?_⟩
      | refine ⟨(Nat.le_of_ble_eq_true rfl), _, by assumption, ?_⟩
      | refine ⟨by kernel_rfl, ?_⟩
      | exact rfl
      | refine ⟨by decide, ?_⟩

theorem SOne9055 (x : Rat) (most : Int) (hm : most ≤ 200) (lx : Sz x 90) : AC Try.prog 32 [.val (.int .i32 9055), RN x.num x.den, .val (.int .i64 most)] (.pure (.tup [RN (monoQ 9055 x most).1.num (monoQ 9055 x most).1.den, .val (.int .i64 (monoQ 9055 x most).2)])) := by
  have hH := SMHas_ok 9055
  rw [decide_eq_true (show isOne 9055 by decide)] at hH
  have hZ := SZero_ok
  show AC Try.prog 32 _ (.pure (.tup [RN 0 1, .val (.int .i64 22)]))
  refine AC.of_body TTok Try.func32 rfl (enter_of Try.func32 (by kernel_rfl) (by kernel_rfl)) (noid3 (.val _) (RN_noid _ _) (.val _)) (.tup _ (noid2 (RN_noid _ _) (.val _))) (Nat.le_of_ble_eq_true rfl) ?_
  unfold RN at *
  repeat
    conv => whnf
    first
      | refine ⟨_, by assumption, ?_⟩
      | refine ⟨(Nat.le_of_ble_eq_true rfl), _, by assumption, ?_⟩
      | refine ⟨by kernel_rfl, ?_⟩
      | exact rfl
      | refine ⟨by decide, ?_⟩

theorem SOne9675 (x : Rat) (most : Int) (hm : most ≤ 200) (lx : Sz x 90) : AC Try.prog 32 [.val (.int .i32 9675), RN x.num x.den, .val (.int .i64 most)] (.pure (.tup [RN (monoQ 9675 x most).1.num (monoQ 9675 x most).1.den, .val (.int .i64 (monoQ 9675 x most).2)])) := by
  have hH := SMHas_ok 9675
  rw [decide_eq_true (show isOne 9675 by decide)] at hH
  have hZ := SZero_ok
  show AC Try.prog 32 _ (.pure (.tup [RN 0 1, .val (.int .i64 22)]))
  refine AC.of_body TTok Try.func32 rfl (enter_of Try.func32 (by kernel_rfl) (by kernel_rfl)) (noid3 (.val _) (RN_noid _ _) (.val _)) (.tup _ (noid2 (RN_noid _ _) (.val _))) (Nat.le_of_ble_eq_true rfl) ?_
  unfold RN at *
  repeat
    conv => whnf
    first
      | refine ⟨_, by assumption, ?_⟩
      | refine ⟨(Nat.le_of_ble_eq_true rfl), _, by assumption, ?_⟩
      | refine ⟨by kernel_rfl, ?_⟩
      | exact rfl
      | refine ⟨by decide, ?_⟩

theorem SOne_not (c : Int) (hc : ¬ isOne c) (x : Rat) (most : Int) : AC Try.prog 32 [.val (.int .i32 c), RN x.num x.den, .val (.int .i64 most)] (.pure (.tup [RN 0 1, .val (.int .i64 20)])) := by
  have hH := SMHas_ok c
  rw [decide_eq_false hc] at hH
  have hZ := SZero_ok
  refine AC.of_body TTok Try.func32 rfl (enter_of Try.func32 (by kernel_rfl) (by kernel_rfl)) (noid3 (.val _) (RN_noid _ _) (.val _)) (.tup _ (noid2 (RN_noid _ _) (.val _))) (Nat.le_of_ble_eq_true rfl) ?_
  unfold RN at *
  repeat
    conv => whnf
    first
      | refine ⟨_, by assumption, ?_⟩
      | refine ⟨(Nat.le_of_ble_eq_true rfl), _, by assumption, ?_⟩
      | refine ⟨by kernel_rfl, ?_⟩
      | exact rfl
      | refine ⟨by decide, ?_⟩
theorem SMono_ok (c : Int) (x : Rat) (most : Int) (hm : most ≤ 200) (lx : Sz x 90) : AC Try.prog 32 [.val (.int .i32 c), RN x.num x.den, .val (.int .i64 most)] (.pure (.tup [RN (monoQ c x most).1.num (monoQ c x most).1.den, .val (.int .i64 (monoQ c x most).2)])) := by
  by_cases hc : isOne c
  · rcases hc with rfl | rfl | rfl | rfl | rfl | rfl | rfl | rfl | rfl | rfl | rfl | rfl
    · exact SOne43 x most hm lx
    · exact SOne45 x most hm lx
    · exact SOne215 x most hm lx
    · exact SOne247 x most hm lx
    · exact SOne8968 x most hm lx
    · exact SOne8970 x most hm lx
    · exact SOne124 x most hm lx
    · exact SOne42 x most hm lx
    · exact SOne33 x most hm lx
    · exact SOne126 x most hm lx
    · exact SOne9055 x most hm lx
    · exact SOne9675 x most hm lx
  · rw [mono_not hc]
    exact SOne_not c hc x most

end Go.Proofs.Ytabgankeaagibaa

/- Layer 12: what is read, the chapter's examples. -/
set_option linter.unusedVariables false
namespace Go.Proofs.Ytabgankeaagibaa
open Go Go.AL NM

/-- What is read of a number as the page speaks of it. -/
def Rd12 (b : Bool) (s t : List Int) (q : Rat) (ok : Bool) : Prop :=
  (ok = true → RT b s t = RN q.num q.den ∧ RQ b s t ∧ s.length ≤ 60 ∧ t.length ≤ 60 ∧ q = qOf b s t) ∧ AC Try.prog 29 [RT b s t] (.pure (.tup [if ok then RA q.num q.den else RA 0 0, .val (.bool ok)]))

theorem read12 (b : Bool) (s t : List Int) (hBs : Byt s) (hBt : Byt t) : ∃ q ok, Rd12 b s t q ok := by
  have z1 := strL_size s
  have z2 := strL_size t
  by_cases h1 : s.length ≤ 60 ∧ t.length ≤ 60
  · have hR := SRight_ok b s t hBs hBt (by omega) (by omega)
    have f1 : decide (((strL s).size : Int) > 60) = false := decide_eq_false (by omega)
    have f2 : decide (((strL t).size : Int) > 60) = false := decide_eq_false (by omega)
    by_cases hq : RQ b s t
    · have hO := SOf_ok b s t hBs hBt (by omega) (by omega) hq.1 hq.2.1 hq.2.2.2.2.1
      rw [decide_eq_true hq] at hR hO
      refine ⟨qOf b s t, true, fun _ => ⟨RQ_is hq, hq, h1.1, h1.2, rfl⟩, ?_⟩
      rw [if_pos rfl]
      refine AC.of_body TTok Try.func29 rfl (enter_of Try.func29 (by kernel_rfl) (by kernel_rfl)) (noid1 (RT_noid _ _ _)) (.tup _ (noid2 (RA_noid _ _) (.val _))) (Nat.le_of_ble_eq_true rfl) ?_
      unfold RT RA at *
      conv => whnf
      refine caseb (fun h => Bool.noConfusion ((f1).symm.trans h)) (fun _ => ?_)
      conv => whnf
      refine caseb (fun h => Bool.noConfusion ((f2).symm.trans h)) (fun _ => ?_)
      repeat
        conv => whnf
        first
          | refine ⟨_, by assumption, ?_⟩
          | refine ⟨(Nat.le_of_ble_eq_true rfl), _, by assumption, ?_⟩
          | refine ⟨by kernel_rfl, ?_⟩
          | exact rfl
          | refine ⟨by decide, ?_⟩
    · rw [decide_eq_false hq] at hR
      refine ⟨0, false, fun h => Bool.noConfusion h, ?_⟩
      rw [if_neg (by decide)]
      refine RZ_res ?_
      refine AC.of_body TTok Try.func29 rfl (enter_of Try.func29 (by kernel_rfl) (by kernel_rfl)) (noid1 (RT_noid _ _ _)) (.tup _ (noid2 RZ_noid (.val _))) (Nat.le_of_ble_eq_true rfl) ?_
      unfold RT at *
      conv => whnf
      refine caseb (fun h => Bool.noConfusion ((f1).symm.trans h)) (fun _ => ?_)
      conv => whnf
      refine caseb (fun h => Bool.noConfusion ((f2).symm.trans h)) (fun _ => ?_)
      repeat
        conv => whnf
        first
          | refine ⟨_, by assumption, ?_⟩
          | refine ⟨(Nat.le_of_ble_eq_true rfl), _, by assumption, ?_⟩
          | refine ⟨by kernel_rfl, ?_⟩
          | exact rfl
          | refine ⟨by decide, ?_⟩
  · refine ⟨0, false, fun h => Bool.noConfusion h, ?_⟩
    rw [if_neg (by decide)]
    refine RZ_res ?_
    refine AC.of_body TTok Try.func29 rfl (enter_of Try.func29 (by kernel_rfl) (by kernel_rfl)) (noid1 (RT_noid _ _ _)) (.tup _ (noid2 RZ_noid (.val _))) (Nat.le_of_ble_eq_true rfl) ?_
    unfold RT at *
    by_cases h2 : s.length ≤ 60
    · have f1 : decide (((strL s).size : Int) > 60) = false := decide_eq_false (by omega)
      have f2 : decide (((strL t).size : Int) > 60) = true := decide_eq_true (by omega)
      conv => whnf
      refine caseb (fun h => Bool.noConfusion ((f1).symm.trans h)) (fun _ => ?_)
      conv => whnf
      refine caseb (fun _ => ?_) (fun h => Bool.noConfusion ((f2).symm.trans h))
      repeat
        conv => whnf
        first
          | refine ⟨_, by assumption, ?_⟩
          | refine ⟨(Nat.le_of_ble_eq_true rfl), _, by assumption, ?_⟩
          | refine ⟨by kernel_rfl, ?_⟩
          | exact rfl
          | refine ⟨by decide, ?_⟩
    · have f1 : decide (((strL s).size : Int) > 60) = true := decide_eq_true (by omega)
      conv => whnf
      refine caseb (fun _ => ?_) (fun h => Bool.noConfusion ((f1).symm.trans h))
      repeat
        conv => whnf
        first
          | refine ⟨_, by assumption, ?_⟩
          | refine ⟨(Nat.le_of_ble_eq_true rfl), _, by assumption, ?_⟩
          | refine ⟨by kernel_rfl, ?_⟩
          | exact rfl
          | refine ⟨by decide, ?_⟩

theorem Rd12.sz {b : Bool} {s t : List Int} {q : Rat} (h : Rd12 b s t q true) : Sz q 7 ∧ RT b s t = RN q.num q.den ∧ AC Try.prog 29 [RN q.num q.den] (.pure (.tup [RA q.num q.den, .val (.bool true)])) := by
  obtain ⟨h1, h2⟩ := h
  obtain ⟨e, hq, l1, l2, rfl⟩ := h1 rfl
  rw [if_pos rfl, e] at h2
  exact ⟨RQ_sz hq l1 l2 (by decide), e, h2⟩
theorem Rd12.bad {b : Bool} {s t : List Int} {q : Rat} {o : Bool} (h : Rd12 b s t q o) : ∃ x d, AC Try.prog 29 [RT b s t] (.pure (.tup [RA x d, .val (.bool o)])) := by
  have h2 := h.2
  cases o
  · exact ⟨0, 0, h2⟩
  · exact ⟨q.num, q.den, h2⟩



theorem qLimbs_small {t : Int} {d : Nat} (h1 : t.natAbs < 4294967296) (h2 : d < 4294967296) : qLimbs t d ≤ 1 := by
  have := limbs_small h1
  have := limbs_small h2
  unfold qLimbs
  omega
theorem with_fit {x : Rat} {most : Int} {k : Nat} (h : Sz x k) (hk : (k : Int) ≤ most) : withQ x most = (x, 0) := by
  unfold withQ
  rw [if_neg]
  have := h.1
  have := h.2
  unfold qLimbs
  omega
theorem ex_fac : monoQ 33 5 4 = (120, 0) := by
  show facQ 5 4 = (120, 0)
  rw [facQ_is (k := 5) rfl rfl]
  exact with_fit (k := 1) (Sz_small (by decide) (by decide)) (by decide)
theorem ex_ceil : monoQ 8968 (Rat.divInt 7 2) 4 = (4, 0) := by
  show withQ (((Rat.divInt 7 2).ceil : Int) : Rat) 4 = (4, 0)
  rw [show (Rat.divInt 7 2).ceil = 4 by decide +kernel]
  exact with_fit (k := 1) (Sz_small (by decide) (by decide)) (by decide)
theorem awake12_ok : AC Try.prog 30 [] (.pure (.val (.bool true))) := by
  have f5 := RatFrom_ok 5 (by decide)
  have hO := SOf_ok false [55] [50] (by intro x hx; simp at hx; omega) (by intro x hx; simp at hx; omega) (by decide) (by decide) (by decide) (by decide) (by decide)
  have hq : qOf false [55] [50] = Rat.divInt 7 2 := by decide +kernel
  rw [hq] at hO
  rw [show RT false [55] [50] = .agg [.val (.bool false), .val (.string { data := #[55] }), .val (.string { data := #[50] })] from rfl] at hO
  have s7 : Sz (Rat.divInt 7 2) 1 := Sz_small (by decide +kernel) (by decide +kernel)
  obtain ⟨d1, e1, T1⟩ := Mono_ok 33 5 1 4 rfl (by decide) ((Sz_small (by decide) (by decide)).mono (by decide))
  obtain ⟨d2, e2, T2⟩ := Mono_ok 8968 (Rat.divInt 7 2) (Rat.divInt 7 2).den 4 (dn_den _) (by decide) (s7.mono (by decide))
  rw [ex_fac] at e1 T1
  rw [ex_ceil] at e2 T2
  have n1 := NumS 120 d1 e1 ((Sz_small (by decide) (by decide)).mono (by decide))
  have n2 := NumS 4 d2 e2 ((Sz_small (by decide) (by decide)).mono (by decide))
  have g120 := SFrom_ok 120 (by decide)
  have g4 := SFrom_ok 4 (by decide)
  simp only at T1 T2
  rw [show (5 : Rat).num = 5 from rfl] at T1
  rw [show RN (120 : Rat).num (120 : Rat).den = RN 120 1 from rfl] at n1
  rw [show RN (4 : Rat).num (4 : Rat).den = RN 4 1 from rfl] at n2
  refine AC.of_body TTok Try.func30 rfl (enter_of Try.func30 (by kernel_rfl) (by kernel_rfl)) (by intro x hx; cases hx) (.val _) (Nat.le_of_ble_eq_true rfl) ?_
  clear s7 e1 e2 hq
  generalize decide (RQ false [55] [50]) = o at *
  generalize (120 : Rat).num = m1 at *
  generalize (4 : Rat).num = m2 at *
  generalize Rat.divInt 7 2 = q at *
  generalize q.num = qn at *
  generalize q.den = qd at *
  unfold RA RN at *
  repeat
    conv => whnf
    first
      | refine ⟨_, by assumption, ?_⟩
      | refine ⟨(Nat.le_of_ble_eq_true rfl), _, by assumption, ?_⟩
      | refine ⟨by kernel_rfl, ?_⟩
      | exact rfl
      | refine ⟨by decide, ?_⟩
  conv => whnf
  refine caseb (fun _ => ?_) (fun h => Bool.noConfusion ((RN_self _ _ _).symm.trans h))
  repeat
    conv => whnf
    first
      | refine ⟨_, by assumption, ?_⟩
      | refine ⟨(Nat.le_of_ble_eq_true rfl), _, by assumption, ?_⟩
      | refine ⟨by kernel_rfl, ?_⟩
      | exact rfl
      | refine ⟨by decide, ?_⟩
  conv => whnf
  refine valB ?_
  exact RN_self _ _ _

end Go.Proofs.Ytabgankeaagibaa

/- The statement MonoBack: the walk through the law. -/
set_option linter.unusedVariables false
namespace Go.Proofs.Ytabgankeaagibaa.monoBack
open Go Go.AL NM

theorem bad (b : Bool) (s t : List Int) (x : Int) (d : Nat) (h1 : AC Try.prog 29 [RT b s t] (.pure (.tup [RA x d, .val (.bool false)]))) :
    AC Try.prog 10 [RT b s t] (.pure (.val (.bool true))) := by
  refine AC.of_body TTok Try.func10 rfl (enter_of Try.func10 (by kernel_rfl) (by kernel_rfl)) (noid1 (RT_noid _ _ _)) (.val _) (Nat.le_of_ble_eq_true rfl) ?_
  have hA := awake12_ok
  unfold RT RA at *
  repeat
    conv => whnf
    first
      | refine ⟨_, by assumption, ?_⟩
      | refine ⟨(Nat.le_of_ble_eq_true rfl), _, by assumption, ?_⟩
      | refine ⟨by kernel_rfl, ?_⟩
      | exact rfl
      | refine ⟨by decide, ?_⟩

theorem mono_neg {x : Rat} {k : Nat} (h : Sz x k) (hk : k ≤ 64) : monoQ 45 x 64 = (-x, 0) := by
  show withQ (-x) 64 = (-x, 0)
  exact with_fit (Sz_neg h) (by omega)
theorem mono_inv {x : Rat} {k : Nat} (h : Sz x k) (hk : k ≤ 64) : monoQ 247 x 64 = if x = 0 then (0, 22) else (1 / x, 0) := by
  show (if x = 0 then (0, 22) else withQ (1 / x) 64) = _
  by_cases h0 : x = 0
  · rw [if_pos h0, if_pos h0]
  · rw [if_neg h0, if_neg h0]
    obtain ⟨i1, i2⟩ := inv_parts h0
    exact with_fit (k := k) ⟨by rw [i1]; exact h.2, by rw [i2]; exact h.1⟩ (by omega)
theorem inv_inv {x : Rat} (h : x ≠ 0) : 1 / x ≠ 0 ∧ 1 / (1 / x) = x := by
  have h1 : 1 / x ≠ 0 := fun e => by
    have := Rat.div_mul_cancel (a := 1) h
    rw [e, Rat.zero_mul] at this
    exact absurd this (by decide)
  refine ⟨h1, ?_⟩
  have e2 : 1 / (1 / x) * (1 / x) = 1 := Rat.div_mul_cancel h1
  have e3 : x * (1 / x) = 1 := by rw [Rat.mul_comm]; exact Rat.div_mul_cancel h
  calc 1 / (1 / x) = 1 / (1 / x) * (x * (1 / x)) := by rw [e3, Rat.mul_one]
    _ = (1 / (1 / x) * (1 / x)) * x := by rw [Rat.mul_comm x, ← Rat.mul_assoc]
    _ = x := by rw [e2, Rat.one_mul]
theorem sz_ceil {x : Rat} {k : Nat} (h : Sz x k) : Sz ((x.ceil : Int) : Rat) (k + 2) :=
  Sz_int (by omega) (by rw [ceil_floor, Int.natAbs_neg]; exact limbs_floor (Sz_neg h))
theorem sz_floor {x : Rat} {k : Nat} (h : Sz x k) : Sz ((x.floor : Int) : Rat) (k + 2) := Sz_int (by omega) (limbs_floor h)
theorem up1 (x : Rat) : ((x.ceil : Int) : Rat) + -x < 1 := by
  rw [← Rat.sub_eq_add_neg, Rat.sub_lt_iff, Rat.add_comm]
  exact Rat.ceil_lt
theorem down1 (x : Rat) : x + -((x.floor : Int) : Rat) < 1 := by
  rw [← Rat.sub_eq_add_neg, Rat.sub_lt_iff, Rat.add_comm]
  have h := Rat.lt_floor_add_one x
  rwa [Rat.intCast_add] at h
theorem ge_ceil (x : Rat) : decide (cmpQ ((x.ceil : Int) : Rat) x ≥ 0) = true := decide_eq_true (by
  have h : x ≤ ((x.ceil : Int) : Rat) := Rat.le_ceil
  have : ¬ cmpQ ((x.ceil : Int) : Rat) x < 0 := fun e => absurd (cmpQ_neg.1 e) (Rat.not_lt.2 h)
  omega)
theorem le_floor (x : Rat) : decide (cmpQ ((x.floor : Int) : Rat) x ≤ 0) = true := decide_eq_true (by
  have h : ((x.floor : Int) : Rat) ≤ x := Rat.floor_le x
  have : ¬ cmpQ x ((x.floor : Int) : Rat) < 0 := fun e => absurd (cmpQ_neg.1 e) (Rat.not_lt.2 h)
  have hs := cmpQ_swap ((x.floor : Int) : Rat) x
  omega)

theorem good (p : Rat) (lp : Sz p 7) (h1 : AC Try.prog 29 [RN p.num p.den] (.pure (.tup [RA p.num p.den, .val (.bool true)]))) :
    AC Try.prog 10 [RN p.num p.den] (.pure (.val (.bool true))) := by
  have hA := awake12_ok
  obtain ⟨da, ea, Ta⟩ := Mono_ok 45 p p.den 64 (dn_den p) (by decide) (lp.mono (by decide))
  rw [mono_neg lp (by decide)] at ea Ta
  simp only at ea Ta
  obtain ⟨db, eb, Tb⟩ := Mono_ok 45 (-p) da 64 ea (by decide) ((Sz_neg lp).mono (by decide))
  rw [mono_neg (Sz_neg lp) (by decide), Rat.neg_neg] at eb Tb
  simp only at eb Tb
  have nB := NumS p db eb (lp.mono (by decide))
  have hS := RaSign_ok p.num p.den
  obtain ⟨du, eu, Tu⟩ := Mono_ok 8968 p p.den 64 (dn_den p) (by decide) (lp.mono (by decide))
  rw [show monoQ 8968 p 64 = (((p.ceil : Int) : Rat), 0) from with_fit (sz_ceil lp) (by decide)] at eu Tu
  simp only at eu Tu
  obtain ⟨dl, el, Tl⟩ := Mono_ok 8970 p p.den 64 (dn_den p) (by decide) (lp.mono (by decide))
  rw [show monoQ 8970 p 64 = (((p.floor : Int) : Rat), 0) from with_fit (sz_floor lp) (by decide)] at el Tl
  simp only at el Tl
  have M1 := QMinus_ok p.num p.den
  have M2 := QMinus_ok ((p.floor : Int) : Rat).num dl
  rw [dn_den] at M1
  rw [el] at M2
  have M1 : AC Try.prog 43 [RA p.num p.den] (.pure (RA (-p).num p.den)) := M1
  have M2 : AC Try.prog 43 [RA ((p.floor : Int) : Rat).num dl] (.pure (RA (-((p.floor : Int) : Rat)).num ((p.floor : Int) : Rat).den)) := M2
  have P1 := QPlus1 ((p.ceil : Int) : Rat) (-p) du p.den eu (dn_den p) ((sz_ceil lp).mono (by decide)) ((Sz_neg lp).mono (by decide))
  have P2 := QPlus1 p (-((p.floor : Int) : Rat)) p.den ((p.floor : Int) : Rat).den (dn_den p) (dn_den _) (lp.mono (by decide)) ((Sz_neg (sz_floor lp)).mono (by decide))
  have F1 := RatFrom_ok 1 (by decide)
  have C1 := QCmp_ok (((p.ceil : Int) : Rat) + -p) 1 (((p.ceil : Int) : Rat) + -p).den 1 (dn_den _) rfl ((Sz_add (sz_ceil lp) (Sz_neg lp)).mono (by decide)) ((Sz_small (by decide) (by decide)).mono (by decide))
  have C2 := QCmp_ok (p + -((p.floor : Int) : Rat)) 1 (p + -((p.floor : Int) : Rat)).den 1 (dn_den _) rfl ((Sz_add lp (Sz_neg (sz_floor lp))).mono (by decide)) ((Sz_small (by decide) (by decide)).mono (by decide))
  have C3 := QCmp_ok ((p.ceil : Int) : Rat) p du p.den eu (dn_den p) ((sz_ceil lp).mono (by decide)) (lp.mono (by decide))
  have C4 := QCmp_ok ((p.floor : Int) : Rat) p dl p.den el (dn_den p) ((sz_floor lp).mono (by decide)) (lp.mono (by decide))
  have g1 := decide_eq_true (cmpQ_neg.2 (up1 p))
  have g2 := decide_eq_true (cmpQ_neg.2 (down1 p))
  have g3 := ge_ceil p
  have g4 := le_floor p
  rw [show (1 : Rat).num = 1 from rfl] at C1 C2
  have INV : ∃ (c q : Rat) (dc dd : Nat) (g h : Int), AC Try.prog 31 [.val (.int .i32 247), RA p.num p.den, .val (.int .i64 64)] (.pure (.tup [RA c.num dc, .val (.int .i64 g)])) ∧ AC Try.prog 31 [.val (.int .i32 247), RA c.num dc, .val (.int .i64 64)] (.pure (.tup [RA q.num dd, .val (.int .i64 h)])) ∧
      ((p = 0 ∧ g = 22) ∨ (p ≠ 0 ∧ g = 0 ∧ h = 0 ∧ AC Try.prog 22 [RA q.num dd] (.pure (RN p.num p.den)))) := by
    obtain ⟨dc, ec, Tc⟩ := Mono_ok 247 p p.den 64 (dn_den p) (by decide) (lp.mono (by decide))
    rw [mono_inv lp (by decide)] at ec Tc
    by_cases h0 : p = 0
    · rw [if_pos h0] at ec Tc
      obtain ⟨dd, ed, Td⟩ := Mono_ok 247 0 dc 64 ec (by decide) (Sz_zero.mono (by decide))
      exact ⟨0, _, dc, dd, 22, _, Tc, Td, .inl ⟨h0, rfl⟩⟩
    · rw [if_neg h0] at ec Tc
      obtain ⟨i1, i2⟩ := inv_parts h0
      have l1 : Sz (1 / p) 7 := ⟨by rw [i1]; exact lp.2, by rw [i2]; exact lp.1⟩
      obtain ⟨j1, j2⟩ := inv_inv h0
      obtain ⟨dd, ed, Td⟩ := Mono_ok 247 (1 / p) dc 64 ec (by decide) (l1.mono (by decide))
      rw [mono_inv l1 (by decide), if_neg j1, j2] at ed Td
      exact ⟨1 / p, p, dc, dd, 0, 0, Tc, Td, .inr ⟨h0, rfl, rfl, NumS p dd ed (lp.mono (by decide))⟩⟩
  obtain ⟨c, q, dc, dd, g, h, Tc, Td, hcase⟩ := INV
  refine AC.of_body TTok Try.func10 rfl (enter_of Try.func10 (by kernel_rfl) (by kernel_rfl)) (noid1 (RN_noid _ _)) (.val _) (Nat.le_of_ble_eq_true rfl) ?_
  clear eu el ea eb
  generalize cmpQ (((p.ceil : Int) : Rat) + -p) 1 = c1 at *
  generalize cmpQ (p + -((p.floor : Int) : Rat)) 1 = c2 at *
  generalize cmpQ ((p.ceil : Int) : Rat) p = c3 at *
  generalize cmpQ ((p.floor : Int) : Rat) p = c4 at *
  generalize (((p.ceil : Int) : Rat) + -p) = s1 at *
  generalize (p + -((p.floor : Int) : Rat)) = s2 at *
  generalize -((p.floor : Int) : Rat) = nf at *
  generalize ((p.floor : Int) : Rat).den = fd at *
  generalize ((p.floor : Int) : Rat).num = fl at *
  generalize ((p.ceil : Int) : Rat).num = ce at *
  rcases hcase with ⟨h0, rfl⟩ | ⟨h0, rfl, rfl, nD⟩
  · have fs : (sigW p.num == 0) = true := by rw [h0]; rfl
    have fs' : (sigW p.num != 0) = false := by rw [bne, fs]; rfl
    have g5 : (!(((22 : Int) == 0) == (sigW p.num != 0))) = false := by rw [fs']; rfl
    clear h0
    generalize sigW p.num = sg at *
    unfold RA RN rowR at *
    conv => whnf
    refine ⟨_, h1, ?_⟩
    conv => whnf
    refine ⟨_, Ta, ?_⟩
    conv => whnf
    refine ⟨_, Tb, ?_⟩
    conv => whnf
    refine ⟨_, Tc, ?_⟩
    conv => whnf
    refine ⟨_, Td, ?_⟩
    conv => whnf
    refine ⟨_, Tu, ?_⟩
    conv => whnf
    refine ⟨_, Tl, ?_⟩
    conv => whnf
    refine ⟨_, nB, ?_⟩
    conv => whnf
    refine caseb (fun h => Bool.noConfusion ((RN_selfn _ _ _).symm.trans h)) (fun _ => ?_)
    conv => whnf
    refine ⟨_, hS, ?_⟩
    conv => whnf
    refine caseb (fun h => Bool.noConfusion ((g5).symm.trans h)) (fun _ => ?_)
    repeat
      conv => whnf
      first
        | refine ⟨_, by assumption, ?_⟩
        | refine ⟨(Nat.le_of_ble_eq_true rfl), _, by assumption, ?_⟩
        | refine ⟨by kernel_rfl, ?_⟩
        | exact rfl
        | refine ⟨by decide, ?_⟩
    conv => whnf
    refine caseb (fun _ => ?_) (fun h => Bool.noConfusion ((g1).symm.trans h))
    repeat
      conv => whnf
      first
        | refine ⟨_, by assumption, ?_⟩
        | refine ⟨(Nat.le_of_ble_eq_true rfl), _, by assumption, ?_⟩
        | refine ⟨by kernel_rfl, ?_⟩
        | exact rfl
        | refine ⟨by decide, ?_⟩
    conv => whnf
    refine caseb (fun _ => ?_) (fun h => Bool.noConfusion ((g2).symm.trans h))
    repeat
      conv => whnf
      first
        | refine ⟨_, by assumption, ?_⟩
        | refine ⟨(Nat.le_of_ble_eq_true rfl), _, by assumption, ?_⟩
        | refine ⟨by kernel_rfl, ?_⟩
        | exact rfl
        | refine ⟨by decide, ?_⟩
    conv => whnf
    refine caseb (fun _ => ?_) (fun h => Bool.noConfusion ((g3).symm.trans h))
    repeat
      conv => whnf
      first
        | refine ⟨_, by assumption, ?_⟩
        | refine ⟨(Nat.le_of_ble_eq_true rfl), _, by assumption, ?_⟩
        | refine ⟨by kernel_rfl, ?_⟩
        | exact rfl
        | refine ⟨by decide, ?_⟩
    conv => whnf
    refine caseb (fun _ => ?_) (fun h => Bool.noConfusion ((g4).symm.trans h))
    repeat
      conv => whnf
      first
        | refine ⟨_, by assumption, ?_⟩
        | refine ⟨(Nat.le_of_ble_eq_true rfl), _, by assumption, ?_⟩
        | refine ⟨by kernel_rfl, ?_⟩
        | exact rfl
        | refine ⟨by decide, ?_⟩
  · have fs := sig_ne h0
    have fs' : (sigW p.num != 0) = true := by rw [bne, fs]; rfl
    have g5 : (!(((0 : Int) == 0) == (sigW p.num != 0))) = false := by rw [fs']; rfl
    clear h0
    generalize sigW p.num = sg at *
    unfold RA RN rowR at *
    conv => whnf
    refine ⟨_, h1, ?_⟩
    conv => whnf
    refine ⟨_, Ta, ?_⟩
    conv => whnf
    refine ⟨_, Tb, ?_⟩
    conv => whnf
    refine ⟨_, Tc, ?_⟩
    conv => whnf
    refine ⟨_, Td, ?_⟩
    conv => whnf
    refine ⟨_, Tu, ?_⟩
    conv => whnf
    refine ⟨_, Tl, ?_⟩
    conv => whnf
    refine ⟨_, nB, ?_⟩
    conv => whnf
    refine caseb (fun h => Bool.noConfusion ((RN_selfn _ _ _).symm.trans h)) (fun _ => ?_)
    conv => whnf
    refine ⟨_, hS, ?_⟩
    conv => whnf
    refine caseb (fun h => Bool.noConfusion ((g5).symm.trans h)) (fun _ => ?_)
    conv => whnf
    refine ⟨_, nD, ?_⟩
    conv => whnf
    refine ⟨by kernel_rfl, ?_⟩
    conv => whnf
    refine caseb (fun h => Bool.noConfusion ((RN_selfn _ _ _).symm.trans h)) (fun _ => ?_)
    repeat
      conv => whnf
      first
        | refine ⟨_, by assumption, ?_⟩
        | refine ⟨(Nat.le_of_ble_eq_true rfl), _, by assumption, ?_⟩
        | refine ⟨by kernel_rfl, ?_⟩
        | exact rfl
        | refine ⟨by decide, ?_⟩
    conv => whnf
    refine caseb (fun _ => ?_) (fun h => Bool.noConfusion ((g1).symm.trans h))
    repeat
      conv => whnf
      first
        | refine ⟨_, by assumption, ?_⟩
        | refine ⟨(Nat.le_of_ble_eq_true rfl), _, by assumption, ?_⟩
        | refine ⟨by kernel_rfl, ?_⟩
        | exact rfl
        | refine ⟨by decide, ?_⟩
    conv => whnf
    refine caseb (fun _ => ?_) (fun h => Bool.noConfusion ((g2).symm.trans h))
    repeat
      conv => whnf
      first
        | refine ⟨_, by assumption, ?_⟩
        | refine ⟨(Nat.le_of_ble_eq_true rfl), _, by assumption, ?_⟩
        | refine ⟨by kernel_rfl, ?_⟩
        | exact rfl
        | refine ⟨by decide, ?_⟩
    conv => whnf
    refine caseb (fun _ => ?_) (fun h => Bool.noConfusion ((g3).symm.trans h))
    repeat
      conv => whnf
      first
        | refine ⟨_, by assumption, ?_⟩
        | refine ⟨(Nat.le_of_ble_eq_true rfl), _, by assumption, ?_⟩
        | refine ⟨by kernel_rfl, ?_⟩
        | exact rfl
        | refine ⟨by decide, ?_⟩
    conv => whnf
    refine caseb (fun _ => ?_) (fun h => Bool.noConfusion ((g4).symm.trans h))
    repeat
      conv => whnf
      first
        | refine ⟨_, by assumption, ?_⟩
        | refine ⟨(Nat.le_of_ble_eq_true rfl), _, by assumption, ?_⟩
        | refine ⟨by kernel_rfl, ?_⟩
        | exact rfl
        | refine ⟨by decide, ?_⟩

theorem holds (b0 : Bool) (s0 t0 : ByteArray) : AC Try.prog 10 [.agg [.val (.bool b0), .val (.string s0), .val (.string t0)]] (.pure (.val (.bool true))) := by
  rw [RT_of]
  obtain ⟨p, o, r⟩ := read12 b0 _ _ (bytesL_byt s0) (bytesL_byt t0)
  cases o
  · obtain ⟨x, d, h⟩ := r.bad
    exact bad _ _ _ x d h
  · obtain ⟨lp, e, h⟩ := r.sz
    rw [e]
    exact good p lp h

end Go.Proofs.Ytabgankeaagibaa.monoBack

/- An abstract program logic over tree values (part 30): what a caller hands in, structs and slices of any depth, as abstract values. -/
set_option linter.unusedVariables false
set_option linter.unusedSimpArgs false
namespace Go.AL
open Go Go.RowKit Go.ChangeShapes Go.WideShapes

/-- Cells that stand to abstract values that name no live block. -/
def CellsR (W : World) (cs : List Value) (xs : List AV) : Prop :=
  xs.length = cs.length ∧ ∀ (i : Nat) (y : AV), xs[i]? = some y → VR W (fun b => b < W.heap.size) (fun _ => none) (cs.getD i undef) y ∧ (cs.getD i undef).oneCell' = true ∧ NoId y

theorem CellsR.nil (W : World) : CellsR W [] [] := ⟨rfl, fun i y h => by simp at h⟩
theorem CellsR.append {W : World} {a b : List Value} {xs ys : List AV} (h : CellsR W a xs) (h' : CellsR W b ys) : CellsR W (a ++ b) (xs ++ ys) := by
  refine ⟨by rw [List.length_append, List.length_append, h.1, h'.1], fun i y hy => ?_⟩
  by_cases hi : i < xs.length
  · rw [List.getElem?_append_left hi] at hy
    have := h.2 i y hy
    rw [show (a ++ b).getD i undef = a.getD i undef by rw [List.getD, List.getD, List.getElem?_append_left (by rw [← h.1]; exact hi)]]
    exact this
  · rw [List.getElem?_append_right (by omega)] at hy
    have := h'.2 _ y hy
    rw [show (a ++ b).getD i undef = b.getD (i - xs.length) undef by rw [List.getD, List.getD, List.getElem?_append_right (by rw [← h.1]; omega), h.1]]
    exact this
theorem CellsR.one {W : World} {v : Value} {x : AV} (h : VR W (fun b => b < W.heap.size) (fun _ => none) v x) (h1 : v.oneCell' = true) (h2 : NoId x) : CellsR W [v] [x] := by
  refine ⟨rfl, fun i y hy => ?_⟩
  rcases i with _ | i
  · simp at hy; subst hy; exact ⟨h, h1, h2⟩
  · simp at hy

/-- What is known of the cells of a type. -/
def Opens (P : Program) (t : TypeId) (Φ : List AV → Prop) : Prop :=
  ∀ (W : World) (H : Type) (enc : TypeId × Value → H) (fuel : Nat) (cs : List Value) (x : DataW H × List MemPlace), DataW.trod enc P W 0 (fun _ => true) true fuel t cs = some x → ∃ xs, CellsR W cs xs ∧ Φ xs

section
variable {P : Program} {t : TypeId}

theorem opens_int {k : IntKind} (ht : P.underlying t = some (.int k)) : Opens P t (fun xs => ∃ n, xs = [.val (.int k n)] ∧ (Lit.int k n).wf = true) := by
  intro W H enc fuel cs x h
  obtain ⟨n, rfl, _, hw⟩ := DataW.trod_int ht h
  exact ⟨_, CellsR.one (.val _) rfl (.val _), n, rfl, hw⟩
theorem opens_bool (ht : P.underlying t = some .bool) : Opens P t (fun xs => ∃ b, xs = [.val (.bool b)]) := by
  intro W H enc fuel cs x h
  obtain ⟨n, rfl, _⟩ := DataW.trod_bool ht h
  exact ⟨_, CellsR.one (.val _) rfl (.val _), n, rfl⟩
theorem opens_str (ht : P.underlying t = some .string) : Opens P t (fun xs => ∃ s, xs = [.val (.string s)] ∧ s.size ≤ maxLen) := by
  intro W H enc fuel cs x h
  obtain ⟨s, rfl, _, hs⟩ := DataW.trod_string ht h
  exact ⟨_, CellsR.one (.val _) rfl (.val _), s, rfl, hs⟩

/-- The fields of a struct, from a place on. -/
inductive OpensF (P : Program) : List (Nat × Nat) → Nat → Nat → (List AV → Prop) → Prop
  | nil (n : Nat) : OpensF P [] n n (fun xs => xs = [])
  | cons (t : Nat) (fs : List (Nat × Nat)) (off c n : Nat) (Φ Ψ : List AV → Prop) (hc : P.cellsOf t = c) (hf : Opens P t Φ) (hr : OpensF P fs (off + c) n Ψ) :
      OpensF P ((off, t) :: fs) off n (fun xs => ∃ a b, xs = a ++ b ∧ Φ a ∧ Ψ b)

theorem OpensF.spec {fs : List (Nat × Nat)} {off n : Nat} {Φ : List AV → Prop} (h : OpensF P fs off n Φ) : ∀ (W : World) (H : Type) (enc : TypeId × Value → H) (fuel : Nat) (cs : List Value),
    cs.length = n → (∀ f ∈ fs, ∃ y, DataW.trod enc P W 0 (fun _ => true) true fuel f.2 ((cs.drop f.1).take (P.cellsOf f.2)) = some y) → ∃ xs, CellsR W (cs.drop off) xs ∧ Φ xs := by
  induction h with
  | nil n =>
    intro W H enc fuel cs hl _
    refine ⟨[], ?_, rfl⟩
    rw [List.drop_of_length_le (by omega)]
    exact .nil W
  | cons t fs off c n Φ Ψ hc hf hr ih =>
    intro W H enc fuel cs hl hall
    obtain ⟨y, hy⟩ := hall (off, t) (by simp)
    rw [hc] at hy
    obtain ⟨a, ha, hΦ⟩ := hf W H enc fuel _ y hy
    obtain ⟨b, hb, hΨ⟩ := ih W H enc fuel cs hl (fun g hg => hall g (by simp [hg]))
    refine ⟨a ++ b, ?_, a, b, rfl, hΦ, hΨ⟩
    have e : cs.drop off = (cs.drop off).take c ++ cs.drop (off + c) := by
      rw [← List.drop_drop, List.take_append_drop]
    rw [e]
    exact ha.append hb

theorem opens_struct {fs : Array Field} {l : List (Nat × Nat)} {n : Nat} {Φ : List AV → Prop} (ht : P.underlying t = some (.struct fs)) (hfs : fs.toList.map (fun f => (f.offset, f.type)) = l) (hc : P.cellsOf t = n) (h : OpensF P l 0 n Φ) : Opens P t Φ := by
  intro W H enc fuel cs x hx
  obtain ⟨xs, m, rfl, _, hl, hs, hf⟩ := DataW.trod_struct ht hx
  have := h.spec W H enc m cs (by rw [hl, hc]) (fun g hgm => by
    rw [← hfs] at hgm
    obtain ⟨f, hfm, rfl⟩ := List.mem_map.1 hgm
    obtain ⟨i, hi⟩ := List.getElem?_of_mem hfm
    have hi' : fs[i]? = some f := by rw [← Array.getElem?_toList]; exact hi
    have hlt : i < xs.length := by
      have := (Array.getElem?_eq_some_iff.1 hi').1
      omega
    exact ⟨xs[i], by rw [hf i f hi']; exact List.getElem?_eq_getElem hlt⟩)
  simpa using this

theorem opens_slice {e c : Nat} {Φ : List AV → Prop} (ht : P.underlying t = some (.slice e)) (hc : P.cellsOf e = c) (h0 : 0 < c) (he : Opens P e Φ) :
    Opens P t (fun xs => ∃ rows, xs = [.sl c rows false] ∧ rows.length ≤ maxLen ∧ ∀ r ∈ rows, r.length = c ∧ Φ r) := by
  intro W H enc fuel cs x hx
  rcases DataW.trod_slice ht hx with ⟨rfl, _⟩ | ⟨a, len, cap, elems, rest, n, rfl, rfl, _, hb, hl, hm, hlen, hel, _, _⟩
  · refine ⟨[.sl c [] false], CellsR.one (.sl none 0 0 c [] false 0 0 (fun _ => undef) rfl (Nat.le_refl _) (fun h => by cases h) (fun r hr => by cases hr) (fun h => absurd rfl h) (fun j x hx => by simp at hx) (fun j x hx => by simp at hx) (fun j x hx => by simp at hx) (fun j x hx => by simp at hx)) rfl (.sl _ _ _ (fun r hr => by cases hr)), [], rfl, Nat.zero_le _, fun r hr => by cases hr⟩
  · have ex : ∀ i, i < len → ∃ (ci : List Value) (xs : List AV), W.cells? 0 (a.add (i * c)) c = some ci ∧ CellsR W ci xs ∧ Φ xs := by
      intro i hi
      have h1 := hel i hi
      rw [hc, List.getElem?_eq_getElem (by omega), Option.bind_eq_some_iff] at h1
      obtain ⟨ci, h2, h3⟩ := h1
      obtain ⟨xs, h4, h5⟩ := he W H enc n ci _ h3
      exact ⟨ci, xs, h2, h4, h5⟩
    have : ∃ f : Nat → List AV, ∀ i, i < len → ∃ ci : List Value, W.cells? 0 (a.add (i * c)) c = some ci ∧ CellsR W ci (f i) ∧ Φ (f i) :=
      ⟨fun i => if h : i < len then (ex i h).choose_spec.choose else [], fun i hi => ⟨(ex i hi).choose, by
        simp only [dif_pos hi]
        exact (ex i hi).choose_spec.choose_spec⟩⟩
    obtain ⟨f, hf⟩ := this
    have hrl : ((List.range len).map f).length = len := by simp
    have hget : ∀ i r, ((List.range len).map f)[i]? = some r → i < len ∧ r = f i := fun i r hr => by
      rw [List.getElem?_map] at hr
      by_cases hi : i < len
      · rw [List.getElem?_range hi] at hr
        exact ⟨hi, (Option.some.inj hr).symm⟩
      · rw [List.getElem?_eq_none (by simp; omega)] at hr; cases hr
    have hw : ∀ r ∈ (List.range len).map f, r.length = c ∧ Φ r := fun r hr => by
      obtain ⟨i, hi, rfl⟩ := List.mem_map.1 hr
      obtain ⟨ci, h1, h2, h3⟩ := hf i (List.mem_range.1 hi)
      exact ⟨by rw [h2.1]; exact (World.cells?_some h1).2.1, h3⟩
    have spot : 0 < len → a.spot = none := fun hp => by
      obtain ⟨ci, h1, _, _⟩ := hf 0 hp
      have h2 := World.cells?_some h1
      have h3 := h2.2.2 0 h0
      rw [Nat.zero_mul, show (a.add 0).add 0 = a from rfl, List.getElem?_eq_getElem (by omega)] at h3
      unfold World.cell? at h3
      split at h3
      · cases hs : a.spot with
        | none => rfl
        | some z => rw [hs] at h3; simp at h3
      · cases h3
    have cell : ∀ (j : Nat) (y : AV), ((List.range len).map f).flatten[j]? = some y → ∃ v, W.cell? ⟨a.block, a.off + j, none⟩ = some v ∧ v.oneCell' = true ∧ VR W (fun b => b < W.heap.size) (fun _ => none) v y ∧ NoId y := by
      intro j y hy
      rw [flat_get h0 _ (fun r hr => (hw r hr).1), Option.bind_eq_some_iff] at hy
      obtain ⟨r, hr, hy⟩ := hy
      obtain ⟨hi, rfl⟩ := hget _ _ hr
      obtain ⟨ci, h1, h2, h3⟩ := hf _ hi
      obtain ⟨_, hcl, hcell⟩ := World.cells?_some h1
      have hk : j % c < c := Nat.mod_lt _ h0
      have h4 := hcell (j % c) hk
      rw [List.getElem?_eq_getElem (by omega)] at h4
      obtain ⟨g1, g2, g3⟩ := h2.2 _ y hy
      rw [List.getD, List.getElem?_eq_getElem (by omega), Option.getD_some] at g1 g2
      have hs := spot (Nat.lt_of_le_of_lt (Nat.zero_le _) hi)
      have ea : (a.add (j / c * c)).add (j % c) = ⟨a.block, a.off + j, none⟩ := by
        obtain ⟨b, o, sp⟩ := a
        have hs : sp = none := hs
        subst hs
        rw [add_plain, add_plain, Nat.add_assoc, Nat.mul_comm, Nat.div_add_mod]
      rw [ea] at h4
      exact ⟨_, h4, g2, g1, g3⟩
    refine ⟨[.sl c ((List.range len).map f) false], CellsR.one ?_ rfl (.sl _ _ _ (fun r hr y hy => ?_)), _, rfl, by rw [hrl]; omega, hw⟩
    · refine .sl (some a) len cap c _ false a.block a.off (fun j => (W.cell? ⟨a.block, a.off + j, none⟩).getD undef) (by rw [hrl]) hl (fun h => by cases h) (fun r hr => (hw r hr).1) (fun hne => ?_) (fun j y hy => ?_) (fun j y hy => ?_) (fun j y hy => ?_) (fun j y hy => ?_)
      · have hp : 0 < len := by
          rcases Nat.eq_zero_or_pos len with h | h
          · exact absurd (by rw [h]; rfl) hne
          · exact h
        have hs := spot hp
        obtain ⟨ci, h1, _, _⟩ := hf 0 hp
        have h3 := (World.cells?_some h1).2.2 0 h0
        rw [Nat.zero_mul, show (a.add 0).add 0 = a from rfl, List.getElem?_eq_getElem (by rw [(World.cells?_some h1).2.1]; exact h0)] at h3
        refine ⟨by obtain ⟨b, o, sp⟩ := a; have hs : sp = none := hs; rw [hs], ?_⟩
        unfold World.cell? at h3
        split at h3
        · rename_i hb' 
          exact (Array.getElem?_eq_some_iff.1 hb').1
        · cases h3
      · obtain ⟨v, h1, _⟩ := cell j y hy
        rw [h1]; rfl
      · obtain ⟨v, h1, h2, _⟩ := cell j y hy
        rw [h1]; exact h2
      · obtain ⟨v, h1, _, h3, _⟩ := cell j y hy
        rw [h1]; exact h3
      · obtain ⟨v, h1, _, _, h4⟩ := cell j y hy
        exact h4
    · obtain ⟨i, hi⟩ := List.getElem?_of_mem hr
      obtain ⟨k, hk⟩ := List.getElem?_of_mem hy
      have := flat_row (fun r hr => (hw r hr).1) hi hk
      exact (cell _ y this).choose_spec.2.2.2

theorem Opens.mono {Φ Ψ : List AV → Prop} (h : Opens P t Φ) (hm : ∀ xs, Φ xs → Ψ xs) : Opens P t Ψ := fun W H enc fuel cs x hx => by
  obtain ⟨xs, h1, h2⟩ := h W H enc fuel cs x hx
  exact ⟨xs, h1, hm xs h2⟩

/-- An argument of one cell. -/
theorem Opens.cell {Φ : List AV → Prop} (h : Opens P t Φ) {W : World} {H : Type} {enc : TypeId × Value → H} {v : Value} {d : DataW H} {ps : List MemPlace} (hd : DataW.Trod enc P W 0 (fun _ => true) true t v d ps)
    (hc : v.cells = #[v]) : ∃ x, Φ [x] ∧ VR W (fun b => b < W.heap.size) (fun _ => none) v x ∧ NoId x := by
  obtain ⟨fuel, hf⟩ := hd
  obtain ⟨xs, h1, h2⟩ := h W H enc fuel _ _ hf
  rw [hc] at h1
  match xs, h1, h2 with
  | [x], h1, h2 =>
    obtain ⟨g1, _, g3⟩ := h1.2 0 x rfl
    exact ⟨x, h2, g1, g3⟩
  | [], h1, _ => exact absurd h1.1 (by simp)
  | _ :: _ :: _, h1, _ => exact absurd h1.1 (by simp)

/-- An argument that is a struct. -/
theorem Opens.struct {Φ : List AV → Prop} (h : Opens P t Φ) {W : World} {H : Type} {enc : TypeId × Value → H} {cs : Array Value} {d : DataW H} {ps : List MemPlace} (hd : DataW.Trod enc P W 0 (fun _ => true) true t (.agg cs) d ps) :
    ∃ xs, Φ xs ∧ VR W (fun b => b < W.heap.size) (fun _ => none) (.agg cs) (.agg xs) ∧ NoId (.agg xs) := by
  obtain ⟨fuel, hf⟩ := hd
  obtain ⟨xs, h1, h2⟩ := h W H enc fuel _ _ hf
  have hg : ∀ i, (Value.cells (.agg cs)).toList.getD i undef = cs.getD i undef := fun i => by
    show cs.toList.getD i undef = _
    rw [List.getD, Array.getElem?_toList, Array.getD_eq_getD_getElem?]
  refine ⟨xs, h2, .agg cs xs ?_ (fun i x hx => ?_) (fun i x hx => ?_), .agg _ (fun x hx => ?_)⟩
  · have : xs.length = cs.toList.length := h1.1
    rw [this]; simp
  · have := (h1.2 i x hx).2.1
    rwa [hg] at this
  · have := (h1.2 i x hx).1
    rwa [hg] at this
  · obtain ⟨i, hi⟩ := List.getElem?_of_mem hx
    exact (h1.2 i x hi).2.2
end
end Go.AL
