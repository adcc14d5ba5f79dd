/- Functions of two numbers: the document's ways. -/
import Derived.Test.YtabgankeaagibaaGreatB4
import Derived.Test.YtabgankeaagibaaGreatB3
import Derived.ChangeSlices
import Derived.Below
set_option linter.unusedVariables false
namespace Go.Proofs.YtabgankeaagibaaGreat
open Go Go.AL NM

theorem decS_eq (n m : Nat) : ((decS n).toList == (decS m).toList) = decide (n = m) :=
  (decS_is n (decL m) (fun x hx => by have := decL_byt m x hx; omega)).trans (decide_eq_decide.2 ⟨fun h => decL_inj h, fun h => by rw [h]⟩)
theorem SWays_none (a b : Rat) (most : Int) (h : ¬ (natQ a ∧ natQ b)) : AC Tryz.prog 68 [RN a.num a.den, RN b.num b.den, .val (.int .i64 most)] (.pure (.tup [RN 0 1, .val (.int .i64 22)])) := by
  have hZ := SZero_ok
  have i1 := is1 a.den
  have j1 := is1 b.den
  refine AC.of_body TTok Tryz.func68 rfl (enter_of Tryz.func68 (by kernel_rfl) (by kernel_rfl)) (noid3 (RN_noid _ _) (RN_noid _ _) (.val _)) (.tup _ (noid2 (RN_noid _ _) (.val _))) (Nat.le_of_ble_eq_true rfl) ?_
  by_cases da : a.den = 1
  · rw [decide_eq_true da] at i1
    have f1 : (!((decS a.den).toList == ({ data := #[49] } : ByteArray).toList)) = false := by rw [i1]; rfl
    by_cases db : b.den = 1
    · rw [decide_eq_true db] at j1
      have f2 : (!((decS b.den).toList == ({ data := #[49] } : ByteArray).toList)) = false := by rw [j1]; rfl
      by_cases na : a.num < 0
      · have f3 : decide (a.num < 0) = true := decide_eq_true na
        unfold RN at *
        conv => whnf
        refine caseb (fun h => Bool.noConfusion ((f1).symm.trans h)) (fun _ => ?_)
        conv => whnf
        refine caseb (fun h => Bool.noConfusion ((f2).symm.trans h)) (fun _ => ?_)
        conv => whnf
        refine caseb (fun _ => ?_) (fun h => Bool.noConfusion ((f3).symm.trans h))
        repeat
          conv => whnf
          first
            | refine ⟨_, by assumption, ?_⟩
            | refine ⟨(Nat.le_of_ble_eq_true rfl), _, by assumption, ?_⟩
            | refine ⟨by kernel_rfl, ?_⟩
            | exact rfl
            | refine ⟨by decide, ?_⟩
      · have f3 : decide (a.num < 0) = false := decide_eq_false na
        have nb : b.num < 0 := Decidable.of_not_not (fun hb => h ⟨⟨da, by omega⟩, ⟨db, by omega⟩⟩)
        have f4 : decide (b.num < 0) = true := decide_eq_true nb
        unfold RN at *
        conv => whnf
        refine caseb (fun h => Bool.noConfusion ((f1).symm.trans h)) (fun _ => ?_)
        conv => whnf
        refine caseb (fun h => Bool.noConfusion ((f2).symm.trans h)) (fun _ => ?_)
        conv => whnf
        refine caseb (fun h => Bool.noConfusion ((f3).symm.trans h)) (fun _ => ?_)
        conv => whnf
        refine caseb (fun _ => ?_) (fun h => Bool.noConfusion ((f4).symm.trans h))
        repeat
          conv => whnf
          first
            | refine ⟨_, by assumption, ?_⟩
            | refine ⟨(Nat.le_of_ble_eq_true rfl), _, by assumption, ?_⟩
            | refine ⟨by kernel_rfl, ?_⟩
            | exact rfl
            | refine ⟨by decide, ?_⟩
    · rw [decide_eq_false db] at j1
      have f2 : (!((decS b.den).toList == ({ data := #[49] } : ByteArray).toList)) = true := by rw [j1]; rfl
      unfold RN at *
      conv => whnf
      refine caseb (fun h => Bool.noConfusion ((f1).symm.trans h)) (fun _ => ?_)
      conv => whnf
      refine caseb (fun _ => ?_) (fun h => Bool.noConfusion ((f2).symm.trans h))
      repeat
        conv => whnf
        first
          | refine ⟨_, by assumption, ?_⟩
          | refine ⟨(Nat.le_of_ble_eq_true rfl), _, by assumption, ?_⟩
          | refine ⟨by kernel_rfl, ?_⟩
          | exact rfl
          | refine ⟨by decide, ?_⟩
  · rw [decide_eq_false da] at i1
    have f1 : (!((decS a.den).toList == ({ data := #[49] } : ByteArray).toList)) = true := by rw [i1]; rfl
    unfold RN at *
    conv => whnf
    refine caseb (fun _ => ?_) (fun h => Bool.noConfusion ((f1).symm.trans h))
    repeat
      conv => whnf
      first
        | refine ⟨_, by assumption, ?_⟩
        | refine ⟨(Nat.le_of_ble_eq_true rfl), _, by assumption, ?_⟩
        | refine ⟨by kernel_rfl, ?_⟩
        | exact rfl
        | refine ⟨by decide, ?_⟩

theorem SWays_less (a b : Rat) (most : Int) (na : natQ a) (nb : natQ b) (h : b.num < a.num) : AC Tryz.prog 68 [RN a.num a.den, RN b.num b.den, .val (.int .i64 most)] (.pure (.tup [RN 0 1, .val (.int .i64 0)])) := by
  have i1 := is1 a.den
  have j1 := is1 b.den
  rw [decide_eq_true na.1] at i1
  rw [decide_eq_true nb.1] at j1
  have f1 : (!((decS a.den).toList == ({ data := #[49] } : ByteArray).toList)) = false := by rw [i1]; rfl
  have f2 : (!((decS b.den).toList == ({ data := #[49] } : ByteArray).toList)) = false := by rw [j1]; rfl
  have na2 := na.2
  have nb2 := nb.2
  have f3 : decide (a.num < 0) = false := decide_eq_false (by omega)
  have f4 : decide (b.num < 0) = false := decide_eq_false (by omega)
  have hC := RCmp_ok a.num.natAbs b.num.natAbs
  have hcmp : cmpN a.num.natAbs b.num.natAbs > 0 ↔ b.num < a.num := by
    rw [cmpN_Z, cmpZ_pos]
    omega
  have fc : decide (cmpN a.num.natAbs b.num.natAbs > 0) = true := decide_eq_true (hcmp.2 h)
  have hZ := SZero_ok
  refine AC.of_body TTok Tryz.func68 rfl (enter_of Tryz.func68 (by kernel_rfl) (by kernel_rfl)) (noid3 (RN_noid _ _) (RN_noid _ _) (.val _)) (.tup _ (noid2 (RN_noid _ _) (.val _))) (Nat.le_of_ble_eq_true rfl) ?_
  unfold RN at *
  conv => whnf
  refine caseb (fun h => Bool.noConfusion ((f1).symm.trans h)) (fun _ => ?_)
  conv => whnf
  refine caseb (fun h => Bool.noConfusion ((f2).symm.trans h)) (fun _ => ?_)
  conv => whnf
  refine caseb (fun h => Bool.noConfusion ((f3).symm.trans h)) (fun _ => ?_)
  conv => whnf
  refine caseb (fun h => Bool.noConfusion ((f4).symm.trans h)) (fun _ => ?_)
  conv => whnf
  refine ⟨_, hC, ?_⟩
  conv => whnf
  refine caseb (fun _ => ?_) (fun h => Bool.noConfusion ((fc).symm.trans h))
  repeat
    conv => whnf
    first
      | refine ⟨_, by assumption, ?_⟩
      | refine ⟨(Nat.le_of_ble_eq_true rfl), _, by assumption, ?_⟩
      | refine ⟨by kernel_rfl, ?_⟩
      | exact rfl
      | refine ⟨by decide, ?_⟩
theorem SWays_gen (a b : Rat) (most : Int) (hm : most ≤ 200) (la : Sz a 90) (lb : Sz b 90) (na : natQ a) (nb : natQ b) (h : a.num ≤ b.num) (res : AV) (hno : NoId res)
    (r1 : ¬ chsOk (min a.num (b.num - a.num)).toNat (max a.num (b.num - a.num)).toNat most → AV.tup [RN 0 1, .val (.int .i64 26)] = res)
    (r2 : chsOk (min a.num (b.num - a.num)).toNat (max a.num (b.num - a.num)).toNat most → AV.tup [RN ((chs (max a.num (b.num - a.num)).toNat (min a.num (b.num - a.num)).toNat : Nat) : Int) 1, .val (.int .i64 0)] = res) :
    AC Tryz.prog 68 [RN a.num a.den, RN b.num b.den, .val (.int .i64 most)] (.pure res) := by
  have i1 := is1 a.den
  have j1 := is1 b.den
  rw [decide_eq_true na.1] at i1
  rw [decide_eq_true nb.1] at j1
  have f1 : (!((decS a.den).toList == ({ data := #[49] } : ByteArray).toList)) = false := by rw [i1]; rfl
  have f2 : (!((decS b.den).toList == ({ data := #[49] } : ByteArray).toList)) = false := by rw [j1]; rfl
  have na2 := na.2
  have nb2 := nb.2
  have f3 : decide (a.num < 0) = false := decide_eq_false (by omega)
  have f4 : decide (b.num < 0) = false := decide_eq_false (by omega)
  have hC := RCmp_ok a.num.natAbs b.num.natAbs
  have hcmp : cmpN a.num.natAbs b.num.natAbs > 0 ↔ b.num < a.num := by
    rw [cmpN_Z, cmpZ_pos]
    omega
  have fc : decide (cmpN a.num.natAbs b.num.natAbs > 0) = false := decide_eq_false (fun h' => absurd (hcmp.1 h') (by omega))
  have hZ := SZero_ok
  have l1 := decL_le a.num.natAbs
  have l2 := decL_le b.num.natAbs
  have := la.1
  have := lb.1
  have hS := RSub_ok b.num.natAbs a.num.natAbs (by omega) (by omega)
  have hC2 := RCmp_ok (b.num.natAbs - a.num.natAbs) a.num.natAbs
  have hc2 : cmpN (b.num.natAbs - a.num.natAbs) a.num.natAbs < 0 ↔ b.num - a.num < a.num := by
    rw [cmpN_Z]
    unfold cmpZ
    split
    · omega
    · split <;> omega
  have hlt2 := limbs_len_mono (Nat.sub_le b.num.natAbs a.num.natAbs)
  obtain ⟨z, hz⟩ : ∃ z : Nat → Int, ∀ j, z j = (j : Int) := ⟨_, fun j => rfl⟩
  refine AC.of_body TTok Tryz.func68 rfl (enter_of Tryz.func68 (by kernel_rfl) (by kernel_rfl)) (noid3 (RN_noid _ _) (RN_noid _ _) (.val _)) hno (Nat.le_of_ble_eq_true rfl) ?_
  by_cases hs : b.num - a.num < a.num
  · have fs : decide (cmpN (b.num.natAbs - a.num.natAbs) a.num.natAbs < 0) = true := decide_eq_true (hc2.2 hs)
    obtain ⟨k, hk⟩ : ∃ k : Nat, k = b.num.natAbs - a.num.natAbs := ⟨_, rfl⟩
    obtain ⟨r, hr⟩ : ∃ r : Nat, r = a.num.natAbs := ⟨_, rfl⟩
    rw [show (min a.num (b.num - a.num)).toNat = k by omega, show (max a.num (b.num - a.num)).toNat = r by omega] at r1 r2
    have hkr : k ≤ r := by omega
    have lr : (limbs r).length ≤ 90 := by rw [hr]; omega
    have lk : (limbs k).length ≤ 90 := by rw [hk]; omega
    have dk := decL_le k
    have hS2 := RSub_ok b.num.natAbs k (by omega) (by omega)
    rw [show b.num.natAbs - k = r by omega] at hS2
    unfold RN at hZ ⊢
    conv => whnf
    refine caseb (fun h => Bool.noConfusion ((f1).symm.trans h)) (fun _ => ?_)
    conv => whnf
    refine caseb (fun h => Bool.noConfusion ((f2).symm.trans h)) (fun _ => ?_)
    conv => whnf
    refine caseb (fun h => Bool.noConfusion ((f3).symm.trans h)) (fun _ => ?_)
    conv => whnf
    refine caseb (fun h => Bool.noConfusion ((f4).symm.trans h)) (fun _ => ?_)
    conv => whnf
    refine ⟨_, hC, ?_⟩
    conv => whnf
    refine caseb (fun h => Bool.noConfusion ((fc).symm.trans h)) (fun _ => ?_)
    conv => whnf
    refine ⟨_, hS, ?_⟩
    conv => whnf
    refine ⟨_, hC2, ?_⟩
    conv => whnf
    refine caseb (fun _ => ?_) (fun h => Bool.noConfusion ((fs).symm.trans h))
    conv => whnf
    refine ⟨_, hS, ?_⟩
    conv => whnf
    rw [← hk]
    refine SW.loopM TTok (fun j : Nat => [(2, .val (.int .i64 most)), (4, .lp 8 0), (6, .lp 16 0), (8, .val (.string (decS k))), (9, .val (.string (decS (chs r j)))), (10, .val (.string (decS j))), (11, .val (.int .i64 (z j)))])
      (fun j => [(8, .cells 3 [[.val (.bool (decide (b.num < 0))), .val (.string (decS b.num.natAbs)), .val (.string (decS b.den))]]), (16, .cells 3 [[.val (.bool false), .val (.string ByteArray.empty), .val (.string ByteArray.empty)]])]) 352 80 rfl (fun j => 6500 - j)
      (fun j => j ≤ k ∧ (j = 0 ∨ ((limbs (chs r j)).length : Int) ≤ most)) 0 [] ⟨Nat.zero_le _, .inl rfl⟩
      ⟨⟨rfl, rfl⟩, ⟨rfl, rfl⟩, ⟨rfl, rfl⟩, ⟨rfl, rfl⟩, ⟨strE decS_one.symm, rfl⟩, ⟨strE decS_zero.symm, rfl⟩, ⟨valI (hz 0).symm, rfl⟩, trivial⟩ ⟨⟨rfl, .inr ⟨rfl, rfl⟩⟩, ⟨rfl, .inr ⟨rfl, rfl⟩⟩, trivial⟩ rfl ?_
    intro j hJ
    have hj1 : j ≤ k := hJ.1
    have hj2 : j = 0 ∨ ((limbs (chs r j)).length : Int) ≤ most := hJ.2
    clear hJ
    have lc : (limbs (chs r j)).length ≤ 200 := by
      rcases hj2 with h | h
      · subst h; exact Nat.le_trans (limbs_small (n := 1) (by decide)) (by decide)
      · omega
    have hjb := chs_bound (Nat.le_trans hj1 hkr) lc
    have fn : decide (z j < 100000) = true := decide_eq_true (by rw [hz]; omega)
    have ek := decS_eq j k
    by_cases hjk : j = k
    · rw [decide_eq_true hjk] at ek
      have fk : (!((decS j).toList == (decS k).toList)) = false := by rw [ek]; rfl
      conv => whnf
      refine caseb (fun _ => ?_) (fun h => Bool.noConfusion ((fn).symm.trans h))
      conv => whnf
      refine caseb (fun h => Bool.noConfusion ((fk).symm.trans h)) (fun _ => ?_)
      conv => whnf
      have e := r2 (by rw [← hjk]; rcases hj2 with h | h; exact .inl h; exact .inr h)
      have e2 : RN ((chs r k : Nat) : Int) 1 = .agg [.val (.bool false), .val (.string (decS (chs r j))), .val (.string { data := #[49] })] := by
        unfold RN
        rw [decS_one, decide_eq_false (show ¬ ((chs r k : Nat) : Int) < 0 by omega), Int.natAbs_natCast, hjk]
      rw [e2] at e
      exact Eq.trans rfl e
    · rw [decide_eq_false hjk] at ek
      have fk : (!((decS j).toList == (decS k).toList)) = true := by rw [ek]; rfl
      have lj1 := limbs_small (n := j + 1) (by omega)
      have lj := limbs_small (n := j) (by omega)
      have dj := decL_le j
      have dj1 := decL_le (j + 1)
      have dr := decL_le r
      have d1 := decL_le 1
      have l1' := limbs_small (n := 1) (by decide)
      have dc := decL_le (chs r j)
      have lrj : (limbs (r + (j + 1))).length ≤ 92 := by
        have := limbs_abs_add (r : Int) ((j + 1 : Nat) : Int)
        rw [show ((r : Int) + ((j + 1 : Nat) : Int)).natAbs = r + (j + 1) by omega, Int.natAbs_natCast, Int.natAbs_natCast] at this
        omega
      have drj := decL_le (r + (j + 1))
      have lcm := limbs_mul (chs r j) (r + (j + 1))
      have dcm := decL_le (chs r j * (r + (j + 1)))
      have hA1 := RAdd_ok j 1 (by omega)
      rw [decS_one] at hA1
      have hA2 := RAdd_ok r (j + 1) (by omega)
      have hM := RMul_ok (chs r j) (r + (j + 1)) (by omega)
      have hD := RDivMod_ok (chs r j * (r + (j + 1))) (j + 1) (by omega) (by omega)
      rw [← chs_succ] at hD
      have hle : (limbs (chs r (j + 1))).length ≤ 292 := by
        have := limbs_len_mono (Nat.div_le_self (chs r j * (r + (j + 1))) (j + 1))
        rw [← chs_succ] at this
        omega
      have hble := blen_limbs' (chs r (j + 1))
      have dcs := decL_le (chs r (j + 1))
      have hLi := RLimbs_ok (chs r (j + 1)) (by omega) (by omega)
      conv => whnf
      refine caseb (fun _ => ?_) (fun h => Bool.noConfusion ((fn).symm.trans h))
      conv => whnf
      refine caseb (fun _ => ?_) (fun h => Bool.noConfusion ((fk).symm.trans h))
      conv => whnf
      refine ⟨_, hA1, ?_⟩
      conv => whnf
      refine ⟨_, hS2, ?_⟩
      conv => whnf
      refine ⟨_, hA2, ?_⟩
      conv => whnf
      refine ⟨_, hM, ?_⟩
      conv => whnf
      refine ⟨_, hD, ?_⟩
      conv => whnf
      refine ⟨_, hLi, ?_⟩
      conv => whnf
      refine caseb (fun h5 => ?_) (fun h5 => ?_)
      · have h5' : ((limbs (chs r (j + 1))).length : Int) > most := of_decide_eq_true h5
        have hmo := limbs_len_mono (chs_mono r (show j + 1 ≤ k by omega))
        conv => whnf
        refine ⟨_, hZ, ?_⟩
        conv => whnf
        exact r1 (fun hc => by rcases hc with hc | hc <;> omega)
      · have h5' : ¬ ((limbs (chs r (j + 1))).length : Int) > most := of_decide_eq_false h5
        conv => whnf
        refine ⟨j + 1, [], (by show 6500 - (j + 1) < 6500 - j; omega), ⟨(by show j + 1 ≤ k; omega), .inr (by show ((limbs (chs r (j + 1))).length : Int) ≤ most; omega)⟩, ⟨⟨rfl, rfl⟩, ⟨rfl, rfl⟩, ⟨rfl, rfl⟩, ⟨rfl, rfl⟩, ⟨rfl, rfl⟩, ⟨rfl, rfl⟩, ⟨valI ?_, rfl⟩, trivial⟩, ⟨⟨rfl, .inr ⟨rfl, rfl⟩⟩, ⟨rfl, .inr ⟨rfl, rfl⟩⟩, trivial⟩, rfl⟩
        show IntKind.i64.wrap (z j + 1) = z (j + 1)
        rw [hz, hz, IntWalk.i64_in _ (by omega)]; omega
  · have fs : decide (cmpN (b.num.natAbs - a.num.natAbs) a.num.natAbs < 0) = false := decide_eq_false (fun h => hs (hc2.1 h))
    obtain ⟨k, hk⟩ : ∃ k : Nat, k = a.num.natAbs := ⟨_, rfl⟩
    obtain ⟨r, hr⟩ : ∃ r : Nat, r = b.num.natAbs - a.num.natAbs := ⟨_, rfl⟩
    rw [show (min a.num (b.num - a.num)).toNat = k by omega, show (max a.num (b.num - a.num)).toNat = r by omega] at r1 r2
    have hkr : k ≤ r := by omega
    have lr : (limbs r).length ≤ 90 := by rw [hr]; omega
    have lk : (limbs k).length ≤ 90 := by rw [hk]; omega
    have dk := decL_le k
    have hS2 := RSub_ok b.num.natAbs k (by omega) (by omega)
    rw [show b.num.natAbs - k = r by omega] at hS2
    unfold RN at hZ ⊢
    conv => whnf
    refine caseb (fun h => Bool.noConfusion ((f1).symm.trans h)) (fun _ => ?_)
    conv => whnf
    refine caseb (fun h => Bool.noConfusion ((f2).symm.trans h)) (fun _ => ?_)
    conv => whnf
    refine caseb (fun h => Bool.noConfusion ((f3).symm.trans h)) (fun _ => ?_)
    conv => whnf
    refine caseb (fun h => Bool.noConfusion ((f4).symm.trans h)) (fun _ => ?_)
    conv => whnf
    refine ⟨_, hC, ?_⟩
    conv => whnf
    refine caseb (fun h => Bool.noConfusion ((fc).symm.trans h)) (fun _ => ?_)
    conv => whnf
    refine ⟨_, hS, ?_⟩
    conv => whnf
    refine ⟨_, hC2, ?_⟩
    conv => whnf
    refine caseb (fun h => Bool.noConfusion ((fs).symm.trans h)) (fun _ => ?_)
    conv => whnf
    rw [← hk]
    refine SW.loopM TTok (fun j : Nat => [(2, .val (.int .i64 most)), (4, .lp 8 0), (6, .lp 16 0), (8, .val (.string (decS k))), (9, .val (.string (decS (chs r j)))), (10, .val (.string (decS j))), (11, .val (.int .i64 (z j)))])
      (fun j => [(8, .cells 3 [[.val (.bool (decide (b.num < 0))), .val (.string (decS b.num.natAbs)), .val (.string (decS b.den))]]), (16, .cells 3 [[.val (.bool false), .val (.string ByteArray.empty), .val (.string ByteArray.empty)]])]) 312 80 rfl (fun j => 6500 - j)
      (fun j => j ≤ k ∧ (j = 0 ∨ ((limbs (chs r j)).length : Int) ≤ most)) 0 [] ⟨Nat.zero_le _, .inl rfl⟩
      ⟨⟨rfl, rfl⟩, ⟨rfl, rfl⟩, ⟨rfl, rfl⟩, ⟨rfl, rfl⟩, ⟨strE decS_one.symm, rfl⟩, ⟨strE decS_zero.symm, rfl⟩, ⟨valI (hz 0).symm, rfl⟩, trivial⟩ ⟨⟨rfl, .inr ⟨rfl, rfl⟩⟩, ⟨rfl, .inr ⟨rfl, rfl⟩⟩, trivial⟩ rfl ?_
    intro j hJ
    have hj1 : j ≤ k := hJ.1
    have hj2 : j = 0 ∨ ((limbs (chs r j)).length : Int) ≤ most := hJ.2
    clear hJ
    have lc : (limbs (chs r j)).length ≤ 200 := by
      rcases hj2 with h | h
      · subst h; exact Nat.le_trans (limbs_small (n := 1) (by decide)) (by decide)
      · omega
    have hjb := chs_bound (Nat.le_trans hj1 hkr) lc
    have fn : decide (z j < 100000) = true := decide_eq_true (by rw [hz]; omega)
    have ek := decS_eq j k
    by_cases hjk : j = k
    · rw [decide_eq_true hjk] at ek
      have fk : (!((decS j).toList == (decS k).toList)) = false := by rw [ek]; rfl
      conv => whnf
      refine caseb (fun _ => ?_) (fun h => Bool.noConfusion ((fn).symm.trans h))
      conv => whnf
      refine caseb (fun h => Bool.noConfusion ((fk).symm.trans h)) (fun _ => ?_)
      conv => whnf
      have e := r2 (by rw [← hjk]; rcases hj2 with h | h; exact .inl h; exact .inr h)
      have e2 : RN ((chs r k : Nat) : Int) 1 = .agg [.val (.bool false), .val (.string (decS (chs r j))), .val (.string { data := #[49] })] := by
        unfold RN
        rw [decS_one, decide_eq_false (show ¬ ((chs r k : Nat) : Int) < 0 by omega), Int.natAbs_natCast, hjk]
      rw [e2] at e
      exact Eq.trans rfl e
    · rw [decide_eq_false hjk] at ek
      have fk : (!((decS j).toList == (decS k).toList)) = true := by rw [ek]; rfl
      have lj1 := limbs_small (n := j + 1) (by omega)
      have lj := limbs_small (n := j) (by omega)
      have dj := decL_le j
      have dj1 := decL_le (j + 1)
      have dr := decL_le r
      have d1 := decL_le 1
      have l1' := limbs_small (n := 1) (by decide)
      have dc := decL_le (chs r j)
      have lrj : (limbs (r + (j + 1))).length ≤ 92 := by
        have := limbs_abs_add (r : Int) ((j + 1 : Nat) : Int)
        rw [show ((r : Int) + ((j + 1 : Nat) : Int)).natAbs = r + (j + 1) by omega, Int.natAbs_natCast, Int.natAbs_natCast] at this
        omega
      have drj := decL_le (r + (j + 1))
      have lcm := limbs_mul (chs r j) (r + (j + 1))
      have dcm := decL_le (chs r j * (r + (j + 1)))
      have hA1 := RAdd_ok j 1 (by omega)
      rw [decS_one] at hA1
      have hA2 := RAdd_ok r (j + 1) (by omega)
      have hM := RMul_ok (chs r j) (r + (j + 1)) (by omega)
      have hD := RDivMod_ok (chs r j * (r + (j + 1))) (j + 1) (by omega) (by omega)
      rw [← chs_succ] at hD
      have hle : (limbs (chs r (j + 1))).length ≤ 292 := by
        have := limbs_len_mono (Nat.div_le_self (chs r j * (r + (j + 1))) (j + 1))
        rw [← chs_succ] at this
        omega
      have hble := blen_limbs' (chs r (j + 1))
      have dcs := decL_le (chs r (j + 1))
      have hLi := RLimbs_ok (chs r (j + 1)) (by omega) (by omega)
      conv => whnf
      refine caseb (fun _ => ?_) (fun h => Bool.noConfusion ((fn).symm.trans h))
      conv => whnf
      refine caseb (fun _ => ?_) (fun h => Bool.noConfusion ((fk).symm.trans h))
      conv => whnf
      refine ⟨_, hA1, ?_⟩
      conv => whnf
      refine ⟨_, hS2, ?_⟩
      conv => whnf
      refine ⟨_, hA2, ?_⟩
      conv => whnf
      refine ⟨_, hM, ?_⟩
      conv => whnf
      refine ⟨_, hD, ?_⟩
      conv => whnf
      refine ⟨_, hLi, ?_⟩
      conv => whnf
      refine caseb (fun h5 => ?_) (fun h5 => ?_)
      · have h5' : ((limbs (chs r (j + 1))).length : Int) > most := of_decide_eq_true h5
        have hmo := limbs_len_mono (chs_mono r (show j + 1 ≤ k by omega))
        conv => whnf
        refine ⟨_, hZ, ?_⟩
        conv => whnf
        exact r1 (fun hc => by rcases hc with hc | hc <;> omega)
      · have h5' : ¬ ((limbs (chs r (j + 1))).length : Int) > most := of_decide_eq_false h5
        conv => whnf
        refine ⟨j + 1, [], (by show 6500 - (j + 1) < 6500 - j; omega), ⟨(by show j + 1 ≤ k; omega), .inr (by show ((limbs (chs r (j + 1))).length : Int) ≤ most; omega)⟩, ⟨⟨rfl, rfl⟩, ⟨rfl, rfl⟩, ⟨rfl, rfl⟩, ⟨rfl, rfl⟩, ⟨rfl, rfl⟩, ⟨rfl, rfl⟩, ⟨valI ?_, rfl⟩, trivial⟩, ⟨⟨rfl, .inr ⟨rfl, rfl⟩⟩, ⟨rfl, .inr ⟨rfl, rfl⟩⟩, trivial⟩, rfl⟩
        show IntKind.i64.wrap (z j + 1) = z (j + 1)
        rw [hz, hz, IntWalk.i64_in _ (by omega)]; omega
theorem SWays_ok (a b : Rat) (most : Int) (hm : most ≤ 200) (la : Sz a 90) (lb : Sz b 90) : AC Tryz.prog 68 [RN a.num a.den, RN b.num b.den, .val (.int .i64 most)] (.pure (.tup [RN (chooseQ a b most).1.num (chooseQ a b most).1.den, .val (.int .i64 (chooseQ a b most).2)])) := by
  unfold chooseQ
  by_cases hn : natQ a ∧ natQ b
  · rw [if_neg (fun h => h hn)]
    by_cases hl : b.num < a.num
    · rw [if_pos hl]
      exact SWays_less a b most hn.1 hn.2 hl
    · rw [if_neg hl]
      by_cases hc : chsOk (min a.num (b.num - a.num)).toNat (max a.num (b.num - a.num)).toNat most
      · rw [if_pos hc]
        exact SWays_gen a b most hm la lb hn.1 hn.2 (by omega) _ (.tup _ (noid2 (RN_noid _ _) (.val _))) (fun h => absurd hc h) (fun _ => rfl)
      · rw [if_neg hc]
        exact SWays_gen a b most hm la lb hn.1 hn.2 (by omega) _ (.tup _ (noid2 (RN_noid _ _) (.val _))) (fun _ => rfl) (fun h => absurd h hc)
  · rw [if_pos hn]
    exact SWays_none a b most hn

end Go.Proofs.YtabgankeaagibaaGreat

/- Functions of two numbers: what reckons. -/
set_option linter.unusedVariables false
namespace Go.Proofs.YtabgankeaagibaaGreat
open Go Go.AL NM

/-- What a reckoning function makes of two numbers. -/
def reckonQ (c : Int) (a b : Rat) (most : Int) : Rat × Int :=
  if c = 43 then (a + b, 0)
  else if c = 45 then (a + -b, 0)
  else if c = 215 then (a * b, 0)
  else if c = 247 then (if b ≠ 0 then (a / b, 0) else if a = 0 then (1, 0) else (0, 22))
  else if c = 8968 then (if a < b then b else a, 0)
  else if c = 8970 then (if a < b then a else b, 0)
  else if c = 124 then (restQ a b, 0)
  else if c = 42 then powerQ a b most
  else if c = 33 then chooseQ a b most
  else (0, 22)
theorem noid4 {a b c d : AV} (ha : NoId a) (hb : NoId b) (hc : NoId c) (hd : NoId d) : ∀ x ∈ [a, b, c, d], NoId x := by
  intro x hx
  simp only [List.mem_cons, List.not_mem_nil, or_false] at hx
  rcases hx with rfl | rfl | rfl | rfl <;> assumption
theorem not_f {b : Bool} (h : b = false) : (!b) = true := by rw [h]; rfl
theorem sig_ne {q : Rat} (h : q ≠ 0) : (sigW q.num == 0) = false := beq_false_of_ne (by unfold sigW; rw [if_neg (num_ne h)]; split <;> decide)
theorem sig_z {q : Rat} (h : q = 0) : (sigW q.num == 0) = true := by rw [h]; rfl
theorem cmp_lt {a b : Rat} (h : a < b) : cmpQ a b = -1 := if_pos h
theorem cmp_ge {a b : Rat} (h : ¬ a < b) : decide (cmpQ a b < 0) = false := decide_eq_false (fun e => h (cmpQ_neg.1 e))


theorem Rec43 (a b : Rat) (i j : Nat) (most : Int) (hi : dn i = a.den) (hj : dn j = b.den) (hm : most ≤ 200) (la : Sz a 20) (lb : Sz b 20) : ∃ d, dn d = (reckonQ 43 a b most).1.den ∧ AC Tryz.prog 22 [.val (.int .i32 43), RA a.num i, RA b.num j, .val (.int .i64 most)] (.pure (.tup [RA (reckonQ 43 a b most).1.num d, .val (.int .i64 (reckonQ 43 a b most).2)])) := by
  rw [show reckonQ 43 a b most = (a + b, 0) from rfl]
  have hP := QPlus1 a b i j hi hj (la.mono (by decide)) (lb.mono (by decide))
  refine ⟨_, dn_den _, ?_⟩
  refine AC.of_body TTok Tryz.func22 rfl (enter_of Tryz.func22 (by kernel_rfl) (by kernel_rfl)) (noid4 (.val _) (RA_noid _ _) (RA_noid _ _) (.val _)) (.tup _ (noid2 (RA_noid _ _) (.val _))) (Nat.le_of_ble_eq_true rfl) ?_
  revert hP
  generalize a + b = r
  intro hP
  unfold RA rowR at *
  repeat
    conv => whnf
    first
      | refine ⟨_, by assumption, ?_⟩
      | refine ⟨(Nat.le_of_ble_eq_true rfl), _, by assumption, ?_⟩
      | refine ⟨by kernel_rfl, ?_⟩
      | exact rfl
      | refine ⟨by decide, ?_⟩

theorem Rec45 (a b : Rat) (i j : Nat) (most : Int) (hi : dn i = a.den) (hj : dn j = b.den) (hm : most ≤ 200) (la : Sz a 20) (lb : Sz b 20) : ∃ d, dn d = (reckonQ 45 a b most).1.den ∧ AC Tryz.prog 22 [.val (.int .i32 45), RA a.num i, RA b.num j, .val (.int .i64 most)] (.pure (.tup [RA (reckonQ 45 a b most).1.num d, .val (.int .i64 (reckonQ 45 a b most).2)])) := by
  rw [show reckonQ 45 a b most = (a + -b, 0) from rfl]
  have hM := QMinus_ok b.num j
  rw [hj] at hM
  have hM : AC Tryz.prog 49 [RA b.num j] (.pure (RA (-b).num b.den)) := hM
  have hP := QPlus1 a (-b) i b.den hi (dn_den b) (la.mono (by decide)) ((Sz_neg lb).mono (by decide))
  refine ⟨_, dn_den _, ?_⟩
  refine AC.of_body TTok Tryz.func22 rfl (enter_of Tryz.func22 (by kernel_rfl) (by kernel_rfl)) (noid4 (.val _) (RA_noid _ _) (RA_noid _ _) (.val _)) (.tup _ (noid2 (RA_noid _ _) (.val _))) (Nat.le_of_ble_eq_true rfl) ?_
  revert hP
  generalize a + -b = r
  intro hP
  generalize -b = nb at *
  unfold RA rowR at *
  repeat
    conv => whnf
    first
      | refine ⟨_, by assumption, ?_⟩
      | refine ⟨(Nat.le_of_ble_eq_true rfl), _, by assumption, ?_⟩
      | refine ⟨by kernel_rfl, ?_⟩
      | exact rfl
      | refine ⟨by decide, ?_⟩

theorem Rec215 (a b : Rat) (i j : Nat) (most : Int) (hi : dn i = a.den) (hj : dn j = b.den) (hm : most ≤ 200) (la : Sz a 20) (lb : Sz b 20) : ∃ d, dn d = (reckonQ 215 a b most).1.den ∧ AC Tryz.prog 22 [.val (.int .i32 215), RA a.num i, RA b.num j, .val (.int .i64 most)] (.pure (.tup [RA (reckonQ 215 a b most).1.num d, .val (.int .i64 (reckonQ 215 a b most).2)])) := by
  rw [show reckonQ 215 a b most = (a * b, 0) from rfl]
  have hP := QTimes1 a b i j hi hj (la.mono (by decide)) (lb.mono (by decide))
  refine ⟨_, dn_den _, ?_⟩
  refine AC.of_body TTok Tryz.func22 rfl (enter_of Tryz.func22 (by kernel_rfl) (by kernel_rfl)) (noid4 (.val _) (RA_noid _ _) (RA_noid _ _) (.val _)) (.tup _ (noid2 (RA_noid _ _) (.val _))) (Nat.le_of_ble_eq_true rfl) ?_
  revert hP
  generalize a * b = r
  intro hP
  unfold RA rowR at *
  repeat
    conv => whnf
    first
      | refine ⟨_, by assumption, ?_⟩
      | refine ⟨(Nat.le_of_ble_eq_true rfl), _, by assumption, ?_⟩
      | refine ⟨by kernel_rfl, ?_⟩
      | exact rfl
      | refine ⟨by decide, ?_⟩

theorem Rec247 (a b : Rat) (i j : Nat) (most : Int) (hi : dn i = a.den) (hj : dn j = b.den) (hm : most ≤ 200) (la : Sz a 20) (lb : Sz b 20) : ∃ d, dn d = (reckonQ 247 a b most).1.den ∧ AC Tryz.prog 22 [.val (.int .i32 247), RA a.num i, RA b.num j, .val (.int .i64 most)] (.pure (.tup [RA (reckonQ 247 a b most).1.num d, .val (.int .i64 (reckonQ 247 a b most).2)])) := by
  rw [show reckonQ 247 a b most = (if b ≠ 0 then (a / b, 0) else if a = 0 then (1, 0) else (0, 22)) from rfl]
  have hSa := RaSign_ok a.num i
  have hSb := RaSign_ok b.num j
  by_cases hb : b = 0
  · rw [if_neg (fun h => h hb)]
    have fb := sig_z hb
    by_cases ha : a = 0
    · rw [if_pos ha]
      have fa := sig_z ha
      have hF := RatFrom_ok 1 (by decide)
      refine ⟨1, rfl, ?_⟩
      show AC Tryz.prog 22 _ (.pure (.tup [RA 1 1, .val (.int .i64 0)]))
      refine AC.of_body TTok Tryz.func22 rfl (enter_of Tryz.func22 (by kernel_rfl) (by kernel_rfl)) (noid4 (.val _) (RA_noid _ _) (RA_noid _ _) (.val _)) (.tup _ (noid2 (RA_noid _ _) (.val _))) (Nat.le_of_ble_eq_true rfl) ?_
      generalize sigW a.num = s at *
      generalize sigW b.num = t at *
      unfold RA at *
      conv => whnf
      refine ⟨_, hSa, ?_⟩
      conv => whnf
      refine caseb (fun _ => ?_) (fun h => Bool.noConfusion ((fa).symm.trans h))
      conv => whnf
      refine ⟨_, hSb, ?_⟩
      conv => whnf
      refine caseb (fun _ => ?_) (fun h => Bool.noConfusion ((fb).symm.trans h))
      repeat
        conv => whnf
        first
          | refine ⟨_, by assumption, ?_⟩
          | refine ⟨(Nat.le_of_ble_eq_true rfl), _, by assumption, ?_⟩
          | refine ⟨by kernel_rfl, ?_⟩
          | exact rfl
          | refine ⟨by decide, ?_⟩
    · rw [if_neg ha]
      have fa := sig_ne ha
      have hB := By_zero a i j hi (by rw [hj, hb]) (la.mono (by decide))
      rw [← hb] at hB
      refine ⟨0, rfl, ?_⟩
      show AC Tryz.prog 22 _ (.pure (.tup [RA 0 0, .val (.int .i64 22)]))
      refine AC.of_body TTok Tryz.func22 rfl (enter_of Tryz.func22 (by kernel_rfl) (by kernel_rfl)) (noid4 (.val _) (RA_noid _ _) (RA_noid _ _) (.val _)) (.tup _ (noid2 (RA_noid _ _) (.val _))) (Nat.le_of_ble_eq_true rfl) ?_
      generalize sigW a.num = s at *
      unfold RA at *
      conv => whnf
      refine ⟨_, hSa, ?_⟩
      conv => whnf
      refine caseb (fun h => Bool.noConfusion ((fa).symm.trans h)) (fun _ => ?_)
      repeat
        conv => whnf
        first
          | refine ⟨_, by assumption, ?_⟩
          | refine ⟨(Nat.le_of_ble_eq_true rfl), _, by assumption, ?_⟩
          | refine ⟨by kernel_rfl, ?_⟩
          | exact rfl
          | refine ⟨by decide, ?_⟩
  · rw [if_pos hb]
    have fb := sig_ne hb
    have hB := By_ok a b i j hi hj (la.mono (by decide)) (lb.mono (by decide)) hb
    refine ⟨_, dn_den _, ?_⟩
    refine AC.of_body TTok Tryz.func22 rfl (enter_of Tryz.func22 (by kernel_rfl) (by kernel_rfl)) (noid4 (.val _) (RA_noid _ _) (RA_noid _ _) (.val _)) (.tup _ (noid2 (RA_noid _ _) (.val _))) (Nat.le_of_ble_eq_true rfl) ?_
    revert hB
    generalize a / b = r
    intro hB
    by_cases ha : a = 0
    · have fa := sig_z ha
      generalize sigW a.num = s at *
      generalize sigW b.num = t at *
      unfold RA at *
      conv => whnf
      refine ⟨_, hSa, ?_⟩
      conv => whnf
      refine caseb (fun _ => ?_) (fun h => Bool.noConfusion ((fa).symm.trans h))
      conv => whnf
      refine ⟨_, hSb, ?_⟩
      conv => whnf
      refine caseb (fun h => Bool.noConfusion ((fb).symm.trans h)) (fun _ => ?_)
      repeat
        conv => whnf
        first
          | refine ⟨_, by assumption, ?_⟩
          | refine ⟨(Nat.le_of_ble_eq_true rfl), _, by assumption, ?_⟩
          | refine ⟨by kernel_rfl, ?_⟩
          | exact rfl
          | refine ⟨by decide, ?_⟩
    · have fa := sig_ne ha
      generalize sigW a.num = s at *
      unfold RA at *
      conv => whnf
      refine ⟨_, hSa, ?_⟩
      conv => whnf
      refine caseb (fun h => Bool.noConfusion ((fa).symm.trans h)) (fun _ => ?_)
      repeat
        conv => whnf
        first
          | refine ⟨_, by assumption, ?_⟩
          | refine ⟨(Nat.le_of_ble_eq_true rfl), _, by assumption, ?_⟩
          | refine ⟨by kernel_rfl, ?_⟩
          | exact rfl
          | refine ⟨by decide, ?_⟩

theorem Rec8968 (a b : Rat) (i j : Nat) (most : Int) (hi : dn i = a.den) (hj : dn j = b.den) (hm : most ≤ 200) (la : Sz a 20) (lb : Sz b 20) : ∃ d, dn d = (reckonQ 8968 a b most).1.den ∧ AC Tryz.prog 22 [.val (.int .i32 8968), RA a.num i, RA b.num j, .val (.int .i64 most)] (.pure (.tup [RA (reckonQ 8968 a b most).1.num d, .val (.int .i64 (reckonQ 8968 a b most).2)])) := by
  rw [show reckonQ 8968 a b most = (if a < b then b else a, 0) from rfl]
  have hC := QCmp_ok a b i j hi hj (la.mono (by decide)) (lb.mono (by decide))
  by_cases h : a < b
  · rw [if_pos h]
    rw [cmp_lt h] at hC
    refine ⟨j, hj, ?_⟩
    refine AC.of_body TTok Tryz.func22 rfl (enter_of Tryz.func22 (by kernel_rfl) (by kernel_rfl)) (noid4 (.val _) (RA_noid _ _) (RA_noid _ _) (.val _)) (.tup _ (noid2 (RA_noid _ _) (.val _))) (Nat.le_of_ble_eq_true rfl) ?_
    unfold RA at *
    repeat
      conv => whnf
      first
        | refine ⟨_, by assumption, ?_⟩
        | refine ⟨(Nat.le_of_ble_eq_true rfl), _, by assumption, ?_⟩
        | refine ⟨by kernel_rfl, ?_⟩
        | exact rfl
        | refine ⟨by decide, ?_⟩
  · rw [if_neg h]
    have f1 := cmp_ge h
    refine ⟨i, hi, ?_⟩
    refine AC.of_body TTok Tryz.func22 rfl (enter_of Tryz.func22 (by kernel_rfl) (by kernel_rfl)) (noid4 (.val _) (RA_noid _ _) (RA_noid _ _) (.val _)) (.tup _ (noid2 (RA_noid _ _) (.val _))) (Nat.le_of_ble_eq_true rfl) ?_
    generalize cmpQ a b = s at *
    unfold RA at *
    conv => whnf
    refine ⟨_, hC, ?_⟩
    conv => whnf
    refine caseb (fun h => Bool.noConfusion ((f1).symm.trans h)) (fun _ => ?_)
    repeat
      conv => whnf
      first
        | refine ⟨_, by assumption, ?_⟩
        | refine ⟨(Nat.le_of_ble_eq_true rfl), _, by assumption, ?_⟩
        | refine ⟨by kernel_rfl, ?_⟩
        | exact rfl
        | refine ⟨by decide, ?_⟩

theorem Rec8970 (a b : Rat) (i j : Nat) (most : Int) (hi : dn i = a.den) (hj : dn j = b.den) (hm : most ≤ 200) (la : Sz a 20) (lb : Sz b 20) : ∃ d, dn d = (reckonQ 8970 a b most).1.den ∧ AC Tryz.prog 22 [.val (.int .i32 8970), RA a.num i, RA b.num j, .val (.int .i64 most)] (.pure (.tup [RA (reckonQ 8970 a b most).1.num d, .val (.int .i64 (reckonQ 8970 a b most).2)])) := by
  rw [show reckonQ 8970 a b most = (if a < b then a else b, 0) from rfl]
  have hC := QCmp_ok a b i j hi hj (la.mono (by decide)) (lb.mono (by decide))
  by_cases h : a < b
  · rw [if_pos h]
    rw [cmp_lt h] at hC
    refine ⟨i, hi, ?_⟩
    refine AC.of_body TTok Tryz.func22 rfl (enter_of Tryz.func22 (by kernel_rfl) (by kernel_rfl)) (noid4 (.val _) (RA_noid _ _) (RA_noid _ _) (.val _)) (.tup _ (noid2 (RA_noid _ _) (.val _))) (Nat.le_of_ble_eq_true rfl) ?_
    unfold RA at *
    repeat
      conv => whnf
      first
        | refine ⟨_, by assumption, ?_⟩
        | refine ⟨(Nat.le_of_ble_eq_true rfl), _, by assumption, ?_⟩
        | refine ⟨by kernel_rfl, ?_⟩
        | exact rfl
        | refine ⟨by decide, ?_⟩
  · rw [if_neg h]
    by_cases he : a = b
    · have hC0 : cmpQ a b = 0 := cmpQ_eq.2 he
      rw [hC0] at hC
      refine ⟨i, by rw [hi, he], ?_⟩
      rw [show RA b.num i = RA a.num i by rw [he]]
      refine AC.of_body TTok Tryz.func22 rfl (enter_of Tryz.func22 (by kernel_rfl) (by kernel_rfl)) (noid4 (.val _) (RA_noid _ _) (RA_noid _ _) (.val _)) (.tup _ (noid2 (RA_noid _ _) (.val _))) (Nat.le_of_ble_eq_true rfl) ?_
      unfold RA at *
      repeat
        conv => whnf
        first
          | refine ⟨_, by assumption, ?_⟩
          | refine ⟨(Nat.le_of_ble_eq_true rfl), _, by assumption, ?_⟩
          | refine ⟨by kernel_rfl, ?_⟩
          | exact rfl
          | refine ⟨by decide, ?_⟩
    · have hC1 : cmpQ a b = 1 := by unfold cmpQ; rw [if_neg h, if_neg he]
      rw [hC1] at hC
      refine ⟨j, hj, ?_⟩
      refine AC.of_body TTok Tryz.func22 rfl (enter_of Tryz.func22 (by kernel_rfl) (by kernel_rfl)) (noid4 (.val _) (RA_noid _ _) (RA_noid _ _) (.val _)) (.tup _ (noid2 (RA_noid _ _) (.val _))) (Nat.le_of_ble_eq_true rfl) ?_
      unfold RA at *
      repeat
        conv => whnf
        first
          | refine ⟨_, by assumption, ?_⟩
          | refine ⟨(Nat.le_of_ble_eq_true rfl), _, by assumption, ?_⟩
          | refine ⟨by kernel_rfl, ?_⟩
          | exact rfl
          | refine ⟨by decide, ?_⟩

theorem Rec124 (a b : Rat) (i j : Nat) (most : Int) (hi : dn i = a.den) (hj : dn j = b.den) (hm : most ≤ 200) (la : Sz a 20) (lb : Sz b 20) : ∃ d, dn d = (reckonQ 124 a b most).1.den ∧ AC Tryz.prog 22 [.val (.int .i32 124), RA a.num i, RA b.num j, .val (.int .i64 most)] (.pure (.tup [RA (reckonQ 124 a b most).1.num d, .val (.int .i64 (reckonQ 124 a b most).2)])) := by
  rw [show reckonQ 124 a b most = (restQ a b, 0) from rfl]
  by_cases h : a = 0
  · have hR := Rest_zero b i j (by rw [hi, h]) hj (lb.mono (by decide))
    rw [← h] at hR
    rw [show restQ a b = b from if_pos h]
    refine ⟨j, hj, ?_⟩
    refine AC.of_body TTok Tryz.func22 rfl (enter_of Tryz.func22 (by kernel_rfl) (by kernel_rfl)) (noid4 (.val _) (RA_noid _ _) (RA_noid _ _) (.val _)) (.tup _ (noid2 (RA_noid _ _) (.val _))) (Nat.le_of_ble_eq_true rfl) ?_
    unfold RA at *
    repeat
      conv => whnf
      first
        | refine ⟨_, by assumption, ?_⟩
        | refine ⟨(Nat.le_of_ble_eq_true rfl), _, by assumption, ?_⟩
        | refine ⟨by kernel_rfl, ?_⟩
        | exact rfl
        | refine ⟨by decide, ?_⟩
  · have hR := Rest_ok a b i j h hi hj la lb
    refine ⟨_, dn_den _, ?_⟩
    refine AC.of_body TTok Tryz.func22 rfl (enter_of Tryz.func22 (by kernel_rfl) (by kernel_rfl)) (noid4 (.val _) (RA_noid _ _) (RA_noid _ _) (.val _)) (.tup _ (noid2 (RA_noid _ _) (.val _))) (Nat.le_of_ble_eq_true rfl) ?_
    revert hR
    generalize restQ a b = r
    intro hR
    unfold RA at *
    repeat
      conv => whnf
      first
        | refine ⟨_, by assumption, ?_⟩
        | refine ⟨(Nat.le_of_ble_eq_true rfl), _, by assumption, ?_⟩
        | refine ⟨by kernel_rfl, ?_⟩
        | exact rfl
        | refine ⟨by decide, ?_⟩

theorem Rec42 (a b : Rat) (i j : Nat) (most : Int) (hi : dn i = a.den) (hj : dn j = b.den) (hm : most ≤ 200) (la : Sz a 20) (lb : Sz b 20) : ∃ d, dn d = (reckonQ 42 a b most).1.den ∧ AC Tryz.prog 22 [.val (.int .i32 42), RA a.num i, RA b.num j, .val (.int .i64 most)] (.pure (.tup [RA (reckonQ 42 a b most).1.num d, .val (.int .i64 (reckonQ 42 a b most).2)])) := by
  rw [show reckonQ 42 a b most = powerQ a b most from rfl]
  obtain ⟨d, hd, hP⟩ := Power_ok a b i j most hi hj hm (la.mono (by decide))
  refine ⟨d, hd, ?_⟩
  refine AC.of_body TTok Tryz.func22 rfl (enter_of Tryz.func22 (by kernel_rfl) (by kernel_rfl)) (noid4 (.val _) (RA_noid _ _) (RA_noid _ _) (.val _)) (.tup _ (noid2 (RA_noid _ _) (.val _))) (Nat.le_of_ble_eq_true rfl) ?_
  revert hP
  generalize (powerQ a b most).1 = r
  generalize (powerQ a b most).2 = e
  intro hP
  unfold RA at *
  repeat
    conv => whnf
    first
      | refine ⟨_, by assumption, ?_⟩
      | refine ⟨(Nat.le_of_ble_eq_true rfl), _, by assumption, ?_⟩
      | refine ⟨by kernel_rfl, ?_⟩
      | exact rfl
      | refine ⟨by decide, ?_⟩

theorem Rec33 (a b : Rat) (i j : Nat) (most : Int) (hi : dn i = a.den) (hj : dn j = b.den) (hm : most ≤ 200) (la : Sz a 20) (lb : Sz b 20) : ∃ d, dn d = (reckonQ 33 a b most).1.den ∧ AC Tryz.prog 22 [.val (.int .i32 33), RA a.num i, RA b.num j, .val (.int .i64 most)] (.pure (.tup [RA (reckonQ 33 a b most).1.num d, .val (.int .i64 (reckonQ 33 a b most).2)])) := by
  rw [show reckonQ 33 a b most = chooseQ a b most from rfl]
  obtain ⟨d, hd, hP⟩ := Choose_ok a b i j most hi hj hm (la.mono (by decide)) (lb.mono (by decide))
  refine ⟨d, hd, ?_⟩
  refine AC.of_body TTok Tryz.func22 rfl (enter_of Tryz.func22 (by kernel_rfl) (by kernel_rfl)) (noid4 (.val _) (RA_noid _ _) (RA_noid _ _) (.val _)) (.tup _ (noid2 (RA_noid _ _) (.val _))) (Nat.le_of_ble_eq_true rfl) ?_
  revert hP
  generalize (chooseQ a b most).1 = r
  generalize (chooseQ a b most).2 = e
  intro hP
  unfold RA at *
  repeat
    conv => whnf
    first
      | refine ⟨_, by assumption, ?_⟩
      | refine ⟨(Nat.le_of_ble_eq_true rfl), _, by assumption, ?_⟩
      | refine ⟨by kernel_rfl, ?_⟩
      | exact rfl
      | refine ⟨by decide, ?_⟩

theorem Rec9055 (a b : Rat) (i j : Nat) (most : Int) (hi : dn i = a.den) (hj : dn j = b.den) (hm : most ≤ 200) (la : Sz a 20) (lb : Sz b 20) : ∃ d, dn d = (reckonQ 9055 a b most).1.den ∧ AC Tryz.prog 22 [.val (.int .i32 9055), RA a.num i, RA b.num j, .val (.int .i64 most)] (.pure (.tup [RA (reckonQ 9055 a b most).1.num d, .val (.int .i64 (reckonQ 9055 a b most).2)])) := by
  refine ⟨0, rfl, RZ22 ?_⟩
  refine AC.of_body TTok Tryz.func22 rfl (enter_of Tryz.func22 (by kernel_rfl) (by kernel_rfl)) (noid4 (.val _) (RA_noid _ _) (RA_noid _ _) (.val _)) (.tup _ (noid2 RZ_noid (.val _))) (Nat.le_of_ble_eq_true rfl) ?_
  unfold RZ
  repeat
    conv => whnf
    first
      | refine ⟨_, by assumption, ?_⟩
      | refine ⟨(Nat.le_of_ble_eq_true rfl), _, by assumption, ?_⟩
      | refine ⟨by kernel_rfl, ?_⟩
      | exact rfl
      | refine ⟨by decide, ?_⟩

theorem Rec9675 (a b : Rat) (i j : Nat) (most : Int) (hi : dn i = a.den) (hj : dn j = b.den) (hm : most ≤ 200) (la : Sz a 20) (lb : Sz b 20) : ∃ d, dn d = (reckonQ 9675 a b most).1.den ∧ AC Tryz.prog 22 [.val (.int .i32 9675), RA a.num i, RA b.num j, .val (.int .i64 most)] (.pure (.tup [RA (reckonQ 9675 a b most).1.num d, .val (.int .i64 (reckonQ 9675 a b most).2)])) := by
  refine ⟨0, rfl, RZ22 ?_⟩
  refine AC.of_body TTok Tryz.func22 rfl (enter_of Tryz.func22 (by kernel_rfl) (by kernel_rfl)) (noid4 (.val _) (RA_noid _ _) (RA_noid _ _) (.val _)) (.tup _ (noid2 RZ_noid (.val _))) (Nat.le_of_ble_eq_true rfl) ?_
  unfold RZ
  repeat
    conv => whnf
    first
      | refine ⟨_, by assumption, ?_⟩
      | refine ⟨(Nat.le_of_ble_eq_true rfl), _, by assumption, ?_⟩
      | refine ⟨by kernel_rfl, ?_⟩
      | exact rfl
      | refine ⟨by decide, ?_⟩

theorem Reckon_ok (a b : Rat) (i j : Nat) (most : Int) (hi : dn i = a.den) (hj : dn j = b.den) (hm : most ≤ 200) (la : Sz a 20) (lb : Sz b 20) (c : Int) (hc : isRec c) : ∃ d, dn d = (reckonQ c a b most).1.den ∧ AC Tryz.prog 22 [.val (.int .i32 c), RA a.num i, RA b.num j, .val (.int .i64 most)] (.pure (.tup [RA (reckonQ c a b most).1.num d, .val (.int .i64 (reckonQ c a b most).2)])) := by
  rcases hc with rfl | rfl | rfl | rfl | rfl | rfl | rfl | rfl | rfl | rfl | rfl
  · exact Rec43 a b i j most hi hj hm la lb
  · exact Rec45 a b i j most hi hj hm la lb
  · exact Rec215 a b i j most hi hj hm la lb
  · exact Rec247 a b i j most hi hj hm la lb
  · exact Rec8968 a b i j most hi hj hm la lb
  · exact Rec8970 a b i j most hi hj hm la lb
  · exact Rec124 a b i j most hi hj hm la lb
  · exact Rec42 a b i j most hi hj hm la lb
  · exact Rec33 a b i j most hi hj hm la lb
  · exact Rec9055 a b i j most hi hj hm la lb
  · exact Rec9675 a b i j most hi hj hm la lb

theorem SRec43 (a b : Rat) (most : Int) (hm : most ≤ 200) (la : Sz a 20) (lb : Sz b 20) : AC Tryz.prog 29 [.val (.int .i32 43), RN a.num a.den, RN b.num b.den, .val (.int .i64 most)] (.pure (.tup [RN (reckonQ 43 a b most).1.num (reckonQ 43 a b most).1.den, .val (.int .i64 (reckonQ 43 a b most).2)])) := by
  rw [show reckonQ 43 a b most = (a + b, 0) from rfl]
  have hP := SAdd_ok a b 20 20 la lb (by decide)
  refine AC.of_body TTok Tryz.func29 rfl (enter_of Tryz.func29 (by kernel_rfl) (by kernel_rfl)) (noid4 (.val _) (RN_noid _ _) (RN_noid _ _) (.val _)) (.tup _ (noid2 (RN_noid _ _) (.val _))) (Nat.le_of_ble_eq_true rfl) ?_
  revert hP
  generalize a + b = r
  intro hP
  unfold RN at *
  repeat
    conv => whnf
    first
      | refine ⟨_, by assumption, ?_⟩
      | refine ⟨(Nat.le_of_ble_eq_true rfl), _, by assumption, ?_⟩
      | refine ⟨by kernel_rfl, ?_⟩
      | exact rfl
      | refine ⟨by decide, ?_⟩

theorem SRec45 (a b : Rat) (most : Int) (hm : most ≤ 200) (la : Sz a 20) (lb : Sz b 20) : AC Tryz.prog 29 [.val (.int .i32 45), RN a.num a.den, RN b.num b.den, .val (.int .i64 most)] (.pure (.tup [RN (reckonQ 45 a b most).1.num (reckonQ 45 a b most).1.den, .val (.int .i64 (reckonQ 45 a b most).2)])) := by
  rw [show reckonQ 45 a b most = (a + -b, 0) from rfl]
  have hM := SMinus_ok b.num b.den
  have hM : AC Tryz.prog 63 [RN b.num b.den] (.pure (RN (-b).num b.den)) := hM
  have hP := SAdd_ok a (-b) 20 20 la (Sz_neg lb) (by decide)
  rw [Rat.neg_den] at hP
  refine AC.of_body TTok Tryz.func29 rfl (enter_of Tryz.func29 (by kernel_rfl) (by kernel_rfl)) (noid4 (.val _) (RN_noid _ _) (RN_noid _ _) (.val _)) (.tup _ (noid2 (RN_noid _ _) (.val _))) (Nat.le_of_ble_eq_true rfl) ?_
  revert hP
  generalize a + -b = r
  intro hP
  generalize -b = nb at *
  unfold RN at *
  repeat
    conv => whnf
    first
      | refine ⟨_, by assumption, ?_⟩
      | refine ⟨(Nat.le_of_ble_eq_true rfl), _, by assumption, ?_⟩
      | refine ⟨by kernel_rfl, ?_⟩
      | exact rfl
      | refine ⟨by decide, ?_⟩

theorem SRec215 (a b : Rat) (most : Int) (hm : most ≤ 200) (la : Sz a 20) (lb : Sz b 20) : AC Tryz.prog 29 [.val (.int .i32 215), RN a.num a.den, RN b.num b.den, .val (.int .i64 most)] (.pure (.tup [RN (reckonQ 215 a b most).1.num (reckonQ 215 a b most).1.den, .val (.int .i64 (reckonQ 215 a b most).2)])) := by
  rw [show reckonQ 215 a b most = (a * b, 0) from rfl]
  have hP := SMul_ok a b (la.mono (by decide)) (lb.mono (by decide))
  refine AC.of_body TTok Tryz.func29 rfl (enter_of Tryz.func29 (by kernel_rfl) (by kernel_rfl)) (noid4 (.val _) (RN_noid _ _) (RN_noid _ _) (.val _)) (.tup _ (noid2 (RN_noid _ _) (.val _))) (Nat.le_of_ble_eq_true rfl) ?_
  revert hP
  generalize a * b = r
  intro hP
  unfold RN at *
  repeat
    conv => whnf
    first
      | refine ⟨_, by assumption, ?_⟩
      | refine ⟨(Nat.le_of_ble_eq_true rfl), _, by assumption, ?_⟩
      | refine ⟨by kernel_rfl, ?_⟩
      | exact rfl
      | refine ⟨by decide, ?_⟩

theorem SRec247 (a b : Rat) (most : Int) (hm : most ≤ 200) (la : Sz a 20) (lb : Sz b 20) : AC Tryz.prog 29 [.val (.int .i32 247), RN a.num a.den, RN b.num b.den, .val (.int .i64 most)] (.pure (.tup [RN (reckonQ 247 a b most).1.num (reckonQ 247 a b most).1.den, .val (.int .i64 (reckonQ 247 a b most).2)])) := by
  rw [show reckonQ 247 a b most = (if b ≠ 0 then (a / b, 0) else if a = 0 then (1, 0) else (0, 22)) from rfl]
  have j0 := is0 b.num.natAbs
  have i0 := is0 a.num.natAbs
  have hC := SCmp_ok a b (la.mono (by decide)) (lb.mono (by decide))
  have hZ := SZero_ok
  by_cases hb : b = 0
  · rw [if_neg (fun h => h hb)]
    rw [decide_eq_true (by rw [hb]; rfl)] at j0
    have fb : (!((decS b.num.natAbs).toList == ({ data := #[48] } : ByteArray).toList)) = false := by rw [j0]; rfl
    by_cases ha : a = 0
    · rw [if_pos ha]
      rw [decide_eq_true (by rw [ha]; rfl)] at i0
      have hF := SFrom_ok 1 (by decide)
      show AC Tryz.prog 29 _ (.pure (.tup [RN 1 1, .val (.int .i64 0)]))
      refine AC.of_body TTok Tryz.func29 rfl (enter_of Tryz.func29 (by kernel_rfl) (by kernel_rfl)) (noid4 (.val _) (RN_noid _ _) (RN_noid _ _) (.val _)) (.tup _ (noid2 (RN_noid _ _) (.val _))) (Nat.le_of_ble_eq_true rfl) ?_
      unfold RN at *
      conv => whnf
      refine caseb (fun h => Bool.noConfusion ((fb).symm.trans h)) (fun _ => ?_)
      conv => whnf
      refine caseb (fun _ => ?_) (fun h => Bool.noConfusion ((i0).symm.trans h))
      repeat
        conv => whnf
        first
          | refine ⟨_, by assumption, ?_⟩
          | refine ⟨(Nat.le_of_ble_eq_true rfl), _, by assumption, ?_⟩
          | refine ⟨by kernel_rfl, ?_⟩
          | exact rfl
          | refine ⟨by decide, ?_⟩
    · rw [if_neg ha]
      rw [decide_eq_false (by have := num_ne ha; omega)] at i0
      show AC Tryz.prog 29 _ (.pure (.tup [RN 0 1, .val (.int .i64 22)]))
      refine AC.of_body TTok Tryz.func29 rfl (enter_of Tryz.func29 (by kernel_rfl) (by kernel_rfl)) (noid4 (.val _) (RN_noid _ _) (RN_noid _ _) (.val _)) (.tup _ (noid2 (RN_noid _ _) (.val _))) (Nat.le_of_ble_eq_true rfl) ?_
      generalize cmpQ a b = s at *
      unfold RN at *
      conv => whnf
      refine caseb (fun h => Bool.noConfusion ((fb).symm.trans h)) (fun _ => ?_)
      conv => whnf
      refine caseb (fun h => Bool.noConfusion ((i0).symm.trans h)) (fun _ => ?_)
      repeat
        conv => whnf
        first
          | refine ⟨_, by assumption, ?_⟩
          | refine ⟨(Nat.le_of_ble_eq_true rfl), _, by assumption, ?_⟩
          | refine ⟨by kernel_rfl, ?_⟩
          | exact rfl
          | refine ⟨by decide, ?_⟩
  · rw [if_pos hb]
    rw [decide_eq_false (by have := num_ne hb; omega)] at j0
    have fb : (!((decS b.num.natAbs).toList == ({ data := #[48] } : ByteArray).toList)) = true := by rw [j0]; rfl
    have hB := SDiv_ok a b (la.mono (by decide)) (lb.mono (by decide)) hb
    refine AC.of_body TTok Tryz.func29 rfl (enter_of Tryz.func29 (by kernel_rfl) (by kernel_rfl)) (noid4 (.val _) (RN_noid _ _) (RN_noid _ _) (.val _)) (.tup _ (noid2 (RN_noid _ _) (.val _))) (Nat.le_of_ble_eq_true rfl) ?_
    revert hB
    generalize a / b = r
    intro hB
    unfold RN at *
    conv => whnf
    refine caseb (fun _ => ?_) (fun h => Bool.noConfusion ((fb).symm.trans h))
    repeat
      conv => whnf
      first
        | refine ⟨_, by assumption, ?_⟩
        | refine ⟨(Nat.le_of_ble_eq_true rfl), _, by assumption, ?_⟩
        | refine ⟨by kernel_rfl, ?_⟩
        | exact rfl
        | refine ⟨by decide, ?_⟩

theorem SRec8968 (a b : Rat) (most : Int) (hm : most ≤ 200) (la : Sz a 20) (lb : Sz b 20) : AC Tryz.prog 29 [.val (.int .i32 8968), RN a.num a.den, RN b.num b.den, .val (.int .i64 most)] (.pure (.tup [RN (reckonQ 8968 a b most).1.num (reckonQ 8968 a b most).1.den, .val (.int .i64 (reckonQ 8968 a b most).2)])) := by
  rw [show reckonQ 8968 a b most = (if a < b then b else a, 0) from rfl]
  have hC := SCmp_ok a b (la.mono (by decide)) (lb.mono (by decide))
  by_cases h : a < b
  · rw [if_pos h]
    rw [cmp_lt h] at hC
    refine AC.of_body TTok Tryz.func29 rfl (enter_of Tryz.func29 (by kernel_rfl) (by kernel_rfl)) (noid4 (.val _) (RN_noid _ _) (RN_noid _ _) (.val _)) (.tup _ (noid2 (RN_noid _ _) (.val _))) (Nat.le_of_ble_eq_true rfl) ?_
    unfold RN at *
    repeat
      conv => whnf
      first
        | refine ⟨_, by assumption, ?_⟩
        | refine ⟨(Nat.le_of_ble_eq_true rfl), _, by assumption, ?_⟩
        | refine ⟨by kernel_rfl, ?_⟩
        | exact rfl
        | refine ⟨by decide, ?_⟩
  · rw [if_neg h]
    have f1 := cmp_ge h
    refine AC.of_body TTok Tryz.func29 rfl (enter_of Tryz.func29 (by kernel_rfl) (by kernel_rfl)) (noid4 (.val _) (RN_noid _ _) (RN_noid _ _) (.val _)) (.tup _ (noid2 (RN_noid _ _) (.val _))) (Nat.le_of_ble_eq_true rfl) ?_
    unfold RN at *
    generalize cmpQ a b = s at *
    repeat
      conv => whnf
      first
        | refine ⟨_, by assumption, ?_⟩
        | refine ⟨(Nat.le_of_ble_eq_true rfl), _, by assumption, ?_⟩
        | refine ⟨by kernel_rfl, ?_⟩
        | exact rfl
        | refine ⟨by decide, ?_⟩
    conv => whnf
    refine caseb (fun h => Bool.noConfusion ((f1).symm.trans h)) (fun _ => ?_)
    repeat
      conv => whnf
      first
        | refine ⟨_, by assumption, ?_⟩
        | refine ⟨(Nat.le_of_ble_eq_true rfl), _, by assumption, ?_⟩
        | refine ⟨by kernel_rfl, ?_⟩
        | exact rfl
        | refine ⟨by decide, ?_⟩

theorem SRec8970 (a b : Rat) (most : Int) (hm : most ≤ 200) (la : Sz a 20) (lb : Sz b 20) : AC Tryz.prog 29 [.val (.int .i32 8970), RN a.num a.den, RN b.num b.den, .val (.int .i64 most)] (.pure (.tup [RN (reckonQ 8970 a b most).1.num (reckonQ 8970 a b most).1.den, .val (.int .i64 (reckonQ 8970 a b most).2)])) := by
  rw [show reckonQ 8970 a b most = (if a < b then a else b, 0) from rfl]
  have hC := SCmp_ok a b (la.mono (by decide)) (lb.mono (by decide))
  by_cases h : a < b
  · rw [if_pos h]
    rw [cmp_lt h] at hC
    refine AC.of_body TTok Tryz.func29 rfl (enter_of Tryz.func29 (by kernel_rfl) (by kernel_rfl)) (noid4 (.val _) (RN_noid _ _) (RN_noid _ _) (.val _)) (.tup _ (noid2 (RN_noid _ _) (.val _))) (Nat.le_of_ble_eq_true rfl) ?_
    unfold RN at *
    repeat
      conv => whnf
      first
        | refine ⟨_, by assumption, ?_⟩
        | refine ⟨(Nat.le_of_ble_eq_true rfl), _, by assumption, ?_⟩
        | refine ⟨by kernel_rfl, ?_⟩
        | exact rfl
        | refine ⟨by decide, ?_⟩
  · rw [if_neg h]
    have f1 := cmp_ge h
    refine AC.of_body TTok Tryz.func29 rfl (enter_of Tryz.func29 (by kernel_rfl) (by kernel_rfl)) (noid4 (.val _) (RN_noid _ _) (RN_noid _ _) (.val _)) (.tup _ (noid2 (RN_noid _ _) (.val _))) (Nat.le_of_ble_eq_true rfl) ?_
    unfold RN at *
    generalize cmpQ a b = s at *
    repeat
      conv => whnf
      first
        | refine ⟨_, by assumption, ?_⟩
        | refine ⟨(Nat.le_of_ble_eq_true rfl), _, by assumption, ?_⟩
        | refine ⟨by kernel_rfl, ?_⟩
        | exact rfl
        | refine ⟨by decide, ?_⟩
    conv => whnf
    refine caseb (fun _ => ?_) (fun h => Bool.noConfusion ((not_f f1).symm.trans h))
    repeat
      conv => whnf
      first
        | refine ⟨_, by assumption, ?_⟩
        | refine ⟨(Nat.le_of_ble_eq_true rfl), _, by assumption, ?_⟩
        | refine ⟨by kernel_rfl, ?_⟩
        | exact rfl
        | refine ⟨by decide, ?_⟩

theorem SRec124 (a b : Rat) (most : Int) (hm : most ≤ 200) (la : Sz a 20) (lb : Sz b 20) : AC Tryz.prog 29 [.val (.int .i32 124), RN a.num a.den, RN b.num b.den, .val (.int .i64 most)] (.pure (.tup [RN (reckonQ 124 a b most).1.num (reckonQ 124 a b most).1.den, .val (.int .i64 (reckonQ 124 a b most).2)])) := by
  rw [show reckonQ 124 a b most = (restQ a b, 0) from rfl]
  have hC := SCmp_ok a b (la.mono (by decide)) (lb.mono (by decide))
  by_cases h : a = 0
  · have hR := SRest_zero b (lb.mono (by decide))
    rw [← h] at hR
    rw [show restQ a b = b from if_pos h]
    refine AC.of_body TTok Tryz.func29 rfl (enter_of Tryz.func29 (by kernel_rfl) (by kernel_rfl)) (noid4 (.val _) (RN_noid _ _) (RN_noid _ _) (.val _)) (.tup _ (noid2 (RN_noid _ _) (.val _))) (Nat.le_of_ble_eq_true rfl) ?_
    generalize cmpQ a b = s at *
    unfold RN at *
    repeat
      conv => whnf
      first
        | refine ⟨_, by assumption, ?_⟩
        | refine ⟨(Nat.le_of_ble_eq_true rfl), _, by assumption, ?_⟩
        | refine ⟨by kernel_rfl, ?_⟩
        | exact rfl
        | refine ⟨by decide, ?_⟩
  · have hR := SRest_ok a b h la lb
    refine AC.of_body TTok Tryz.func29 rfl (enter_of Tryz.func29 (by kernel_rfl) (by kernel_rfl)) (noid4 (.val _) (RN_noid _ _) (RN_noid _ _) (.val _)) (.tup _ (noid2 (RN_noid _ _) (.val _))) (Nat.le_of_ble_eq_true rfl) ?_
    revert hR
    generalize restQ a b = r
    generalize cmpQ a b = s at *
    intro hR
    unfold RN at *
    repeat
      conv => whnf
      first
        | refine ⟨_, by assumption, ?_⟩
        | refine ⟨(Nat.le_of_ble_eq_true rfl), _, by assumption, ?_⟩
        | refine ⟨by kernel_rfl, ?_⟩
        | exact rfl
        | refine ⟨by decide, ?_⟩

theorem SRec42 (a b : Rat) (most : Int) (hm : most ≤ 200) (la : Sz a 20) (lb : Sz b 20) : AC Tryz.prog 29 [.val (.int .i32 42), RN a.num a.den, RN b.num b.den, .val (.int .i64 most)] (.pure (.tup [RN (reckonQ 42 a b most).1.num (reckonQ 42 a b most).1.den, .val (.int .i64 (reckonQ 42 a b most).2)])) := by
  rw [show reckonQ 42 a b most = powerQ a b most from rfl]
  have hC := SCmp_ok a b (la.mono (by decide)) (lb.mono (by decide))
  have hP := SPower_ok a b most hm (la.mono (by decide)) (lb.mono (by decide))
  refine AC.of_body TTok Tryz.func29 rfl (enter_of Tryz.func29 (by kernel_rfl) (by kernel_rfl)) (noid4 (.val _) (RN_noid _ _) (RN_noid _ _) (.val _)) (.tup _ (noid2 (RN_noid _ _) (.val _))) (Nat.le_of_ble_eq_true rfl) ?_
  revert hP
  generalize (powerQ a b most).1 = r
  generalize (powerQ a b most).2 = e
  generalize cmpQ a b = s at *
  intro hP
  unfold RN at *
  repeat
    conv => whnf
    first
      | refine ⟨_, by assumption, ?_⟩
      | refine ⟨(Nat.le_of_ble_eq_true rfl), _, by assumption, ?_⟩
      | refine ⟨by kernel_rfl, ?_⟩
      | exact rfl
      | refine ⟨by decide, ?_⟩

theorem SRec33 (a b : Rat) (most : Int) (hm : most ≤ 200) (la : Sz a 20) (lb : Sz b 20) : AC Tryz.prog 29 [.val (.int .i32 33), RN a.num a.den, RN b.num b.den, .val (.int .i64 most)] (.pure (.tup [RN (reckonQ 33 a b most).1.num (reckonQ 33 a b most).1.den, .val (.int .i64 (reckonQ 33 a b most).2)])) := by
  rw [show reckonQ 33 a b most = chooseQ a b most from rfl]
  have hC := SCmp_ok a b (la.mono (by decide)) (lb.mono (by decide))
  have hP := SWays_ok a b most hm (la.mono (by decide)) (lb.mono (by decide))
  refine AC.of_body TTok Tryz.func29 rfl (enter_of Tryz.func29 (by kernel_rfl) (by kernel_rfl)) (noid4 (.val _) (RN_noid _ _) (RN_noid _ _) (.val _)) (.tup _ (noid2 (RN_noid _ _) (.val _))) (Nat.le_of_ble_eq_true rfl) ?_
  revert hP
  generalize (chooseQ a b most).1 = r
  generalize (chooseQ a b most).2 = e
  generalize cmpQ a b = s at *
  intro hP
  unfold RN at *
  repeat
    conv => whnf
    first
      | refine ⟨_, by assumption, ?_⟩
      | refine ⟨(Nat.le_of_ble_eq_true rfl), _, by assumption, ?_⟩
      | refine ⟨by kernel_rfl, ?_⟩
      | exact rfl
      | refine ⟨by decide, ?_⟩

theorem SRec9055 (a b : Rat) (most : Int) (hm : most ≤ 200) (la : Sz a 20) (lb : Sz b 20) : AC Tryz.prog 29 [.val (.int .i32 9055), RN a.num a.den, RN b.num b.den, .val (.int .i64 most)] (.pure (.tup [RN (reckonQ 9055 a b most).1.num (reckonQ 9055 a b most).1.den, .val (.int .i64 (reckonQ 9055 a b most).2)])) := by
  have hC := SCmp_ok a b (la.mono (by decide)) (lb.mono (by decide))
  have hZ := SZero_ok
  show AC Tryz.prog 29 _ (.pure (.tup [RN 0 1, .val (.int .i64 22)]))
  refine AC.of_body TTok Tryz.func29 rfl (enter_of Tryz.func29 (by kernel_rfl) (by kernel_rfl)) (noid4 (.val _) (RN_noid _ _) (RN_noid _ _) (.val _)) (.tup _ (noid2 (RN_noid _ _) (.val _))) (Nat.le_of_ble_eq_true rfl) ?_
  generalize cmpQ a b = s at *
  unfold RN at *
  repeat
    conv => whnf
    first
      | refine ⟨_, by assumption, ?_⟩
      | refine ⟨(Nat.le_of_ble_eq_true rfl), _, by assumption, ?_⟩
      | refine ⟨by kernel_rfl, ?_⟩
      | exact rfl
      | refine ⟨by decide, ?_⟩

theorem SRec9675 (a b : Rat) (most : Int) (hm : most ≤ 200) (la : Sz a 20) (lb : Sz b 20) : AC Tryz.prog 29 [.val (.int .i32 9675), RN a.num a.den, RN b.num b.den, .val (.int .i64 most)] (.pure (.tup [RN (reckonQ 9675 a b most).1.num (reckonQ 9675 a b most).1.den, .val (.int .i64 (reckonQ 9675 a b most).2)])) := by
  have hC := SCmp_ok a b (la.mono (by decide)) (lb.mono (by decide))
  have hZ := SZero_ok
  show AC Tryz.prog 29 _ (.pure (.tup [RN 0 1, .val (.int .i64 22)]))
  refine AC.of_body TTok Tryz.func29 rfl (enter_of Tryz.func29 (by kernel_rfl) (by kernel_rfl)) (noid4 (.val _) (RN_noid _ _) (RN_noid _ _) (.val _)) (.tup _ (noid2 (RN_noid _ _) (.val _))) (Nat.le_of_ble_eq_true rfl) ?_
  generalize cmpQ a b = s at *
  unfold RN at *
  repeat
    conv => whnf
    first
      | refine ⟨_, by assumption, ?_⟩
      | refine ⟨(Nat.le_of_ble_eq_true rfl), _, by assumption, ?_⟩
      | refine ⟨by kernel_rfl, ?_⟩
      | exact rfl
      | refine ⟨by decide, ?_⟩

theorem SReckon_ok (a b : Rat) (most : Int) (hm : most ≤ 200) (la : Sz a 20) (lb : Sz b 20) (c : Int) (hc : isRec c) : AC Tryz.prog 29 [.val (.int .i32 c), RN a.num a.den, RN b.num b.den, .val (.int .i64 most)] (.pure (.tup [RN (reckonQ c a b most).1.num (reckonQ c a b most).1.den, .val (.int .i64 (reckonQ c a b most).2)])) := by
  rcases hc with rfl | rfl | rfl | rfl | rfl | rfl | rfl | rfl | rfl | rfl | rfl
  · exact SRec43 a b most hm la lb
  · exact SRec45 a b most hm la lb
  · exact SRec215 a b most hm la lb
  · exact SRec247 a b most hm la lb
  · exact SRec8968 a b most hm la lb
  · exact SRec8970 a b most hm la lb
  · exact SRec124 a b most hm la lb
  · exact SRec42 a b most hm la lb
  · exact SRec33 a b most hm la lb
  · exact SRec9055 a b most hm la lb
  · exact SRec9675 a b most hm la lb

end Go.Proofs.YtabgankeaagibaaGreat

/- Functions of two numbers: all of them. -/
set_option linter.unusedVariables false
namespace Go.Proofs.YtabgankeaagibaaGreat
open Go Go.AL NM

/-- What a function makes of two numbers. -/
def twoQ (c : Int) (a b : Rat) (most : Int) : Rat × Int :=
  if isCmp c then (tq (cmpS c (cmpQ a b)), 0)
  else if isJdg c then judgeQ c a b
  else if ¬ isRec c then (0, 20)
  else if (reckonQ c a b most).2 ≠ 0 then (0, (reckonQ c a b most).2)
  else if most < (qLimbs (reckonQ c a b most).1.num (reckonQ c a b most).1.den : Nat) then (0, 26)
  else ((reckonQ c a b most).1, 0)

theorem chs_sz {k r : Nat} {most : Int} {K : Nat} (h1 : 1 ≤ K) (hm : most ≤ K) (h : chsOk k r most) : (limbs (chs r k)).length ≤ K := by
  rcases h with h | h
  · subst h; exact Nat.le_trans (limbs_small (n := 1) (by decide)) h1
  · omega
theorem Sz_one : Sz 1 1 := Sz_small (by decide) (by decide)
theorem rest_sz {a x : Rat} {i j : Nat} (h0 : a ≠ 0) (la : Sz a i) (lx : Sz x j) : Sz (restQ a x) (2 * (j + (i + (j + i + 2))) + 1) := by
  unfold restQ
  rw [if_neg h0]
  exact Sz_add lx (Sz_neg (Sz_mul la (Sz_int (by omega) (limbs_floor (Sz_div h0 lx la)))))
theorem reckon_sz (c : Int) (a b : Rat) (most : Int) (hm : most ≤ 200) (la : Sz a 20) (lb : Sz b 20) : Sz (reckonQ c a b most).1 400 := by
  unfold reckonQ
  split
  · exact (Sz_add la lb).mono (by decide)
  split
  · exact (Sz_add la (Sz_neg lb)).mono (by decide)
  split
  · exact (Sz_mul la lb).mono (by decide)
  split
  · split
    · rename_i h; exact (Sz_div h la lb).mono (by decide)
    · split
      · exact Sz_one.mono (by decide)
      · exact Sz_zero.mono (by decide)
  split
  · show Sz (if a < b then b else a) 400
    split
    · exact lb.mono (by decide)
    · exact la.mono (by decide)
  split
  · show Sz (if a < b then a else b) 400
    split
    · exact la.mono (by decide)
    · exact lb.mono (by decide)
  split
  · show Sz (restQ a b) 400
    by_cases h : a = 0
    · rw [show restQ a b = b from if_pos h]; exact lb.mono (by decide)
    · exact (rest_sz h la lb).mono (by decide)
  split
  · unfold powerQ
    split
    · exact Sz_zero.mono (by decide)
    split
    · show Sz (if a.num < 0 ∧ b.num.natAbs % 2 = 0 then -a else a) 400
      split
      · exact (Sz_neg la).mono (by decide)
      · exact la.mono (by decide)
    split
    · exact Sz_zero.mono (by decide)
    · exact (pow_sz a b.num most 200 (by decide) hm (la.mono (by decide))).mono (by decide)
  split
  · unfold chooseQ
    split
    · exact Sz_zero.mono (by decide)
    split
    · exact Sz_zero.mono (by decide)
    split
    · rename_i h
      exact (Sz_int (k := 200) (by decide) (by rw [Int.natAbs_natCast]; exact chs_sz (by decide) hm h)).mono (by decide)
    · exact Sz_zero.mono (by decide)
  · exact Sz_zero.mono (by decide)

section
variable (c : Int) (a b : Rat) (i j : Nat) (most : Int) (hi : dn i = a.den) (hj : dn j = b.den) (hm : most ≤ 200) (la : Sz a 20) (lb : Sz b 20)
include hi hj hm la lb
theorem Two_ok : ∃ d, dn d = (twoQ c a b most).1.den ∧ AC Tryz.prog 6 [.val (.int .i32 c), RA a.num i, RA b.num j, .val (.int .i64 most)] (.pure (.tup [RA (twoQ c a b most).1.num d, .val (.int .i64 (twoQ c a b most).2)])) := by
  unfold twoQ
  have hC := compares_ok c
  have hJ := judges_ok c
  have hR := reckons_ok c
  by_cases h1 : isCmp c
  · rw [if_pos h1]
    rw [decide_eq_true h1] at hC
    have hQ := QCmp_ok a b i j hi hj (la.mono (by decide)) (lb.mono (by decide))
    have hS := Compare_ok c (cmpQ a b)
    have hT := truth_ok (cmpS c (cmpQ a b))
    refine ⟨_, td_dn _, ?_⟩
    refine AC.of_body TTok Tryz.func6 rfl (enter_of Tryz.func6 (by kernel_rfl) (by kernel_rfl)) (noid4 (.val _) (RA_noid _ _) (RA_noid _ _) (.val _)) (.tup _ (noid2 (RA_noid _ _) (.val _))) (Nat.le_of_ble_eq_true rfl) ?_
    revert hQ hS hT
    generalize cmpS c (cmpQ a b) = t
    generalize cmpQ a b = n
    intro hQ hS hT
    generalize td t = e at *
    generalize (tq t).num = f at *
    unfold RA at *
    repeat
      conv => whnf
      first
        | refine ⟨_, by assumption, ?_⟩
        | refine ⟨(Nat.le_of_ble_eq_true rfl), _, by assumption, ?_⟩
        | refine ⟨by kernel_rfl, ?_⟩
        | exact rfl
        | refine ⟨by decide, ?_⟩
  rw [if_neg h1]
  rw [decide_eq_false h1] at hC
  by_cases h2 : isJdg c
  · rw [if_pos h2]
    rw [decide_eq_true h2] at hJ
    obtain ⟨d, hd, hP, _⟩ := judge_both c h2 a b i j hi hj (la.mono (by decide)) (lb.mono (by decide))
    refine ⟨d, hd, ?_⟩
    refine AC.of_body TTok Tryz.func6 rfl (enter_of Tryz.func6 (by kernel_rfl) (by kernel_rfl)) (noid4 (.val _) (RA_noid _ _) (RA_noid _ _) (.val _)) (.tup _ (noid2 (RA_noid _ _) (.val _))) (Nat.le_of_ble_eq_true rfl) ?_
    revert hP
    generalize (judgeQ c a b).1 = r
    generalize (judgeQ c a b).2 = e
    intro hP
    unfold RA at *
    repeat
      conv => whnf
      first
        | refine ⟨_, by assumption, ?_⟩
        | refine ⟨(Nat.le_of_ble_eq_true rfl), _, by assumption, ?_⟩
        | refine ⟨by kernel_rfl, ?_⟩
        | exact rfl
        | refine ⟨by decide, ?_⟩
  rw [if_neg h2]
  rw [decide_eq_false h2] at hJ
  by_cases h3 : isRec c
  rotate_left
  · rw [if_pos h3]
    rw [decide_eq_false h3] at hR
    refine ⟨0, rfl, RZ22 ?_⟩
    refine AC.of_body TTok Tryz.func6 rfl (enter_of Tryz.func6 (by kernel_rfl) (by kernel_rfl)) (noid4 (.val _) (RA_noid _ _) (RA_noid _ _) (.val _)) (.tup _ (noid2 RZ_noid (.val _))) (Nat.le_of_ble_eq_true rfl) ?_
    unfold RA RZ at *
    repeat
      conv => whnf
      first
        | refine ⟨_, by assumption, ?_⟩
        | refine ⟨(Nat.le_of_ble_eq_true rfl), _, by assumption, ?_⟩
        | refine ⟨by kernel_rfl, ?_⟩
        | exact rfl
        | refine ⟨by decide, ?_⟩
  rw [if_neg (fun h => h h3)]
  rw [decide_eq_true h3] at hR
  obtain ⟨d, hd, hP⟩ := Reckon_ok a b i j most hi hj hm la lb c h3
  have hL := QLimbs_ok (reckonQ c a b most).1.num d
  rw [hd] at hL
  revert hd hP hL
  generalize (reckonQ c a b most).1 = r
  generalize (reckonQ c a b most).2 = e
  intro hd hP hL
  by_cases he : e = 0
  rotate_left
  · rw [if_pos he]
    have f1 : (e == 0) = false := beq_false_of_ne he
    have f2 : (e != 0) = true := by rw [bne, f1]; rfl
    refine ⟨0, rfl, RZ22 ?_⟩
    refine AC.of_body TTok Tryz.func6 rfl (enter_of Tryz.func6 (by kernel_rfl) (by kernel_rfl)) (noid4 (.val _) (RA_noid _ _) (RA_noid _ _) (.val _)) (.tup _ (noid2 RZ_noid (.val _))) (Nat.le_of_ble_eq_true rfl) ?_
    unfold RA RZ at *
    conv => whnf
    refine ⟨_, hC, ?_⟩
    conv => whnf
    refine ⟨_, hJ, ?_⟩
    conv => whnf
    refine ⟨_, hR, ?_⟩
    conv => whnf
    refine ⟨_, hP, ?_⟩
    conv => whnf
    refine caseb (fun h => Bool.noConfusion ((f1).symm.trans h)) (fun _ => ?_)
    conv => whnf
    refine caseb (fun _ => ?_) (fun h => Bool.noConfusion ((f2).symm.trans h))
    repeat
      conv => whnf
      first
        | refine ⟨_, by assumption, ?_⟩
        | refine ⟨(Nat.le_of_ble_eq_true rfl), _, by assumption, ?_⟩
        | refine ⟨by kernel_rfl, ?_⟩
        | exact rfl
        | refine ⟨by decide, ?_⟩
  rw [if_neg (fun h => h he)]
  subst he
  by_cases hq : most < (qLimbs r.num r.den : Nat)
  · rw [if_pos hq]
    have f1 : decide (((qLimbs r.num r.den : Nat) : Int) > most) = true := decide_eq_true hq
    refine ⟨0, rfl, RZ22 ?_⟩
    refine AC.of_body TTok Tryz.func6 rfl (enter_of Tryz.func6 (by kernel_rfl) (by kernel_rfl)) (noid4 (.val _) (RA_noid _ _) (RA_noid _ _) (.val _)) (.tup _ (noid2 RZ_noid (.val _))) (Nat.le_of_ble_eq_true rfl) ?_
    generalize ((qLimbs r.num r.den : Nat) : Int) = n at *
    unfold RA RZ at *
    conv => whnf
    refine ⟨_, hC, ?_⟩
    conv => whnf
    refine ⟨_, hJ, ?_⟩
    conv => whnf
    refine ⟨_, hR, ?_⟩
    conv => whnf
    refine ⟨_, hP, ?_⟩
    conv => whnf
    refine ⟨_, hL, ?_⟩
    conv => whnf
    refine caseb (fun _ => ?_) (fun h => Bool.noConfusion ((f1).symm.trans h))
    repeat
      conv => whnf
      first
        | refine ⟨_, by assumption, ?_⟩
        | refine ⟨(Nat.le_of_ble_eq_true rfl), _, by assumption, ?_⟩
        | refine ⟨by kernel_rfl, ?_⟩
        | exact rfl
        | refine ⟨by decide, ?_⟩
  · rw [if_neg hq]
    have f1 : decide (((qLimbs r.num r.den : Nat) : Int) > most) = false := decide_eq_false hq
    refine ⟨d, hd, ?_⟩
    refine AC.of_body TTok Tryz.func6 rfl (enter_of Tryz.func6 (by kernel_rfl) (by kernel_rfl)) (noid4 (.val _) (RA_noid _ _) (RA_noid _ _) (.val _)) (.tup _ (noid2 (RA_noid _ _) (.val _))) (Nat.le_of_ble_eq_true rfl) ?_
    generalize ((qLimbs r.num r.den : Nat) : Int) = n at *
    unfold RA at *
    conv => whnf
    refine ⟨_, hC, ?_⟩
    conv => whnf
    refine ⟨_, hJ, ?_⟩
    conv => whnf
    refine ⟨_, hR, ?_⟩
    conv => whnf
    refine ⟨_, hP, ?_⟩
    conv => whnf
    refine ⟨_, hL, ?_⟩
    conv => whnf
    refine caseb (fun h => Bool.noConfusion ((f1).symm.trans h)) (fun _ => ?_)
    repeat
      conv => whnf
      first
        | refine ⟨_, by assumption, ?_⟩
        | refine ⟨(Nat.le_of_ble_eq_true rfl), _, by assumption, ?_⟩
        | refine ⟨by kernel_rfl, ?_⟩
        | exact rfl
        | refine ⟨by decide, ?_⟩
end
theorem STwo_ok (c : Int) (a b : Rat) (most : Int) (hm : most ≤ 200) (la : Sz a 20) (lb : Sz b 20) : AC Tryz.prog 7 [.val (.int .i32 c), RN a.num a.den, RN b.num b.den, .val (.int .i64 most)] (.pure (.tup [RN (twoQ c a b most).1.num (twoQ c a b most).1.den, .val (.int .i64 (twoQ c a b most).2)])) := by
  unfold twoQ
  have hH := SHas_ok c
  have hZ := SZero_ok
  by_cases h1 : isCmp c
  · rw [if_pos h1]
    rw [decide_eq_true (show isTwo c from .inr (.inl h1))] at hH
    have hQ := SCmp_ok a b (la.mono (by decide)) (lb.mono (by decide))
    have hS := SCompare_ok c (cmpQ a b)
    have hT := Struth_ok (cmpS c (cmpQ a b))
    refine AC.of_body TTok Tryz.func7 rfl (enter_of Tryz.func7 (by kernel_rfl) (by kernel_rfl)) (noid4 (.val _) (RN_noid _ _) (RN_noid _ _) (.val _)) (.tup _ (noid2 (RN_noid _ _) (.val _))) (Nat.le_of_ble_eq_true rfl) ?_
    revert hQ hS hT
    generalize cmpS c (cmpQ a b) = t
    generalize cmpQ a b = n
    intro hQ hS hT
    generalize (tq t).den = e at *
    generalize (tq t).num = f at *
    unfold RN at *
    rcases h1 with rfl | rfl | rfl | rfl | rfl | rfl
    all_goals
      repeat
        conv => whnf
        first
          | refine ⟨_, by assumption, ?_⟩
          | refine ⟨(Nat.le_of_ble_eq_true rfl), _, by assumption, ?_⟩
          | refine ⟨by kernel_rfl, ?_⟩
          | exact rfl
          | refine ⟨by decide, ?_⟩
  rw [if_neg h1]
  by_cases h2 : isJdg c
  · rw [if_pos h2]
    rw [decide_eq_true (show isTwo c from .inr (.inr h2))] at hH
    obtain ⟨d, hd, _, hP⟩ := judge_both c h2 a b a.den b.den (dn_den a) (dn_den b) (la.mono (by decide)) (lb.mono (by decide))
    refine AC.of_body TTok Tryz.func7 rfl (enter_of Tryz.func7 (by kernel_rfl) (by kernel_rfl)) (noid4 (.val _) (RN_noid _ _) (RN_noid _ _) (.val _)) (.tup _ (noid2 (RN_noid _ _) (.val _))) (Nat.le_of_ble_eq_true rfl) ?_
    revert hP
    generalize (judgeQ c a b).1 = r
    generalize (judgeQ c a b).2 = e
    intro hP
    unfold RN at *
    clear hd h1
    rcases h2 with rfl | rfl | rfl | rfl
    all_goals
      repeat
        conv => whnf
        first
          | refine ⟨_, by assumption, ?_⟩
          | refine ⟨(Nat.le_of_ble_eq_true rfl), _, by assumption, ?_⟩
          | refine ⟨by kernel_rfl, ?_⟩
          | exact rfl
          | refine ⟨by decide, ?_⟩
  rw [if_neg h2]
  by_cases h3 : isRec c
  rotate_left
  · rw [if_pos h3]
    rw [decide_eq_false (show ¬ isTwo c from fun h => h.elim h3 (fun h => h.elim h1 h2))] at hH
    show AC Tryz.prog 7 _ (.pure (.tup [RN 0 1, .val (.int .i64 20)]))
    refine AC.of_body TTok Tryz.func7 rfl (enter_of Tryz.func7 (by kernel_rfl) (by kernel_rfl)) (noid4 (.val _) (RN_noid _ _) (RN_noid _ _) (.val _)) (.tup _ (noid2 (RN_noid _ _) (.val _))) (Nat.le_of_ble_eq_true rfl) ?_
    unfold RN at *
    repeat
      conv => whnf
      first
        | refine ⟨_, by assumption, ?_⟩
        | refine ⟨(Nat.le_of_ble_eq_true rfl), _, by assumption, ?_⟩
        | refine ⟨by kernel_rfl, ?_⟩
        | exact rfl
        | refine ⟨by decide, ?_⟩
  rw [if_neg (fun h => h h3)]
  rw [decide_eq_true (show isTwo c from .inl h3)] at hH
  have hP := SReckon_ok a b most hm la lb c h3
  have sz := reckon_sz c a b most hm la lb
  have hL := SLimbs_ok (reckonQ c a b most).1.num (reckonQ c a b most).1.den (Nat.le_trans sz.1 (by decide)) (Nat.le_trans sz.2 (by decide))
  clear sz
  revert hP hL
  generalize (reckonQ c a b most).1 = r
  generalize (reckonQ c a b most).2 = e
  intro hP hL
  have k1 : (c == 60) = false := beq_false_of_ne (fun h => h1 (.inl h))
  have k2 : (c == 8804) = false := beq_false_of_ne (fun h => h1 (.inr (.inl h)))
  have k3 : (c == 61) = false := beq_false_of_ne (fun h => h1 (.inr (.inr (.inl h))))
  have k4 : (c == 8805) = false := beq_false_of_ne (fun h => h1 (.inr (.inr (.inr (.inl h)))))
  have k5 : (c == 62) = false := beq_false_of_ne (fun h => h1 (.inr (.inr (.inr (.inr (.inl h))))))
  have k6 : (c == 8800) = false := beq_false_of_ne (fun h => h1 (.inr (.inr (.inr (.inr (.inr h))))))
  have m1 : (c == 8743) = false := beq_false_of_ne (fun h => h2 (.inl h))
  have m2 : (c == 8744) = false := beq_false_of_ne (fun h => h2 (.inr (.inl h)))
  have m3 : (c == 9074) = false := beq_false_of_ne (fun h => h2 (.inr (.inr (.inl h))))
  have m4 : (c == 9073) = false := beq_false_of_ne (fun h => h2 (.inr (.inr (.inr h))))
  by_cases he : e = 0
  rotate_left
  · rw [if_pos he]
    have f1 : (e == 0) = false := beq_false_of_ne he
    have f2 : (e != 0) = true := by rw [bne, f1]; rfl
    show AC Tryz.prog 7 _ (.pure (.tup [RN 0 1, .val (.int .i64 e)]))
    refine AC.of_body TTok Tryz.func7 rfl (enter_of Tryz.func7 (by kernel_rfl) (by kernel_rfl)) (noid4 (.val _) (RN_noid _ _) (RN_noid _ _) (.val _)) (.tup _ (noid2 (RN_noid _ _) (.val _))) (Nat.le_of_ble_eq_true rfl) ?_
    unfold RN at *
    conv => whnf
    refine ⟨_, hH, ?_⟩
    conv => whnf
    refine caseb (fun h => Bool.noConfusion ((k1).symm.trans h)) (fun _ => ?_)
    conv => whnf
    refine caseb (fun h => Bool.noConfusion ((k2).symm.trans h)) (fun _ => ?_)
    conv => whnf
    refine caseb (fun h => Bool.noConfusion ((k3).symm.trans h)) (fun _ => ?_)
    conv => whnf
    refine caseb (fun h => Bool.noConfusion ((k4).symm.trans h)) (fun _ => ?_)
    conv => whnf
    refine caseb (fun h => Bool.noConfusion ((k5).symm.trans h)) (fun _ => ?_)
    conv => whnf
    refine caseb (fun h => Bool.noConfusion ((k6).symm.trans h)) (fun _ => ?_)
    conv => whnf
    refine caseb (fun h => Bool.noConfusion ((m1).symm.trans h)) (fun _ => ?_)
    conv => whnf
    refine caseb (fun h => Bool.noConfusion ((m2).symm.trans h)) (fun _ => ?_)
    conv => whnf
    refine caseb (fun h => Bool.noConfusion ((m3).symm.trans h)) (fun _ => ?_)
    conv => whnf
    refine caseb (fun h => Bool.noConfusion ((m4).symm.trans h)) (fun _ => ?_)
    conv => whnf
    refine ⟨_, hP, ?_⟩
    conv => whnf
    refine caseb (fun h => Bool.noConfusion ((f1).symm.trans h)) (fun _ => ?_)
    conv => whnf
    refine caseb (fun _ => ?_) (fun h => Bool.noConfusion ((f2).symm.trans h))
    repeat
      conv => whnf
      first
        | refine ⟨_, by assumption, ?_⟩
        | refine ⟨(Nat.le_of_ble_eq_true rfl), _, by assumption, ?_⟩
        | refine ⟨by kernel_rfl, ?_⟩
        | exact rfl
        | refine ⟨by decide, ?_⟩
  rw [if_neg (fun h => h he)]
  subst he
  by_cases hq : most < (qLimbs r.num r.den : Nat)
  · rw [if_pos hq]
    have f1 : decide (((qLimbs r.num r.den : Nat) : Int) > most) = true := decide_eq_true hq
    show AC Tryz.prog 7 _ (.pure (.tup [RN 0 1, .val (.int .i64 26)]))
    refine AC.of_body TTok Tryz.func7 rfl (enter_of Tryz.func7 (by kernel_rfl) (by kernel_rfl)) (noid4 (.val _) (RN_noid _ _) (RN_noid _ _) (.val _)) (.tup _ (noid2 (RN_noid _ _) (.val _))) (Nat.le_of_ble_eq_true rfl) ?_
    generalize ((qLimbs r.num r.den : Nat) : Int) = n at *
    unfold RN at *
    conv => whnf
    refine ⟨_, hH, ?_⟩
    conv => whnf
    refine caseb (fun h => Bool.noConfusion ((k1).symm.trans h)) (fun _ => ?_)
    conv => whnf
    refine caseb (fun h => Bool.noConfusion ((k2).symm.trans h)) (fun _ => ?_)
    conv => whnf
    refine caseb (fun h => Bool.noConfusion ((k3).symm.trans h)) (fun _ => ?_)
    conv => whnf
    refine caseb (fun h => Bool.noConfusion ((k4).symm.trans h)) (fun _ => ?_)
    conv => whnf
    refine caseb (fun h => Bool.noConfusion ((k5).symm.trans h)) (fun _ => ?_)
    conv => whnf
    refine caseb (fun h => Bool.noConfusion ((k6).symm.trans h)) (fun _ => ?_)
    conv => whnf
    refine caseb (fun h => Bool.noConfusion ((m1).symm.trans h)) (fun _ => ?_)
    conv => whnf
    refine caseb (fun h => Bool.noConfusion ((m2).symm.trans h)) (fun _ => ?_)
    conv => whnf
    refine caseb (fun h => Bool.noConfusion ((m3).symm.trans h)) (fun _ => ?_)
    conv => whnf
    refine caseb (fun h => Bool.noConfusion ((m4).symm.trans h)) (fun _ => ?_)
    conv => whnf
    refine ⟨_, hP, ?_⟩
    conv => whnf
    refine ⟨_, hL, ?_⟩
    conv => whnf
    refine caseb (fun _ => ?_) (fun h => Bool.noConfusion ((f1).symm.trans h))
    repeat
      conv => whnf
      first
        | refine ⟨_, by assumption, ?_⟩
        | refine ⟨(Nat.le_of_ble_eq_true rfl), _, by assumption, ?_⟩
        | refine ⟨by kernel_rfl, ?_⟩
        | exact rfl
        | refine ⟨by decide, ?_⟩
  · rw [if_neg hq]
    have f1 : decide (((qLimbs r.num r.den : Nat) : Int) > most) = false := decide_eq_false hq
    refine AC.of_body TTok Tryz.func7 rfl (enter_of Tryz.func7 (by kernel_rfl) (by kernel_rfl)) (noid4 (.val _) (RN_noid _ _) (RN_noid _ _) (.val _)) (.tup _ (noid2 (RN_noid _ _) (.val _))) (Nat.le_of_ble_eq_true rfl) ?_
    generalize ((qLimbs r.num r.den : Nat) : Int) = n at *
    unfold RN at *
    conv => whnf
    refine ⟨_, hH, ?_⟩
    conv => whnf
    refine caseb (fun h => Bool.noConfusion ((k1).symm.trans h)) (fun _ => ?_)
    conv => whnf
    refine caseb (fun h => Bool.noConfusion ((k2).symm.trans h)) (fun _ => ?_)
    conv => whnf
    refine caseb (fun h => Bool.noConfusion ((k3).symm.trans h)) (fun _ => ?_)
    conv => whnf
    refine caseb (fun h => Bool.noConfusion ((k4).symm.trans h)) (fun _ => ?_)
    conv => whnf
    refine caseb (fun h => Bool.noConfusion ((k5).symm.trans h)) (fun _ => ?_)
    conv => whnf
    refine caseb (fun h => Bool.noConfusion ((k6).symm.trans h)) (fun _ => ?_)
    conv => whnf
    refine caseb (fun h => Bool.noConfusion ((m1).symm.trans h)) (fun _ => ?_)
    conv => whnf
    refine caseb (fun h => Bool.noConfusion ((m2).symm.trans h)) (fun _ => ?_)
    conv => whnf
    refine caseb (fun h => Bool.noConfusion ((m3).symm.trans h)) (fun _ => ?_)
    conv => whnf
    refine caseb (fun h => Bool.noConfusion ((m4).symm.trans h)) (fun _ => ?_)
    conv => whnf
    refine ⟨_, hP, ?_⟩
    conv => whnf
    refine ⟨_, hL, ?_⟩
    conv => whnf
    refine caseb (fun h => Bool.noConfusion ((f1).symm.trans h)) (fun _ => ?_)
    repeat
      conv => whnf
      first
        | refine ⟨_, by assumption, ?_⟩
        | refine ⟨(Nat.le_of_ble_eq_true rfl), _, by assumption, ?_⟩
        | refine ⟨by kernel_rfl, ?_⟩
        | exact rfl
        | refine ⟨by decide, ?_⟩

end Go.Proofs.YtabgankeaagibaaGreat

/- Layer 13: what is read, the chapter's examples. -/
set_option linter.unusedVariables false
namespace Go.Proofs.YtabgankeaagibaaGreat
open Go Go.AL NM

/-- What is read of a number as the page speaks of it. -/
def Rd13 (b : Bool) (s t : List Int) (q : Rat) (ok : Bool) : Prop :=
  (ok = true → RT b s t = RN q.num q.den ∧ RQ b s t ∧ s.length ≤ 40 ∧ t.length ≤ 40 ∧ q = qOf b s t) ∧ AC Tryz.prog 4 [RT b s t] (.pure (.tup [if ok then RA q.num q.den else RA 0 0, .val (.bool ok)]))

theorem read13 (b : Bool) (s t : List Int) (hBs : Byt s) (hBt : Byt t) : ∃ q ok, Rd13 b s t q ok := by
  have z1 := strL_size s
  have z2 := strL_size t
  by_cases h1 : s.length ≤ 40 ∧ t.length ≤ 40
  · have hR := SRight_ok b s t hBs hBt (by omega) (by omega)
    have f1 : decide (((strL s).size : Int) > 40) = false := decide_eq_false (by omega)
    have f2 : decide (((strL t).size : Int) > 40) = false := decide_eq_false (by omega)
    by_cases hq : RQ b s t
    · have hO := SOf_ok b s t hBs hBt (by omega) (by omega) hq.1 hq.2.1 hq.2.2.2.2.1
      rw [decide_eq_true hq] at hR hO
      refine ⟨qOf b s t, true, fun _ => ⟨RQ_is hq, hq, h1.1, h1.2, rfl⟩, ?_⟩
      rw [if_pos rfl]
      refine AC.of_body TTok Tryz.func4 rfl (enter_of Tryz.func4 (by kernel_rfl) (by kernel_rfl)) (noid1 (RT_noid _ _ _)) (.tup _ (noid2 (RA_noid _ _) (.val _))) (Nat.le_of_ble_eq_true rfl) ?_
      unfold RT RA at *
      conv => whnf
      refine caseb (fun h => Bool.noConfusion ((f1).symm.trans h)) (fun _ => ?_)
      conv => whnf
      refine caseb (fun h => Bool.noConfusion ((f2).symm.trans h)) (fun _ => ?_)
      repeat
        conv => whnf
        first
          | refine ⟨_, by assumption, ?_⟩
          | refine ⟨(Nat.le_of_ble_eq_true rfl), _, by assumption, ?_⟩
          | refine ⟨by kernel_rfl, ?_⟩
          | exact rfl
          | refine ⟨by decide, ?_⟩
    · rw [decide_eq_false hq] at hR
      refine ⟨0, false, fun h => Bool.noConfusion h, ?_⟩
      rw [if_neg (by decide)]
      refine RZ_res ?_
      refine AC.of_body TTok Tryz.func4 rfl (enter_of Tryz.func4 (by kernel_rfl) (by kernel_rfl)) (noid1 (RT_noid _ _ _)) (.tup _ (noid2 RZ_noid (.val _))) (Nat.le_of_ble_eq_true rfl) ?_
      unfold RT at *
      conv => whnf
      refine caseb (fun h => Bool.noConfusion ((f1).symm.trans h)) (fun _ => ?_)
      conv => whnf
      refine caseb (fun h => Bool.noConfusion ((f2).symm.trans h)) (fun _ => ?_)
      repeat
        conv => whnf
        first
          | refine ⟨_, by assumption, ?_⟩
          | refine ⟨(Nat.le_of_ble_eq_true rfl), _, by assumption, ?_⟩
          | refine ⟨by kernel_rfl, ?_⟩
          | exact rfl
          | refine ⟨by decide, ?_⟩
  · refine ⟨0, false, fun h => Bool.noConfusion h, ?_⟩
    rw [if_neg (by decide)]
    refine RZ_res ?_
    refine AC.of_body TTok Tryz.func4 rfl (enter_of Tryz.func4 (by kernel_rfl) (by kernel_rfl)) (noid1 (RT_noid _ _ _)) (.tup _ (noid2 RZ_noid (.val _))) (Nat.le_of_ble_eq_true rfl) ?_
    unfold RT at *
    by_cases h2 : s.length ≤ 40
    · have f1 : decide (((strL s).size : Int) > 40) = false := decide_eq_false (by omega)
      have f2 : decide (((strL t).size : Int) > 40) = true := decide_eq_true (by omega)
      conv => whnf
      refine caseb (fun h => Bool.noConfusion ((f1).symm.trans h)) (fun _ => ?_)
      conv => whnf
      refine caseb (fun _ => ?_) (fun h => Bool.noConfusion ((f2).symm.trans h))
      repeat
        conv => whnf
        first
          | refine ⟨_, by assumption, ?_⟩
          | refine ⟨(Nat.le_of_ble_eq_true rfl), _, by assumption, ?_⟩
          | refine ⟨by kernel_rfl, ?_⟩
          | exact rfl
          | refine ⟨by decide, ?_⟩
    · have f1 : decide (((strL s).size : Int) > 40) = true := decide_eq_true (by omega)
      conv => whnf
      refine caseb (fun _ => ?_) (fun h => Bool.noConfusion ((f1).symm.trans h))
      repeat
        conv => whnf
        first
          | refine ⟨_, by assumption, ?_⟩
          | refine ⟨(Nat.le_of_ble_eq_true rfl), _, by assumption, ?_⟩
          | refine ⟨by kernel_rfl, ?_⟩
          | exact rfl
          | refine ⟨by decide, ?_⟩

theorem Rd13.sz {b : Bool} {s t : List Int} {q : Rat} (h : Rd13 b s t q true) : Sz q 5 ∧ RT b s t = RN q.num q.den ∧ AC Tryz.prog 4 [RN q.num q.den] (.pure (.tup [RA q.num q.den, .val (.bool true)])) := by
  obtain ⟨h1, h2⟩ := h
  obtain ⟨e, hq, l1, l2, rfl⟩ := h1 rfl
  rw [if_pos rfl, e] at h2
  exact ⟨RQ_sz hq l1 l2 (by decide), e, h2⟩
theorem Rd13.bad {b : Bool} {s t : List Int} {q : Rat} {o : Bool} (h : Rd13 b s t q o) : ∃ x d, AC Tryz.prog 4 [RT b s t] (.pure (.tup [RA x d, .val (.bool o)])) := by
  have h2 := h.2
  cases o
  · exact ⟨0, 0, h2⟩
  · exact ⟨q.num, q.den, h2⟩



theorem qLimbs_small {t : Int} {d : Nat} (h1 : t.natAbs < 4294967296) (h2 : d < 4294967296) : qLimbs t d ≤ 1 := by
  have := limbs_small h1
  have := limbs_small h2
  unfold qLimbs
  omega
/-- A small answer of a reckoning function stays. -/
theorem two_rec {c : Int} {a b r : Rat} {most : Int} (h1 : ¬ isCmp c) (h2 : ¬ isJdg c) (h3 : isRec c) (h : reckonQ c a b most = (r, 0)) (hq : (qLimbs r.num r.den : Int) ≤ most) : twoQ c a b most = (r, 0) := by
  unfold twoQ
  rw [if_neg h1, if_neg h2, if_neg (fun h => h h3), h, if_neg (fun h => h rfl), if_neg (show ¬ most < ((qLimbs r.num r.den : Nat) : Int) by omega)]
theorem ex_ways : twoQ 33 2 5 4 = (10, 0) := by
  refine two_rec (by decide) (by decide) (by decide) ?_ ?_
  · show chooseQ 2 5 4 = (10, 0)
    unfold chooseQ
    rw [if_neg (by decide), if_neg (by decide), if_pos]
    · rfl
    · right
      have := limbs_small (n := chs (max (2 : Rat).num ((5 : Rat).num - (2 : Rat).num)).toNat (min (2 : Rat).num ((5 : Rat).num - (2 : Rat).num)).toNat) (by decide)
      omega
  · have := qLimbs_small (t := (10 : Rat).num) (d := (10 : Rat).den) (by decide) (by decide)
    omega
theorem ex_pow : twoQ 42 2 (-3) 4 = (Rat.divInt 1 8, 0) := by
  refine two_rec (by decide) (by decide) (by decide) ?_ ?_
  · show powerQ 2 (-3) 4 = _
    have hp : powQ 2 (-3) 4 = (Rat.divInt 1 8, true) := by
      unfold powQ
      rw [if_neg (by decide), if_neg (by decide), if_pos]
      · have e1 : pb 2 (-3) = Rat.divInt 1 2 := by decide +kernel
        have e2 : pk (-3) = 3 := by decide
        rw [e1, e2]
        have : Rat.divInt 1 2 ^ 3 = Rat.divInt 1 8 := by decide +kernel
        rw [this]
      · have e1 : (pb 2 (-3)).num.natAbs = 1 := by decide +kernel
        have e2 : (pb 2 (-3)).den = 2 := by decide +kernel
        have e3 : pk (-3) = 3 := by decide
        rw [e1, e2, e3]
        refine ⟨.inl rfl, .inr ?_⟩
        have := limbs_small (n := 2 ^ 3) (by decide)
        omega
    unfold powerQ
    rw [if_neg (by decide), if_neg (by decide), if_neg (by decide), show (-3 : Rat).num = -3 from rfl, hp]
    rfl
  · have := qLimbs_small (t := (Rat.divInt 1 8).num) (d := (Rat.divInt 1 8).den) (by decide +kernel) (by decide +kernel)
    omega
theorem ex_rest : twoQ 124 3 7 4 = (1, 0) := by
  refine two_rec (by decide) (by decide) (by decide) ?_ ?_
  · show (restQ 3 7, (0 : Int)) = (1, 0)
    have : restQ 3 7 = 1 := by decide +kernel
    rw [this]
  · have := qLimbs_small (t := (1 : Rat).num) (d := (1 : Rat).den) (by decide) (by decide)
    omega
theorem awake13_ok : AC Tryz.prog 5 [] (.pure (.val (.bool true))) := by
  have f2 := RatFrom_ok 2 (by decide)
  have f5 := RatFrom_ok 5 (by decide)
  have f3 := RatFrom_ok (-3) (by decide)
  have f3' := RatFrom_ok 3 (by decide)
  have f7 := RatFrom_ok 7 (by decide)
  have sm : ∀ q : Rat, q.num.natAbs < 4294967296 → q.den < 4294967296 → Sz q 20 := fun q h1 h2 => (Sz_small h1 h2).mono (by decide)
  obtain ⟨d1, e1, T1⟩ := Two_ok 33 2 5 1 1 4 rfl rfl (by decide) (sm _ (by decide) (by decide)) (sm _ (by decide) (by decide))
  obtain ⟨d2, e2, T2⟩ := Two_ok 42 2 (-3) 1 1 4 rfl rfl (by decide) (sm _ (by decide) (by decide)) (sm _ (by decide) (by decide))
  obtain ⟨d3, e3, T3⟩ := Two_ok 124 3 7 1 1 4 rfl rfl (by decide) (sm _ (by decide) (by decide)) (sm _ (by decide) (by decide))
  rw [ex_ways] at e1 T1
  rw [ex_pow] at e2 T2
  rw [ex_rest] at e3 T3
  have n1 := NumS 10 d1 e1 ((Sz_small (by decide) (by decide)).mono (by decide))
  have n2 := NumS (Rat.divInt 1 8) d2 e2 ((Sz_small (by decide +kernel) (by decide +kernel)).mono (by decide))
  have n3 := NumS 1 d3 e3 (Sz_one.mono (by decide))
  rw [RN_small (Rat.divInt 1 8).num (Rat.divInt 1 8).den false 1 8 (by decide +kernel) (by decide +kernel) (by decide) (by decide +kernel) (by decide)] at n2
  have g10 := SFrom_ok 10 (by decide)
  have g1 := SFrom_ok 1 (by decide)
  have x2 := RN_is false 1 8 { data := #[49] } { data := #[56] } rfl rfl
  simp only at T1 T2 T3
  rw [show (2 : Rat).num = 2 from rfl, show (5 : Rat).num = 5 from rfl] at T1
  rw [show (2 : Rat).num = 2 from rfl, show (-3 : Rat).num = -3 from rfl] at T2
  rw [show (3 : Rat).num = 3 from rfl, show (7 : Rat).num = 7 from rfl] at T3
  rw [show RN (10 : Rat).num (10 : Rat).den = RN 10 1 from rfl] at n1
  rw [show RN (1 : Rat).num (1 : Rat).den = RN 1 1 from rfl] at n3
  refine AC.of_body TTok Tryz.func5 rfl (enter_of Tryz.func5 (by kernel_rfl) (by kernel_rfl)) (by intro x hx; cases hx) (.val _) (Nat.le_of_ble_eq_true rfl) ?_
  clear sm e1 e2 e3
  generalize (10 : Rat).num = m1 at *
  generalize (Rat.divInt 1 8).num = m2 at *
  generalize (1 : Rat).num = m3 at *
  unfold RA RN at *
  repeat
    conv => whnf
    first
      | refine ⟨_, by assumption, ?_⟩
      | refine ⟨(Nat.le_of_ble_eq_true rfl), _, by assumption, ?_⟩
      | refine ⟨by kernel_rfl, ?_⟩
      | exact rfl
      | refine ⟨by decide, ?_⟩
  conv => whnf
  refine caseb (fun _ => ?_) (fun h => Bool.noConfusion ((RN_self _ _ _).symm.trans h))
  repeat
    conv => whnf
    first
      | refine ⟨_, by assumption, ?_⟩
      | refine ⟨(Nat.le_of_ble_eq_true rfl), _, by assumption, ?_⟩
      | refine ⟨by kernel_rfl, ?_⟩
      | exact rfl
      | refine ⟨by decide, ?_⟩
  conv => whnf
  refine caseb (fun _ => ?_) (fun h => Bool.noConfusion ((x2).symm.trans h))
  repeat
    conv => whnf
    first
      | refine ⟨_, by assumption, ?_⟩
      | refine ⟨(Nat.le_of_ble_eq_true rfl), _, by assumption, ?_⟩
      | refine ⟨by kernel_rfl, ?_⟩
      | exact rfl
      | refine ⟨by decide, ?_⟩
  conv => whnf
  refine valB ?_
  exact RN_self _ _ _

end Go.Proofs.YtabgankeaagibaaGreat

/- The statement DyadTwos: the walk through the law. -/
set_option linter.unusedVariables false
namespace Go.Proofs.YtabgankeaagibaaGreat.dyadTwos
open Go Go.AL NM

theorem bad (c : Int) (b b' : Bool) (s t s' t' : List Int) (most : Int) (x x' : Int) (d d' : Nat) (o o' : Bool) (h1 : AC Tryz.prog 4 [RT b s t] (.pure (.tup [RA x d, .val (.bool o)]))) (h2 : AC Tryz.prog 4 [RT b' s' t'] (.pure (.tup [RA x' d', .val (.bool o')])))
    (ho : o = false ∨ o' = false ∨ most < 1 ∨ 16 < most) :
    AC Tryz.prog 3 [.val (.int .i32 c), RT b s t, RT b' s' t', .val (.int .i64 most)] (.pure (.val (.bool true))) := by
  refine AC.of_body TTok Tryz.func3 rfl (enter_of Tryz.func3 (by kernel_rfl) (by kernel_rfl)) (noid4 (.val _) (RT_noid _ _ _) (RT_noid _ _ _) (.val _)) (.val _) (Nat.le_of_ble_eq_true rfl) ?_
  have hA := awake13_ok
  unfold RT RA at *
  cases o
  · conv => whnf
    refine ⟨_, h1, ?_⟩
    conv => whnf
    refine ⟨_, h2, ?_⟩
    repeat
      conv => whnf
      first
        | refine ⟨_, by assumption, ?_⟩
        | refine ⟨(Nat.le_of_ble_eq_true rfl), _, by assumption, ?_⟩
        | refine ⟨by kernel_rfl, ?_⟩
        | exact rfl
        | refine ⟨by decide, ?_⟩
  · cases o'
    · conv => whnf
      refine ⟨_, h1, ?_⟩
      conv => whnf
      refine ⟨_, h2, ?_⟩
      repeat
        conv => whnf
        first
          | refine ⟨_, by assumption, ?_⟩
          | refine ⟨(Nat.le_of_ble_eq_true rfl), _, by assumption, ?_⟩
          | refine ⟨by kernel_rfl, ?_⟩
          | exact rfl
          | refine ⟨by decide, ?_⟩
    · by_cases h : most < 1
      · have f1 : decide (most < 1) = true := decide_eq_true h
        conv => whnf
        refine ⟨_, h1, ?_⟩
        conv => whnf
        refine ⟨_, h2, ?_⟩
        conv => whnf
        refine caseb (fun _ => ?_) (fun h => Bool.noConfusion ((f1).symm.trans h))
        repeat
          conv => whnf
          first
            | refine ⟨_, by assumption, ?_⟩
            | refine ⟨(Nat.le_of_ble_eq_true rfl), _, by assumption, ?_⟩
            | refine ⟨by kernel_rfl, ?_⟩
            | exact rfl
            | refine ⟨by decide, ?_⟩
      · have f1 : decide (most < 1) = false := decide_eq_false h
        have f2 : decide (most > 16) = true := decide_eq_true (by rcases ho with h | h | h | h; cases h; cases h; omega; omega)
        conv => whnf
        refine ⟨_, h1, ?_⟩
        conv => whnf
        refine ⟨_, h2, ?_⟩
        conv => whnf
        refine caseb (fun h => Bool.noConfusion ((f1).symm.trans h)) (fun _ => ?_)
        conv => whnf
        refine caseb (fun _ => ?_) (fun h => Bool.noConfusion ((f2).symm.trans h))
        repeat
          conv => whnf
          first
            | refine ⟨_, by assumption, ?_⟩
            | refine ⟨(Nat.le_of_ble_eq_true rfl), _, by assumption, ?_⟩
            | refine ⟨by kernel_rfl, ?_⟩
            | exact rfl
            | refine ⟨by decide, ?_⟩

theorem good (c : Int) (p q : Rat) (most : Int) (hm : 1 ≤ most ∧ most ≤ 16) (lp : Sz p 5) (lq : Sz q 5) (h1 : AC Tryz.prog 4 [RN p.num p.den] (.pure (.tup [RA p.num p.den, .val (.bool true)]))) (h2 : AC Tryz.prog 4 [RN q.num q.den] (.pure (.tup [RA q.num q.den, .val (.bool true)]))) :
    AC Tryz.prog 3 [.val (.int .i32 c), RN p.num p.den, RN q.num q.den, .val (.int .i64 most)] (.pure (.val (.bool true))) := by
  obtain ⟨d, hd, hT⟩ := Two_ok c p q p.den q.den most (dn_den p) (dn_den q) (by omega) (lp.mono (by decide)) (lq.mono (by decide))
  have sT := STwo_ok c p q most (by omega) (lp.mono (by decide)) (lq.mono (by decide))
  have sz : Sz (twoQ c p q most).1 400 := by
    unfold twoQ
    split
    · exact (tq_sz _).mono (by decide)
    split
    · unfold judgeQ
      split
      · exact (tq_sz _).mono (by decide)
      · exact Sz_zero.mono (by decide)
    split
    · exact Sz_zero.mono (by decide)
    split
    · exact Sz_zero.mono (by decide)
    split
    · exact Sz_zero.mono (by decide)
    · exact reckon_sz c p q most (by omega) (lp.mono (by decide)) (lq.mono (by decide))
  have nT := NumS (twoQ c p q most).1 d hd (sz.mono (by decide))
  have hH := Has_ok c
  have sH := SHas_ok c
  have hA := awake13_ok
  have f1 : decide (most < 1) = false := decide_eq_false (by omega)
  have f2 : decide (most > 16) = false := decide_eq_false (by omega)
  clear sz hd
  revert hT sT nT hH sH
  generalize (twoQ c p q most).1 = r
  generalize (twoQ c p q most).2 = e
  generalize decide (isTwo c) = w
  intro hT sT nT hH sH
  refine AC.of_body TTok Tryz.func3 rfl (enter_of Tryz.func3 (by kernel_rfl) (by kernel_rfl)) (noid4 (.val _) (RN_noid _ _) (RN_noid _ _) (.val _)) (.val _) (Nat.le_of_ble_eq_true rfl) ?_
  unfold RN RA at *
  conv => whnf
  refine ⟨_, h1, ?_⟩
  conv => whnf
  refine ⟨_, h2, ?_⟩
  conv => whnf
  refine caseb (fun h => Bool.noConfusion ((f1).symm.trans h)) (fun _ => ?_)
  conv => whnf
  refine caseb (fun h => Bool.noConfusion ((f2).symm.trans h)) (fun _ => ?_)
  repeat
    conv => whnf
    first
      | refine ⟨_, by assumption, ?_⟩
      | refine ⟨(Nat.le_of_ble_eq_true rfl), _, by assumption, ?_⟩
      | refine ⟨by kernel_rfl, ?_⟩
      | exact rfl
      | refine ⟨by decide, ?_⟩
  conv => whnf
  refine caseb (fun _ => ?_) (fun h => Bool.noConfusion ((bool_self _).symm.trans h))
  repeat
    conv => whnf
    first
      | refine ⟨_, by assumption, ?_⟩
      | refine ⟨(Nat.le_of_ble_eq_true rfl), _, by assumption, ?_⟩
      | refine ⟨by kernel_rfl, ?_⟩
      | exact rfl
      | refine ⟨by decide, ?_⟩
  conv => whnf
  refine caseb (fun _ => ?_) (fun h => Bool.noConfusion ((RN_self _ _ _).symm.trans h))
  repeat
    conv => whnf
    first
      | refine ⟨_, by assumption, ?_⟩
      | refine ⟨(Nat.le_of_ble_eq_true rfl), _, by assumption, ?_⟩
      | refine ⟨by kernel_rfl, ?_⟩
      | exact rfl
      | refine ⟨by decide, ?_⟩
  conv => whnf
  refine caseb (fun _ => ?_) (fun h => Bool.noConfusion ((int_self _).symm.trans h))
  repeat
    conv => whnf
    first
      | refine ⟨_, by assumption, ?_⟩
      | refine ⟨(Nat.le_of_ble_eq_true rfl), _, by assumption, ?_⟩
      | refine ⟨by kernel_rfl, ?_⟩
      | exact rfl
      | refine ⟨by decide, ?_⟩

theorem holds (a0 : Int) (b1 : Bool) (s1 t1 : ByteArray) (b2 : Bool) (s2 t2 : ByteArray) (a3 : Int) (w0 : -2147483648 ≤ a0 ∧ a0 < 2147483648) (w3 : -9223372036854775808 ≤ a3 ∧ a3 < 9223372036854775808) :
    AC Tryz.prog 3 [.val (.int .i32 a0), .agg [.val (.bool b1), .val (.string s1), .val (.string t1)], .agg [.val (.bool b2), .val (.string s2), .val (.string t2)], .val (.int .i64 a3)] (.pure (.val (.bool true))) := by
  rw [RT_of, RT_of]
  obtain ⟨p, o, r⟩ := read13 b1 _ _ (bytesL_byt s1) (bytesL_byt t1)
  obtain ⟨q, o', r'⟩ := read13 b2 _ _ (bytesL_byt s2) (bytesL_byt t2)
  by_cases ho : o = false ∨ o' = false ∨ a3 < 1 ∨ 16 < a3
  · obtain ⟨x, d, h⟩ := r.bad
    obtain ⟨x', d', h'⟩ := r'.bad
    exact bad a0 _ _ _ _ _ _ a3 x x' d d' o o' h h' ho
  · cases o
    · exact absurd (.inl rfl) ho
    · cases o'
      · exact absurd (.inr (.inl rfl)) ho
      · obtain ⟨lp, e, h⟩ := r.sz
        obtain ⟨lq, e', h'⟩ := r'.sz
        rw [e, e']
        exact good a0 p q a3 (by omega) lp lq h h'

end Go.Proofs.YtabgankeaagibaaGreat.dyadTwos

/- An abstract program logic over tree values (part 30): what a caller hands in, structs and slices of any depth, as abstract values. -/
set_option linter.unusedVariables false
set_option linter.unusedSimpArgs false
namespace Go.AL
open Go Go.RowKit Go.ChangeShapes Go.WideShapes

/-- Cells that stand to abstract values that name no live block. -/
def CellsR (W : World) (cs : List Value) (xs : List AV) : Prop :=
  xs.length = cs.length ∧ ∀ (i : Nat) (y : AV), xs[i]? = some y → VR W (fun b => b < W.heap.size) (fun _ => none) (cs.getD i undef) y ∧ (cs.getD i undef).oneCell' = true ∧ NoId y

theorem CellsR.nil (W : World) : CellsR W [] [] := ⟨rfl, fun i y h => by simp at h⟩
theorem CellsR.append {W : World} {a b : List Value} {xs ys : List AV} (h : CellsR W a xs) (h' : CellsR W b ys) : CellsR W (a ++ b) (xs ++ ys) := by
  refine ⟨by rw [List.length_append, List.length_append, h.1, h'.1], fun i y hy => ?_⟩
  by_cases hi : i < xs.length
  · rw [List.getElem?_append_left hi] at hy
    have := h.2 i y hy
    rw [show (a ++ b).getD i undef = a.getD i undef by rw [List.getD, List.getD, List.getElem?_append_left (by rw [← h.1]; exact hi)]]
    exact this
  · rw [List.getElem?_append_right (by omega)] at hy
    have := h'.2 _ y hy
    rw [show (a ++ b).getD i undef = b.getD (i - xs.length) undef by rw [List.getD, List.getD, List.getElem?_append_right (by rw [← h.1]; omega), h.1]]
    exact this
theorem CellsR.one {W : World} {v : Value} {x : AV} (h : VR W (fun b => b < W.heap.size) (fun _ => none) v x) (h1 : v.oneCell' = true) (h2 : NoId x) : CellsR W [v] [x] := by
  refine ⟨rfl, fun i y hy => ?_⟩
  rcases i with _ | i
  · simp at hy; subst hy; exact ⟨h, h1, h2⟩
  · simp at hy

/-- What is known of the cells of a type. -/
def Opens (P : Program) (t : TypeId) (Φ : List AV → Prop) : Prop :=
  ∀ (W : World) (H : Type) (enc : TypeId × Value → H) (fuel : Nat) (cs : List Value) (x : DataW H × List MemPlace), DataW.trod enc P W 0 (fun _ => true) true fuel t cs = some x → ∃ xs, CellsR W cs xs ∧ Φ xs

section
variable {P : Program} {t : TypeId}

theorem opens_int {k : IntKind} (ht : P.underlying t = some (.int k)) : Opens P t (fun xs => ∃ n, xs = [.val (.int k n)] ∧ (Lit.int k n).wf = true) := by
  intro W H enc fuel cs x h
  obtain ⟨n, rfl, _, hw⟩ := DataW.trod_int ht h
  exact ⟨_, CellsR.one (.val _) rfl (.val _), n, rfl, hw⟩
theorem opens_bool (ht : P.underlying t = some .bool) : Opens P t (fun xs => ∃ b, xs = [.val (.bool b)]) := by
  intro W H enc fuel cs x h
  obtain ⟨n, rfl, _⟩ := DataW.trod_bool ht h
  exact ⟨_, CellsR.one (.val _) rfl (.val _), n, rfl⟩
theorem opens_str (ht : P.underlying t = some .string) : Opens P t (fun xs => ∃ s, xs = [.val (.string s)] ∧ s.size ≤ maxLen) := by
  intro W H enc fuel cs x h
  obtain ⟨s, rfl, _, hs⟩ := DataW.trod_string ht h
  exact ⟨_, CellsR.one (.val _) rfl (.val _), s, rfl, hs⟩

/-- The fields of a struct, from a place on. -/
inductive OpensF (P : Program) : List (Nat × Nat) → Nat → Nat → (List AV → Prop) → Prop
  | nil (n : Nat) : OpensF P [] n n (fun xs => xs = [])
  | cons (t : Nat) (fs : List (Nat × Nat)) (off c n : Nat) (Φ Ψ : List AV → Prop) (hc : P.cellsOf t = c) (hf : Opens P t Φ) (hr : OpensF P fs (off + c) n Ψ) :
      OpensF P ((off, t) :: fs) off n (fun xs => ∃ a b, xs = a ++ b ∧ Φ a ∧ Ψ b)

theorem OpensF.spec {fs : List (Nat × Nat)} {off n : Nat} {Φ : List AV → Prop} (h : OpensF P fs off n Φ) : ∀ (W : World) (H : Type) (enc : TypeId × Value → H) (fuel : Nat) (cs : List Value),
    cs.length = n → (∀ f ∈ fs, ∃ y, DataW.trod enc P W 0 (fun _ => true) true fuel f.2 ((cs.drop f.1).take (P.cellsOf f.2)) = some y) → ∃ xs, CellsR W (cs.drop off) xs ∧ Φ xs := by
  induction h with
  | nil n =>
    intro W H enc fuel cs hl _
    refine ⟨[], ?_, rfl⟩
    rw [List.drop_of_length_le (by omega)]
    exact .nil W
  | cons t fs off c n Φ Ψ hc hf hr ih =>
    intro W H enc fuel cs hl hall
    obtain ⟨y, hy⟩ := hall (off, t) (by simp)
    rw [hc] at hy
    obtain ⟨a, ha, hΦ⟩ := hf W H enc fuel _ y hy
    obtain ⟨b, hb, hΨ⟩ := ih W H enc fuel cs hl (fun g hg => hall g (by simp [hg]))
    refine ⟨a ++ b, ?_, a, b, rfl, hΦ, hΨ⟩
    have e : cs.drop off = (cs.drop off).take c ++ cs.drop (off + c) := by
      rw [← List.drop_drop, List.take_append_drop]
    rw [e]
    exact ha.append hb

theorem opens_struct {fs : Array Field} {l : List (Nat × Nat)} {n : Nat} {Φ : List AV → Prop} (ht : P.underlying t = some (.struct fs)) (hfs : fs.toList.map (fun f => (f.offset, f.type)) = l) (hc : P.cellsOf t = n) (h : OpensF P l 0 n Φ) : Opens P t Φ := by
  intro W H enc fuel cs x hx
  obtain ⟨xs, m, rfl, _, hl, hs, hf⟩ := DataW.trod_struct ht hx
  have := h.spec W H enc m cs (by rw [hl, hc]) (fun g hgm => by
    rw [← hfs] at hgm
    obtain ⟨f, hfm, rfl⟩ := List.mem_map.1 hgm
    obtain ⟨i, hi⟩ := List.getElem?_of_mem hfm
    have hi' : fs[i]? = some f := by rw [← Array.getElem?_toList]; exact hi
    have hlt : i < xs.length := by
      have := (Array.getElem?_eq_some_iff.1 hi').1
      omega
    exact ⟨xs[i], by rw [hf i f hi']; exact List.getElem?_eq_getElem hlt⟩)
  simpa using this

theorem opens_slice {e c : Nat} {Φ : List AV → Prop} (ht : P.underlying t = some (.slice e)) (hc : P.cellsOf e = c) (h0 : 0 < c) (he : Opens P e Φ) :
    Opens P t (fun xs => ∃ rows, xs = [.sl c rows false] ∧ rows.length ≤ maxLen ∧ ∀ r ∈ rows, r.length = c ∧ Φ r) := by
  intro W H enc fuel cs x hx
  rcases DataW.trod_slice ht hx with ⟨rfl, _⟩ | ⟨a, len, cap, elems, rest, n, rfl, rfl, _, hb, hl, hm, hlen, hel, _, _⟩
  · refine ⟨[.sl c [] false], CellsR.one (.sl none 0 0 c [] false 0 0 (fun _ => undef) rfl (Nat.le_refl _) (fun h => by cases h) (fun r hr => by cases hr) (fun h => absurd rfl h) (fun j x hx => by simp at hx) (fun j x hx => by simp at hx) (fun j x hx => by simp at hx) (fun j x hx => by simp at hx)) rfl (.sl _ _ _ (fun r hr => by cases hr)), [], rfl, Nat.zero_le _, fun r hr => by cases hr⟩
  · have ex : ∀ i, i < len → ∃ (ci : List Value) (xs : List AV), W.cells? 0 (a.add (i * c)) c = some ci ∧ CellsR W ci xs ∧ Φ xs := by
      intro i hi
      have h1 := hel i hi
      rw [hc, List.getElem?_eq_getElem (by omega), Option.bind_eq_some_iff] at h1
      obtain ⟨ci, h2, h3⟩ := h1
      obtain ⟨xs, h4, h5⟩ := he W H enc n ci _ h3
      exact ⟨ci, xs, h2, h4, h5⟩
    have : ∃ f : Nat → List AV, ∀ i, i < len → ∃ ci : List Value, W.cells? 0 (a.add (i * c)) c = some ci ∧ CellsR W ci (f i) ∧ Φ (f i) :=
      ⟨fun i => if h : i < len then (ex i h).choose_spec.choose else [], fun i hi => ⟨(ex i hi).choose, by
        simp only [dif_pos hi]
        exact (ex i hi).choose_spec.choose_spec⟩⟩
    obtain ⟨f, hf⟩ := this
    have hrl : ((List.range len).map f).length = len := by simp
    have hget : ∀ i r, ((List.range len).map f)[i]? = some r → i < len ∧ r = f i := fun i r hr => by
      rw [List.getElem?_map] at hr
      by_cases hi : i < len
      · rw [List.getElem?_range hi] at hr
        exact ⟨hi, (Option.some.inj hr).symm⟩
      · rw [List.getElem?_eq_none (by simp; omega)] at hr; cases hr
    have hw : ∀ r ∈ (List.range len).map f, r.length = c ∧ Φ r := fun r hr => by
      obtain ⟨i, hi, rfl⟩ := List.mem_map.1 hr
      obtain ⟨ci, h1, h2, h3⟩ := hf i (List.mem_range.1 hi)
      exact ⟨by rw [h2.1]; exact (World.cells?_some h1).2.1, h3⟩
    have spot : 0 < len → a.spot = none := fun hp => by
      obtain ⟨ci, h1, _, _⟩ := hf 0 hp
      have h2 := World.cells?_some h1
      have h3 := h2.2.2 0 h0
      rw [Nat.zero_mul, show (a.add 0).add 0 = a from rfl, List.getElem?_eq_getElem (by omega)] at h3
      unfold World.cell? at h3
      split at h3
      · cases hs : a.spot with
        | none => rfl
        | some z => rw [hs] at h3; simp at h3
      · cases h3
    have cell : ∀ (j : Nat) (y : AV), ((List.range len).map f).flatten[j]? = some y → ∃ v, W.cell? ⟨a.block, a.off + j, none⟩ = some v ∧ v.oneCell' = true ∧ VR W (fun b => b < W.heap.size) (fun _ => none) v y ∧ NoId y := by
      intro j y hy
      rw [flat_get h0 _ (fun r hr => (hw r hr).1), Option.bind_eq_some_iff] at hy
      obtain ⟨r, hr, hy⟩ := hy
      obtain ⟨hi, rfl⟩ := hget _ _ hr
      obtain ⟨ci, h1, h2, h3⟩ := hf _ hi
      obtain ⟨_, hcl, hcell⟩ := World.cells?_some h1
      have hk : j % c < c := Nat.mod_lt _ h0
      have h4 := hcell (j % c) hk
      rw [List.getElem?_eq_getElem (by omega)] at h4
      obtain ⟨g1, g2, g3⟩ := h2.2 _ y hy
      rw [List.getD, List.getElem?_eq_getElem (by omega), Option.getD_some] at g1 g2
      have hs := spot (Nat.lt_of_le_of_lt (Nat.zero_le _) hi)
      have ea : (a.add (j / c * c)).add (j % c) = ⟨a.block, a.off + j, none⟩ := by
        obtain ⟨b, o, sp⟩ := a
        have hs : sp = none := hs
        subst hs
        rw [add_plain, add_plain, Nat.add_assoc, Nat.mul_comm, Nat.div_add_mod]
      rw [ea] at h4
      exact ⟨_, h4, g2, g1, g3⟩
    refine ⟨[.sl c ((List.range len).map f) false], CellsR.one ?_ rfl (.sl _ _ _ (fun r hr y hy => ?_)), _, rfl, by rw [hrl]; omega, hw⟩
    · refine .sl (some a) len cap c _ false a.block a.off (fun j => (W.cell? ⟨a.block, a.off + j, none⟩).getD undef) (by rw [hrl]) hl (fun h => by cases h) (fun r hr => (hw r hr).1) (fun hne => ?_) (fun j y hy => ?_) (fun j y hy => ?_) (fun j y hy => ?_) (fun j y hy => ?_)
      · have hp : 0 < len := by
          rcases Nat.eq_zero_or_pos len with h | h
          · exact absurd (by rw [h]; rfl) hne
          · exact h
        have hs := spot hp
        obtain ⟨ci, h1, _, _⟩ := hf 0 hp
        have h3 := (World.cells?_some h1).2.2 0 h0
        rw [Nat.zero_mul, show (a.add 0).add 0 = a from rfl, List.getElem?_eq_getElem (by rw [(World.cells?_some h1).2.1]; exact h0)] at h3
        refine ⟨by obtain ⟨b, o, sp⟩ := a; have hs : sp = none := hs; rw [hs], ?_⟩
        unfold World.cell? at h3
        split at h3
        · rename_i hb' 
          exact (Array.getElem?_eq_some_iff.1 hb').1
        · cases h3
      · obtain ⟨v, h1, _⟩ := cell j y hy
        rw [h1]; rfl
      · obtain ⟨v, h1, h2, _⟩ := cell j y hy
        rw [h1]; exact h2
      · obtain ⟨v, h1, _, h3, _⟩ := cell j y hy
        rw [h1]; exact h3
      · obtain ⟨v, h1, _, _, h4⟩ := cell j y hy
        exact h4
    · obtain ⟨i, hi⟩ := List.getElem?_of_mem hr
      obtain ⟨k, hk⟩ := List.getElem?_of_mem hy
      have := flat_row (fun r hr => (hw r hr).1) hi hk
      exact (cell _ y this).choose_spec.2.2.2

theorem Opens.mono {Φ Ψ : List AV → Prop} (h : Opens P t Φ) (hm : ∀ xs, Φ xs → Ψ xs) : Opens P t Ψ := fun W H enc fuel cs x hx => by
  obtain ⟨xs, h1, h2⟩ := h W H enc fuel cs x hx
  exact ⟨xs, h1, hm xs h2⟩

/-- An argument of one cell. -/
theorem Opens.cell {Φ : List AV → Prop} (h : Opens P t Φ) {W : World} {H : Type} {enc : TypeId × Value → H} {v : Value} {d : DataW H} {ps : List MemPlace} (hd : DataW.Trod enc P W 0 (fun _ => true) true t v d ps)
    (hc : v.cells = #[v]) : ∃ x, Φ [x] ∧ VR W (fun b => b < W.heap.size) (fun _ => none) v x ∧ NoId x := by
  obtain ⟨fuel, hf⟩ := hd
  obtain ⟨xs, h1, h2⟩ := h W H enc fuel _ _ hf
  rw [hc] at h1
  match xs, h1, h2 with
  | [x], h1, h2 =>
    obtain ⟨g1, _, g3⟩ := h1.2 0 x rfl
    exact ⟨x, h2, g1, g3⟩
  | [], h1, _ => exact absurd h1.1 (by simp)
  | _ :: _ :: _, h1, _ => exact absurd h1.1 (by simp)

/-- An argument that is a struct. -/
theorem Opens.struct {Φ : List AV → Prop} (h : Opens P t Φ) {W : World} {H : Type} {enc : TypeId × Value → H} {cs : Array Value} {d : DataW H} {ps : List MemPlace} (hd : DataW.Trod enc P W 0 (fun _ => true) true t (.agg cs) d ps) :
    ∃ xs, Φ xs ∧ VR W (fun b => b < W.heap.size) (fun _ => none) (.agg cs) (.agg xs) ∧ NoId (.agg xs) := by
  obtain ⟨fuel, hf⟩ := hd
  obtain ⟨xs, h1, h2⟩ := h W H enc fuel _ _ hf
  have hg : ∀ i, (Value.cells (.agg cs)).toList.getD i undef = cs.getD i undef := fun i => by
    show cs.toList.getD i undef = _
    rw [List.getD, Array.getElem?_toList, Array.getD_eq_getD_getElem?]
  refine ⟨xs, h2, .agg cs xs ?_ (fun i x hx => ?_) (fun i x hx => ?_), .agg _ (fun x hx => ?_)⟩
  · have : xs.length = cs.toList.length := h1.1
    rw [this]; simp
  · have := (h1.2 i x hx).2.1
    rwa [hg] at this
  · have := (h1.2 i x hx).1
    rwa [hg] at this
  · obtain ⟨i, hi⟩ := List.getElem?_of_mem hx
    exact (h1.2 i x hi).2.2
end
end Go.AL
