/- Functions of two numbers: how many ways there are. -/
import Derived.Test.YtabgankeaagibaaB4
import Derived.Test.YtabgankeaagibaaB3
import Derived.ChangeSlices
import Derived.Below
set_option linter.unusedVariables false
namespace Go.Proofs.Ytabgankeaagibaa
open Go Go.AL NM

/-- How many ways, factor by factor. -/
def chs (r : Nat) : Nat → Nat
  | 0 => 1
  | i + 1 => chs r i * (r + (i + 1)) / (i + 1)
theorem chs_succ (r i : Nat) : chs r (i + 1) = chs r i * (r + (i + 1)) / (i + 1) := rfl
theorem chs_mono1 (r i : Nat) : chs r i ≤ chs r (i + 1) := by
  rw [chs_succ, Nat.le_div_iff_mul_le (by omega)]
  exact Nat.mul_le_mul_left _ (by omega)
theorem chs_mono (r : Nat) {i j : Nat} (h : i ≤ j) : chs r i ≤ chs r j := by
  induction h with
  | refl => exact Nat.le_refl _
  | step _ ih => exact Nat.le_trans ih (chs_mono1 r _)
theorem chs_big (r : Nat) : ∀ i, i ≤ r → 2 ^ i ≤ chs r i
  | 0, _ => Nat.le_refl _
  | i + 1, h => by
    have ih := chs_big r i (by omega)
    rw [chs_succ, Nat.le_div_iff_mul_le (by omega), Nat.pow_succ, Nat.mul_assoc]
    exact Nat.mul_le_mul ih (by omega)
theorem chs_bound {r i : Nat} (h : i ≤ r) (hl : (limbs (chs r i)).length ≤ 200) : i ≤ 6400 := by
  have h1 := chs_big r i h
  have h2 := val_lt (limbs_lim (chs r i))
  rw [val_limbs, pow32] at h2
  have h3 : 2 ^ i < 2 ^ (32 * (limbs (chs r i)).length) := Nat.lt_of_le_of_lt h1 h2
  have := (Nat.pow_lt_pow_iff_right (by decide : 1 < 2)).1 h3
  omega

/-- Is it fewer limbs than may be? -/
def chsOk (k r : Nat) (most : Int) : Prop := k = 0 ∨ ((limbs (chs r k)).length : Int) ≤ most
instance (k r : Nat) (most : Int) : Decidable (chsOk k r most) := inferInstanceAs (Decidable (_ ∨ _))
def natQ (q : Rat) : Prop := q.den = 1 ∧ 0 ≤ q.num
instance (q : Rat) : Decidable (natQ q) := inferInstanceAs (Decidable (_ ∧ _))
/-- How many ways there are to take so many of others, or why not. -/
def chooseQ (a b : Rat) (most : Int) : Rat × Int :=
  if ¬ (natQ a ∧ natQ b) then (0, 22)
  else if b.num < a.num then (0, 0)
  else if chsOk (min a.num (b.num - a.num)).toNat (max a.num (b.num - a.num)).toNat most then (((chs (max a.num (b.num - a.num)).toNat (min a.num (b.num - a.num)).toNat : Nat) : Int), 0)
  else (0, 26)

theorem int_of {q : Rat} (h : q.den = 1) : q = ((q.num : Int) : Rat) := Rat.ext rfl h
theorem sub_int {a b : Rat} (ha : a.den = 1) (hb : b.den = 1) : (b + -a).num = b.num - a.num ∧ (b + -a).den = 1 := by
  have e : b + -a = ((b.num - a.num : Int) : Rat) := by
    rw [Rat.intCast_sub, ← int_of ha, ← int_of hb, Rat.sub_eq_add_neg]
  rw [e]
  exact ⟨rfl, rfl⟩
theorem floor_nat (x i : Nat) (hi : 0 < i) (hx : (limbs x).length < 1000000) (hl : (limbs i).length < 1000000) : ∃ r, AC Try.prog 112 [WI (x : Int), WI (i : Int)] (.pure (.tup [WI ((x / i : Nat) : Int), WI r, .val (.bool true)])) := by
  have h := Floor_ok (x : Int) (i : Int) (by omega) (by rw [Int.natAbs_natCast]; omega) (by rw [Int.natAbs_natCast]; omega) (DivMod_ok _ _ (by rw [Int.natAbs_natCast]; exact hi) (by rw [Int.natAbs_natCast]; omega) (by rw [Int.natAbs_natCast]; omega))
  rw [flQ_ediv _ _ (by omega)] at h
  exact ⟨_, h⟩

theorem Choose_none (a b : Rat) (i j : Nat) (most : Int) (hi : dn i = a.den) (hj : dn j = b.den) (h : ¬ (natQ a ∧ natQ b)) : AC Try.prog 136 [RA a.num i, RA b.num j, .val (.int .i64 most)] (.pure (.tup [RA 0 0, .val (.int .i64 22)])) := by
  refine RZ22 ?_
  have hWa := IsWhole_ok a.num i
  have hWb := IsWhole_ok b.num j
  have hSa := RaSign_ok a.num i
  have hSb := RaSign_ok b.num j
  rw [hi] at hWa
  rw [hj] at hWb
  refine AC.of_body TTok Try.func136 rfl (enter_of Try.func136 (by kernel_rfl) (by kernel_rfl)) (noid3 (RA_noid _ _) (RA_noid _ _) (.val _)) (.tup _ (noid2 RZ_noid (.val _))) (Nat.le_of_ble_eq_true rfl) ?_
  by_cases da : a.den = 1
  · rw [decide_eq_true da] at hWa
    by_cases db : b.den = 1
    · rw [decide_eq_true db] at hWb
      by_cases na : a.num < 0
      · rw [show sigW a.num = -1 by unfold sigW; rw [if_neg (by omega), if_pos na]] at hSa
        unfold RA RZ at *
        repeat
          conv => whnf
          first
            | refine ⟨_, by assumption, ?_⟩
            | refine ⟨(Nat.le_of_ble_eq_true rfl), _, by assumption, ?_⟩
            | refine ⟨by kernel_rfl, ?_⟩
            | exact rfl
            | refine ⟨by decide, ?_⟩
      · have nb : b.num < 0 := Decidable.of_not_not (fun hb => h ⟨⟨da, by omega⟩, ⟨db, by omega⟩⟩)
        rw [show sigW b.num = -1 by unfold sigW; rw [if_neg (by omega), if_pos nb]] at hSb
        rcases sig_lit a.num with ⟨h1, e1⟩ | ⟨h1, e1⟩ | ⟨h1, e1⟩
        · omega
        · rw [e1] at hSa
          unfold RA RZ at *
          repeat
            conv => whnf
            first
              | refine ⟨_, by assumption, ?_⟩
              | refine ⟨(Nat.le_of_ble_eq_true rfl), _, by assumption, ?_⟩
              | refine ⟨by kernel_rfl, ?_⟩
              | exact rfl
              | refine ⟨by decide, ?_⟩
        · rw [e1] at hSa
          unfold RA RZ at *
          repeat
            conv => whnf
            first
              | refine ⟨_, by assumption, ?_⟩
              | refine ⟨(Nat.le_of_ble_eq_true rfl), _, by assumption, ?_⟩
              | refine ⟨by kernel_rfl, ?_⟩
              | exact rfl
              | refine ⟨by decide, ?_⟩
    · rw [decide_eq_false db] at hWb
      unfold RA RZ at *
      repeat
        conv => whnf
        first
          | refine ⟨_, by assumption, ?_⟩
          | refine ⟨(Nat.le_of_ble_eq_true rfl), _, by assumption, ?_⟩
          | refine ⟨by kernel_rfl, ?_⟩
          | exact rfl
          | refine ⟨by decide, ?_⟩
  · rw [decide_eq_false da] at hWa
    unfold RA RZ at *
    repeat
      conv => whnf
      first
        | refine ⟨_, by assumption, ?_⟩
        | refine ⟨(Nat.le_of_ble_eq_true rfl), _, by assumption, ?_⟩
        | refine ⟨by kernel_rfl, ?_⟩
        | exact rfl
        | refine ⟨by decide, ?_⟩

section
variable (a b : Rat) (i j : Nat) (most : Int) (hi : dn i = a.den) (hj : dn j = b.den) (hm : most ≤ 200) (la : Sz a 90) (lb : Sz b 90) (na : natQ a) (nb : natQ b)
include hi hj la lb na nb
theorem Choose_less (h : b.num < a.num) : AC Try.prog 136 [RA a.num i, RA b.num j, .val (.int .i64 most)] (.pure (.tup [RA 0 0, .val (.int .i64 0)])) := by
  refine RZ22 ?_
  have hWa := IsWhole_ok a.num i
  have hWb := IsWhole_ok b.num j
  have hSa := RaSign_ok a.num i
  have hSb := RaSign_ok b.num j
  have hM := QMinus_ok a.num i
  have hP := QPlus1 b (-a) j a.den hj (dn_den a) (lb.mono (by decide)) ((Sz_neg la).mono (by decide))
  have hSr := RaSign_ok (b + -a).num (b + -a).den
  rw [hi, decide_eq_true na.1] at hWa
  rw [hj, decide_eq_true nb.1] at hWb
  rw [hi] at hM
  have hM : AC Try.prog 43 [RA a.num i] (.pure (RA (-a).num a.den)) := hM
  have e1 : sigW a.num = 0 ∨ sigW a.num = 1 := by
    rcases sig_lit a.num with ⟨h1, e1⟩ | ⟨h1, e1⟩ | ⟨h1, e1⟩
    · exact absurd na.2 (by omega)
    · exact .inl e1
    · exact .inr e1
  have e2 : sigW b.num = 0 ∨ sigW b.num = 1 := by
    rcases sig_lit b.num with ⟨h1, e1⟩ | ⟨h1, e1⟩ | ⟨h1, e1⟩
    · exact absurd nb.2 (by omega)
    · exact .inl e1
    · exact .inr e1
  obtain ⟨s1, s2⟩ := sub_int na.1 nb.1
  rw [show sigW (b + -a).num = -1 by unfold sigW; rw [if_neg (by omega), if_pos (by omega)]] at hSr
  refine AC.of_body TTok Try.func136 rfl (enter_of Try.func136 (by kernel_rfl) (by kernel_rfl)) (noid3 (RA_noid _ _) (RA_noid _ _) (.val _)) (.tup _ (noid2 RZ_noid (.val _))) (Nat.le_of_ble_eq_true rfl) ?_
  clear s1 s2
  revert hP hSr
  generalize b + -a = r
  intro hP hSr
  rcases e1 with e1 | e1 <;> rcases e2 with e2 | e2
  all_goals
    rw [e1] at hSa
    rw [e2] at hSb
    unfold RA RZ rowR at *
    repeat
      conv => whnf
      first
        | refine ⟨_, by assumption, ?_⟩
        | refine ⟨(Nat.le_of_ble_eq_true rfl), _, by assumption, ?_⟩
        | refine ⟨by kernel_rfl, ?_⟩
        | exact rfl
        | refine ⟨by decide, ?_⟩
include hm
theorem Choose_gen (h : a.num ≤ b.num) (res : AV) (hno : NoId res)
    (r1 : ¬ chsOk (min a.num (b.num - a.num)).toNat (max a.num (b.num - a.num)).toNat most → AV.tup [RZ, .val (.int .i64 26)] = res)
    (r2 : chsOk (min a.num (b.num - a.num)).toNat (max a.num (b.num - a.num)).toNat most → AV.tup [RA ((chs (max a.num (b.num - a.num)).toNat (min a.num (b.num - a.num)).toNat : Nat) : Int) 1, .val (.int .i64 0)] = res) :
    AC Try.prog 136 [RA a.num i, RA b.num j, .val (.int .i64 most)] (.pure res) := by
  have hWa := IsWhole_ok a.num i
  have hWb := IsWhole_ok b.num j
  have hSa := RaSign_ok a.num i
  have hSb := RaSign_ok b.num j
  have hM := QMinus_ok a.num i
  have hP := QPlus1 b (-a) j a.den hj (dn_den a) (lb.mono (by decide)) ((Sz_neg la).mono (by decide))
  have hSr := RaSign_ok (b + -a).num (b + -a).den
  rw [hi, decide_eq_true na.1] at hWa
  rw [hj, decide_eq_true nb.1] at hWb
  rw [hi] at hM
  have hM : AC Try.prog 43 [RA a.num i] (.pure (RA (-a).num a.den)) := hM
  have e1 : sigW a.num = 0 ∨ sigW a.num = 1 := by
    rcases sig_lit a.num with ⟨h1, e1⟩ | ⟨h1, e1⟩ | ⟨h1, e1⟩
    · exact absurd na.2 (by omega)
    · exact .inl e1
    · exact .inr e1
  have e2 : sigW b.num = 0 ∨ sigW b.num = 1 := by
    rcases sig_lit b.num with ⟨h1, e1⟩ | ⟨h1, e1⟩ | ⟨h1, e1⟩
    · exact absurd nb.2 (by omega)
    · exact .inl e1
    · exact .inr e1
  obtain ⟨s1, s2⟩ := sub_int na.1 nb.1
  have sR : Sz (b + -a) 361 := (Sz_add lb (Sz_neg la)).mono (by decide)
  have hC := QCmp_ok (b + -a) a (b + -a).den i (dn_den _) hi (sR.mono (by decide)) (la.mono (by decide))
  have eR : sigW (b + -a).num = 0 ∨ sigW (b + -a).num = 1 := by
    rcases sig_lit (b + -a).num with ⟨h1, e1⟩ | ⟨h1, e1⟩ | ⟨h1, e1⟩
    · omega
    · exact .inl e1
    · exact .inr e1
  refine AC.of_body TTok Try.func136 rfl (enter_of Try.func136 (by kernel_rfl) (by kernel_rfl)) (noid3 (RA_noid _ _) (RA_noid _ _) (.val _)) hno (Nat.le_of_ble_eq_true rfl) ?_
  have hlt : cmpQ (b + -a) a < 0 ↔ b.num - a.num < a.num := by
    rw [cmpQ_neg, Rat.lt_iff, s1, s2, na.1]
    simp
  have hdR : dn (b + -a).den = 1 := by rw [dn_den, s2]
  rw [na.1] at hi
  obtain ⟨dr, hdr⟩ : ∃ d, d = (b + -a).den := ⟨_, rfl⟩
  obtain ⟨nr, hnr⟩ : ∃ n, n = (b + -a).num := ⟨_, rfl⟩
  rw [← hdr] at hP hSr hC hdR
  rw [← hnr] at hP hSr hC eR s1
  have f1 : decide (sigW a.num < 0) = false := decide_eq_false (by rcases e1 with e | e <;> rw [e] <;> decide)
  have f2 : decide (sigW b.num < 0) = false := decide_eq_false (by rcases e2 with e | e <;> rw [e] <;> decide)
  have fR : decide (sigW nr < 0) = false := decide_eq_false (by rcases eR with e | e <;> rw [e] <;> decide)
  have lnr := sR.1
  rw [← hnr] at lnr
  clear sR e1 e2 eR
  have han := na.2
  have lan := la.1
  clear na nb la lb
  by_cases hs : b.num - a.num < a.num
  · have fs : decide (cmpQ (b + -a) a < 0) = true := decide_eq_true (hlt.2 hs)
    clear hlt
    generalize cmpQ (b + -a) a = cq at hC fs
    clear hnr hdr
    generalize (b + -a) = qr at hP hC
    generalize -a = qn at hM hP
    generalize sigW a.num = g1 at *
    generalize sigW b.num = g2 at *
    generalize sigW nr = g3 at *
    have hTop := RTop_ok a.num i
    have hI := RInt_ok nr dr
    rw [hdR] at hI
    obtain ⟨k, hk⟩ : ∃ k : Nat, nr = (k : Int) := ⟨(nr).toNat, by omega⟩
    obtain ⟨r, hr⟩ : ∃ r : Nat, a.num = (r : Int) := ⟨(a.num).toNat, by omega⟩
    rw [show (min a.num (b.num - a.num)).toNat = k by omega, show (max a.num (b.num - a.num)).toNat = r by omega] at r1 r2
    have hkr : k ≤ r := by omega
    have lr : (limbs r).length ≤ 400 := by
      have := lan
      rw [show r = (a.num).natAbs by omega]
      omega
    obtain ⟨v, ok, hI, hv⟩ : ∃ v ok, AC Try.prog 48 [RA nr dr] (.pure (.tup [.val (.int .i64 v), .val (.bool ok)])) ∧ ((ok = true ∧ v = (k : Int)) ∨ (ok = false ∧ 6500 < k)) := by
      by_cases hf : fit nr
      · rw [if_pos ⟨rfl, hf⟩, decide_eq_true (show fitQ nr 1 from ⟨rfl, hf⟩)] at hI
        exact ⟨_, _, hI, .inl ⟨rfl, hk⟩⟩
      · rw [if_neg (fun h => hf h.2), decide_eq_false (show ¬ fitQ nr 1 from fun h => hf h.2)] at hI
        exact ⟨_, _, hI, .inr ⟨rfl, by unfold fit at hf; omega⟩⟩
    have hF1 := From_ok 1 (by decide)
    have hWh := Whole_ok ((chs r k : Nat) : Int)
    unfold RA WI rowR at *
    conv => whnf
    refine ⟨_, hWa, ?_⟩
    conv => whnf
    refine ⟨_, hWb, ?_⟩
    conv => whnf
    refine ⟨_, hSa, ?_⟩
    conv => whnf
    refine caseb (fun h => Bool.noConfusion ((f1).symm.trans h)) (fun _ => ?_)
    conv => whnf
    refine ⟨_, hSb, ?_⟩
    conv => whnf
    refine caseb (fun h => Bool.noConfusion ((f2).symm.trans h)) (fun _ => ?_)
    conv => whnf
    refine ⟨_, hM, ?_⟩
    conv => whnf
    refine ⟨(Nat.le_of_ble_eq_true rfl), _, hP, ?_⟩
    conv => whnf
    refine ⟨by kernel_rfl, ?_⟩
    conv => whnf
    refine ⟨_, hSr, ?_⟩
    conv => whnf
    refine caseb (fun h => Bool.noConfusion ((fR).symm.trans h)) (fun _ => ?_)
    conv => whnf
    refine ⟨_, hC, ?_⟩
    conv => whnf
    refine caseb (fun _ => ?_) (fun h => Bool.noConfusion ((fs).symm.trans h))
    conv => whnf
    refine ⟨_, hI, ?_⟩
    conv => whnf
    refine ⟨_, hF1, ?_⟩
    conv => whnf
    refine SW.loopM TTok (fun j : Nat => [(2, .val (.int .i64 most)), (6, .lp 16 0), (8, .lp 216 0), (9, .val (.int .i64 v)), (10, .val (.bool ok)), (11, .lp 384 0), (12, .val (.int .i64 ((j : Int) + 1)))])
      (fun j => [(16, .cells 3 [[.sl 0 [] true, .val (.bool false), .sl 0 [] true]]), (216, .cells 3 [[.sl 1 (irows .u32 (limbs (a.num).natAbs)) false, .val (.bool (decide (a.num < 0))), .sl 1 (irows .u32 (limbs i)) false]]), (384, .cells 2 [[.sl 1 (irows .u32 (limbs ((chs r j : Nat) : Int).natAbs)) false, .val (.bool (decide (((chs r j : Nat) : Int) < 0)))]])]) 408 86 rfl (fun j => 6500 - j)
      (fun j => j ≤ k ∧ (j = 0 ∨ ((limbs (chs r j)).length : Int) ≤ most)) 0 [] ⟨Nat.zero_le _, .inl rfl⟩
      ⟨⟨rfl, rfl⟩, ⟨rfl, rfl⟩, ⟨rfl, rfl⟩, ⟨rfl, rfl⟩, ⟨rfl, rfl⟩, ⟨rfl, rfl⟩, ⟨rfl, rfl⟩, trivial⟩ ⟨⟨rfl, .inr ⟨rfl, rfl⟩⟩, ⟨rfl, .inr ⟨rfl, rfl⟩⟩, ⟨rfl, .inr ⟨rfl, rfl⟩⟩, trivial⟩ rfl ?_
    intro j hJ
    have hj1 : j ≤ k := hJ.1
    have hj2 : j = 0 ∨ ((limbs (chs r j)).length : Int) ≤ most := hJ.2
    clear hJ
    have lc : (limbs (chs r j)).length ≤ 200 := by
      rcases hj2 with h | h
      · subst h; exact Nat.le_trans (limbs_small (n := 1) (by decide)) (by decide)
      · omega
    have hjb := chs_bound (Nat.le_trans hj1 hkr) lc
    have lj : (limbs (j + 1)).length ≤ 1 := limbs_small (by omega)
    have hFr := From_ok ((j : Int) + 1) (by omega)
    have lrj := limbs_abs_add (r : Int) ((j : Int) + 1)
    rw [Int.natAbs_natCast, show ((j : Int) + 1).natAbs = j + 1 by omega] at lrj
    have hPl := Plus1 (r : Int) ((j : Int) + 1) (by rw [Int.natAbs_natCast]; omega) (by rw [show ((j : Int) + 1).natAbs = j + 1 by omega]; omega) (by omega)
    have lcr := limbs_abs_mul ((chs r j : Nat) : Int) ((r : Int) + ((j : Int) + 1))
    rw [Int.natAbs_natCast] at lcr
    have ec : ((chs r j : Nat) : Int) * ((r : Int) + ((j : Int) + 1)) = ((chs r j * (r + (j + 1)) : Nat) : Int) := by rw [Int.natCast_mul, Int.natCast_add, Int.natCast_add]; rfl
    have hTi := Times1 ((chs r j : Nat) : Int) ((r : Int) + ((j : Int) + 1)) (by rw [Int.natAbs_natCast]; omega) (by omega) (by omega)
    rw [ec] at hTi lcr
    rw [Int.natAbs_natCast] at lcr
    obtain ⟨w, hFl⟩ := floor_nat (chs r j * (r + (j + 1))) (j + 1) (by omega) (by omega) (by omega)
    rw [← chs_succ, show ((j + 1 : Nat) : Int) = (j : Int) + 1 from rfl] at hFl
    have hLim := Limbs_ok ((chs r (j + 1) : Nat) : Int).natAbs
    rw [← hr] at hPl hTi
    clear ec lcr lrj lj lc
    revert hPl hTi hFl
    generalize ((chs r j * (r + (j + 1)) : Nat) : Int) = y
    generalize a.num + ((j : Int) + 1) = z
    intro hPl hTi hFl
    unfold WI rowW natA at *
    rcases hv with ⟨rfl, rfl⟩ | ⟨rfl, hbig⟩
    · conv => whnf
      refine caseb (fun h4 => ?_) (fun h4 => ?_)
      · have h4' : (j : Int) + 1 ≤ (k : Int) := of_decide_eq_true h4
        conv => whnf
        refine ⟨_, hTop, ?_⟩
        conv => whnf
        refine ⟨_, hFr, ?_⟩
        conv => whnf
        refine ⟨(Nat.le_of_ble_eq_true rfl), _, hPl, ?_⟩
        conv => whnf
        refine ⟨(Nat.le_of_ble_eq_true rfl), _, hTi, ?_⟩
        conv => whnf
        refine ⟨_, hFr, ?_⟩
        conv => whnf
        refine ⟨_, hFl, ?_⟩
        conv => whnf
        refine ⟨by kernel_rfl, ?_⟩
        conv => whnf
        refine ⟨_, hLim, ?_⟩
        conv => whnf
        refine caseb (fun h5 => ?_) (fun h5 => ?_)
        · have h5' : ((limbs (chs r (j + 1))).length : Int) > most := of_decide_eq_true h5
          have hmo := limbs_len_mono (chs_mono r (show j + 1 ≤ k by omega))
          conv => whnf
          exact r1 (fun hc => by rcases hc with hc | hc <;> omega)
        · have h5' : ¬ ((limbs (chs r (j + 1))).length : Int) > most := of_decide_eq_false h5
          conv => whnf
          refine ⟨j + 1, [], (by show 6500 - (j + 1) < 6500 - j; omega), ⟨(by show j + 1 ≤ k; omega), .inr (by show ((limbs (chs r (j + 1))).length : Int) ≤ most; omega)⟩, ⟨⟨rfl, rfl⟩, ⟨rfl, rfl⟩, ⟨rfl, rfl⟩, ⟨rfl, rfl⟩, ⟨rfl, rfl⟩, ⟨rfl, rfl⟩, ⟨valI ?_, rfl⟩, trivial⟩, ⟨⟨rfl, .inr ⟨rfl, rfl⟩⟩, ⟨rfl, .inr ⟨rfl, rfl⟩⟩, ⟨rfl, .inr ⟨rfl, rfl⟩⟩, trivial⟩, rfl⟩
          show IntKind.i64.wrap ((j : Int) + 1 + 1) = ((j + 1 : Nat) : Int) + 1
          rw [IntWalk.i64_in _ (by omega)]; omega
      · have h4' : ¬ (j : Int) + 1 ≤ (k : Int) := of_decide_eq_false h4
        have hjk : j = k := by omega
        rw [hjk] at hj2 ⊢
        conv => whnf
        refine ⟨_, hWh, ?_⟩
        conv => whnf
        exact r2 (by rcases hj2 with h | h; exact .inl h; exact .inr h)
    · have h4' : (j : Int) + 1 ≤ (k : Int) := by omega
      conv => whnf
      refine ⟨_, hTop, ?_⟩
      conv => whnf
      refine ⟨_, hFr, ?_⟩
      conv => whnf
      refine ⟨(Nat.le_of_ble_eq_true rfl), _, hPl, ?_⟩
      conv => whnf
      refine ⟨(Nat.le_of_ble_eq_true rfl), _, hTi, ?_⟩
      conv => whnf
      refine ⟨_, hFr, ?_⟩
      conv => whnf
      refine ⟨_, hFl, ?_⟩
      conv => whnf
      refine ⟨by kernel_rfl, ?_⟩
      conv => whnf
      refine ⟨_, hLim, ?_⟩
      conv => whnf
      refine caseb (fun h5 => ?_) (fun h5 => ?_)
      · have h5' : ((limbs (chs r (j + 1))).length : Int) > most := of_decide_eq_true h5
        have hmo := limbs_len_mono (chs_mono r (show j + 1 ≤ k by omega))
        conv => whnf
        exact r1 (fun hc => by rcases hc with hc | hc <;> omega)
      · have h5' : ¬ ((limbs (chs r (j + 1))).length : Int) > most := of_decide_eq_false h5
        conv => whnf
        refine ⟨j + 1, [], (by show 6500 - (j + 1) < 6500 - j; omega), ⟨(by show j + 1 ≤ k; omega), .inr (by show ((limbs (chs r (j + 1))).length : Int) ≤ most; omega)⟩, ⟨⟨rfl, rfl⟩, ⟨rfl, rfl⟩, ⟨rfl, rfl⟩, ⟨rfl, rfl⟩, ⟨rfl, rfl⟩, ⟨rfl, rfl⟩, ⟨valI ?_, rfl⟩, trivial⟩, ⟨⟨rfl, .inr ⟨rfl, rfl⟩⟩, ⟨rfl, .inr ⟨rfl, rfl⟩⟩, ⟨rfl, .inr ⟨rfl, rfl⟩⟩, trivial⟩, rfl⟩
        show IntKind.i64.wrap ((j : Int) + 1 + 1) = ((j + 1 : Nat) : Int) + 1
        rw [IntWalk.i64_in _ (by omega)]; omega
  · have fs : decide (cmpQ (b + -a) a < 0) = false := decide_eq_false (fun h => hs (hlt.1 h))
    clear hlt
    generalize cmpQ (b + -a) a = cq at hC fs
    clear hnr hdr
    generalize (b + -a) = qr at hP hC
    generalize -a = qn at hM hP
    generalize sigW a.num = g1 at *
    generalize sigW b.num = g2 at *
    generalize sigW nr = g3 at *
    have hTop := RTop_ok nr dr
    have hI := RInt_ok a.num i
    rw [hi] at hI
    obtain ⟨k, hk⟩ : ∃ k : Nat, a.num = (k : Int) := ⟨(a.num).toNat, by omega⟩
    obtain ⟨r, hr⟩ : ∃ r : Nat, nr = (r : Int) := ⟨(nr).toNat, by omega⟩
    rw [show (min a.num (b.num - a.num)).toNat = k by omega, show (max a.num (b.num - a.num)).toNat = r by omega] at r1 r2
    have hkr : k ≤ r := by omega
    have lr : (limbs r).length ≤ 400 := by
      have := lnr
      rw [show r = (nr).natAbs by omega]
      omega
    obtain ⟨v, ok, hI, hv⟩ : ∃ v ok, AC Try.prog 48 [RA a.num i] (.pure (.tup [.val (.int .i64 v), .val (.bool ok)])) ∧ ((ok = true ∧ v = (k : Int)) ∨ (ok = false ∧ 6500 < k)) := by
      by_cases hf : fit a.num
      · rw [if_pos ⟨rfl, hf⟩, decide_eq_true (show fitQ a.num 1 from ⟨rfl, hf⟩)] at hI
        exact ⟨_, _, hI, .inl ⟨rfl, hk⟩⟩
      · rw [if_neg (fun h => hf h.2), decide_eq_false (show ¬ fitQ a.num 1 from fun h => hf h.2)] at hI
        exact ⟨_, _, hI, .inr ⟨rfl, by unfold fit at hf; omega⟩⟩
    have hF1 := From_ok 1 (by decide)
    have hWh := Whole_ok ((chs r k : Nat) : Int)
    unfold RA WI rowR at *
    conv => whnf
    refine ⟨_, hWa, ?_⟩
    conv => whnf
    refine ⟨_, hWb, ?_⟩
    conv => whnf
    refine ⟨_, hSa, ?_⟩
    conv => whnf
    refine caseb (fun h => Bool.noConfusion ((f1).symm.trans h)) (fun _ => ?_)
    conv => whnf
    refine ⟨_, hSb, ?_⟩
    conv => whnf
    refine caseb (fun h => Bool.noConfusion ((f2).symm.trans h)) (fun _ => ?_)
    conv => whnf
    refine ⟨_, hM, ?_⟩
    conv => whnf
    refine ⟨(Nat.le_of_ble_eq_true rfl), _, hP, ?_⟩
    conv => whnf
    refine ⟨by kernel_rfl, ?_⟩
    conv => whnf
    refine ⟨_, hSr, ?_⟩
    conv => whnf
    refine caseb (fun h => Bool.noConfusion ((fR).symm.trans h)) (fun _ => ?_)
    conv => whnf
    refine ⟨_, hC, ?_⟩
    conv => whnf
    refine caseb (fun h => Bool.noConfusion ((fs).symm.trans h)) (fun _ => ?_)
    conv => whnf
    refine ⟨_, hI, ?_⟩
    conv => whnf
    refine ⟨_, hF1, ?_⟩
    conv => whnf
    refine SW.loopM TTok (fun j : Nat => [(2, .val (.int .i64 most)), (6, .lp 16 0), (8, .lp 216 0), (9, .val (.int .i64 v)), (10, .val (.bool ok)), (11, .lp 352 0), (12, .val (.int .i64 ((j : Int) + 1)))])
      (fun j => [(16, .cells 3 [[.sl 0 [] true, .val (.bool false), .sl 0 [] true]]), (216, .cells 3 [[.sl 1 (irows .u32 (limbs (nr).natAbs)) false, .val (.bool (decide (nr < 0))), .sl 1 (irows .u32 (limbs dr)) false]]), (352, .cells 2 [[.sl 1 (irows .u32 (limbs ((chs r j : Nat) : Int).natAbs)) false, .val (.bool (decide (((chs r j : Nat) : Int) < 0)))]])]) 376 86 rfl (fun j => 6500 - j)
      (fun j => j ≤ k ∧ (j = 0 ∨ ((limbs (chs r j)).length : Int) ≤ most)) 0 [] ⟨Nat.zero_le _, .inl rfl⟩
      ⟨⟨rfl, rfl⟩, ⟨rfl, rfl⟩, ⟨rfl, rfl⟩, ⟨rfl, rfl⟩, ⟨rfl, rfl⟩, ⟨rfl, rfl⟩, ⟨rfl, rfl⟩, trivial⟩ ⟨⟨rfl, .inr ⟨rfl, rfl⟩⟩, ⟨rfl, .inr ⟨rfl, rfl⟩⟩, ⟨rfl, .inr ⟨rfl, rfl⟩⟩, trivial⟩ rfl ?_
    intro j hJ
    have hj1 : j ≤ k := hJ.1
    have hj2 : j = 0 ∨ ((limbs (chs r j)).length : Int) ≤ most := hJ.2
    clear hJ
    have lc : (limbs (chs r j)).length ≤ 200 := by
      rcases hj2 with h | h
      · subst h; exact Nat.le_trans (limbs_small (n := 1) (by decide)) (by decide)
      · omega
    have hjb := chs_bound (Nat.le_trans hj1 hkr) lc
    have lj : (limbs (j + 1)).length ≤ 1 := limbs_small (by omega)
    have hFr := From_ok ((j : Int) + 1) (by omega)
    have lrj := limbs_abs_add (r : Int) ((j : Int) + 1)
    rw [Int.natAbs_natCast, show ((j : Int) + 1).natAbs = j + 1 by omega] at lrj
    have hPl := Plus1 (r : Int) ((j : Int) + 1) (by rw [Int.natAbs_natCast]; omega) (by rw [show ((j : Int) + 1).natAbs = j + 1 by omega]; omega) (by omega)
    have lcr := limbs_abs_mul ((chs r j : Nat) : Int) ((r : Int) + ((j : Int) + 1))
    rw [Int.natAbs_natCast] at lcr
    have ec : ((chs r j : Nat) : Int) * ((r : Int) + ((j : Int) + 1)) = ((chs r j * (r + (j + 1)) : Nat) : Int) := by rw [Int.natCast_mul, Int.natCast_add, Int.natCast_add]; rfl
    have hTi := Times1 ((chs r j : Nat) : Int) ((r : Int) + ((j : Int) + 1)) (by rw [Int.natAbs_natCast]; omega) (by omega) (by omega)
    rw [ec] at hTi lcr
    rw [Int.natAbs_natCast] at lcr
    obtain ⟨w, hFl⟩ := floor_nat (chs r j * (r + (j + 1))) (j + 1) (by omega) (by omega) (by omega)
    rw [← chs_succ, show ((j + 1 : Nat) : Int) = (j : Int) + 1 from rfl] at hFl
    have hLim := Limbs_ok ((chs r (j + 1) : Nat) : Int).natAbs
    rw [← hr] at hPl hTi
    clear ec lcr lrj lj lc
    revert hPl hTi hFl
    generalize ((chs r j * (r + (j + 1)) : Nat) : Int) = y
    generalize nr + ((j : Int) + 1) = z
    intro hPl hTi hFl
    unfold WI rowW natA at *
    rcases hv with ⟨rfl, rfl⟩ | ⟨rfl, hbig⟩
    · conv => whnf
      refine caseb (fun h4 => ?_) (fun h4 => ?_)
      · have h4' : (j : Int) + 1 ≤ (k : Int) := of_decide_eq_true h4
        conv => whnf
        refine ⟨_, hTop, ?_⟩
        conv => whnf
        refine ⟨_, hFr, ?_⟩
        conv => whnf
        refine ⟨(Nat.le_of_ble_eq_true rfl), _, hPl, ?_⟩
        conv => whnf
        refine ⟨(Nat.le_of_ble_eq_true rfl), _, hTi, ?_⟩
        conv => whnf
        refine ⟨_, hFr, ?_⟩
        conv => whnf
        refine ⟨_, hFl, ?_⟩
        conv => whnf
        refine ⟨by kernel_rfl, ?_⟩
        conv => whnf
        refine ⟨_, hLim, ?_⟩
        conv => whnf
        refine caseb (fun h5 => ?_) (fun h5 => ?_)
        · have h5' : ((limbs (chs r (j + 1))).length : Int) > most := of_decide_eq_true h5
          have hmo := limbs_len_mono (chs_mono r (show j + 1 ≤ k by omega))
          conv => whnf
          exact r1 (fun hc => by rcases hc with hc | hc <;> omega)
        · have h5' : ¬ ((limbs (chs r (j + 1))).length : Int) > most := of_decide_eq_false h5
          conv => whnf
          refine ⟨j + 1, [], (by show 6500 - (j + 1) < 6500 - j; omega), ⟨(by show j + 1 ≤ k; omega), .inr (by show ((limbs (chs r (j + 1))).length : Int) ≤ most; omega)⟩, ⟨⟨rfl, rfl⟩, ⟨rfl, rfl⟩, ⟨rfl, rfl⟩, ⟨rfl, rfl⟩, ⟨rfl, rfl⟩, ⟨rfl, rfl⟩, ⟨valI ?_, rfl⟩, trivial⟩, ⟨⟨rfl, .inr ⟨rfl, rfl⟩⟩, ⟨rfl, .inr ⟨rfl, rfl⟩⟩, ⟨rfl, .inr ⟨rfl, rfl⟩⟩, trivial⟩, rfl⟩
          show IntKind.i64.wrap ((j : Int) + 1 + 1) = ((j + 1 : Nat) : Int) + 1
          rw [IntWalk.i64_in _ (by omega)]; omega
      · have h4' : ¬ (j : Int) + 1 ≤ (k : Int) := of_decide_eq_false h4
        have hjk : j = k := by omega
        rw [hjk] at hj2 ⊢
        conv => whnf
        refine ⟨_, hWh, ?_⟩
        conv => whnf
        exact r2 (by rcases hj2 with h | h; exact .inl h; exact .inr h)
    · have h4' : (j : Int) + 1 ≤ (k : Int) := by omega
      conv => whnf
      refine ⟨_, hTop, ?_⟩
      conv => whnf
      refine ⟨_, hFr, ?_⟩
      conv => whnf
      refine ⟨(Nat.le_of_ble_eq_true rfl), _, hPl, ?_⟩
      conv => whnf
      refine ⟨(Nat.le_of_ble_eq_true rfl), _, hTi, ?_⟩
      conv => whnf
      refine ⟨_, hFr, ?_⟩
      conv => whnf
      refine ⟨_, hFl, ?_⟩
      conv => whnf
      refine ⟨by kernel_rfl, ?_⟩
      conv => whnf
      refine ⟨_, hLim, ?_⟩
      conv => whnf
      refine caseb (fun h5 => ?_) (fun h5 => ?_)
      · have h5' : ((limbs (chs r (j + 1))).length : Int) > most := of_decide_eq_true h5
        have hmo := limbs_len_mono (chs_mono r (show j + 1 ≤ k by omega))
        conv => whnf
        exact r1 (fun hc => by rcases hc with hc | hc <;> omega)
      · have h5' : ¬ ((limbs (chs r (j + 1))).length : Int) > most := of_decide_eq_false h5
        conv => whnf
        refine ⟨j + 1, [], (by show 6500 - (j + 1) < 6500 - j; omega), ⟨(by show j + 1 ≤ k; omega), .inr (by show ((limbs (chs r (j + 1))).length : Int) ≤ most; omega)⟩, ⟨⟨rfl, rfl⟩, ⟨rfl, rfl⟩, ⟨rfl, rfl⟩, ⟨rfl, rfl⟩, ⟨rfl, rfl⟩, ⟨rfl, rfl⟩, ⟨valI ?_, rfl⟩, trivial⟩, ⟨⟨rfl, .inr ⟨rfl, rfl⟩⟩, ⟨rfl, .inr ⟨rfl, rfl⟩⟩, ⟨rfl, .inr ⟨rfl, rfl⟩⟩, trivial⟩, rfl⟩
        show IntKind.i64.wrap ((j : Int) + 1 + 1) = ((j + 1 : Nat) : Int) + 1
        rw [IntWalk.i64_in _ (by omega)]; omega
end

theorem Choose_ok (a b : Rat) (i j : Nat) (most : Int) (hi : dn i = a.den) (hj : dn j = b.den) (hm : most ≤ 200) (la : Sz a 90) (lb : Sz b 90) : ∃ d, dn d = (chooseQ a b most).1.den ∧
    AC Try.prog 136 [RA a.num i, RA b.num j, .val (.int .i64 most)] (.pure (.tup [RA (chooseQ a b most).1.num d, .val (.int .i64 (chooseQ a b most).2)])) := by
  unfold chooseQ
  by_cases hn : natQ a ∧ natQ b
  · rw [if_neg (fun h => h hn)]
    by_cases hl : b.num < a.num
    · rw [if_pos hl]
      exact ⟨0, rfl, Choose_less a b i j most hi hj la lb hn.1 hn.2 hl⟩
    · rw [if_neg hl]
      by_cases hc : chsOk (min a.num (b.num - a.num)).toNat (max a.num (b.num - a.num)).toNat most
      · rw [if_pos hc]
        exact ⟨1, rfl, Choose_gen a b i j most hi hj hm la lb hn.1 hn.2 (by omega) _ (.tup _ (noid2 (RA_noid _ _) (.val _))) (fun h => absurd hc h) (fun _ => rfl)⟩
      · rw [if_neg hc]
        exact ⟨0, rfl, RZ22 (Choose_gen a b i j most hi hj hm la lb hn.1 hn.2 (by omega) _ (.tup _ (noid2 RZ_noid (.val _))) (fun _ => rfl) (fun h => absurd h hc))⟩
  · rw [if_pos hn]
    exact ⟨0, rfl, Choose_none a b i j most hi hj hn⟩

end Go.Proofs.Ytabgankeaagibaa

/- Functions of two numbers: the document's ways. -/
set_option linter.unusedVariables false
namespace Go.Proofs.Ytabgankeaagibaa
open Go Go.AL NM

theorem decS_eq (n m : Nat) : ((decS n).toList == (decS m).toList) = decide (n = m) :=
  (decS_is n (decL m) (fun x hx => by have := decL_byt m x hx; omega)).trans (decide_eq_decide.2 ⟨fun h => decL_inj h, fun h => by rw [h]⟩)
end Go.Proofs.Ytabgankeaagibaa

/- Functions of two numbers: what reckons. -/
set_option linter.unusedVariables false
namespace Go.Proofs.Ytabgankeaagibaa
open Go Go.AL NM

/-- What a reckoning function makes of two numbers. -/
def reckonQ (c : Int) (a b : Rat) (most : Int) : Rat × Int :=
  if c = 43 then (a + b, 0)
  else if c = 45 then (a + -b, 0)
  else if c = 215 then (a * b, 0)
  else if c = 247 then (if b ≠ 0 then (a / b, 0) else if a = 0 then (1, 0) else (0, 22))
  else if c = 8968 then (if a < b then b else a, 0)
  else if c = 8970 then (if a < b then a else b, 0)
  else if c = 124 then (restQ a b, 0)
  else if c = 42 then powerQ a b most
  else if c = 33 then chooseQ a b most
  else (0, 22)
theorem noid4 {a b c d : AV} (ha : NoId a) (hb : NoId b) (hc : NoId c) (hd : NoId d) : ∀ x ∈ [a, b, c, d], NoId x := by
  intro x hx
  simp only [List.mem_cons, List.not_mem_nil, or_false] at hx
  rcases hx with rfl | rfl | rfl | rfl <;> assumption
theorem not_f {b : Bool} (h : b = false) : (!b) = true := by rw [h]; rfl
theorem sig_ne {q : Rat} (h : q ≠ 0) : (sigW q.num == 0) = false := beq_false_of_ne (by unfold sigW; rw [if_neg (num_ne h)]; split <;> decide)
theorem sig_z {q : Rat} (h : q = 0) : (sigW q.num == 0) = true := by rw [h]; rfl
theorem cmp_lt {a b : Rat} (h : a < b) : cmpQ a b = -1 := if_pos h
theorem cmp_ge {a b : Rat} (h : ¬ a < b) : decide (cmpQ a b < 0) = false := decide_eq_false (fun e => h (cmpQ_neg.1 e))


theorem Rec43 (a b : Rat) (i j : Nat) (most : Int) (hi : dn i = a.den) (hj : dn j = b.den) (hm : most ≤ 200) (la : Sz a 20) (lb : Sz b 20) : ∃ d, dn d = (reckonQ 43 a b most).1.den ∧ AC Try.prog 120 [.val (.int .i32 43), RA a.num i, RA b.num j, .val (.int .i64 most)] (.pure (.tup [RA (reckonQ 43 a b most).1.num d, .val (.int .i64 (reckonQ 43 a b most).2)])) := by
  rw [show reckonQ 43 a b most = (a + b, 0) from rfl]
  have hP := QPlus1 a b i j hi hj (la.mono (by decide)) (lb.mono (by decide))
  refine ⟨_, dn_den _, ?_⟩
  refine AC.of_body TTok Try.func120 rfl (enter_of Try.func120 (by kernel_rfl) (by kernel_rfl)) (noid4 (.val _) (RA_noid _ _) (RA_noid _ _) (.val _)) (.tup _ (noid2 (RA_noid _ _) (.val _))) (Nat.le_of_ble_eq_true rfl) ?_
  revert hP
  generalize a + b = r
  intro hP
  unfold RA rowR at *
  repeat
    conv => whnf
    first
      | refine ⟨_, by assumption, ?_⟩
      | refine ⟨(Nat.le_of_ble_eq_true rfl), _, by assumption, ?_⟩
      | refine ⟨by kernel_rfl, ?_⟩
      | exact rfl
      | refine ⟨by decide, ?_⟩

theorem Rec45 (a b : Rat) (i j : Nat) (most : Int) (hi : dn i = a.den) (hj : dn j = b.den) (hm : most ≤ 200) (la : Sz a 20) (lb : Sz b 20) : ∃ d, dn d = (reckonQ 45 a b most).1.den ∧ AC Try.prog 120 [.val (.int .i32 45), RA a.num i, RA b.num j, .val (.int .i64 most)] (.pure (.tup [RA (reckonQ 45 a b most).1.num d, .val (.int .i64 (reckonQ 45 a b most).2)])) := by
  rw [show reckonQ 45 a b most = (a + -b, 0) from rfl]
  have hM := QMinus_ok b.num j
  rw [hj] at hM
  have hM : AC Try.prog 43 [RA b.num j] (.pure (RA (-b).num b.den)) := hM
  have hP := QPlus1 a (-b) i b.den hi (dn_den b) (la.mono (by decide)) ((Sz_neg lb).mono (by decide))
  refine ⟨_, dn_den _, ?_⟩
  refine AC.of_body TTok Try.func120 rfl (enter_of Try.func120 (by kernel_rfl) (by kernel_rfl)) (noid4 (.val _) (RA_noid _ _) (RA_noid _ _) (.val _)) (.tup _ (noid2 (RA_noid _ _) (.val _))) (Nat.le_of_ble_eq_true rfl) ?_
  revert hP
  generalize a + -b = r
  intro hP
  generalize -b = nb at *
  unfold RA rowR at *
  repeat
    conv => whnf
    first
      | refine ⟨_, by assumption, ?_⟩
      | refine ⟨(Nat.le_of_ble_eq_true rfl), _, by assumption, ?_⟩
      | refine ⟨by kernel_rfl, ?_⟩
      | exact rfl
      | refine ⟨by decide, ?_⟩

theorem Rec215 (a b : Rat) (i j : Nat) (most : Int) (hi : dn i = a.den) (hj : dn j = b.den) (hm : most ≤ 200) (la : Sz a 20) (lb : Sz b 20) : ∃ d, dn d = (reckonQ 215 a b most).1.den ∧ AC Try.prog 120 [.val (.int .i32 215), RA a.num i, RA b.num j, .val (.int .i64 most)] (.pure (.tup [RA (reckonQ 215 a b most).1.num d, .val (.int .i64 (reckonQ 215 a b most).2)])) := by
  rw [show reckonQ 215 a b most = (a * b, 0) from rfl]
  have hP := QTimes1 a b i j hi hj (la.mono (by decide)) (lb.mono (by decide))
  refine ⟨_, dn_den _, ?_⟩
  refine AC.of_body TTok Try.func120 rfl (enter_of Try.func120 (by kernel_rfl) (by kernel_rfl)) (noid4 (.val _) (RA_noid _ _) (RA_noid _ _) (.val _)) (.tup _ (noid2 (RA_noid _ _) (.val _))) (Nat.le_of_ble_eq_true rfl) ?_
  revert hP
  generalize a * b = r
  intro hP
  unfold RA rowR at *
  repeat
    conv => whnf
    first
      | refine ⟨_, by assumption, ?_⟩
      | refine ⟨(Nat.le_of_ble_eq_true rfl), _, by assumption, ?_⟩
      | refine ⟨by kernel_rfl, ?_⟩
      | exact rfl
      | refine ⟨by decide, ?_⟩

theorem Rec247 (a b : Rat) (i j : Nat) (most : Int) (hi : dn i = a.den) (hj : dn j = b.den) (hm : most ≤ 200) (la : Sz a 20) (lb : Sz b 20) : ∃ d, dn d = (reckonQ 247 a b most).1.den ∧ AC Try.prog 120 [.val (.int .i32 247), RA a.num i, RA b.num j, .val (.int .i64 most)] (.pure (.tup [RA (reckonQ 247 a b most).1.num d, .val (.int .i64 (reckonQ 247 a b most).2)])) := by
  rw [show reckonQ 247 a b most = (if b ≠ 0 then (a / b, 0) else if a = 0 then (1, 0) else (0, 22)) from rfl]
  have hSa := RaSign_ok a.num i
  have hSb := RaSign_ok b.num j
  by_cases hb : b = 0
  · rw [if_neg (fun h => h hb)]
    have fb := sig_z hb
    by_cases ha : a = 0
    · rw [if_pos ha]
      have fa := sig_z ha
      have hF := RatFrom_ok 1 (by decide)
      refine ⟨1, rfl, ?_⟩
      show AC Try.prog 120 _ (.pure (.tup [RA 1 1, .val (.int .i64 0)]))
      refine AC.of_body TTok Try.func120 rfl (enter_of Try.func120 (by kernel_rfl) (by kernel_rfl)) (noid4 (.val _) (RA_noid _ _) (RA_noid _ _) (.val _)) (.tup _ (noid2 (RA_noid _ _) (.val _))) (Nat.le_of_ble_eq_true rfl) ?_
      generalize sigW a.num = s at *
      generalize sigW b.num = t at *
      unfold RA at *
      conv => whnf
      refine ⟨_, hSa, ?_⟩
      conv => whnf
      refine caseb (fun _ => ?_) (fun h => Bool.noConfusion ((fa).symm.trans h))
      conv => whnf
      refine ⟨_, hSb, ?_⟩
      conv => whnf
      refine caseb (fun _ => ?_) (fun h => Bool.noConfusion ((fb).symm.trans h))
      repeat
        conv => whnf
        first
          | refine ⟨_, by assumption, ?_⟩
          | refine ⟨(Nat.le_of_ble_eq_true rfl), _, by assumption, ?_⟩
          | refine ⟨by kernel_rfl, ?_⟩
          | exact rfl
          | refine ⟨by decide, ?_⟩
    · rw [if_neg ha]
      have fa := sig_ne ha
      have hB := By_zero a i j hi (by rw [hj, hb]) (la.mono (by decide))
      rw [← hb] at hB
      refine ⟨0, rfl, ?_⟩
      show AC Try.prog 120 _ (.pure (.tup [RA 0 0, .val (.int .i64 22)]))
      refine AC.of_body TTok Try.func120 rfl (enter_of Try.func120 (by kernel_rfl) (by kernel_rfl)) (noid4 (.val _) (RA_noid _ _) (RA_noid _ _) (.val _)) (.tup _ (noid2 (RA_noid _ _) (.val _))) (Nat.le_of_ble_eq_true rfl) ?_
      generalize sigW a.num = s at *
      unfold RA at *
      conv => whnf
      refine ⟨_, hSa, ?_⟩
      conv => whnf
      refine caseb (fun h => Bool.noConfusion ((fa).symm.trans h)) (fun _ => ?_)
      repeat
        conv => whnf
        first
          | refine ⟨_, by assumption, ?_⟩
          | refine ⟨(Nat.le_of_ble_eq_true rfl), _, by assumption, ?_⟩
          | refine ⟨by kernel_rfl, ?_⟩
          | exact rfl
          | refine ⟨by decide, ?_⟩
  · rw [if_pos hb]
    have fb := sig_ne hb
    have hB := By_ok a b i j hi hj (la.mono (by decide)) (lb.mono (by decide)) hb
    refine ⟨_, dn_den _, ?_⟩
    refine AC.of_body TTok Try.func120 rfl (enter_of Try.func120 (by kernel_rfl) (by kernel_rfl)) (noid4 (.val _) (RA_noid _ _) (RA_noid _ _) (.val _)) (.tup _ (noid2 (RA_noid _ _) (.val _))) (Nat.le_of_ble_eq_true rfl) ?_
    revert hB
    generalize a / b = r
    intro hB
    by_cases ha : a = 0
    · have fa := sig_z ha
      generalize sigW a.num = s at *
      generalize sigW b.num = t at *
      unfold RA at *
      conv => whnf
      refine ⟨_, hSa, ?_⟩
      conv => whnf
      refine caseb (fun _ => ?_) (fun h => Bool.noConfusion ((fa).symm.trans h))
      conv => whnf
      refine ⟨_, hSb, ?_⟩
      conv => whnf
      refine caseb (fun h => Bool.noConfusion ((fb).symm.trans h)) (fun _ => ?_)
      repeat
        conv => whnf
        first
          | refine ⟨_, by assumption, ?_⟩
          | refine ⟨(Nat.le_of_ble_eq_true rfl), _, by assumption, ?_⟩
          | refine ⟨by kernel_rfl, ?_⟩
          | exact rfl
          | refine ⟨by decide, ?_⟩
    · have fa := sig_ne ha
      generalize sigW a.num = s at *
      unfold RA at *
      conv => whnf
      refine ⟨_, hSa, ?_⟩
      conv => whnf
      refine caseb (fun h => Bool.noConfusion ((fa).symm.trans h)) (fun _ => ?_)
      repeat
        conv => whnf
        first
          | refine ⟨_, by assumption, ?_⟩
          | refine ⟨(Nat.le_of_ble_eq_true rfl), _, by assumption, ?_⟩
          | refine ⟨by kernel_rfl, ?_⟩
          | exact rfl
          | refine ⟨by decide, ?_⟩

theorem Rec8968 (a b : Rat) (i j : Nat) (most : Int) (hi : dn i = a.den) (hj : dn j = b.den) (hm : most ≤ 200) (la : Sz a 20) (lb : Sz b 20) : ∃ d, dn d = (reckonQ 8968 a b most).1.den ∧ AC Try.prog 120 [.val (.int .i32 8968), RA a.num i, RA b.num j, .val (.int .i64 most)] (.pure (.tup [RA (reckonQ 8968 a b most).1.num d, .val (.int .i64 (reckonQ 8968 a b most).2)])) := by
  rw [show reckonQ 8968 a b most = (if a < b then b else a, 0) from rfl]
  have hC := QCmp_ok a b i j hi hj (la.mono (by decide)) (lb.mono (by decide))
  by_cases h : a < b
  · rw [if_pos h]
    rw [cmp_lt h] at hC
    refine ⟨j, hj, ?_⟩
    refine AC.of_body TTok Try.func120 rfl (enter_of Try.func120 (by kernel_rfl) (by kernel_rfl)) (noid4 (.val _) (RA_noid _ _) (RA_noid _ _) (.val _)) (.tup _ (noid2 (RA_noid _ _) (.val _))) (Nat.le_of_ble_eq_true rfl) ?_
    unfold RA at *
    repeat
      conv => whnf
      first
        | refine ⟨_, by assumption, ?_⟩
        | refine ⟨(Nat.le_of_ble_eq_true rfl), _, by assumption, ?_⟩
        | refine ⟨by kernel_rfl, ?_⟩
        | exact rfl
        | refine ⟨by decide, ?_⟩
  · rw [if_neg h]
    have f1 := cmp_ge h
    refine ⟨i, hi, ?_⟩
    refine AC.of_body TTok Try.func120 rfl (enter_of Try.func120 (by kernel_rfl) (by kernel_rfl)) (noid4 (.val _) (RA_noid _ _) (RA_noid _ _) (.val _)) (.tup _ (noid2 (RA_noid _ _) (.val _))) (Nat.le_of_ble_eq_true rfl) ?_
    generalize cmpQ a b = s at *
    unfold RA at *
    conv => whnf
    refine ⟨_, hC, ?_⟩
    conv => whnf
    refine caseb (fun h => Bool.noConfusion ((f1).symm.trans h)) (fun _ => ?_)
    repeat
      conv => whnf
      first
        | refine ⟨_, by assumption, ?_⟩
        | refine ⟨(Nat.le_of_ble_eq_true rfl), _, by assumption, ?_⟩
        | refine ⟨by kernel_rfl, ?_⟩
        | exact rfl
        | refine ⟨by decide, ?_⟩

theorem Rec8970 (a b : Rat) (i j : Nat) (most : Int) (hi : dn i = a.den) (hj : dn j = b.den) (hm : most ≤ 200) (la : Sz a 20) (lb : Sz b 20) : ∃ d, dn d = (reckonQ 8970 a b most).1.den ∧ AC Try.prog 120 [.val (.int .i32 8970), RA a.num i, RA b.num j, .val (.int .i64 most)] (.pure (.tup [RA (reckonQ 8970 a b most).1.num d, .val (.int .i64 (reckonQ 8970 a b most).2)])) := by
  rw [show reckonQ 8970 a b most = (if a < b then a else b, 0) from rfl]
  have hC := QCmp_ok a b i j hi hj (la.mono (by decide)) (lb.mono (by decide))
  by_cases h : a < b
  · rw [if_pos h]
    rw [cmp_lt h] at hC
    refine ⟨i, hi, ?_⟩
    refine AC.of_body TTok Try.func120 rfl (enter_of Try.func120 (by kernel_rfl) (by kernel_rfl)) (noid4 (.val _) (RA_noid _ _) (RA_noid _ _) (.val _)) (.tup _ (noid2 (RA_noid _ _) (.val _))) (Nat.le_of_ble_eq_true rfl) ?_
    unfold RA at *
    repeat
      conv => whnf
      first
        | refine ⟨_, by assumption, ?_⟩
        | refine ⟨(Nat.le_of_ble_eq_true rfl), _, by assumption, ?_⟩
        | refine ⟨by kernel_rfl, ?_⟩
        | exact rfl
        | refine ⟨by decide, ?_⟩
  · rw [if_neg h]
    by_cases he : a = b
    · have hC0 : cmpQ a b = 0 := cmpQ_eq.2 he
      rw [hC0] at hC
      refine ⟨i, by rw [hi, he], ?_⟩
      rw [show RA b.num i = RA a.num i by rw [he]]
      refine AC.of_body TTok Try.func120 rfl (enter_of Try.func120 (by kernel_rfl) (by kernel_rfl)) (noid4 (.val _) (RA_noid _ _) (RA_noid _ _) (.val _)) (.tup _ (noid2 (RA_noid _ _) (.val _))) (Nat.le_of_ble_eq_true rfl) ?_
      unfold RA at *
      repeat
        conv => whnf
        first
          | refine ⟨_, by assumption, ?_⟩
          | refine ⟨(Nat.le_of_ble_eq_true rfl), _, by assumption, ?_⟩
          | refine ⟨by kernel_rfl, ?_⟩
          | exact rfl
          | refine ⟨by decide, ?_⟩
    · have hC1 : cmpQ a b = 1 := by unfold cmpQ; rw [if_neg h, if_neg he]
      rw [hC1] at hC
      refine ⟨j, hj, ?_⟩
      refine AC.of_body TTok Try.func120 rfl (enter_of Try.func120 (by kernel_rfl) (by kernel_rfl)) (noid4 (.val _) (RA_noid _ _) (RA_noid _ _) (.val _)) (.tup _ (noid2 (RA_noid _ _) (.val _))) (Nat.le_of_ble_eq_true rfl) ?_
      unfold RA at *
      repeat
        conv => whnf
        first
          | refine ⟨_, by assumption, ?_⟩
          | refine ⟨(Nat.le_of_ble_eq_true rfl), _, by assumption, ?_⟩
          | refine ⟨by kernel_rfl, ?_⟩
          | exact rfl
          | refine ⟨by decide, ?_⟩

theorem Rec124 (a b : Rat) (i j : Nat) (most : Int) (hi : dn i = a.den) (hj : dn j = b.den) (hm : most ≤ 200) (la : Sz a 20) (lb : Sz b 20) : ∃ d, dn d = (reckonQ 124 a b most).1.den ∧ AC Try.prog 120 [.val (.int .i32 124), RA a.num i, RA b.num j, .val (.int .i64 most)] (.pure (.tup [RA (reckonQ 124 a b most).1.num d, .val (.int .i64 (reckonQ 124 a b most).2)])) := by
  rw [show reckonQ 124 a b most = (restQ a b, 0) from rfl]
  by_cases h : a = 0
  · have hR := Rest_zero b i j (by rw [hi, h]) hj (lb.mono (by decide))
    rw [← h] at hR
    rw [show restQ a b = b from if_pos h]
    refine ⟨j, hj, ?_⟩
    refine AC.of_body TTok Try.func120 rfl (enter_of Try.func120 (by kernel_rfl) (by kernel_rfl)) (noid4 (.val _) (RA_noid _ _) (RA_noid _ _) (.val _)) (.tup _ (noid2 (RA_noid _ _) (.val _))) (Nat.le_of_ble_eq_true rfl) ?_
    unfold RA at *
    repeat
      conv => whnf
      first
        | refine ⟨_, by assumption, ?_⟩
        | refine ⟨(Nat.le_of_ble_eq_true rfl), _, by assumption, ?_⟩
        | refine ⟨by kernel_rfl, ?_⟩
        | exact rfl
        | refine ⟨by decide, ?_⟩
  · have hR := Rest_ok a b i j h hi hj la lb
    refine ⟨_, dn_den _, ?_⟩
    refine AC.of_body TTok Try.func120 rfl (enter_of Try.func120 (by kernel_rfl) (by kernel_rfl)) (noid4 (.val _) (RA_noid _ _) (RA_noid _ _) (.val _)) (.tup _ (noid2 (RA_noid _ _) (.val _))) (Nat.le_of_ble_eq_true rfl) ?_
    revert hR
    generalize restQ a b = r
    intro hR
    unfold RA at *
    repeat
      conv => whnf
      first
        | refine ⟨_, by assumption, ?_⟩
        | refine ⟨(Nat.le_of_ble_eq_true rfl), _, by assumption, ?_⟩
        | refine ⟨by kernel_rfl, ?_⟩
        | exact rfl
        | refine ⟨by decide, ?_⟩

theorem Rec42 (a b : Rat) (i j : Nat) (most : Int) (hi : dn i = a.den) (hj : dn j = b.den) (hm : most ≤ 200) (la : Sz a 20) (lb : Sz b 20) : ∃ d, dn d = (reckonQ 42 a b most).1.den ∧ AC Try.prog 120 [.val (.int .i32 42), RA a.num i, RA b.num j, .val (.int .i64 most)] (.pure (.tup [RA (reckonQ 42 a b most).1.num d, .val (.int .i64 (reckonQ 42 a b most).2)])) := by
  rw [show reckonQ 42 a b most = powerQ a b most from rfl]
  obtain ⟨d, hd, hP⟩ := Power_ok a b i j most hi hj hm (la.mono (by decide))
  refine ⟨d, hd, ?_⟩
  refine AC.of_body TTok Try.func120 rfl (enter_of Try.func120 (by kernel_rfl) (by kernel_rfl)) (noid4 (.val _) (RA_noid _ _) (RA_noid _ _) (.val _)) (.tup _ (noid2 (RA_noid _ _) (.val _))) (Nat.le_of_ble_eq_true rfl) ?_
  revert hP
  generalize (powerQ a b most).1 = r
  generalize (powerQ a b most).2 = e
  intro hP
  unfold RA at *
  repeat
    conv => whnf
    first
      | refine ⟨_, by assumption, ?_⟩
      | refine ⟨(Nat.le_of_ble_eq_true rfl), _, by assumption, ?_⟩
      | refine ⟨by kernel_rfl, ?_⟩
      | exact rfl
      | refine ⟨by decide, ?_⟩

theorem Rec33 (a b : Rat) (i j : Nat) (most : Int) (hi : dn i = a.den) (hj : dn j = b.den) (hm : most ≤ 200) (la : Sz a 20) (lb : Sz b 20) : ∃ d, dn d = (reckonQ 33 a b most).1.den ∧ AC Try.prog 120 [.val (.int .i32 33), RA a.num i, RA b.num j, .val (.int .i64 most)] (.pure (.tup [RA (reckonQ 33 a b most).1.num d, .val (.int .i64 (reckonQ 33 a b most).2)])) := by
  rw [show reckonQ 33 a b most = chooseQ a b most from rfl]
  obtain ⟨d, hd, hP⟩ := Choose_ok a b i j most hi hj hm (la.mono (by decide)) (lb.mono (by decide))
  refine ⟨d, hd, ?_⟩
  refine AC.of_body TTok Try.func120 rfl (enter_of Try.func120 (by kernel_rfl) (by kernel_rfl)) (noid4 (.val _) (RA_noid _ _) (RA_noid _ _) (.val _)) (.tup _ (noid2 (RA_noid _ _) (.val _))) (Nat.le_of_ble_eq_true rfl) ?_
  revert hP
  generalize (chooseQ a b most).1 = r
  generalize (chooseQ a b most).2 = e
  intro hP
  unfold RA at *
  repeat
    conv => whnf
    first
      | refine ⟨_, by assumption, ?_⟩
      | refine ⟨(Nat.le_of_ble_eq_true rfl), _, by assumption, ?_⟩
      | refine ⟨by kernel_rfl, ?_⟩
      | exact rfl
      | refine ⟨by decide, ?_⟩

theorem Rec9055 (a b : Rat) (i j : Nat) (most : Int) (hi : dn i = a.den) (hj : dn j = b.den) (hm : most ≤ 200) (la : Sz a 20) (lb : Sz b 20) : ∃ d, dn d = (reckonQ 9055 a b most).1.den ∧ AC Try.prog 120 [.val (.int .i32 9055), RA a.num i, RA b.num j, .val (.int .i64 most)] (.pure (.tup [RA (reckonQ 9055 a b most).1.num d, .val (.int .i64 (reckonQ 9055 a b most).2)])) := by
  refine ⟨0, rfl, RZ22 ?_⟩
  refine AC.of_body TTok Try.func120 rfl (enter_of Try.func120 (by kernel_rfl) (by kernel_rfl)) (noid4 (.val _) (RA_noid _ _) (RA_noid _ _) (.val _)) (.tup _ (noid2 RZ_noid (.val _))) (Nat.le_of_ble_eq_true rfl) ?_
  unfold RZ
  repeat
    conv => whnf
    first
      | refine ⟨_, by assumption, ?_⟩
      | refine ⟨(Nat.le_of_ble_eq_true rfl), _, by assumption, ?_⟩
      | refine ⟨by kernel_rfl, ?_⟩
      | exact rfl
      | refine ⟨by decide, ?_⟩

theorem Rec9675 (a b : Rat) (i j : Nat) (most : Int) (hi : dn i = a.den) (hj : dn j = b.den) (hm : most ≤ 200) (la : Sz a 20) (lb : Sz b 20) : ∃ d, dn d = (reckonQ 9675 a b most).1.den ∧ AC Try.prog 120 [.val (.int .i32 9675), RA a.num i, RA b.num j, .val (.int .i64 most)] (.pure (.tup [RA (reckonQ 9675 a b most).1.num d, .val (.int .i64 (reckonQ 9675 a b most).2)])) := by
  refine ⟨0, rfl, RZ22 ?_⟩
  refine AC.of_body TTok Try.func120 rfl (enter_of Try.func120 (by kernel_rfl) (by kernel_rfl)) (noid4 (.val _) (RA_noid _ _) (RA_noid _ _) (.val _)) (.tup _ (noid2 RZ_noid (.val _))) (Nat.le_of_ble_eq_true rfl) ?_
  unfold RZ
  repeat
    conv => whnf
    first
      | refine ⟨_, by assumption, ?_⟩
      | refine ⟨(Nat.le_of_ble_eq_true rfl), _, by assumption, ?_⟩
      | refine ⟨by kernel_rfl, ?_⟩
      | exact rfl
      | refine ⟨by decide, ?_⟩

theorem Reckon_ok (a b : Rat) (i j : Nat) (most : Int) (hi : dn i = a.den) (hj : dn j = b.den) (hm : most ≤ 200) (la : Sz a 20) (lb : Sz b 20) (c : Int) (hc : isRec c) : ∃ d, dn d = (reckonQ c a b most).1.den ∧ AC Try.prog 120 [.val (.int .i32 c), RA a.num i, RA b.num j, .val (.int .i64 most)] (.pure (.tup [RA (reckonQ c a b most).1.num d, .val (.int .i64 (reckonQ c a b most).2)])) := by
  rcases hc with rfl | rfl | rfl | rfl | rfl | rfl | rfl | rfl | rfl | rfl | rfl
  · exact Rec43 a b i j most hi hj hm la lb
  · exact Rec45 a b i j most hi hj hm la lb
  · exact Rec215 a b i j most hi hj hm la lb
  · exact Rec247 a b i j most hi hj hm la lb
  · exact Rec8968 a b i j most hi hj hm la lb
  · exact Rec8970 a b i j most hi hj hm la lb
  · exact Rec124 a b i j most hi hj hm la lb
  · exact Rec42 a b i j most hi hj hm la lb
  · exact Rec33 a b i j most hi hj hm la lb
  · exact Rec9055 a b i j most hi hj hm la lb
  · exact Rec9675 a b i j most hi hj hm la lb

end Go.Proofs.Ytabgankeaagibaa

/- Functions of two numbers: all of them. -/
set_option linter.unusedVariables false
namespace Go.Proofs.Ytabgankeaagibaa
open Go Go.AL NM

/-- What a function makes of two numbers. -/
def twoQ (c : Int) (a b : Rat) (most : Int) : Rat × Int :=
  if isCmp c then (tq (cmpS c (cmpQ a b)), 0)
  else if isJdg c then judgeQ c a b
  else if ¬ isRec c then (0, 20)
  else if (reckonQ c a b most).2 ≠ 0 then (0, (reckonQ c a b most).2)
  else if most < (qLimbs (reckonQ c a b most).1.num (reckonQ c a b most).1.den : Nat) then (0, 26)
  else ((reckonQ c a b most).1, 0)

theorem chs_sz {k r : Nat} {most : Int} {K : Nat} (h1 : 1 ≤ K) (hm : most ≤ K) (h : chsOk k r most) : (limbs (chs r k)).length ≤ K := by
  rcases h with h | h
  · subst h; exact Nat.le_trans (limbs_small (n := 1) (by decide)) h1
  · omega
theorem Sz_one : Sz 1 1 := Sz_small (by decide) (by decide)
theorem rest_sz {a x : Rat} {i j : Nat} (h0 : a ≠ 0) (la : Sz a i) (lx : Sz x j) : Sz (restQ a x) (2 * (j + (i + (j + i + 2))) + 1) := by
  unfold restQ
  rw [if_neg h0]
  exact Sz_add lx (Sz_neg (Sz_mul la (Sz_int (by omega) (limbs_floor (Sz_div h0 lx la)))))
theorem reckon_sz (c : Int) (a b : Rat) (most : Int) (hm : most ≤ 200) (la : Sz a 20) (lb : Sz b 20) : Sz (reckonQ c a b most).1 400 := by
  unfold reckonQ
  split
  · exact (Sz_add la lb).mono (by decide)
  split
  · exact (Sz_add la (Sz_neg lb)).mono (by decide)
  split
  · exact (Sz_mul la lb).mono (by decide)
  split
  · split
    · rename_i h; exact (Sz_div h la lb).mono (by decide)
    · split
      · exact Sz_one.mono (by decide)
      · exact Sz_zero.mono (by decide)
  split
  · show Sz (if a < b then b else a) 400
    split
    · exact lb.mono (by decide)
    · exact la.mono (by decide)
  split
  · show Sz (if a < b then a else b) 400
    split
    · exact la.mono (by decide)
    · exact lb.mono (by decide)
  split
  · show Sz (restQ a b) 400
    by_cases h : a = 0
    · rw [show restQ a b = b from if_pos h]; exact lb.mono (by decide)
    · exact (rest_sz h la lb).mono (by decide)
  split
  · unfold powerQ
    split
    · exact Sz_zero.mono (by decide)
    split
    · show Sz (if a.num < 0 ∧ b.num.natAbs % 2 = 0 then -a else a) 400
      split
      · exact (Sz_neg la).mono (by decide)
      · exact la.mono (by decide)
    split
    · exact Sz_zero.mono (by decide)
    · exact (pow_sz a b.num most 200 (by decide) hm (la.mono (by decide))).mono (by decide)
  split
  · unfold chooseQ
    split
    · exact Sz_zero.mono (by decide)
    split
    · exact Sz_zero.mono (by decide)
    split
    · rename_i h
      exact (Sz_int (k := 200) (by decide) (by rw [Int.natAbs_natCast]; exact chs_sz (by decide) hm h)).mono (by decide)
    · exact Sz_zero.mono (by decide)
  · exact Sz_zero.mono (by decide)

section
variable (c : Int) (a b : Rat) (i j : Nat) (most : Int) (hi : dn i = a.den) (hj : dn j = b.den) (hm : most ≤ 200) (la : Sz a 20) (lb : Sz b 20)
include hi hj hm la lb
theorem Two_ok : ∃ d, dn d = (twoQ c a b most).1.den ∧ AC Try.prog 72 [.val (.int .i32 c), RA a.num i, RA b.num j, .val (.int .i64 most)] (.pure (.tup [RA (twoQ c a b most).1.num d, .val (.int .i64 (twoQ c a b most).2)])) := by
  unfold twoQ
  have hC := compares_ok c
  have hJ := judges_ok c
  have hR := reckons_ok c
  by_cases h1 : isCmp c
  · rw [if_pos h1]
    rw [decide_eq_true h1] at hC
    have hQ := QCmp_ok a b i j hi hj (la.mono (by decide)) (lb.mono (by decide))
    have hS := Compare_ok c (cmpQ a b)
    have hT := truth_ok (cmpS c (cmpQ a b))
    refine ⟨_, td_dn _, ?_⟩
    refine AC.of_body TTok Try.func72 rfl (enter_of Try.func72 (by kernel_rfl) (by kernel_rfl)) (noid4 (.val _) (RA_noid _ _) (RA_noid _ _) (.val _)) (.tup _ (noid2 (RA_noid _ _) (.val _))) (Nat.le_of_ble_eq_true rfl) ?_
    revert hQ hS hT
    generalize cmpS c (cmpQ a b) = t
    generalize cmpQ a b = n
    intro hQ hS hT
    generalize td t = e at *
    generalize (tq t).num = f at *
    unfold RA at *
    repeat
      conv => whnf
      first
        | refine ⟨_, by assumption, ?_⟩
        | refine ⟨(Nat.le_of_ble_eq_true rfl), _, by assumption, ?_⟩
        | refine ⟨by kernel_rfl, ?_⟩
        | exact rfl
        | refine ⟨by decide, ?_⟩
  rw [if_neg h1]
  rw [decide_eq_false h1] at hC
  by_cases h2 : isJdg c
  · rw [if_pos h2]
    rw [decide_eq_true h2] at hJ
    obtain ⟨d, hd, hP⟩ := judge_ok c h2 a b i j hi hj (la.mono (by decide)) (lb.mono (by decide))
    refine ⟨d, hd, ?_⟩
    refine AC.of_body TTok Try.func72 rfl (enter_of Try.func72 (by kernel_rfl) (by kernel_rfl)) (noid4 (.val _) (RA_noid _ _) (RA_noid _ _) (.val _)) (.tup _ (noid2 (RA_noid _ _) (.val _))) (Nat.le_of_ble_eq_true rfl) ?_
    revert hP
    generalize (judgeQ c a b).1 = r
    generalize (judgeQ c a b).2 = e
    intro hP
    unfold RA at *
    repeat
      conv => whnf
      first
        | refine ⟨_, by assumption, ?_⟩
        | refine ⟨(Nat.le_of_ble_eq_true rfl), _, by assumption, ?_⟩
        | refine ⟨by kernel_rfl, ?_⟩
        | exact rfl
        | refine ⟨by decide, ?_⟩
  rw [if_neg h2]
  rw [decide_eq_false h2] at hJ
  by_cases h3 : isRec c
  rotate_left
  · rw [if_pos h3]
    rw [decide_eq_false h3] at hR
    refine ⟨0, rfl, RZ22 ?_⟩
    refine AC.of_body TTok Try.func72 rfl (enter_of Try.func72 (by kernel_rfl) (by kernel_rfl)) (noid4 (.val _) (RA_noid _ _) (RA_noid _ _) (.val _)) (.tup _ (noid2 RZ_noid (.val _))) (Nat.le_of_ble_eq_true rfl) ?_
    unfold RA RZ at *
    repeat
      conv => whnf
      first
        | refine ⟨_, by assumption, ?_⟩
        | refine ⟨(Nat.le_of_ble_eq_true rfl), _, by assumption, ?_⟩
        | refine ⟨by kernel_rfl, ?_⟩
        | exact rfl
        | refine ⟨by decide, ?_⟩
  rw [if_neg (fun h => h h3)]
  rw [decide_eq_true h3] at hR
  obtain ⟨d, hd, hP⟩ := Reckon_ok a b i j most hi hj hm la lb c h3
  have hL := QLimbs_ok (reckonQ c a b most).1.num d
  rw [hd] at hL
  revert hd hP hL
  generalize (reckonQ c a b most).1 = r
  generalize (reckonQ c a b most).2 = e
  intro hd hP hL
  by_cases he : e = 0
  rotate_left
  · rw [if_pos he]
    have f1 : (e == 0) = false := beq_false_of_ne he
    have f2 : (e != 0) = true := by rw [bne, f1]; rfl
    refine ⟨0, rfl, RZ22 ?_⟩
    refine AC.of_body TTok Try.func72 rfl (enter_of Try.func72 (by kernel_rfl) (by kernel_rfl)) (noid4 (.val _) (RA_noid _ _) (RA_noid _ _) (.val _)) (.tup _ (noid2 RZ_noid (.val _))) (Nat.le_of_ble_eq_true rfl) ?_
    unfold RA RZ at *
    conv => whnf
    refine ⟨_, hC, ?_⟩
    conv => whnf
    refine ⟨_, hJ, ?_⟩
    conv => whnf
    refine ⟨_, hR, ?_⟩
    conv => whnf
    refine ⟨_, hP, ?_⟩
    conv => whnf
    refine caseb (fun h => Bool.noConfusion ((f1).symm.trans h)) (fun _ => ?_)
    conv => whnf
    refine caseb (fun _ => ?_) (fun h => Bool.noConfusion ((f2).symm.trans h))
    repeat
      conv => whnf
      first
        | refine ⟨_, by assumption, ?_⟩
        | refine ⟨(Nat.le_of_ble_eq_true rfl), _, by assumption, ?_⟩
        | refine ⟨by kernel_rfl, ?_⟩
        | exact rfl
        | refine ⟨by decide, ?_⟩
  rw [if_neg (fun h => h he)]
  subst he
  by_cases hq : most < (qLimbs r.num r.den : Nat)
  · rw [if_pos hq]
    have f1 : decide (((qLimbs r.num r.den : Nat) : Int) > most) = true := decide_eq_true hq
    refine ⟨0, rfl, RZ22 ?_⟩
    refine AC.of_body TTok Try.func72 rfl (enter_of Try.func72 (by kernel_rfl) (by kernel_rfl)) (noid4 (.val _) (RA_noid _ _) (RA_noid _ _) (.val _)) (.tup _ (noid2 RZ_noid (.val _))) (Nat.le_of_ble_eq_true rfl) ?_
    generalize ((qLimbs r.num r.den : Nat) : Int) = n at *
    unfold RA RZ at *
    conv => whnf
    refine ⟨_, hC, ?_⟩
    conv => whnf
    refine ⟨_, hJ, ?_⟩
    conv => whnf
    refine ⟨_, hR, ?_⟩
    conv => whnf
    refine ⟨_, hP, ?_⟩
    conv => whnf
    refine ⟨_, hL, ?_⟩
    conv => whnf
    refine caseb (fun _ => ?_) (fun h => Bool.noConfusion ((f1).symm.trans h))
    repeat
      conv => whnf
      first
        | refine ⟨_, by assumption, ?_⟩
        | refine ⟨(Nat.le_of_ble_eq_true rfl), _, by assumption, ?_⟩
        | refine ⟨by kernel_rfl, ?_⟩
        | exact rfl
        | refine ⟨by decide, ?_⟩
  · rw [if_neg hq]
    have f1 : decide (((qLimbs r.num r.den : Nat) : Int) > most) = false := decide_eq_false hq
    refine ⟨d, hd, ?_⟩
    refine AC.of_body TTok Try.func72 rfl (enter_of Try.func72 (by kernel_rfl) (by kernel_rfl)) (noid4 (.val _) (RA_noid _ _) (RA_noid _ _) (.val _)) (.tup _ (noid2 (RA_noid _ _) (.val _))) (Nat.le_of_ble_eq_true rfl) ?_
    generalize ((qLimbs r.num r.den : Nat) : Int) = n at *
    unfold RA at *
    conv => whnf
    refine ⟨_, hC, ?_⟩
    conv => whnf
    refine ⟨_, hJ, ?_⟩
    conv => whnf
    refine ⟨_, hR, ?_⟩
    conv => whnf
    refine ⟨_, hP, ?_⟩
    conv => whnf
    refine ⟨_, hL, ?_⟩
    conv => whnf
    refine caseb (fun h => Bool.noConfusion ((f1).symm.trans h)) (fun _ => ?_)
    repeat
      conv => whnf
      first
        | refine ⟨_, by assumption, ?_⟩
        | refine ⟨(Nat.le_of_ble_eq_true rfl), _, by assumption, ?_⟩
        | refine ⟨by kernel_rfl, ?_⟩
        | exact rfl
        | refine ⟨by decide, ?_⟩
end
end Go.Proofs.Ytabgankeaagibaa

/- Layer 13: what is read, the chapter's examples. -/
set_option linter.unusedVariables false
namespace Go.Proofs.Ytabgankeaagibaa
open Go Go.AL NM

/-- What is read of a number as the page speaks of it. -/
def Rd13 (b : Bool) (s t : List Int) (q : Rat) (ok : Bool) : Prop :=
  (ok = true → RT b s t = RN q.num q.den ∧ RQ b s t ∧ s.length ≤ 40 ∧ t.length ≤ 40 ∧ q = qOf b s t) ∧ AC Try.prog 71 [RT b s t] (.pure (.tup [if ok then RA q.num q.den else RA 0 0, .val (.bool ok)]))

theorem read13 (b : Bool) (s t : List Int) (hBs : Byt s) (hBt : Byt t) : ∃ q ok, Rd13 b s t q ok := by
  have z1 := strL_size s
  have z2 := strL_size t
  by_cases h1 : s.length ≤ 40 ∧ t.length ≤ 40
  · have hR := SRight_ok b s t hBs hBt (by omega) (by omega)
    have f1 : decide (((strL s).size : Int) > 40) = false := decide_eq_false (by omega)
    have f2 : decide (((strL t).size : Int) > 40) = false := decide_eq_false (by omega)
    by_cases hq : RQ b s t
    · have hO := SOf_ok b s t hBs hBt (by omega) (by omega) hq.1 hq.2.1 hq.2.2.2.2.1
      rw [decide_eq_true hq] at hR hO
      refine ⟨qOf b s t, true, fun _ => ⟨RQ_is hq, hq, h1.1, h1.2, rfl⟩, ?_⟩
      rw [if_pos rfl]
      refine AC.of_body TTok Try.func71 rfl (enter_of Try.func71 (by kernel_rfl) (by kernel_rfl)) (noid1 (RT_noid _ _ _)) (.tup _ (noid2 (RA_noid _ _) (.val _))) (Nat.le_of_ble_eq_true rfl) ?_
      unfold RT RA at *
      conv => whnf
      refine caseb (fun h => Bool.noConfusion ((f1).symm.trans h)) (fun _ => ?_)
      conv => whnf
      refine caseb (fun h => Bool.noConfusion ((f2).symm.trans h)) (fun _ => ?_)
      repeat
        conv => whnf
        first
          | refine ⟨_, by assumption, ?_⟩
          | refine ⟨(Nat.le_of_ble_eq_true rfl), _, by assumption, ?_⟩
          | refine ⟨by kernel_rfl, ?_⟩
          | exact rfl
          | refine ⟨by decide, ?_⟩
    · rw [decide_eq_false hq] at hR
      refine ⟨0, false, fun h => Bool.noConfusion h, ?_⟩
      rw [if_neg (by decide)]
      refine RZ_res ?_
      refine AC.of_body TTok Try.func71 rfl (enter_of Try.func71 (by kernel_rfl) (by kernel_rfl)) (noid1 (RT_noid _ _ _)) (.tup _ (noid2 RZ_noid (.val _))) (Nat.le_of_ble_eq_true rfl) ?_
      unfold RT at *
      conv => whnf
      refine caseb (fun h => Bool.noConfusion ((f1).symm.trans h)) (fun _ => ?_)
      conv => whnf
      refine caseb (fun h => Bool.noConfusion ((f2).symm.trans h)) (fun _ => ?_)
      repeat
        conv => whnf
        first
          | refine ⟨_, by assumption, ?_⟩
          | refine ⟨(Nat.le_of_ble_eq_true rfl), _, by assumption, ?_⟩
          | refine ⟨by kernel_rfl, ?_⟩
          | exact rfl
          | refine ⟨by decide, ?_⟩
  · refine ⟨0, false, fun h => Bool.noConfusion h, ?_⟩
    rw [if_neg (by decide)]
    refine RZ_res ?_
    refine AC.of_body TTok Try.func71 rfl (enter_of Try.func71 (by kernel_rfl) (by kernel_rfl)) (noid1 (RT_noid _ _ _)) (.tup _ (noid2 RZ_noid (.val _))) (Nat.le_of_ble_eq_true rfl) ?_
    unfold RT at *
    by_cases h2 : s.length ≤ 40
    · have f1 : decide (((strL s).size : Int) > 40) = false := decide_eq_false (by omega)
      have f2 : decide (((strL t).size : Int) > 40) = true := decide_eq_true (by omega)
      conv => whnf
      refine caseb (fun h => Bool.noConfusion ((f1).symm.trans h)) (fun _ => ?_)
      conv => whnf
      refine caseb (fun _ => ?_) (fun h => Bool.noConfusion ((f2).symm.trans h))
      repeat
        conv => whnf
        first
          | refine ⟨_, by assumption, ?_⟩
          | refine ⟨(Nat.le_of_ble_eq_true rfl), _, by assumption, ?_⟩
          | refine ⟨by kernel_rfl, ?_⟩
          | exact rfl
          | refine ⟨by decide, ?_⟩
    · have f1 : decide (((strL s).size : Int) > 40) = true := decide_eq_true (by omega)
      conv => whnf
      refine caseb (fun _ => ?_) (fun h => Bool.noConfusion ((f1).symm.trans h))
      repeat
        conv => whnf
        first
          | refine ⟨_, by assumption, ?_⟩
          | refine ⟨(Nat.le_of_ble_eq_true rfl), _, by assumption, ?_⟩
          | refine ⟨by kernel_rfl, ?_⟩
          | exact rfl
          | refine ⟨by decide, ?_⟩

theorem Rd13.sz {b : Bool} {s t : List Int} {q : Rat} (h : Rd13 b s t q true) : Sz q 5 ∧ RT b s t = RN q.num q.den ∧ AC Try.prog 71 [RN q.num q.den] (.pure (.tup [RA q.num q.den, .val (.bool true)])) := by
  obtain ⟨h1, h2⟩ := h
  obtain ⟨e, hq, l1, l2, rfl⟩ := h1 rfl
  rw [if_pos rfl, e] at h2
  exact ⟨RQ_sz hq l1 l2 (by decide), e, h2⟩
theorem Rd13.bad {b : Bool} {s t : List Int} {q : Rat} {o : Bool} (h : Rd13 b s t q o) : ∃ x d, AC Try.prog 71 [RT b s t] (.pure (.tup [RA x d, .val (.bool o)])) := by
  have h2 := h.2
  cases o
  · exact ⟨0, 0, h2⟩
  · exact ⟨q.num, q.den, h2⟩



theorem qLimbs_small {t : Int} {d : Nat} (h1 : t.natAbs < 4294967296) (h2 : d < 4294967296) : qLimbs t d ≤ 1 := by
  have := limbs_small h1
  have := limbs_small h2
  unfold qLimbs
  omega
/-- A small answer of a reckoning function stays. -/
theorem two_rec {c : Int} {a b r : Rat} {most : Int} (h1 : ¬ isCmp c) (h2 : ¬ isJdg c) (h3 : isRec c) (h : reckonQ c a b most = (r, 0)) (hq : (qLimbs r.num r.den : Int) ≤ most) : twoQ c a b most = (r, 0) := by
  unfold twoQ
  rw [if_neg h1, if_neg h2, if_neg (fun h => h h3), h, if_neg (fun h => h rfl), if_neg (show ¬ most < ((qLimbs r.num r.den : Nat) : Int) by omega)]
theorem ex_ways : twoQ 33 2 5 4 = (10, 0) := by
  refine two_rec (by decide) (by decide) (by decide) ?_ ?_
  · show chooseQ 2 5 4 = (10, 0)
    unfold chooseQ
    rw [if_neg (by decide), if_neg (by decide), if_pos]
    · rfl
    · right
      have := limbs_small (n := chs (max (2 : Rat).num ((5 : Rat).num - (2 : Rat).num)).toNat (min (2 : Rat).num ((5 : Rat).num - (2 : Rat).num)).toNat) (by decide)
      omega
  · have := qLimbs_small (t := (10 : Rat).num) (d := (10 : Rat).den) (by decide) (by decide)
    omega
theorem ex_pow : twoQ 42 2 (-3) 4 = (Rat.divInt 1 8, 0) := by
  refine two_rec (by decide) (by decide) (by decide) ?_ ?_
  · show powerQ 2 (-3) 4 = _
    have hp : powQ 2 (-3) 4 = (Rat.divInt 1 8, true) := by
      unfold powQ
      rw [if_neg (by decide), if_neg (by decide), if_pos]
      · have e1 : pb 2 (-3) = Rat.divInt 1 2 := by decide +kernel
        have e2 : pk (-3) = 3 := by decide
        rw [e1, e2]
        have : Rat.divInt 1 2 ^ 3 = Rat.divInt 1 8 := by decide +kernel
        rw [this]
      · have e1 : (pb 2 (-3)).num.natAbs = 1 := by decide +kernel
        have e2 : (pb 2 (-3)).den = 2 := by decide +kernel
        have e3 : pk (-3) = 3 := by decide
        rw [e1, e2, e3]
        refine ⟨.inl rfl, .inr ?_⟩
        have := limbs_small (n := 2 ^ 3) (by decide)
        omega
    unfold powerQ
    rw [if_neg (by decide), if_neg (by decide), if_neg (by decide), show (-3 : Rat).num = -3 from rfl, hp]
    rfl
  · have := qLimbs_small (t := (Rat.divInt 1 8).num) (d := (Rat.divInt 1 8).den) (by decide +kernel) (by decide +kernel)
    omega
theorem ex_rest : twoQ 124 3 7 4 = (1, 0) := by
  refine two_rec (by decide) (by decide) (by decide) ?_ ?_
  · show (restQ 3 7, (0 : Int)) = (1, 0)
    have : restQ 3 7 = 1 := by decide +kernel
    rw [this]
  · have := qLimbs_small (t := (1 : Rat).num) (d := (1 : Rat).den) (by decide) (by decide)
    omega
theorem awake13_ok : AC Try.prog 70 [] (.pure (.val (.bool true))) := by
  have f2 := RatFrom_ok 2 (by decide)
  have f5 := RatFrom_ok 5 (by decide)
  have f3 := RatFrom_ok (-3) (by decide)
  have f3' := RatFrom_ok 3 (by decide)
  have f7 := RatFrom_ok 7 (by decide)
  have sm : ∀ q : Rat, q.num.natAbs < 4294967296 → q.den < 4294967296 → Sz q 20 := fun q h1 h2 => (Sz_small h1 h2).mono (by decide)
  obtain ⟨d1, e1, T1⟩ := Two_ok 33 2 5 1 1 4 rfl rfl (by decide) (sm _ (by decide) (by decide)) (sm _ (by decide) (by decide))
  obtain ⟨d2, e2, T2⟩ := Two_ok 42 2 (-3) 1 1 4 rfl rfl (by decide) (sm _ (by decide) (by decide)) (sm _ (by decide) (by decide))
  obtain ⟨d3, e3, T3⟩ := Two_ok 124 3 7 1 1 4 rfl rfl (by decide) (sm _ (by decide) (by decide)) (sm _ (by decide) (by decide))
  rw [ex_ways] at e1 T1
  rw [ex_pow] at e2 T2
  rw [ex_rest] at e3 T3
  have n1 := NumS 10 d1 e1 ((Sz_small (by decide) (by decide)).mono (by decide))
  have n2 := NumS (Rat.divInt 1 8) d2 e2 ((Sz_small (by decide +kernel) (by decide +kernel)).mono (by decide))
  have n3 := NumS 1 d3 e3 (Sz_one.mono (by decide))
  rw [RN_small (Rat.divInt 1 8).num (Rat.divInt 1 8).den false 1 8 (by decide +kernel) (by decide +kernel) (by decide) (by decide +kernel) (by decide)] at n2
  have g10 := SFrom_ok 10 (by decide)
  have g1 := SFrom_ok 1 (by decide)
  have x2 := RN_is false 1 8 { data := #[49] } { data := #[56] } rfl rfl
  simp only at T1 T2 T3
  rw [show (2 : Rat).num = 2 from rfl, show (5 : Rat).num = 5 from rfl] at T1
  rw [show (2 : Rat).num = 2 from rfl, show (-3 : Rat).num = -3 from rfl] at T2
  rw [show (3 : Rat).num = 3 from rfl, show (7 : Rat).num = 7 from rfl] at T3
  rw [show RN (10 : Rat).num (10 : Rat).den = RN 10 1 from rfl] at n1
  rw [show RN (1 : Rat).num (1 : Rat).den = RN 1 1 from rfl] at n3
  refine AC.of_body TTok Try.func70 rfl (enter_of Try.func70 (by kernel_rfl) (by kernel_rfl)) (by intro x hx; cases hx) (.val _) (Nat.le_of_ble_eq_true rfl) ?_
  clear sm e1 e2 e3
  generalize (10 : Rat).num = m1 at *
  generalize (Rat.divInt 1 8).num = m2 at *
  generalize (1 : Rat).num = m3 at *
  unfold RA RN at *
  repeat
    conv => whnf
    first
      | refine ⟨_, by assumption, ?_⟩
      | refine ⟨(Nat.le_of_ble_eq_true rfl), _, by assumption, ?_⟩
      | refine ⟨by kernel_rfl, ?_⟩
      | exact rfl
      | refine ⟨by decide, ?_⟩
  conv => whnf
  refine caseb (fun _ => ?_) (fun h => Bool.noConfusion ((RN_self _ _ _).symm.trans h))
  repeat
    conv => whnf
    first
      | refine ⟨_, by assumption, ?_⟩
      | refine ⟨(Nat.le_of_ble_eq_true rfl), _, by assumption, ?_⟩
      | refine ⟨by kernel_rfl, ?_⟩
      | exact rfl
      | refine ⟨by decide, ?_⟩
  conv => whnf
  refine caseb (fun _ => ?_) (fun h => Bool.noConfusion ((x2).symm.trans h))
  repeat
    conv => whnf
    first
      | refine ⟨_, by assumption, ?_⟩
      | refine ⟨(Nat.le_of_ble_eq_true rfl), _, by assumption, ?_⟩
      | refine ⟨by kernel_rfl, ?_⟩
      | exact rfl
      | refine ⟨by decide, ?_⟩
  conv => whnf
  refine valB ?_
  exact RN_self _ _ _

end Go.Proofs.Ytabgankeaagibaa

/- The statement DyadPowers: the walk through the law. -/
set_option linter.unusedVariables false
namespace Go.Proofs.Ytabgankeaagibaa.dyadPowers
open Go Go.AL NM

theorem limbs_pow_mul (x : Nat) : ∀ n : Nat, (limbs (x ^ n)).length ≤ n * (limbs x).length + 1
  | 0 => by rw [Nat.pow_zero, limbs_1]; omega
  | n + 1 => by
    have h1 := limbs_pow_mul x n
    have h2 := limbs_mul (x ^ n) x
    rw [Nat.pow_succ, Nat.add_mul, Nat.one_mul]
    omega
theorem pow_szn {a : Rat} {k : Nat} (n : Nat) (h : Sz a k) : Sz (a ^ n) (n * k + 1) := by
  refine ⟨?_, ?_⟩
  · rw [Rat.num_pow, Int.natAbs_pow]
    exact Nat.le_trans (limbs_pow_mul _ _) (Nat.add_le_add_right (Nat.mul_le_mul_left n h.1) 1)
  · rw [Rat.den_pow]
    exact Nat.le_trans (limbs_pow_mul _ _) (Nat.add_le_add_right (Nat.mul_le_mul_left n h.2) 1)
theorem rpow_add (a : Rat) (i : Nat) : ∀ k : Nat, a ^ (i + k) = a ^ i * a ^ k
  | 0 => by rw [Rat.pow_zero, Rat.mul_one, Nat.add_zero]
  | k + 1 => by rw [← Nat.add_assoc, Rat.pow_succ, rpow_add a i k, Rat.pow_succ, Rat.mul_assoc]
theorem rpow_mul (a : Rat) (i : Nat) : ∀ k : Nat, a ^ (i * k) = (a ^ i) ^ k
  | 0 => by rw [Nat.mul_zero, Rat.pow_zero, Rat.pow_zero]
  | k + 1 => by rw [Nat.mul_succ, rpow_add, rpow_mul a i k, Rat.pow_succ]
theorem rpow_inv {a b : Rat} (h : a * b = 1) : ∀ n : Nat, a ^ n * b ^ n = 1
  | 0 => by rw [Rat.pow_zero, Rat.pow_zero, Rat.mul_one]
  | n + 1 => by
    rw [Rat.pow_succ, Rat.pow_succ, Rat.mul_assoc, ← Rat.mul_assoc a, Rat.mul_comm a, Rat.mul_assoc, h, Rat.mul_one, rpow_inv h n]
theorem lim_pow {a : Rat} (hl : limQ a) : ∀ n : Nat, a ^ (n + 1) = if a.num < 0 ∧ (n + 1) % 2 = 0 then -a else a := by
  have hc : a = 0 ∨ a = 1 ∨ a = -1 := by
    have : a.num = 0 ∨ a.num = 1 ∨ a.num = -1 := by have := hl.2; omega
    rcases this with h | h | h
    · exact .inl (Rat.num_eq_zero.1 h)
    · exact .inr (.inl (Rat.ext h hl.1))
    · exact .inr (.inr (Rat.ext h hl.1))
  intro n
  rcases hc with rfl | rfl | rfl
  · rw [Rat.pow_succ, Rat.mul_zero, if_neg (fun h => absurd h.1 (by decide))]
  · have : ∀ n : Nat, (1 : Rat) ^ n = 1 := fun n => by
      induction n with
      | zero => rfl
      | succ n ih => rw [Rat.pow_succ, ih, Rat.mul_one]
    rw [this, if_neg (fun h => absurd h.1 (by decide))]
  · induction n with
    | zero => rw [if_neg (by decide)]; decide +kernel
    | succ n ih =>
      rw [Rat.pow_succ, ih]
      have hn : (-1 : Rat).num < 0 := by decide
      by_cases he : (n + 1) % 2 = 0
      · rw [if_pos ⟨hn, he⟩, if_neg (fun h => by omega)]; decide +kernel
      · rw [if_neg (fun h => he h.2), if_pos ⟨hn, by omega⟩]; decide +kernel

theorem powQ_nat {a : Rat} {n K : Nat} (hK : Sz a K) (hb : n * K + 1 ≤ 64) (hl : ¬ (limQ a ∧ (n : Int) ≠ 0)) : powQ a (n : Int) 64 = (a ^ n, true) := by
  have sz := pow_szn n hK
  unfold powQ
  by_cases h0 : (n : Int) = 0
  · rw [if_pos h0]
    have : n = 0 := by omega
    rw [this, Rat.pow_zero]
  · rw [if_neg h0, if_neg (fun h => hl ⟨h, h0⟩)]
    have e1 : pb a (n : Int) = a := by unfold pb; rw [if_neg (by omega)]
    have e2 : pk (n : Int) = n := by unfold pk; rw [if_neg (by omega)]; omega
    rw [e1, e2, if_pos]
    have s1 := sz.1
    have s2 := sz.2
    rw [Rat.num_pow, Int.natAbs_pow] at s1
    rw [Rat.den_pow] at s2
    exact ⟨.inr (by omega), .inr (by omega)⟩
theorem powerQ_nat {a : Rat} {n K : Nat} (hK : Sz a K) (hn : fit (n : Int)) (hb : n * K + 1 ≤ 64) : powerQ a ((n : Int) : Rat) 64 = (a ^ n, 0) := by
  unfold powerQ
  rw [Rat.num_intCast, Rat.den_intCast, if_neg (fun h => h.elim (fun h => h rfl) (fun h => by have := h.2; omega))]
  by_cases hl : limQ a ∧ (n : Int) ≠ 0
  · rw [if_pos hl]
    have hn0 := hl.2
    obtain ⟨m, hm⟩ : ∃ m, n = m + 1 := ⟨n - 1, by omega⟩
    rw [Int.natAbs_natCast, hm, lim_pow hl.1 m]
  · rw [if_neg hl, if_neg (fun h => h hn), powQ_nat hK hb hl]
    rfl
theorem rec42 (a b : Rat) (m : Int) : reckonQ 42 a b m = powerQ a b m := rfl
theorem two_pow {a : Rat} {n K : Nat} (hK : Sz a K) (hn : n < 1000) (hb : n * K + 1 ≤ 64) : twoQ 42 a ((n : Int) : Rat) 64 = (a ^ n, 0) := by
  have sz := pow_szn n hK
  refine two_rec (by decide) (by decide) (by decide) ((rec42 _ _ _).trans (powerQ_nat hK (by unfold fit; omega) hb)) ?_
  have := sz.1
  have := sz.2
  unfold qLimbs
  omega
theorem two_neg {a : Rat} {n K : Nat} (hK : Sz a K) (h0 : 0 < n) (hn : n < 1000) (hb : n * K + 1 ≤ 64) (ha : a ≠ 0) : twoQ 42 a ((-(n : Int) : Int) : Rat) 64 = ((1 / a) ^ n, 0) := by
  have hi : Sz (1 / a) K := by
    obtain ⟨i1, i2⟩ := inv_parts ha
    exact ⟨by rw [i1]; exact hK.2, by rw [i2]; exact hK.1⟩
  have sz := pow_szn n hi
  refine two_rec (by decide) (by decide) (by decide) ?_ ?_
  · show powerQ a ((-(n : Int) : Int) : Rat) 64 = _
    unfold powerQ
    rw [if_neg (fun h => h.elim (fun h => h rfl) (fun h => ha h.1))]
    have hn0 : ((-(n : Int) : Int) : Rat).num ≠ 0 := by show -(n : Int) ≠ 0; omega
    by_cases hl : limQ a
    · rw [if_pos ⟨hl, hn0⟩]
      have hc : a = 1 ∨ a = -1 := by
        have := num_ne ha
        have : a.num = 1 ∨ a.num = -1 := by have := hl.2; omega
        rcases this with h | h
        · exact .inl (Rat.ext h hl.1)
        · exact .inr (Rat.ext h hl.1)
      have e1 : 1 / a = a := by rcases hc with rfl | rfl <;> decide +kernel
      obtain ⟨m, rfl⟩ : ∃ m, n = m + 1 := ⟨n - 1, by omega⟩
      rw [e1, lim_pow hl m]
      have e2 : ((-((m + 1 : Nat) : Int) : Int) : Rat).num.natAbs = m + 1 := by show (-((m + 1 : Nat) : Int)).natAbs = _; omega
      rw [e2]
    · rw [if_neg (fun h => hl h.1), if_neg (fun h => h (show fit (-(n : Int)) by unfold fit; omega))]
      have hp : powQ a ((-(n : Int) : Int) : Rat).num 64 = ((1 / a) ^ n, true) := by
        show powQ a (-(n : Int)) 64 = _
        unfold powQ
        rw [if_neg (show ¬ -(n : Int) = 0 from hn0), if_neg hl]
        have e1 : pb a (-(n : Int)) = 1 / a := by unfold pb; rw [if_pos (by omega)]
        have e2 : pk (-(n : Int)) = n := by unfold pk; rw [if_pos (by omega), if_neg (by omega)]; omega
        rw [e1, e2, if_pos]
        have s1 := sz.1
        have s2 := sz.2
        rw [Rat.num_pow, Int.natAbs_pow] at s1
        rw [Rat.den_pow] at s2
        exact ⟨.inr (by omega), .inr (by omega)⟩
      rw [hp]
      rfl
  · have := sz.1
    have := sz.2
    unfold qLimbs
    omega
theorem two_none {n : Nat} (h0 : 0 < n) : twoQ 42 0 ((-(n : Int) : Int) : Rat) 64 = (0, 22) := by
  have h : reckonQ 42 0 ((-(n : Int) : Int) : Rat) 64 = (0, 22) := by
    show powerQ 0 _ 64 = _
    unfold powerQ
    rw [if_pos (.inr ⟨rfl, by show -(n : Int) < 0; omega⟩)]
  unfold twoQ
  rw [if_neg (by decide), if_neg (by decide), if_neg (by decide), h, if_pos (by decide)]

theorem bad (b : Bool) (s t : List Int) (y z : Int) (x : Int) (d : Nat) (o : Bool) (h1 : AC Try.prog 71 [RT b s t] (.pure (.tup [RA x d, .val (.bool o)]))) (h : o = false ∨ 8 < s.length ∨ 8 < t.length) :
    AC Try.prog 13 [RT b s t, .val (.int .u8 y), .val (.int .u8 z)] (.pure (.val (.bool true))) := by
  refine AC.of_body TTok Try.func13 rfl (enter_of Try.func13 (by kernel_rfl) (by kernel_rfl)) (noid3 (RT_noid _ _ _) (.val _) (.val _)) (.val _) (Nat.le_of_ble_eq_true rfl) ?_
  have hA := awake13_ok
  have z1 := strL_size s
  have z2 := strL_size t
  unfold RT RA at *
  cases o
  · repeat
      conv => whnf
      first
        | refine ⟨_, by assumption, ?_⟩
        | refine ⟨(Nat.le_of_ble_eq_true rfl), _, by assumption, ?_⟩
        | refine ⟨by kernel_rfl, ?_⟩
        | exact rfl
        | refine ⟨by decide, ?_⟩
  · by_cases c1 : 8 < s.length
    · have f1 : decide (((strL s).size : Int) > 8) = true := decide_eq_true (by omega)
      repeat
        conv => whnf
        first
          | refine ⟨_, by assumption, ?_⟩
          | refine ⟨(Nat.le_of_ble_eq_true rfl), _, by assumption, ?_⟩
          | refine ⟨by kernel_rfl, ?_⟩
          | exact rfl
          | refine ⟨by decide, ?_⟩
      conv => whnf
      refine caseb (fun _ => ?_) (fun h => Bool.noConfusion ((f1).symm.trans h))
      repeat
        conv => whnf
        first
          | refine ⟨_, by assumption, ?_⟩
          | refine ⟨(Nat.le_of_ble_eq_true rfl), _, by assumption, ?_⟩
          | refine ⟨by kernel_rfl, ?_⟩
          | exact rfl
          | refine ⟨by decide, ?_⟩
    · have f1 : decide (((strL s).size : Int) > 8) = false := decide_eq_false (by omega)
      have f2 : decide (((strL t).size : Int) > 8) = true := decide_eq_true (by rcases h with h | h | h; cases h; omega; omega)
      repeat
        conv => whnf
        first
          | refine ⟨_, by assumption, ?_⟩
          | refine ⟨(Nat.le_of_ble_eq_true rfl), _, by assumption, ?_⟩
          | refine ⟨by kernel_rfl, ?_⟩
          | exact rfl
          | refine ⟨by decide, ?_⟩
      conv => whnf
      refine caseb (fun h => Bool.noConfusion ((f1).symm.trans h)) (fun _ => ?_)
      repeat
        conv => whnf
        first
          | refine ⟨_, by assumption, ?_⟩
          | refine ⟨(Nat.le_of_ble_eq_true rfl), _, by assumption, ?_⟩
          | refine ⟨by kernel_rfl, ?_⟩
          | exact rfl
          | refine ⟨by decide, ?_⟩
      conv => whnf
      refine caseb (fun _ => ?_) (fun h => Bool.noConfusion ((f2).symm.trans h))
      repeat
        conv => whnf
        first
          | refine ⟨_, by assumption, ?_⟩
          | refine ⟨(Nat.le_of_ble_eq_true rfl), _, by assumption, ?_⟩
          | refine ⟨by kernel_rfl, ?_⟩
          | exact rfl
          | refine ⟨by decide, ?_⟩

theorem rem8 {x : Int} (hx : 0 ≤ x ∧ x < 256) : ∃ i : Nat, i < 8 ∧ IntKind.i64.wrap (x.tmod 8) = (i : Int) := by
  refine ⟨(x % 8).toNat, by omega, ?_⟩
  rw [Int.tmod_eq_emod_of_nonneg hx.1, IntWalk.i64_in _ (by omega)]
  omega

theorem good (a : Rat) (y z : Int) (hy : 0 ≤ y ∧ y < 256) (hz : 0 ≤ z ∧ z < 256) (la : Sz a 1) (l1 : (decS a.num.natAbs).size ≤ 8) (l2 : (decS a.den).size ≤ 8) (h1 : AC Try.prog 71 [RN a.num a.den] (.pure (.tup [RA a.num a.den, .val (.bool true)]))) :
    AC Try.prog 13 [RN a.num a.den, .val (.int .u8 y), .val (.int .u8 z)] (.pure (.val (.bool true))) := by
  obtain ⟨i, hi, ei⟩ := rem8 hy
  obtain ⟨k, hk, ek⟩ := rem8 hz
  have f1 : decide (((decS a.num.natAbs).size : Int) > 8) = false := decide_eq_false (by omega)
  have f2 : decide (((decS a.den).size : Int) > 8) = false := decide_eq_false (by omega)
  have hik : i * k ≤ 49 := Nat.mul_le_mul (show i ≤ 7 by omega) (show k ≤ 7 by omega)
  have e1 : IntKind.i64.wrap (IntKind.i64.wrap (y.tmod 8) + IntKind.i64.wrap (z.tmod 8)) = ((i + k : Nat) : Int) := by
    rw [ei, ek, IntWalk.i64_in _ (by omega)]; omega
  have e2 : IntKind.i64.wrap (IntKind.i64.wrap (y.tmod 8) * IntKind.i64.wrap (z.tmod 8)) = ((i * k : Nat) : Int) := by
    rw [ei, ek, ← Int.natCast_mul, IntWalk.i64_in _ (by omega)]
  have e3 : IntKind.i64.wrap (0 - IntKind.i64.wrap (y.tmod 8)) = -(i : Int) := by
    rw [ei, IntWalk.i64_in _ (by omega)]; omega
  have T : ∀ (p : Rat) (d : Nat) (n K : Nat), dn d = p.den → Sz p 20 → Sz p K → n < 1000 → n * K + 1 ≤ 64 → ∃ d', dn d' = (p ^ n).den ∧ AC Try.prog 72 [.val (.int .i32 42), RA p.num d, RA (n : Int) 1, .val (.int .i64 64)] (.pure (.tup [RA (p ^ n).num d', .val (.int .i64 0)])) := fun p d n K hd h20 hK hn hb => by
    have hq : Sz ((n : Int) : Rat) 20 := (Sz_int (k := 1) (by decide) (limbs_small (by rw [Int.natAbs_natCast]; omega))).mono (by decide)
    have := Two_ok 42 p ((n : Int) : Rat) d 1 64 hd rfl (by decide) h20 hq
    rwa [two_pow hK hn hb] at this
  have F : ∀ n : Nat, n < 1000 → AC Try.prog 50 [.val (.int .i64 (n : Int))] (.pure (RA (n : Int) 1)) := fun n hn => RatFrom_ok (n : Int) (by omega)
  have su := pow_szn i la
  have sv := pow_szn k la
  have sw := pow_szn (i + k) la
  have sp := pow_szn (i * k) la
  obtain ⟨du, gu, Tu⟩ := T a a.den i 1 (dn_den a) (la.mono (by decide)) la (by omega) (by omega)
  obtain ⟨dv, gv, Tv⟩ := T a a.den k 1 (dn_den a) (la.mono (by decide)) la (by omega) (by omega)
  obtain ⟨dw, gw, Tw⟩ := T a a.den (i + k) 1 (dn_den a) (la.mono (by decide)) la (by omega) (by omega)
  obtain ⟨dz, gz, Tz⟩ := T (a ^ i) du k 8 gu (su.mono (by omega)) (su.mono (by omega)) (by omega) (by omega)
  obtain ⟨dp, gp, Tp⟩ := T a a.den (i * k) 1 (dn_den a) (la.mono (by decide)) la (by omega) (by omega)
  rw [← rpow_mul] at gz Tz
  have Fi := F i (by omega)
  have Fk := F k (by omega)
  have Fs := F (i + k) (by omega)
  have Fp := F (i * k) (by omega)
  have M1 := QTimes1 (a ^ i) (a ^ k) du dv gu gv (su.mono (by omega)) (sv.mono (by omega))
  rw [← rpow_add] at M1
  have C1 := QCmp_ok (a ^ (i + k)) (a ^ (i + k)) (a ^ (i + k)).den dw (dn_den _) gw (sw.mono (by omega)) (sw.mono (by omega))
  have C2 := QCmp_ok (a ^ (i * k)) (a ^ (i * k)) dz dp gz gp (sp.mono (by omega)) (sp.mono (by omega))
  have hF1 := RatFrom_ok 1 (by decide)
  have C3 := QCmp_ok 1 1 1 1 rfl rfl (Sz_one.mono (by decide)) (Sz_one.mono (by decide))
  rw [cmpQ_self] at C1 C2 C3
  rw [show (1 : Rat).num = 1 from rfl] at C3
  have hS := RaSign_ok a.num a.den
  have hFn := RatFrom_ok (-(i : Int)) (by omega)
  have sn : Sz ((-(i : Int) : Int) : Rat) 20 := (Sz_int (k := 1) (by decide) (limbs_small (by omega))).mono (by decide)
  have Tn := Two_ok 42 a ((-(i : Int) : Int) : Rat) a.den 1 64 (dn_den a) rfl (by decide) (la.mono (by decide)) sn
  have hA := awake13_ok
  -- the last power, and what it comes to
  have last : (a = 0 ∧ 0 < i ∧ ∃ d', AC Try.prog 72 [.val (.int .i32 42), RA a.num a.den, RA (-(i : Int)) 1, .val (.int .i64 64)] (.pure (.tup [RA (0 : Rat).num d', .val (.int .i64 22)]))) ∨
      ((a = 0 → i = 0) ∧ ∃ (m : Rat) (d' : Nat), AC Try.prog 72 [.val (.int .i32 42), RA a.num a.den, RA (-(i : Int)) 1, .val (.int .i64 64)] (.pure (.tup [RA m.num d', .val (.int .i64 0)])) ∧ AC Try.prog 39 [RA m.num d', .sl 3 [rowR (a ^ i, du)] false] (.pure (RA 1 1))) := by
    by_cases h0 : 0 < i
    · by_cases ha : a = 0
      · left
        subst ha
        rw [two_none h0] at Tn
        obtain ⟨d', _, h⟩ := Tn
        exact ⟨rfl, h0, d', h⟩
      · right
        rw [two_neg la h0 (by omega) (by omega) ha] at Tn
        obtain ⟨d', g', h⟩ := Tn
        have i1 : Sz (1 / a) 1 := by
          obtain ⟨j1, j2⟩ := inv_parts ha
          exact ⟨by rw [j1]; exact la.2, by rw [j2]; exact la.1⟩
        have := QTimes1 ((1 / a) ^ i) (a ^ i) d' du g' gu ((pow_szn i i1).mono (by omega)) (su.mono (by omega))
        rw [rpow_inv (show 1 / a * a = 1 from Rat.div_mul_cancel ha)] at this
        exact ⟨fun h => absurd h ha, _, d', h, this⟩
    · right
      have hi0 : i = 0 := by omega
      subst hi0
      have e : ((-((0 : Nat) : Int) : Int) : Rat) = (((0 : Nat) : Int) : Rat) := rfl
      rw [e, two_pow la (by omega) (by omega)] at Tn
      obtain ⟨d', g', h⟩ := Tn
      have := QTimes1 (a ^ 0) (a ^ 0) d' du g' gu (su.mono (by omega)) (su.mono (by omega))
      rw [← rpow_add, Nat.add_zero, Rat.pow_zero] at this
      rw [Rat.pow_zero] at h gu ⊢
      exact ⟨fun _ => rfl, 1, d', h, this⟩
  rw [← ei] at Tu Fi
  rw [← ek] at Tv Fk Tz
  rw [← e1] at Tw Fs
  rw [← e2] at Tp Fp
  rw [← e3] at last hFn
  refine AC.of_body TTok Try.func13 rfl (enter_of Try.func13 (by kernel_rfl) (by kernel_rfl)) (noid3 (RN_noid _ _) (.val _) (.val _)) (.val _) (Nat.le_of_ble_eq_true rfl) ?_
  clear Tn sn su sv sw sp T F e1 e2 e3 ek gu gv gw gz gp
  unfold rowR at *
  simp only at *
  generalize a ^ (i + k) = pw at *
  generalize a ^ (i * k) = pp at *
  generalize a ^ i = pu at *
  generalize a ^ k = pv at *
  rcases last with ⟨ha, h0, d', L⟩ | ⟨hz0, m, d', L, M2⟩
  · have fs : (sigW a.num == 0) = true := sig_z ha
    have fi : decide (IntKind.i64.wrap (y.tmod 8) > 0) = true := decide_eq_true (by rw [ei]; omega)
    generalize sigW a.num = sg at *
    unfold RN RA at *
    conv => whnf
    refine ⟨_, h1, ?_⟩
    conv => whnf
    refine caseb (fun h => Bool.noConfusion ((f1).symm.trans h)) (fun _ => ?_)
    conv => whnf
    refine caseb (fun h => Bool.noConfusion ((f2).symm.trans h)) (fun _ => ?_)
    conv => whnf
    refine ⟨by decide, ?_⟩
    conv => whnf
    refine ⟨by decide, ?_⟩
    conv => whnf
    refine ⟨_, Fi, ?_⟩
    conv => whnf
    refine ⟨_, Tu, ?_⟩
    conv => whnf
    refine ⟨by kernel_rfl, ?_⟩
    conv => whnf
    refine ⟨_, Fk, ?_⟩
    conv => whnf
    refine ⟨_, Tv, ?_⟩
    conv => whnf
    refine ⟨by kernel_rfl, ?_⟩
    conv => whnf
    refine ⟨_, Fs, ?_⟩
    conv => whnf
    refine ⟨_, Tw, ?_⟩
    conv => whnf
    refine ⟨by kernel_rfl, ?_⟩
    conv => whnf
    refine ⟨_, Fk, ?_⟩
    conv => whnf
    refine ⟨_, Tz, ?_⟩
    conv => whnf
    refine ⟨by kernel_rfl, ?_⟩
    conv => whnf
    refine ⟨_, Fp, ?_⟩
    conv => whnf
    refine ⟨_, Tp, ?_⟩
    conv => whnf
    refine ⟨by kernel_rfl, ?_⟩
    conv => whnf
    refine ⟨(Nat.le_of_ble_eq_true rfl), _, M1, ?_⟩
    conv => whnf
    refine ⟨_, C1, ?_⟩
    conv => whnf
    refine ⟨_, C2, ?_⟩
    conv => whnf
    refine ⟨by kernel_rfl, ?_⟩
    conv => whnf
    refine ⟨_, hFn, ?_⟩
    conv => whnf
    refine ⟨_, L, ?_⟩
    conv => whnf
    refine ⟨by kernel_rfl, ?_⟩
    conv => whnf
    refine ⟨_, hS, ?_⟩
    conv => whnf
    refine caseb (fun _ => ?_) (fun h => Bool.noConfusion ((fs).symm.trans h))
    conv => whnf
    refine caseb (fun _ => ?_) (fun h => Bool.noConfusion ((fi).symm.trans h))
    conv => whnf
    refine ⟨_, hA, ?_⟩
    conv => whnf
    exact rfl
  · by_cases ha : a = 0
    · have fs : (sigW a.num == 0) = true := sig_z ha
      have hi0 := hz0 ha
      have fi : decide (IntKind.i64.wrap (y.tmod 8) > 0) = false := decide_eq_false (by rw [ei]; omega)
      generalize sigW a.num = sg at *
      unfold RN RA at *
      conv => whnf
      refine ⟨_, h1, ?_⟩
      conv => whnf
      refine caseb (fun h => Bool.noConfusion ((f1).symm.trans h)) (fun _ => ?_)
      conv => whnf
      refine caseb (fun h => Bool.noConfusion ((f2).symm.trans h)) (fun _ => ?_)
      conv => whnf
      refine ⟨by decide, ?_⟩
      conv => whnf
      refine ⟨by decide, ?_⟩
      conv => whnf
      refine ⟨_, Fi, ?_⟩
      conv => whnf
      refine ⟨_, Tu, ?_⟩
      conv => whnf
      refine ⟨by kernel_rfl, ?_⟩
      conv => whnf
      refine ⟨_, Fk, ?_⟩
      conv => whnf
      refine ⟨_, Tv, ?_⟩
      conv => whnf
      refine ⟨by kernel_rfl, ?_⟩
      conv => whnf
      refine ⟨_, Fs, ?_⟩
      conv => whnf
      refine ⟨_, Tw, ?_⟩
      conv => whnf
      refine ⟨by kernel_rfl, ?_⟩
      conv => whnf
      refine ⟨_, Fk, ?_⟩
      conv => whnf
      refine ⟨_, Tz, ?_⟩
      conv => whnf
      refine ⟨by kernel_rfl, ?_⟩
      conv => whnf
      refine ⟨_, Fp, ?_⟩
      conv => whnf
      refine ⟨_, Tp, ?_⟩
      conv => whnf
      refine ⟨by kernel_rfl, ?_⟩
      conv => whnf
      refine ⟨(Nat.le_of_ble_eq_true rfl), _, M1, ?_⟩
      conv => whnf
      refine ⟨_, C1, ?_⟩
      conv => whnf
      refine ⟨_, C2, ?_⟩
      conv => whnf
      refine ⟨by kernel_rfl, ?_⟩
      conv => whnf
      refine ⟨_, hFn, ?_⟩
      conv => whnf
      refine ⟨_, L, ?_⟩
      conv => whnf
      refine ⟨by kernel_rfl, ?_⟩
      conv => whnf
      refine ⟨_, hS, ?_⟩
      conv => whnf
      refine caseb (fun _ => ?_) (fun h => Bool.noConfusion ((fs).symm.trans h))
      conv => whnf
      refine caseb (fun h => Bool.noConfusion ((fi).symm.trans h)) (fun _ => ?_)
      conv => whnf
      refine ⟨(Nat.le_of_ble_eq_true rfl), _, M2, ?_⟩
      conv => whnf
      refine ⟨_, hF1, ?_⟩
      conv => whnf
      refine ⟨_, C3, ?_⟩
      conv => whnf
      refine ⟨_, hA, ?_⟩
      conv => whnf
      exact rfl
    · have fs : (sigW a.num == 0) = false := sig_ne ha
      generalize sigW a.num = sg at *
      unfold RN RA at *
      conv => whnf
      refine ⟨_, h1, ?_⟩
      conv => whnf
      refine caseb (fun h => Bool.noConfusion ((f1).symm.trans h)) (fun _ => ?_)
      conv => whnf
      refine caseb (fun h => Bool.noConfusion ((f2).symm.trans h)) (fun _ => ?_)
      conv => whnf
      refine ⟨by decide, ?_⟩
      conv => whnf
      refine ⟨by decide, ?_⟩
      conv => whnf
      refine ⟨_, Fi, ?_⟩
      conv => whnf
      refine ⟨_, Tu, ?_⟩
      conv => whnf
      refine ⟨by kernel_rfl, ?_⟩
      conv => whnf
      refine ⟨_, Fk, ?_⟩
      conv => whnf
      refine ⟨_, Tv, ?_⟩
      conv => whnf
      refine ⟨by kernel_rfl, ?_⟩
      conv => whnf
      refine ⟨_, Fs, ?_⟩
      conv => whnf
      refine ⟨_, Tw, ?_⟩
      conv => whnf
      refine ⟨by kernel_rfl, ?_⟩
      conv => whnf
      refine ⟨_, Fk, ?_⟩
      conv => whnf
      refine ⟨_, Tz, ?_⟩
      conv => whnf
      refine ⟨by kernel_rfl, ?_⟩
      conv => whnf
      refine ⟨_, Fp, ?_⟩
      conv => whnf
      refine ⟨_, Tp, ?_⟩
      conv => whnf
      refine ⟨by kernel_rfl, ?_⟩
      conv => whnf
      refine ⟨(Nat.le_of_ble_eq_true rfl), _, M1, ?_⟩
      conv => whnf
      refine ⟨_, C1, ?_⟩
      conv => whnf
      refine ⟨_, C2, ?_⟩
      conv => whnf
      refine ⟨by kernel_rfl, ?_⟩
      conv => whnf
      refine ⟨_, hFn, ?_⟩
      conv => whnf
      refine ⟨_, L, ?_⟩
      conv => whnf
      refine ⟨by kernel_rfl, ?_⟩
      conv => whnf
      refine ⟨_, hS, ?_⟩
      conv => whnf
      refine caseb (fun h => Bool.noConfusion ((fs).symm.trans h)) (fun _ => ?_)
      conv => whnf
      refine ⟨(Nat.le_of_ble_eq_true rfl), _, M2, ?_⟩
      conv => whnf
      refine ⟨_, hF1, ?_⟩
      conv => whnf
      refine ⟨_, C3, ?_⟩
      conv => whnf
      refine ⟨_, hA, ?_⟩
      conv => whnf
      exact rfl

theorem holds (b0 : Bool) (s0 t0 : ByteArray) (a1 a2 : Int) (w1 : 0 ≤ a1 ∧ a1 < 256) (w2 : 0 ≤ a2 ∧ a2 < 256) : AC Try.prog 13 [.agg [.val (.bool b0), .val (.string s0), .val (.string t0)], .val (.int .u8 a1), .val (.int .u8 a2)] (.pure (.val (.bool true))) := by
  rw [RT_of]
  obtain ⟨p, o, r⟩ := read13 b0 _ _ (bytesL_byt s0) (bytesL_byt t0)
  by_cases hb : o = false ∨ 8 < (bytesL s0).length ∨ 8 < (bytesL t0).length
  · obtain ⟨x, d, h⟩ := r.bad
    exact bad _ _ _ a1 a2 x d o h hb
  · cases o
    · exact absurd (.inl rfl) hb
    · obtain ⟨_, hq, _, _, hp⟩ := r.1 rfl
      have hs := RQ_sz (k := 1) (l := 8) hq (by omega) (by omega) (by decide)
      obtain ⟨l1, l2⟩ := RQ_len hq
      rw [← hp] at l1 l2 hs
      obtain ⟨lp, e, h⟩ := r.sz
      rw [e]
      exact good p a1 a2 w1 w2 hs (by omega) (by omega) h

end Go.Proofs.Ytabgankeaagibaa.dyadPowers

/- An abstract program logic over tree values (part 30): what a caller hands in, structs and slices of any depth, as abstract values. -/
set_option linter.unusedVariables false
set_option linter.unusedSimpArgs false
namespace Go.AL
open Go Go.RowKit Go.ChangeShapes Go.WideShapes

/-- Cells that stand to abstract values that name no live block. -/
def CellsR (W : World) (cs : List Value) (xs : List AV) : Prop :=
  xs.length = cs.length ∧ ∀ (i : Nat) (y : AV), xs[i]? = some y → VR W (fun b => b < W.heap.size) (fun _ => none) (cs.getD i undef) y ∧ (cs.getD i undef).oneCell' = true ∧ NoId y

theorem CellsR.nil (W : World) : CellsR W [] [] := ⟨rfl, fun i y h => by simp at h⟩
theorem CellsR.append {W : World} {a b : List Value} {xs ys : List AV} (h : CellsR W a xs) (h' : CellsR W b ys) : CellsR W (a ++ b) (xs ++ ys) := by
  refine ⟨by rw [List.length_append, List.length_append, h.1, h'.1], fun i y hy => ?_⟩
  by_cases hi : i < xs.length
  · rw [List.getElem?_append_left hi] at hy
    have := h.2 i y hy
    rw [show (a ++ b).getD i undef = a.getD i undef by rw [List.getD, List.getD, List.getElem?_append_left (by rw [← h.1]; exact hi)]]
    exact this
  · rw [List.getElem?_append_right (by omega)] at hy
    have := h'.2 _ y hy
    rw [show (a ++ b).getD i undef = b.getD (i - xs.length) undef by rw [List.getD, List.getD, List.getElem?_append_right (by rw [← h.1]; omega), h.1]]
    exact this
theorem CellsR.one {W : World} {v : Value} {x : AV} (h : VR W (fun b => b < W.heap.size) (fun _ => none) v x) (h1 : v.oneCell' = true) (h2 : NoId x) : CellsR W [v] [x] := by
  refine ⟨rfl, fun i y hy => ?_⟩
  rcases i with _ | i
  · simp at hy; subst hy; exact ⟨h, h1, h2⟩
  · simp at hy

/-- What is known of the cells of a type. -/
def Opens (P : Program) (t : TypeId) (Φ : List AV → Prop) : Prop :=
  ∀ (W : World) (H : Type) (enc : TypeId × Value → H) (fuel : Nat) (cs : List Value) (x : DataW H × List MemPlace), DataW.trod enc P W 0 (fun _ => true) true fuel t cs = some x → ∃ xs, CellsR W cs xs ∧ Φ xs

section
variable {P : Program} {t : TypeId}

theorem opens_int {k : IntKind} (ht : P.underlying t = some (.int k)) : Opens P t (fun xs => ∃ n, xs = [.val (.int k n)] ∧ (Lit.int k n).wf = true) := by
  intro W H enc fuel cs x h
  obtain ⟨n, rfl, _, hw⟩ := DataW.trod_int ht h
  exact ⟨_, CellsR.one (.val _) rfl (.val _), n, rfl, hw⟩
theorem opens_bool (ht : P.underlying t = some .bool) : Opens P t (fun xs => ∃ b, xs = [.val (.bool b)]) := by
  intro W H enc fuel cs x h
  obtain ⟨n, rfl, _⟩ := DataW.trod_bool ht h
  exact ⟨_, CellsR.one (.val _) rfl (.val _), n, rfl⟩
theorem opens_str (ht : P.underlying t = some .string) : Opens P t (fun xs => ∃ s, xs = [.val (.string s)] ∧ s.size ≤ maxLen) := by
  intro W H enc fuel cs x h
  obtain ⟨s, rfl, _, hs⟩ := DataW.trod_string ht h
  exact ⟨_, CellsR.one (.val _) rfl (.val _), s, rfl, hs⟩

/-- The fields of a struct, from a place on. -/
inductive OpensF (P : Program) : List (Nat × Nat) → Nat → Nat → (List AV → Prop) → Prop
  | nil (n : Nat) : OpensF P [] n n (fun xs => xs = [])
  | cons (t : Nat) (fs : List (Nat × Nat)) (off c n : Nat) (Φ Ψ : List AV → Prop) (hc : P.cellsOf t = c) (hf : Opens P t Φ) (hr : OpensF P fs (off + c) n Ψ) :
      OpensF P ((off, t) :: fs) off n (fun xs => ∃ a b, xs = a ++ b ∧ Φ a ∧ Ψ b)

theorem OpensF.spec {fs : List (Nat × Nat)} {off n : Nat} {Φ : List AV → Prop} (h : OpensF P fs off n Φ) : ∀ (W : World) (H : Type) (enc : TypeId × Value → H) (fuel : Nat) (cs : List Value),
    cs.length = n → (∀ f ∈ fs, ∃ y, DataW.trod enc P W 0 (fun _ => true) true fuel f.2 ((cs.drop f.1).take (P.cellsOf f.2)) = some y) → ∃ xs, CellsR W (cs.drop off) xs ∧ Φ xs := by
  induction h with
  | nil n =>
    intro W H enc fuel cs hl _
    refine ⟨[], ?_, rfl⟩
    rw [List.drop_of_length_le (by omega)]
    exact .nil W
  | cons t fs off c n Φ Ψ hc hf hr ih =>
    intro W H enc fuel cs hl hall
    obtain ⟨y, hy⟩ := hall (off, t) (by simp)
    rw [hc] at hy
    obtain ⟨a, ha, hΦ⟩ := hf W H enc fuel _ y hy
    obtain ⟨b, hb, hΨ⟩ := ih W H enc fuel cs hl (fun g hg => hall g (by simp [hg]))
    refine ⟨a ++ b, ?_, a, b, rfl, hΦ, hΨ⟩
    have e : cs.drop off = (cs.drop off).take c ++ cs.drop (off + c) := by
      rw [← List.drop_drop, List.take_append_drop]
    rw [e]
    exact ha.append hb

theorem opens_struct {fs : Array Field} {l : List (Nat × Nat)} {n : Nat} {Φ : List AV → Prop} (ht : P.underlying t = some (.struct fs)) (hfs : fs.toList.map (fun f => (f.offset, f.type)) = l) (hc : P.cellsOf t = n) (h : OpensF P l 0 n Φ) : Opens P t Φ := by
  intro W H enc fuel cs x hx
  obtain ⟨xs, m, rfl, _, hl, hs, hf⟩ := DataW.trod_struct ht hx
  have := h.spec W H enc m cs (by rw [hl, hc]) (fun g hgm => by
    rw [← hfs] at hgm
    obtain ⟨f, hfm, rfl⟩ := List.mem_map.1 hgm
    obtain ⟨i, hi⟩ := List.getElem?_of_mem hfm
    have hi' : fs[i]? = some f := by rw [← Array.getElem?_toList]; exact hi
    have hlt : i < xs.length := by
      have := (Array.getElem?_eq_some_iff.1 hi').1
      omega
    exact ⟨xs[i], by rw [hf i f hi']; exact List.getElem?_eq_getElem hlt⟩)
  simpa using this

theorem opens_slice {e c : Nat} {Φ : List AV → Prop} (ht : P.underlying t = some (.slice e)) (hc : P.cellsOf e = c) (h0 : 0 < c) (he : Opens P e Φ) :
    Opens P t (fun xs => ∃ rows, xs = [.sl c rows false] ∧ rows.length ≤ maxLen ∧ ∀ r ∈ rows, r.length = c ∧ Φ r) := by
  intro W H enc fuel cs x hx
  rcases DataW.trod_slice ht hx with ⟨rfl, _⟩ | ⟨a, len, cap, elems, rest, n, rfl, rfl, _, hb, hl, hm, hlen, hel, _, _⟩
  · refine ⟨[.sl c [] false], CellsR.one (.sl none 0 0 c [] false 0 0 (fun _ => undef) rfl (Nat.le_refl _) (fun h => by cases h) (fun r hr => by cases hr) (fun h => absurd rfl h) (fun j x hx => by simp at hx) (fun j x hx => by simp at hx) (fun j x hx => by simp at hx) (fun j x hx => by simp at hx)) rfl (.sl _ _ _ (fun r hr => by cases hr)), [], rfl, Nat.zero_le _, fun r hr => by cases hr⟩
  · have ex : ∀ i, i < len → ∃ (ci : List Value) (xs : List AV), W.cells? 0 (a.add (i * c)) c = some ci ∧ CellsR W ci xs ∧ Φ xs := by
      intro i hi
      have h1 := hel i hi
      rw [hc, List.getElem?_eq_getElem (by omega), Option.bind_eq_some_iff] at h1
      obtain ⟨ci, h2, h3⟩ := h1
      obtain ⟨xs, h4, h5⟩ := he W H enc n ci _ h3
      exact ⟨ci, xs, h2, h4, h5⟩
    have : ∃ f : Nat → List AV, ∀ i, i < len → ∃ ci : List Value, W.cells? 0 (a.add (i * c)) c = some ci ∧ CellsR W ci (f i) ∧ Φ (f i) :=
      ⟨fun i => if h : i < len then (ex i h).choose_spec.choose else [], fun i hi => ⟨(ex i hi).choose, by
        simp only [dif_pos hi]
        exact (ex i hi).choose_spec.choose_spec⟩⟩
    obtain ⟨f, hf⟩ := this
    have hrl : ((List.range len).map f).length = len := by simp
    have hget : ∀ i r, ((List.range len).map f)[i]? = some r → i < len ∧ r = f i := fun i r hr => by
      rw [List.getElem?_map] at hr
      by_cases hi : i < len
      · rw [List.getElem?_range hi] at hr
        exact ⟨hi, (Option.some.inj hr).symm⟩
      · rw [List.getElem?_eq_none (by simp; omega)] at hr; cases hr
    have hw : ∀ r ∈ (List.range len).map f, r.length = c ∧ Φ r := fun r hr => by
      obtain ⟨i, hi, rfl⟩ := List.mem_map.1 hr
      obtain ⟨ci, h1, h2, h3⟩ := hf i (List.mem_range.1 hi)
      exact ⟨by rw [h2.1]; exact (World.cells?_some h1).2.1, h3⟩
    have spot : 0 < len → a.spot = none := fun hp => by
      obtain ⟨ci, h1, _, _⟩ := hf 0 hp
      have h2 := World.cells?_some h1
      have h3 := h2.2.2 0 h0
      rw [Nat.zero_mul, show (a.add 0).add 0 = a from rfl, List.getElem?_eq_getElem (by omega)] at h3
      unfold World.cell? at h3
      split at h3
      · cases hs : a.spot with
        | none => rfl
        | some z => rw [hs] at h3; simp at h3
      · cases h3
    have cell : ∀ (j : Nat) (y : AV), ((List.range len).map f).flatten[j]? = some y → ∃ v, W.cell? ⟨a.block, a.off + j, none⟩ = some v ∧ v.oneCell' = true ∧ VR W (fun b => b < W.heap.size) (fun _ => none) v y ∧ NoId y := by
      intro j y hy
      rw [flat_get h0 _ (fun r hr => (hw r hr).1), Option.bind_eq_some_iff] at hy
      obtain ⟨r, hr, hy⟩ := hy
      obtain ⟨hi, rfl⟩ := hget _ _ hr
      obtain ⟨ci, h1, h2, h3⟩ := hf _ hi
      obtain ⟨_, hcl, hcell⟩ := World.cells?_some h1
      have hk : j % c < c := Nat.mod_lt _ h0
      have h4 := hcell (j % c) hk
      rw [List.getElem?_eq_getElem (by omega)] at h4
      obtain ⟨g1, g2, g3⟩ := h2.2 _ y hy
      rw [List.getD, List.getElem?_eq_getElem (by omega), Option.getD_some] at g1 g2
      have hs := spot (Nat.lt_of_le_of_lt (Nat.zero_le _) hi)
      have ea : (a.add (j / c * c)).add (j % c) = ⟨a.block, a.off + j, none⟩ := by
        obtain ⟨b, o, sp⟩ := a
        have hs : sp = none := hs
        subst hs
        rw [add_plain, add_plain, Nat.add_assoc, Nat.mul_comm, Nat.div_add_mod]
      rw [ea] at h4
      exact ⟨_, h4, g2, g1, g3⟩
    refine ⟨[.sl c ((List.range len).map f) false], CellsR.one ?_ rfl (.sl _ _ _ (fun r hr y hy => ?_)), _, rfl, by rw [hrl]; omega, hw⟩
    · refine .sl (some a) len cap c _ false a.block a.off (fun j => (W.cell? ⟨a.block, a.off + j, none⟩).getD undef) (by rw [hrl]) hl (fun h => by cases h) (fun r hr => (hw r hr).1) (fun hne => ?_) (fun j y hy => ?_) (fun j y hy => ?_) (fun j y hy => ?_) (fun j y hy => ?_)
      · have hp : 0 < len := by
          rcases Nat.eq_zero_or_pos len with h | h
          · exact absurd (by rw [h]; rfl) hne
          · exact h
        have hs := spot hp
        obtain ⟨ci, h1, _, _⟩ := hf 0 hp
        have h3 := (World.cells?_some h1).2.2 0 h0
        rw [Nat.zero_mul, show (a.add 0).add 0 = a from rfl, List.getElem?_eq_getElem (by rw [(World.cells?_some h1).2.1]; exact h0)] at h3
        refine ⟨by obtain ⟨b, o, sp⟩ := a; have hs : sp = none := hs; rw [hs], ?_⟩
        unfold World.cell? at h3
        split at h3
        · rename_i hb' 
          exact (Array.getElem?_eq_some_iff.1 hb').1
        · cases h3
      · obtain ⟨v, h1, _⟩ := cell j y hy
        rw [h1]; rfl
      · obtain ⟨v, h1, h2, _⟩ := cell j y hy
        rw [h1]; exact h2
      · obtain ⟨v, h1, _, h3, _⟩ := cell j y hy
        rw [h1]; exact h3
      · obtain ⟨v, h1, _, _, h4⟩ := cell j y hy
        exact h4
    · obtain ⟨i, hi⟩ := List.getElem?_of_mem hr
      obtain ⟨k, hk⟩ := List.getElem?_of_mem hy
      have := flat_row (fun r hr => (hw r hr).1) hi hk
      exact (cell _ y this).choose_spec.2.2.2

theorem Opens.mono {Φ Ψ : List AV → Prop} (h : Opens P t Φ) (hm : ∀ xs, Φ xs → Ψ xs) : Opens P t Ψ := fun W H enc fuel cs x hx => by
  obtain ⟨xs, h1, h2⟩ := h W H enc fuel cs x hx
  exact ⟨xs, h1, hm xs h2⟩

/-- An argument of one cell. -/
theorem Opens.cell {Φ : List AV → Prop} (h : Opens P t Φ) {W : World} {H : Type} {enc : TypeId × Value → H} {v : Value} {d : DataW H} {ps : List MemPlace} (hd : DataW.Trod enc P W 0 (fun _ => true) true t v d ps)
    (hc : v.cells = #[v]) : ∃ x, Φ [x] ∧ VR W (fun b => b < W.heap.size) (fun _ => none) v x ∧ NoId x := by
  obtain ⟨fuel, hf⟩ := hd
  obtain ⟨xs, h1, h2⟩ := h W H enc fuel _ _ hf
  rw [hc] at h1
  match xs, h1, h2 with
  | [x], h1, h2 =>
    obtain ⟨g1, _, g3⟩ := h1.2 0 x rfl
    exact ⟨x, h2, g1, g3⟩
  | [], h1, _ => exact absurd h1.1 (by simp)
  | _ :: _ :: _, h1, _ => exact absurd h1.1 (by simp)

/-- An argument that is a struct. -/
theorem Opens.struct {Φ : List AV → Prop} (h : Opens P t Φ) {W : World} {H : Type} {enc : TypeId × Value → H} {cs : Array Value} {d : DataW H} {ps : List MemPlace} (hd : DataW.Trod enc P W 0 (fun _ => true) true t (.agg cs) d ps) :
    ∃ xs, Φ xs ∧ VR W (fun b => b < W.heap.size) (fun _ => none) (.agg cs) (.agg xs) ∧ NoId (.agg xs) := by
  obtain ⟨fuel, hf⟩ := hd
  obtain ⟨xs, h1, h2⟩ := h W H enc fuel _ _ hf
  have hg : ∀ i, (Value.cells (.agg cs)).toList.getD i undef = cs.getD i undef := fun i => by
    show cs.toList.getD i undef = _
    rw [List.getD, Array.getElem?_toList, Array.getD_eq_getD_getElem?]
  refine ⟨xs, h2, .agg cs xs ?_ (fun i x hx => ?_) (fun i x hx => ?_), .agg _ (fun x hx => ?_)⟩
  · have : xs.length = cs.toList.length := h1.1
    rw [this]; simp
  · have := (h1.2 i x hx).2.1
    rwa [hg] at this
  · have := (h1.2 i x hx).1
    rwa [hg] at this
  · obtain ⟨i, hi⟩ := List.getElem?_of_mem hx
    exact (h1.2 i x hi).2.2
end
end Go.AL
