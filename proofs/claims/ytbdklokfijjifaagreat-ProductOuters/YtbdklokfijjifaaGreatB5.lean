/- Functions of two numbers: powers. -/
import Derived.Test.YtbdklokfijjifaaGreatB4
import Derived.Test.YtbdklokfijjifaaGreatB2
set_option linter.unusedVariables false
namespace Go.Proofs.YtbdklokfijjifaaGreat
open Go Go.AL NM
section
def powerQ (a b : Rat) (most : Int) : Rat × Int :=
 if b.den ≠ 1 ∨ (a = 0 ∧ b.num < 0) then (0, 22)
 else if limQ a ∧ b.num ≠ 0 then (if a.num < 0 ∧ b.num.natAbs % 2 = 0 then -a else a, 0)
 else if ¬ fit b.num then (0, 26)
 else ((powQ a b.num most).1, if (powQ a b.num most).2 then 0 else 26)
theorem sig_lit (t : Int) : (t < 0 ∧ sigW t = -1) ∨ (t = 0 ∧ sigW t = 0) ∨ (0 < t ∧ sigW t = 1) := by
 unfold sigW
 rcases Int.lt_trichotomy t 0 with h | h | h
 ·left; rw [if_neg (by omega), if_pos h]; exact ⟨h, rfl⟩
 ·right; left; rw [if_pos h]; exact ⟨h, rfl⟩
 ·right; right; rw [if_neg (by omega), if_neg (by omega)]; exact ⟨h, rfl⟩
theorem RZ22 {P : Program} {f : FuncId} {args : List AV} {e : Int} (h : AC P f args (.pure (.tup [RZ, .val (.int .i64 e)]))) : AC P f args (.pure (.tup [RA 0 0, .val (.int .i64 e)])) :=
 AC.le_res h (.tup2 RZ_le (.refl _)) (.tup _ (noid2 (RA_noid _ _) (.val _)))
theorem last_digit {n : Nat} (h : 0 < n) : byteAt (decS n) (IntKind.i64.wrap ((decS n).size - 1 : Int)) = ((48 + n % 10 : Nat) : Int) ∨ 9223372036854775807 < (decS n).size := by
 by_cases hb : 9223372036854775807 < (decS n).size
 ·exact .inr hb
 left
 have hs : (decS n).size = (decL n).length := strL_size _
 have h0 : decL n = (decR n).reverse := if_neg (by omega)
 have h1 := decR_pos h
 have hl := List.length_pos_iff.2 (decL_ne n)
 rw [IntWalk.i64_in _ (by omega)]
 refine byteAt_strL (fun x hx => by have := decL_byt n x hx; omega) (by omega) ?_
 rw [show (((decS n).size : Int) - 1).toNat = (decL n).length - 1 by omega, h0, List.length_reverse, List.getElem?_reverse (by rw [h1]; simp), h1]
 simp
theorem odd_digit {n : Nat} (h : 0 < n) (hs : (decS n).size < 1000000) : (IntKind.u8.wrap (byteAt (decS n) (IntKind.i64.wrap ((decS n).size - 1 : Int)) - 48)).tmod 2 = ((n % 2 : Nat) : Int) := by
 rw [(last_digit h).resolve_right (by omega), w_u8, Int.tmod_eq_emod_of_nonneg (by omega)]
 omega
theorem Power_ok (a b : Rat) (i j : Nat) (most : Int) (hi : dn i = a.den) (hj : dn j = b.den) (hm : most ≤ 200) (la : Sz a 99) : ∃ d, dn d = (powerQ a b most).1.den ∧ AC Tryz.prog 158 [RA a.num i, RA b.num j, .val (.int .i64 most)] (.pure (.tup [RA (powerQ a b most).1.num d, .val (.int .i64 (powerQ a b most).2)])) := by
 have hW := IsWhole_ok b.num j
 have hSa := RaSign_ok a.num i
 have hSb := RaSign_ok b.num j
 have hL := Limited_ok a.num i
 have hT := RTop_ok b.num j
 have hE := Even_ok b.num.natAbs
 have hM := QMinus_ok a.num i
 have hI := RInt_ok b.num j
 rw [hj] at hW hI
 rw [hi] at hL hM
 unfold powerQ
 by_cases hd : b.den = 1
 rotate_left
 ·rw [if_pos (.inl hd)]
  rw [decide_eq_false hd] at hW
  refine ⟨0, rfl, RZ22 ?_⟩
  refine AC.of_body TTok Tryz.func158 rfl (enter_of Tryz.func158 (by kernel_rfl) (by kernel_rfl)) (noid3 (RA_noid _ _) (RA_noid _ _) (.val _)) (.tup _ (noid2 RZ_noid (.val _))) (nbq rfl) ?_
  unfold RA RZ at *
  repeat ((conv => whnf); (first | refine ⟨_, ‹_›, ?_⟩ | refine ⟨nbq rfl, _, ‹_›, ?_⟩ | refine ⟨by kernel_rfl, ?_⟩ | exact rfl | exact ⟨nbq rfl, rfl⟩ | refine ⟨by decide, ?_⟩))
 rw [decide_eq_true hd] at hW
 by_cases hz : a = 0 ∧ b.num < 0
 ·rw [if_pos (.inr hz)]
  rw [show sigW a.num = 0 by rw [hz.1]; rfl] at hSa
  rw [show sigW b.num = -1 by unfold sigW; rw [if_neg (by omega), if_pos hz.2]] at hSb
  refine ⟨0, rfl, RZ22 ?_⟩
  refine AC.of_body TTok Tryz.func158 rfl (enter_of Tryz.func158 (by kernel_rfl) (by kernel_rfl)) (noid3 (RA_noid _ _) (RA_noid _ _) (.val _)) (.tup _ (noid2 RZ_noid (.val _))) (nbq rfl) ?_
  unfold RA RZ at *
  repeat ((conv => whnf); (first | refine ⟨_, ‹_›, ?_⟩ | refine ⟨nbq rfl, _, ‹_›, ?_⟩ | refine ⟨by kernel_rfl, ?_⟩ | exact rfl | exact ⟨nbq rfl, rfl⟩ | refine ⟨by decide, ?_⟩))
 rw [if_neg (fun h => h.elim (fun h => h hd) hz)]
 have hz' : ¬ (a.num = 0 ∧ b.num < 0) := fun h => hz ⟨Rat.num_eq_zero.1 h.1, h.2⟩
 by_cases hl : limQ a ∧ b.num ≠ 0
 ·have hb0 := hl.2
  rw [if_pos hl]
  rw [decide_eq_true (show a.den = 1 ∧ (a.num.natAbs = 0 ∨ a.num.natAbs = 1) from hl.1)] at hL
  by_cases he : a.num < 0 ∧ b.num.natAbs % 2 = 0
  ·rw [if_pos he]
   rw [show sigW a.num = -1 by unfold sigW; rw [if_neg (by omega), if_pos he.1]] at hSa
   rw [decide_eq_true he.2] at hE
   refine ⟨a.den, dn_self a.den_nz, ?_⟩
   refine AC.of_body TTok Tryz.func158 rfl (enter_of Tryz.func158 (by kernel_rfl) (by kernel_rfl)) (noid3 (RA_noid _ _) (RA_noid _ _) (.val _)) (.tup _ (noid2 (RA_noid _ _) (.val _))) (nbq rfl) ?_
   have hM' : AC Tryz.prog 153 [RA a.num i] (.pure (RA (-a).num a.den)) := hM
   clear hM
   rcases sig_lit b.num with ⟨_, e⟩ | ⟨e0, _⟩ | ⟨_, e⟩
   ·rw [e] at hSb
    unfold RA WI natA at *
    repeat ((conv => whnf); (first | refine ⟨_, ‹_›, ?_⟩ | refine ⟨nbq rfl, _, ‹_›, ?_⟩ | refine ⟨by kernel_rfl, ?_⟩ | exact rfl | exact ⟨nbq rfl, rfl⟩ | refine ⟨by decide, ?_⟩))
   ·exact absurd e0 hb0
   ·rw [e] at hSb
    unfold RA WI natA at *
    repeat ((conv => whnf); (first | refine ⟨_, ‹_›, ?_⟩ | refine ⟨nbq rfl, _, ‹_›, ?_⟩ | refine ⟨by kernel_rfl, ?_⟩ | exact rfl | exact ⟨nbq rfl, rfl⟩ | refine ⟨by decide, ?_⟩))
  ·rw [if_neg he]
   refine ⟨i, hi, ?_⟩
   refine AC.of_body TTok Tryz.func158 rfl (enter_of Tryz.func158 (by kernel_rfl) (by kernel_rfl)) (noid3 (RA_noid _ _) (RA_noid _ _) (.val _)) (.tup _ (noid2 (RA_noid _ _) (.val _))) (nbq rfl) ?_
   rcases sig_lit a.num with ⟨h1, e1⟩ | ⟨h1, e1⟩ | ⟨h1, e1⟩ <;> rcases sig_lit b.num with ⟨h2, e2⟩ | ⟨h2, e2⟩ | ⟨h2, e2⟩
   all_goals first
    | (exfalso; omega)
    | skip
   all_goals
    rw [e1] at hSa
    rw [e2] at hSb
    first
     | rw [decide_eq_false (show ¬ b.num.natAbs % 2 = 0 from fun h => he ⟨h1, h⟩)] at hE
     | skip
    unfold RA WI natA at *
    repeat ((conv => whnf); (first | refine ⟨_, ‹_›, ?_⟩ | refine ⟨nbq rfl, _, ‹_›, ?_⟩ | refine ⟨by kernel_rfl, ?_⟩ | exact rfl | exact ⟨nbq rfl, rfl⟩ | refine ⟨by decide, ?_⟩))
 rw [if_neg hl]
 have hs : (if decide (a.den = 1 ∧ (a.num.natAbs = 0 ∨ a.num.natAbs = 1)) = true then b.num else 0) = 0 := by
  split
  ·rename_i h
   have h' := of_decide_eq_true h
   exact Decidable.of_not_not (fun hb => hl ⟨h', hb⟩)
  ·rfl
 by_cases hf : fit b.num
 rotate_left
 ·rw [if_pos hf]
  refine ⟨0, rfl, RZ22 ?_⟩
  rw [if_neg (fun h : fitQ b.num b.den => hf h.2), decide_eq_false (fun h : fitQ b.num b.den => hf h.2)] at hI
  refine AC.of_body TTok Tryz.func158 rfl (enter_of Tryz.func158 (by kernel_rfl) (by kernel_rfl)) (noid3 (RA_noid _ _) (RA_noid _ _) (.val _)) (.tup _ (noid2 RZ_noid (.val _))) (nbq rfl) ?_
  generalize decide (a.den = 1 ∧ (a.num.natAbs = 0 ∨ a.num.natAbs = 1)) = s at *
  rcases sig_lit a.num with ⟨h1, e1⟩ | ⟨h1, e1⟩ | ⟨h1, e1⟩ <;> rcases sig_lit b.num with ⟨h2, e2⟩ | ⟨h2, e2⟩ | ⟨h2, e2⟩ <;> cases s
  all_goals simp only [Bool.false_eq_true, if_false, if_true] at hs
  all_goals first
   | (exfalso; omega)
   | skip
  all_goals
   rw [e1] at hSa
   rw [e2] at hSb
   unfold RA RZ at *
   repeat ((conv => whnf); (first | refine ⟨_, ‹_›, ?_⟩ | refine ⟨nbq rfl, _, ‹_›, ?_⟩ | refine ⟨by kernel_rfl, ?_⟩ | exact rfl | exact ⟨nbq rfl, rfl⟩ | refine ⟨by decide, ?_⟩))
 rw [if_neg (fun h => h hf)]
 have hfq : fitQ b.num b.den := ⟨hd, hf⟩
 rw [if_pos hfq, decide_eq_true hfq] at hI
 obtain ⟨d, hd', hP, _⟩ := pow_both a i b.num most hi hf hm la
 refine ⟨d, hd', ?_⟩
 refine AC.of_body TTok Tryz.func158 rfl (enter_of Tryz.func158 (by kernel_rfl) (by kernel_rfl)) (noid3 (RA_noid _ _) (RA_noid _ _) (.val _)) (.tup _ (noid2 (RA_noid _ _) (.val _))) (nbq rfl) ?_
 revert hP
 generalize (powQ a b.num most).1 = r
 generalize (powQ a b.num most).2 = g
 intro hP
 generalize decide (a.den = 1 ∧ (a.num.natAbs = 0 ∨ a.num.natAbs = 1)) = s at *
 rcases sig_lit a.num with ⟨h1, e1⟩ | ⟨h1, e1⟩ | ⟨h1, e1⟩ <;> rcases sig_lit b.num with ⟨h2, e2⟩ | ⟨h2, e2⟩ | ⟨h2, e2⟩ <;> cases s <;> cases g
 all_goals simp only [Bool.false_eq_true, if_false, if_true] at hs
 all_goals first
  | (exfalso; omega)
  | skip
 all_goals
  rw [e1] at hSa
  rw [e2] at hSb
  unfold RA at *
  repeat ((conv => whnf); (first | refine ⟨_, ‹_›, ?_⟩ | refine ⟨nbq rfl, _, ‹_›, ?_⟩ | refine ⟨by kernel_rfl, ?_⟩ | exact rfl | exact ⟨nbq rfl, rfl⟩ | refine ⟨by decide, ?_⟩))
end
section
theorem odd_b {n : Nat} (h : 0 < n) (hs : (decS n).size < 1000000) : ((IntKind.u8.wrap (byteAt (decS n) (IntKind.i64.wrap ((decS n).size - 1 : Int)) - 48)).tmod 2 == 1) = decide (n % 2 = 1) := by
 rw [odd_digit h hs]
 exact beqD (by omega)
theorem SPower_ok (a b : Rat) (most : Int) (hm : most ≤ 200) (la : Sz a 99) (lb : Sz b 99) : AC Tryz.prog 193 [RN a.num a.den, RN b.num b.den, .val (.int .i64 most)] (.pure (.tup [RN (powerQ a b most).1.num (powerQ a b most).1.den, .val (.int .i64 (powerQ a b most).2)])) := by
 have := la.1; have := la.2; have := lb.1; have := lb.2
 have i1 := is1 b.den
 have i0 := is0 a.num.natAbs
 have j0 := is0 b.num.natAbs
 have hZ := SZero_ok
 unfold powerQ
 by_cases hd : b.den = 1
 rotate_left
 ·rw [if_pos (.inl hd)]
  rw [decide_eq_false hd] at i1
  have f1 : (!((decS b.den).toList == ({ data := #[49] } : ByteArray).toList)) = true := by rw [i1]; rfl
  refine AC.of_body TTok Tryz.func193 rfl (enter_of Tryz.func193 (by kernel_rfl) (by kernel_rfl)) (noid3 (RN_noid _ _) (RN_noid _ _) (.val _)) (.tup _ (noid2 (RN_noid _ _) (.val _))) (nbq rfl) ?_
  unfold RN at *
  conv => whnf
  refine cTq (f1) ?_
  repeat ((conv => whnf); (first | refine ⟨_, ‹_›, ?_⟩ | refine ⟨nbq rfl, _, ‹_›, ?_⟩ | refine ⟨by kernel_rfl, ?_⟩ | exact rfl | exact ⟨nbq rfl, rfl⟩ | refine ⟨by decide, ?_⟩))
 rw [decide_eq_true hd] at i1
 have f1 : (!((decS b.den).toList == ({ data := #[49] } : ByteArray).toList)) = false := by rw [i1]; rfl
 by_cases hz : a = 0 ∧ b.num < 0
 ·rw [if_pos (.inr hz)]
  rw [decide_eq_true (by rw [hz.1]; rfl)] at i0
  have f2 : decide (b.num < 0) = true := decide_eq_true hz.2
  refine AC.of_body TTok Tryz.func193 rfl (enter_of Tryz.func193 (by kernel_rfl) (by kernel_rfl)) (noid3 (RN_noid _ _) (RN_noid _ _) (.val _)) (.tup _ (noid2 (RN_noid _ _) (.val _))) (nbq rfl) ?_
  unfold RN at *
  conv => whnf
  refine cFq (f1) ?_
  conv => whnf
  refine cTq (i0) ?_
  conv => whnf
  refine cTq (f2) ?_
  repeat ((conv => whnf); (first | refine ⟨_, ‹_›, ?_⟩ | refine ⟨nbq rfl, _, ‹_›, ?_⟩ | refine ⟨by kernel_rfl, ?_⟩ | exact rfl | exact ⟨nbq rfl, rfl⟩ | refine ⟨by decide, ?_⟩))
 rw [if_neg (fun h => h.elim (fun h => h hd) hz)]
 have hz' : ¬ (a.num = 0 ∧ b.num < 0) := fun h => hz ⟨Rat.num_eq_zero.1 h.1, h.2⟩
 -- the first test, whatever a and b are
 by_cases hb0 : b.num = 0
 ·have hp : powQ a b.num most = (1, true) := by rw [hb0]; exact if_pos rfl
  have hf0 : fit b.num := by rw [hb0]; decide
  rw [if_neg (fun h => h.2 hb0), if_neg (fun h => h hf0), hp]
  rw [decide_eq_true (by omega)] at j0
  have f2 : decide (b.num < 0) = false := decide_eq_false (by omega)
  have hF := SFrom_ok 1 (by decide)
  show AC Tryz.prog 193 _ (.pure (.tup [RN 1 1, .val (.int .i64 0)]))
  refine AC.of_body TTok Tryz.func193 rfl (enter_of Tryz.func193 (by kernel_rfl) (by kernel_rfl)) (noid3 (RN_noid _ _) (RN_noid _ _) (.val _)) (.tup _ (noid2 (RN_noid _ _) (.val _))) (nbq rfl) ?_
  unfold RN at *
  by_cases ha : a.num = 0
  ·rw [decide_eq_true (by omega)] at i0
   conv => whnf
   refine cFq (f1) ?_
   conv => whnf
   refine cTq (i0) ?_
   conv => whnf
   refine cFq (f2) ?_
   conv => whnf
   refine cTq (j0) ?_
   repeat ((conv => whnf); (first | refine ⟨_, ‹_›, ?_⟩ | refine ⟨nbq rfl, _, ‹_›, ?_⟩ | refine ⟨by kernel_rfl, ?_⟩ | exact rfl | exact ⟨nbq rfl, rfl⟩ | refine ⟨by decide, ?_⟩))
  ·rw [decide_eq_false (by omega)] at i0
   conv => whnf
   refine cFq (f1) ?_
   conv => whnf
   refine cFq (i0) ?_
   conv => whnf
   refine cTq (j0) ?_
   repeat ((conv => whnf); (first | refine ⟨_, ‹_›, ?_⟩ | refine ⟨nbq rfl, _, ‹_›, ?_⟩ | refine ⟨by kernel_rfl, ?_⟩ | exact rfl | exact ⟨nbq rfl, rfl⟩ | refine ⟨by decide, ?_⟩))
 rw [decide_eq_false (by omega)] at j0
 have dl := decL_le b.num.natAbs
 have hsz : (decS b.num.natAbs).size < 1000000 := by rw [show (decS b.num.natAbs).size = (decL b.num.natAbs).length from strL_size _]; omega
 have hsz0 : 0 < (decS b.num.natAbs).size := by rw [show (decS b.num.natAbs).size = (decL b.num.natAbs).length from strL_size _]; exact List.length_pos_iff.2 (decL_ne _)
 have ob := odd_b (n := b.num.natAbs) (by omega) hsz
 have hix : 0 ≤ IntKind.i64.wrap ((decS b.num.natAbs).size - 1 : Int) ∧ IntKind.i64.wrap ((decS b.num.natAbs).size - 1 : Int) < ((decS b.num.natAbs).size : Int) := by
  rw [IntWalk.i64_in _ (by omega)]; omega
 have hL := SLimited_ok a.num a.den
 by_cases hl : limQ a
 ·rw [if_pos ⟨hl, hb0⟩]
  rw [decide_eq_true (show a.den = 1 ∧ (a.num.natAbs = 0 ∨ a.num.natAbs = 1) from hl)] at hL
  have hres : RN (if a.num < 0 ∧ b.num.natAbs % 2 = 0 then -a else a).num (if a.num < 0 ∧ b.num.natAbs % 2 = 0 then -a else a).den = .agg [.val (.bool (decide (a.num < 0) && decide (b.num.natAbs % 2 = 1))), .val (.string (decS a.num.natAbs)), .val (.string { data := #[49] })] := by
   unfold RN
   by_cases h1 : a.num < 0
   ·by_cases h2 : b.num.natAbs % 2 = 0
    ·rw [if_pos ⟨h1, h2⟩, Rat.neg_num, Rat.neg_den, hl.1, decS_one, Int.natAbs_neg, decide_eq_false (show ¬ -a.num < 0 by omega), decide_eq_false (show ¬ b.num.natAbs % 2 = 1 by omega), Bool.and_false]
    ·rw [if_neg (fun h => h2 h.2), hl.1, decS_one, decide_eq_true (show b.num.natAbs % 2 = 1 by omega), Bool.and_true]
   ·rw [if_neg (fun h => h1 h.1), hl.1, decS_one, decide_eq_false h1, Bool.false_and]
  show AC Tryz.prog 193 _ (.pure (.tup [RN (if a.num < 0 ∧ b.num.natAbs % 2 = 0 then -a else a).num (if a.num < 0 ∧ b.num.natAbs % 2 = 0 then -a else a).den, .val (.int .i64 0)]))
  rw [hres, ← ob]
  refine AC.of_body TTok Tryz.func193 rfl (enter_of Tryz.func193 (by kernel_rfl) (by kernel_rfl)) (noid3 (RN_noid _ _) (RN_noid _ _) (.val _)) (.tup _ (noid2 (.agg _ (noid3 (.val _) (.val _) (.val _))) (.val _))) (nbq rfl) ?_
  clear hres hl ob
  unfold RN at *
  by_cases ha : a.num = 0
  ·have f2 : decide (b.num < 0) = false := decide_eq_false (by omega)
   rw [decide_eq_true (by omega)] at i0
   have f3 : decide (a.num < 0) = false := decide_eq_false (by omega)
   rw [f3] at hL ⊢
   conv => whnf
   refine cFq (f1) ?_
   conv => whnf
   refine cTq (i0) ?_
   conv => whnf
   refine cFq (f2) ?_
   conv => whnf
   refine cFq (j0) ?_
   conv => whnf
   refine ⟨hix, ?_⟩
   repeat ((conv => whnf); (first | refine ⟨_, ‹_›, ?_⟩ | refine ⟨nbq rfl, _, ‹_›, ?_⟩ | refine ⟨by kernel_rfl, ?_⟩ | exact rfl | exact ⟨nbq rfl, rfl⟩ | refine ⟨by decide, ?_⟩))
  ·rw [decide_eq_false (by omega)] at i0
   by_cases h1 : a.num < 0
   ·have f3 : decide (a.num < 0) = true := decide_eq_true h1
    rw [f3] at hL ⊢
    conv => whnf
    refine cFq (f1) ?_
    conv => whnf
    refine cFq (i0) ?_
    conv => whnf
    refine cFq (j0) ?_
    conv => whnf
    refine ⟨hix, ?_⟩
    repeat ((conv => whnf); (first | refine ⟨_, ‹_›, ?_⟩ | refine ⟨nbq rfl, _, ‹_›, ?_⟩ | refine ⟨by kernel_rfl, ?_⟩ | exact rfl | exact ⟨nbq rfl, rfl⟩ | refine ⟨by decide, ?_⟩))
   ·have f3 : decide (a.num < 0) = false := decide_eq_false h1
    rw [f3] at hL ⊢
    conv => whnf
    refine cFq (f1) ?_
    conv => whnf
    refine cFq (i0) ?_
    conv => whnf
    refine cFq (j0) ?_
    conv => whnf
    refine ⟨hix, ?_⟩
    repeat ((conv => whnf); (first | refine ⟨_, ‹_›, ?_⟩ | refine ⟨nbq rfl, _, ‹_›, ?_⟩ | refine ⟨by kernel_rfl, ?_⟩ | exact rfl | exact ⟨nbq rfl, rfl⟩ | refine ⟨by decide, ?_⟩))
 rw [if_neg (fun h => hl h.1)]
 rw [decide_eq_false (show ¬ (a.den = 1 ∧ (a.num.natAbs = 0 ∨ a.num.natAbs = 1)) from hl)] at hL
 have i0 : ((decS a.num.natAbs).toList == ({ data := #[48] } : ByteArray).toList) = false := by rw [i0]; exact decide_eq_false (by have := num_ne (lim_num hl); omega)
 have hI := SInt_ok b.num b.den (by omega)
 by_cases hf : fit b.num
 ·rw [if_neg (fun h => h hf)]
  have hfq : fitQ b.num b.den := ⟨hd, hf⟩
  rw [if_pos hfq, decide_eq_true hfq] at hI
  obtain ⟨d, hd', _, hP⟩ := pow_both a a.den b.num most (dn_den a) hf hm la
  have hp0 : (powQ a b.num most).2 = false → (powQ a b.num most).1 = 0 := fun h => by
   unfold powQ at h ⊢
   rw [if_neg hb0, if_neg hl] at h ⊢
   by_cases hf : fitsN (pb a b.num).num.natAbs (pk b.num) most ∧ fitsN (pb a b.num).den (pk b.num) most
   ·rw [if_pos hf] at h; cases h
   ·rw [if_neg hf]
  revert hP hp0
  generalize (powQ a b.num most).1 = r
  generalize (powQ a b.num most).2 = g
  intro hP hp0
  refine AC.of_body TTok Tryz.func193 rfl (enter_of Tryz.func193 (by kernel_rfl) (by kernel_rfl)) (noid3 (RN_noid _ _) (RN_noid _ _) (.val _)) (.tup _ (noid2 (RN_noid _ _) (.val _))) (nbq rfl) ?_
  cases g
  ·rw [hp0 rfl] at *
   rw [show (0 : Rat).num = 0 from rfl, show (0 : Rat).den = 1 from rfl] at *
   unfold RN at *
   conv => whnf
   refine cFq (f1) ?_
   conv => whnf
   refine cFq (i0) ?_
   conv => whnf
   refine cFq (j0) ?_
   conv => whnf
   refine ⟨hix, ?_⟩
   repeat ((conv => whnf); (first | refine ⟨_, ‹_›, ?_⟩ | refine ⟨nbq rfl, _, ‹_›, ?_⟩ | refine ⟨by kernel_rfl, ?_⟩ | exact rfl | exact ⟨nbq rfl, rfl⟩ | refine ⟨by decide, ?_⟩))
  ·unfold RN at *
   conv => whnf
   refine cFq (f1) ?_
   conv => whnf
   refine cFq (i0) ?_
   conv => whnf
   refine cFq (j0) ?_
   conv => whnf
   refine ⟨hix, ?_⟩
   repeat ((conv => whnf); (first | refine ⟨_, ‹_›, ?_⟩ | refine ⟨nbq rfl, _, ‹_›, ?_⟩ | refine ⟨by kernel_rfl, ?_⟩ | exact rfl | exact ⟨nbq rfl, rfl⟩ | refine ⟨by decide, ?_⟩))
 ·rw [if_pos hf]
  rw [if_neg (fun h : fitQ b.num b.den => hf h.2), decide_eq_false (fun h : fitQ b.num b.den => hf h.2)] at hI
  show AC Tryz.prog 193 _ (.pure (.tup [RN 0 1, .val (.int .i64 26)]))
  refine AC.of_body TTok Tryz.func193 rfl (enter_of Tryz.func193 (by kernel_rfl) (by kernel_rfl)) (noid3 (RN_noid _ _) (RN_noid _ _) (.val _)) (.tup _ (noid2 (RN_noid _ _) (.val _))) (nbq rfl) ?_
  unfold RN at *
  conv => whnf
  refine cFq (f1) ?_
  conv => whnf
  refine cFq (i0) ?_
  conv => whnf
  refine cFq (j0) ?_
  conv => whnf
  refine ⟨hix, ?_⟩
  repeat ((conv => whnf); (first | refine ⟨_, ‹_›, ?_⟩ | refine ⟨nbq rfl, _, ‹_›, ?_⟩ | refine ⟨by kernel_rfl, ?_⟩ | exact rfl | exact ⟨nbq rfl, rfl⟩ | refine ⟨by decide, ?_⟩))
end
section
def chs (r : Nat) : Nat → Nat
 | 0 => 1
 | i + 1 => chs r i * (r + (i + 1)) / (i + 1)
theorem chs_succ (r i : Nat) : chs r (i + 1) = chs r i * (r + (i + 1)) / (i + 1) := rfl
theorem chs_mono1 (r i : Nat) : chs r i ≤ chs r (i + 1) := by
 rw [chs_succ, Nat.le_div_iff_mul_le (by omega)]
 exact Nat.mul_le_mul_left _ (by omega)
theorem chs_mono (r : Nat) {i j : Nat} (h : i ≤ j) : chs r i ≤ chs r j := by
 induction h with
 | refl => exact Nat.le_refl _
 | step _ ih => exact Nat.le_trans ih (chs_mono1 r _)
theorem chs_big (r : Nat) : ∀ i, i ≤ r → 2 ^ i ≤ chs r i
 | 0, _ => Nat.le_refl _
 | i + 1, h => by
  have ih := chs_big r i (by omega)
  rw [chs_succ, Nat.le_div_iff_mul_le (by omega), Nat.pow_succ, Nat.mul_assoc]
  exact Nat.mul_le_mul ih (by omega)
theorem chs_bound {r i : Nat} (h : i ≤ r) (hl : (limbs (chs r i)).length ≤ 200) : i ≤ 6400 := by
 have h1 := chs_big r i h
 have h2 := val_lt (limbs_lim (chs r i))
 rw [val_limbs, pow32] at h2
 have h3 : 2 ^ i < 2 ^ (32 * (limbs (chs r i)).length) := Nat.lt_of_le_of_lt h1 h2
 have := (Nat.pow_lt_pow_iff_right (by decide : 1 < 2)).1 h3
 omega
def chsOk (k r : Nat) (most : Int) : Prop := k = 0 ∨ ((limbs (chs r k)).length : Int) ≤ most
instance (k r : Nat) (most : Int) : Decidable (chsOk k r most) := inferInstanceAs (Decidable (_ ∨ _))
def natQ (q : Rat) : Prop := q.den = 1 ∧ 0 ≤ q.num
instance (q : Rat) : Decidable (natQ q) := inferInstanceAs (Decidable (_ ∧ _))
def chooseQ (a b : Rat) (most : Int) : Rat × Int :=
 if ¬ (natQ a ∧ natQ b) then (0, 22)
 else if b.num < a.num then (0, 0)
 else if chsOk (min a.num (b.num - a.num)).toNat (max a.num (b.num - a.num)).toNat most then (((chs (max a.num (b.num - a.num)).toNat (min a.num (b.num - a.num)).toNat : Nat) : Int), 0)
 else (0, 26)
theorem int_of {q : Rat} (h : q.den = 1) : q = ((q.num : Int) : Rat) := Rat.ext rfl h
theorem sub_int {a b : Rat} (ha : a.den = 1) (hb : b.den = 1) : (b + -a).num = b.num - a.num ∧ (b + -a).den = 1 := by
 have e : b + -a = ((b.num - a.num : Int) : Rat) := by
  rw [Rat.intCast_sub, ← int_of ha, ← int_of hb, Rat.sub_eq_add_neg]
 rw [e]
 exact q2r
theorem floor_nat (x i : Nat) (hi : 0 < i) (hx : (limbs x).length < 1000000) (hl : (limbs i).length < 1000000) : ∃ r, AC Tryz.prog 182 [WI (x : Int), WI (i : Int)] (.pure (.tup [WI ((x / i : Nat) : Int), WI r, .val (.bool true)])) := by
 have h := Floor_ok (x : Int) (i : Int) (by omega) (by rw [Int.natAbs_natCast]; omega) (by rw [Int.natAbs_natCast]; omega) (DivMod_ok _ _ (by rw [Int.natAbs_natCast]; exact hi) (by rw [Int.natAbs_natCast]; omega) (by rw [Int.natAbs_natCast]; omega))
 rw [flQ_ediv _ _ (by omega)] at h
 exact ⟨_, h⟩
theorem Choose_none (a b : Rat) (i j : Nat) (most : Int) (hi : dn i = a.den) (hj : dn j = b.den) (h : ¬ (natQ a ∧ natQ b)) : AC Tryz.prog 159 [RA a.num i, RA b.num j, .val (.int .i64 most)] (.pure (.tup [RA 0 0, .val (.int .i64 22)])) := by
 refine RZ22 ?_
 have hWa := IsWhole_ok a.num i
 have hWb := IsWhole_ok b.num j
 have hSa := RaSign_ok a.num i
 have hSb := RaSign_ok b.num j
 rw [hi] at hWa
 rw [hj] at hWb
 refine AC.of_body TTok Tryz.func159 rfl (enter_of Tryz.func159 (by kernel_rfl) (by kernel_rfl)) (noid3 (RA_noid _ _) (RA_noid _ _) (.val _)) (.tup _ (noid2 RZ_noid (.val _))) (nbq rfl) ?_
 by_cases da : a.den = 1
 ·rw [decide_eq_true da] at hWa
  by_cases db : b.den = 1
  ·rw [decide_eq_true db] at hWb
   by_cases na : a.num < 0
   ·rw [show sigW a.num = -1 by unfold sigW; rw [if_neg (by omega), if_pos na]] at hSa
    unfold RA RZ at *
    repeat ((conv => whnf); (first | refine ⟨_, ‹_›, ?_⟩ | refine ⟨nbq rfl, _, ‹_›, ?_⟩ | refine ⟨by kernel_rfl, ?_⟩ | exact rfl | exact ⟨nbq rfl, rfl⟩ | refine ⟨by decide, ?_⟩))
   ·have nb : b.num < 0 := Decidable.of_not_not (fun hb => h ⟨⟨da, by omega⟩, ⟨db, by omega⟩⟩)
    rw [show sigW b.num = -1 by unfold sigW; rw [if_neg (by omega), if_pos nb]] at hSb
    rcases sig_lit a.num with ⟨h1, e1⟩ | ⟨h1, e1⟩ | ⟨h1, e1⟩
    ·omega
    ·rw [e1] at hSa
     unfold RA RZ at *
     repeat ((conv => whnf); (first | refine ⟨_, ‹_›, ?_⟩ | refine ⟨nbq rfl, _, ‹_›, ?_⟩ | refine ⟨by kernel_rfl, ?_⟩ | exact rfl | exact ⟨nbq rfl, rfl⟩ | refine ⟨by decide, ?_⟩))
    ·rw [e1] at hSa
     unfold RA RZ at *
     repeat ((conv => whnf); (first | refine ⟨_, ‹_›, ?_⟩ | refine ⟨nbq rfl, _, ‹_›, ?_⟩ | refine ⟨by kernel_rfl, ?_⟩ | exact rfl | exact ⟨nbq rfl, rfl⟩ | refine ⟨by decide, ?_⟩))
  ·rw [decide_eq_false db] at hWb
   unfold RA RZ at *
   repeat ((conv => whnf); (first | refine ⟨_, ‹_›, ?_⟩ | refine ⟨nbq rfl, _, ‹_›, ?_⟩ | refine ⟨by kernel_rfl, ?_⟩ | exact rfl | exact ⟨nbq rfl, rfl⟩ | refine ⟨by decide, ?_⟩))
 ·rw [decide_eq_false da] at hWa
  unfold RA RZ at *
  repeat ((conv => whnf); (first | refine ⟨_, ‹_›, ?_⟩ | refine ⟨nbq rfl, _, ‹_›, ?_⟩ | refine ⟨by kernel_rfl, ?_⟩ | exact rfl | exact ⟨nbq rfl, rfl⟩ | refine ⟨by decide, ?_⟩))
section
variable (a b : Rat) (i j : Nat) (most : Int) (hi : dn i = a.den) (hj : dn j = b.den) (hm : most ≤ 200) (la : Sz a 90) (lb : Sz b 90) (na : natQ a) (nb : natQ b)
include hi hj la lb na nb
theorem Choose_less (h : b.num < a.num) : AC Tryz.prog 159 [RA a.num i, RA b.num j, .val (.int .i64 most)] (.pure (.tup [RA 0 0, .val (.int .i64 0)])) := by
 refine RZ22 ?_
 have hWa := IsWhole_ok a.num i
 have hWb := IsWhole_ok b.num j
 have hSa := RaSign_ok a.num i
 have hSb := RaSign_ok b.num j
 have hM := QMinus_ok a.num i
 have hP := QPlus1 b (-a) j a.den hj (dn_den a) (lb.mono (by decide)) ((Sz_neg la).mono (by decide))
 have hSr := RaSign_ok (b + -a).num (b + -a).den
 rw [hi, decide_eq_true na.1] at hWa
 rw [hj, decide_eq_true nb.1] at hWb
 rw [hi] at hM
 have hM : AC Tryz.prog 153 [RA a.num i] (.pure (RA (-a).num a.den)) := hM
 have e1 : sigW a.num = 0 ∨ sigW a.num = 1 := by
  rcases sig_lit a.num with ⟨h1, e1⟩ | ⟨h1, e1⟩ | ⟨h1, e1⟩
  ·exact absurd na.2 (by omega)
  ·exact .inl e1
  ·exact .inr e1
 have e2 : sigW b.num = 0 ∨ sigW b.num = 1 := by
  rcases sig_lit b.num with ⟨h1, e1⟩ | ⟨h1, e1⟩ | ⟨h1, e1⟩
  ·exact absurd nb.2 (by omega)
  ·exact .inl e1
  ·exact .inr e1
 obtain ⟨s1, s2⟩ := sub_int na.1 nb.1
 rw [show sigW (b + -a).num = -1 by unfold sigW; rw [if_neg (by omega), if_pos (by omega)]] at hSr
 refine AC.of_body TTok Tryz.func159 rfl (enter_of Tryz.func159 (by kernel_rfl) (by kernel_rfl)) (noid3 (RA_noid _ _) (RA_noid _ _) (.val _)) (.tup _ (noid2 RZ_noid (.val _))) (nbq rfl) ?_
 clear s1 s2
 revert hP hSr
 generalize b + -a = r
 intro hP hSr
 rcases e1 with e1 | e1 <;> rcases e2 with e2 | e2
 all_goals
  rw [e1] at hSa
  rw [e2] at hSb
  unfold RA RZ rowR at *
  repeat ((conv => whnf); (first | refine ⟨_, ‹_›, ?_⟩ | refine ⟨nbq rfl, _, ‹_›, ?_⟩ | refine ⟨by kernel_rfl, ?_⟩ | exact rfl | exact ⟨nbq rfl, rfl⟩ | refine ⟨by decide, ?_⟩))
include hm
theorem Choose_gen (h : a.num ≤ b.num) (res : AV) (hno : NoId res)
  (r1 : ¬ chsOk (min a.num (b.num - a.num)).toNat (max a.num (b.num - a.num)).toNat most → AV.tup [RZ, .val (.int .i64 26)] = res)
  (r2 : chsOk (min a.num (b.num - a.num)).toNat (max a.num (b.num - a.num)).toNat most → AV.tup [RA ((chs (max a.num (b.num - a.num)).toNat (min a.num (b.num - a.num)).toNat : Nat) : Int) 1, .val (.int .i64 0)] = res) :
  AC Tryz.prog 159 [RA a.num i, RA b.num j, .val (.int .i64 most)] (.pure res) := by
 have hWa := IsWhole_ok a.num i
 have hWb := IsWhole_ok b.num j
 have hSa := RaSign_ok a.num i
 have hSb := RaSign_ok b.num j
 have hM := QMinus_ok a.num i
 have hP := QPlus1 b (-a) j a.den hj (dn_den a) (lb.mono (by decide)) ((Sz_neg la).mono (by decide))
 have hSr := RaSign_ok (b + -a).num (b + -a).den
 rw [hi, decide_eq_true na.1] at hWa
 rw [hj, decide_eq_true nb.1] at hWb
 rw [hi] at hM
 have hM : AC Tryz.prog 153 [RA a.num i] (.pure (RA (-a).num a.den)) := hM
 have e1 : sigW a.num = 0 ∨ sigW a.num = 1 := by
  rcases sig_lit a.num with ⟨h1, e1⟩ | ⟨h1, e1⟩ | ⟨h1, e1⟩
  ·exact absurd na.2 (by omega)
  ·exact .inl e1
  ·exact .inr e1
 have e2 : sigW b.num = 0 ∨ sigW b.num = 1 := by
  rcases sig_lit b.num with ⟨h1, e1⟩ | ⟨h1, e1⟩ | ⟨h1, e1⟩
  ·exact absurd nb.2 (by omega)
  ·exact .inl e1
  ·exact .inr e1
 obtain ⟨s1, s2⟩ := sub_int na.1 nb.1
 have sR : Sz (b + -a) 361 := (Sz_add lb (Sz_neg la)).mono (by decide)
 have hC := QCmp_ok (b + -a) a (b + -a).den i (dn_den _) hi (sR.mono (by decide)) (la.mono (by decide))
 have eR : sigW (b + -a).num = 0 ∨ sigW (b + -a).num = 1 := by
  rcases sig_lit (b + -a).num with ⟨h1, e1⟩ | ⟨h1, e1⟩ | ⟨h1, e1⟩
  ·omega
  ·exact .inl e1
  ·exact .inr e1
 refine AC.of_body TTok Tryz.func159 rfl (enter_of Tryz.func159 (by kernel_rfl) (by kernel_rfl)) (noid3 (RA_noid _ _) (RA_noid _ _) (.val _)) hno (nbq rfl) ?_
 have hlt : cmpQ (b + -a) a < 0 ↔ b.num - a.num < a.num := by
  rw [cmpQ_neg, Rat.lt_iff, s1, s2, na.1]
  simp
 have hdR : dn (b + -a).den = 1 := by rw [dn_den, s2]
 rw [na.1] at hi
 obtain ⟨dr, hdr⟩ : ∃ d, d = (b + -a).den := ⟨_, rfl⟩
 obtain ⟨nr, hnr⟩ : ∃ n, n = (b + -a).num := ⟨_, rfl⟩
 rw [← hdr] at hP hSr hC hdR
 rw [← hnr] at hP hSr hC eR s1
 have f1 : decide (sigW a.num < 0) = false := decide_eq_false (by rcases e1 with e | e <;> rw [e] <;> decide)
 have f2 : decide (sigW b.num < 0) = false := decide_eq_false (by rcases e2 with e | e <;> rw [e] <;> decide)
 have fR : decide (sigW nr < 0) = false := decide_eq_false (by rcases eR with e | e <;> rw [e] <;> decide)
 have lnr := sR.1
 rw [← hnr] at lnr
 clear sR e1 e2 eR
 have han := na.2
 have lan := la.1
 clear na nb la lb
 by_cases hs : b.num - a.num < a.num
 ·have fs : decide (cmpQ (b + -a) a < 0) = true := decide_eq_true (hlt.2 hs)
  clear hlt
  generalize cmpQ (b + -a) a = cq at hC fs
  clear hnr hdr
  generalize (b + -a) = qr at hP hC
  generalize -a = qn at hM hP
  generalize sigW a.num = g1 at *
  generalize sigW b.num = g2 at *
  generalize sigW nr = g3 at *
  have hTop := RTop_ok a.num i
  have hI := RInt_ok nr dr
  rw [hdR] at hI
  obtain ⟨k, hk⟩ : ∃ k : Nat, nr = (k : Int) := ⟨(nr).toNat, by omega⟩
  obtain ⟨r, hr⟩ : ∃ r : Nat, a.num = (r : Int) := ⟨(a.num).toNat, by omega⟩
  rw [show (min a.num (b.num - a.num)).toNat = k by omega, show (max a.num (b.num - a.num)).toNat = r by omega] at r1 r2
  have hkr : k ≤ r := by omega
  have lr : (limbs r).length ≤ 400 := by
   have := lan
   rw [show r = (a.num).natAbs by omega]
   omega
  obtain ⟨v, ok, hI, hv⟩ : ∃ v ok, AC Tryz.prog 132 [RA nr dr] (.pure (.tup [.val (.int .i64 v), .val (.bool ok)])) ∧ ((ok = true ∧ v = (k : Int)) ∨ (ok = false ∧ 6500 < k)) := by
   by_cases hf : fit nr
   ·rw [if_pos ⟨rfl, hf⟩, decide_eq_true (show fitQ nr 1 from ⟨rfl, hf⟩)] at hI
    exact ⟨_, _, hI, .inl ⟨rfl, hk⟩⟩
   ·rw [if_neg (fun h => hf h.2), decide_eq_false (show ¬ fitQ nr 1 from fun h => hf h.2)] at hI
    exact ⟨_, _, hI, .inr ⟨rfl, by unfold fit at hf; omega⟩⟩
  have hF1 := From_ok 1 (by decide)
  have hWh := Whole_ok ((chs r k : Nat) : Int)
  unfold RA WI rowR at *
  conv => whnf
  refine ⟨_, hWa, ?_⟩
  conv => whnf
  refine ⟨_, hWb, ?_⟩
  conv => whnf
  refine ⟨_, hSa, ?_⟩
  conv => whnf
  refine cFq (f1) ?_
  conv => whnf
  refine ⟨_, hSb, ?_⟩
  conv => whnf
  refine cFq (f2) ?_
  conv => whnf
  refine ⟨_, hM, ?_⟩
  conv => whnf
  refine ⟨(nbq rfl), _, hP, ?_⟩
  conv => whnf
  refine ⟨by kernel_rfl, ?_⟩
  conv => whnf
  refine ⟨_, hSr, ?_⟩
  conv => whnf
  refine cFq (fR) ?_
  conv => whnf
  refine ⟨_, hC, ?_⟩
  conv => whnf
  refine cTq (fs) ?_
  conv => whnf
  refine ⟨_, hI, ?_⟩
  conv => whnf
  refine ⟨_, hF1, ?_⟩
  conv => whnf
  refine SW.loopM TTok (fun j : Nat => [(2, .val (.int .i64 most)), (6, .lp 16 0), (8, .lp 216 0), (9, .val (.int .i64 v)), (10, .val (.bool ok)), (11, .lp 384 0), (12, .val (.int .i64 ((j : Int) + 1)))])
   (fun j => [(16, .cells 3 [[.sl 0 [] true, .val (.bool false), .sl 0 [] true]]), (216, .cells 3 [[.sl 1 (irows .u32 (limbs (a.num).natAbs)) false, .val (.bool (decide (a.num < 0))), .sl 1 (irows .u32 (limbs i)) false]]), (384, .cells 2 [[.sl 1 (irows .u32 (limbs ((chs r j : Nat) : Int).natAbs)) false, .val (.bool (decide (((chs r j : Nat) : Int) < 0)))]])]) 408 86 rfl (fun j => 6500 - j)
   (fun j => j ≤ k ∧ (j = 0 ∨ ((limbs (chs r j)).length : Int) ≤ most)) 0 [] ⟨Nat.zero_le _, .inl rfl⟩
   ⟨q2r, q2r, q2r, q2r, q2r, q2r, q2r, trivial⟩ ⟨q3r, q3r, q3r, trivial⟩ rfl ?_
  intro j hJ
  have hj1 : j ≤ k := hJ.1
  have hj2 : j = 0 ∨ ((limbs (chs r j)).length : Int) ≤ most := hJ.2
  clear hJ
  have lc : (limbs (chs r j)).length ≤ 200 := by
   rcases hj2 with h | h
   ·subst h; exact Nat.le_trans (limbs_small (n := 1) (by decide)) (by decide)
   ·omega
  have hjb := chs_bound (Nat.le_trans hj1 hkr) lc
  have lj : (limbs (j + 1)).length ≤ 1 := limbs_small (by omega)
  have hFr := From_ok ((j : Int) + 1) (by omega)
  have lrj := limbs_abs_add (r : Int) ((j : Int) + 1)
  rw [Int.natAbs_natCast, show ((j : Int) + 1).natAbs = j + 1 by omega] at lrj
  have hPl := Plus1 (r : Int) ((j : Int) + 1) (by rw [Int.natAbs_natCast]; omega) (by rw [show ((j : Int) + 1).natAbs = j + 1 by omega]; omega) (by omega)
  have lcr := limbs_abs_mul ((chs r j : Nat) : Int) ((r : Int) + ((j : Int) + 1))
  rw [Int.natAbs_natCast] at lcr
  have ec : ((chs r j : Nat) : Int) * ((r : Int) + ((j : Int) + 1)) = ((chs r j * (r + (j + 1)) : Nat) : Int) := by rw [Int.natCast_mul, Int.natCast_add, Int.natCast_add]; rfl
  have hTi := Times1 ((chs r j : Nat) : Int) ((r : Int) + ((j : Int) + 1)) (by rw [Int.natAbs_natCast]; omega) (by omega) (by omega)
  rw [ec] at hTi lcr
  rw [Int.natAbs_natCast] at lcr
  obtain ⟨w, hFl⟩ := floor_nat (chs r j * (r + (j + 1))) (j + 1) (by omega) (by omega) (by omega)
  rw [← chs_succ, show ((j + 1 : Nat) : Int) = (j : Int) + 1 from rfl] at hFl
  have hLim := Limbs_ok ((chs r (j + 1) : Nat) : Int).natAbs
  rw [← hr] at hPl hTi
  clear ec lcr lrj lj lc
  revert hPl hTi hFl
  generalize ((chs r j * (r + (j + 1)) : Nat) : Int) = y
  generalize a.num + ((j : Int) + 1) = z
  intro hPl hTi hFl
  unfold WI rowW natA at *
  rcases hv with ⟨rfl, rfl⟩ | ⟨rfl, hbig⟩
  ·conv => whnf
   refine caseb (fun h4 => ?_) (fun h4 => ?_)
   ·have h4' : (j : Int) + 1 ≤ (k : Int) := of_decide_eq_true h4
    conv => whnf
    refine ⟨_, hTop, ?_⟩
    conv => whnf
    refine ⟨_, hFr, ?_⟩
    conv => whnf
    refine ⟨(nbq rfl), _, hPl, ?_⟩
    conv => whnf
    refine ⟨(nbq rfl), _, hTi, ?_⟩
    conv => whnf
    refine ⟨_, hFr, ?_⟩
    conv => whnf
    refine ⟨_, hFl, ?_⟩
    conv => whnf
    refine ⟨by kernel_rfl, ?_⟩
    conv => whnf
    refine ⟨_, hLim, ?_⟩
    conv => whnf
    refine caseb (fun h5 => ?_) (fun h5 => ?_)
    ·have h5' : ((limbs (chs r (j + 1))).length : Int) > most := of_decide_eq_true h5
     have hmo := limbs_len_mono (chs_mono r (show j + 1 ≤ k by omega))
     conv => whnf
     exact r1 (fun hc => by rcases hc with hc | hc <;> omega)
    ·have h5' : ¬ ((limbs (chs r (j + 1))).length : Int) > most := of_decide_eq_false h5
     conv => whnf
     refine ⟨j + 1, [], (by show 6500 - (j + 1) < 6500 - j; omega), ⟨(by show j + 1 ≤ k; omega), .inr (by show ((limbs (chs r (j + 1))).length : Int) ≤ most; omega)⟩, ⟨q2r, q2r, q2r, q2r, q2r, q2r, ⟨valI ?_, rfl⟩, trivial⟩, ⟨q3r, q3r, q3r, trivial⟩, rfl⟩
     show IntKind.i64.wrap ((j : Int) + 1 + 1) = ((j + 1 : Nat) : Int) + 1
     rw [IntWalk.i64_in _ (by omega)]; omega
   ·have h4' : ¬ (j : Int) + 1 ≤ (k : Int) := of_decide_eq_false h4
    have hjk : j = k := by omega
    rw [hjk] at hj2 ⊢
    conv => whnf
    refine ⟨_, hWh, ?_⟩
    conv => whnf
    exact r2 (by rcases hj2 with h | h; exact .inl h; exact .inr h)
  ·have h4' : (j : Int) + 1 ≤ (k : Int) := by omega
   conv => whnf
   refine ⟨_, hTop, ?_⟩
   conv => whnf
   refine ⟨_, hFr, ?_⟩
   conv => whnf
   refine ⟨(nbq rfl), _, hPl, ?_⟩
   conv => whnf
   refine ⟨(nbq rfl), _, hTi, ?_⟩
   conv => whnf
   refine ⟨_, hFr, ?_⟩
   conv => whnf
   refine ⟨_, hFl, ?_⟩
   conv => whnf
   refine ⟨by kernel_rfl, ?_⟩
   conv => whnf
   refine ⟨_, hLim, ?_⟩
   conv => whnf
   refine caseb (fun h5 => ?_) (fun h5 => ?_)
   ·have h5' : ((limbs (chs r (j + 1))).length : Int) > most := of_decide_eq_true h5
    have hmo := limbs_len_mono (chs_mono r (show j + 1 ≤ k by omega))
    conv => whnf
    exact r1 (fun hc => by rcases hc with hc | hc <;> omega)
   ·have h5' : ¬ ((limbs (chs r (j + 1))).length : Int) > most := of_decide_eq_false h5
    conv => whnf
    refine ⟨j + 1, [], (by show 6500 - (j + 1) < 6500 - j; omega), ⟨(by show j + 1 ≤ k; omega), .inr (by show ((limbs (chs r (j + 1))).length : Int) ≤ most; omega)⟩, ⟨q2r, q2r, q2r, q2r, q2r, q2r, ⟨valI ?_, rfl⟩, trivial⟩, ⟨q3r, q3r, q3r, trivial⟩, rfl⟩
    show IntKind.i64.wrap ((j : Int) + 1 + 1) = ((j + 1 : Nat) : Int) + 1
    rw [IntWalk.i64_in _ (by omega)]; omega
 ·have fs : decide (cmpQ (b + -a) a < 0) = false := decide_eq_false (fun h => hs (hlt.1 h))
  clear hlt
  generalize cmpQ (b + -a) a = cq at hC fs
  clear hnr hdr
  generalize (b + -a) = qr at hP hC
  generalize -a = qn at hM hP
  generalize sigW a.num = g1 at *
  generalize sigW b.num = g2 at *
  generalize sigW nr = g3 at *
  have hTop := RTop_ok nr dr
  have hI := RInt_ok a.num i
  rw [hi] at hI
  obtain ⟨k, hk⟩ : ∃ k : Nat, a.num = (k : Int) := ⟨(a.num).toNat, by omega⟩
  obtain ⟨r, hr⟩ : ∃ r : Nat, nr = (r : Int) := ⟨(nr).toNat, by omega⟩
  rw [show (min a.num (b.num - a.num)).toNat = k by omega, show (max a.num (b.num - a.num)).toNat = r by omega] at r1 r2
  have hkr : k ≤ r := by omega
  have lr : (limbs r).length ≤ 400 := by
   have := lnr
   rw [show r = (nr).natAbs by omega]
   omega
  obtain ⟨v, ok, hI, hv⟩ : ∃ v ok, AC Tryz.prog 132 [RA a.num i] (.pure (.tup [.val (.int .i64 v), .val (.bool ok)])) ∧ ((ok = true ∧ v = (k : Int)) ∨ (ok = false ∧ 6500 < k)) := by
   by_cases hf : fit a.num
   ·rw [if_pos ⟨rfl, hf⟩, decide_eq_true (show fitQ a.num 1 from ⟨rfl, hf⟩)] at hI
    exact ⟨_, _, hI, .inl ⟨rfl, hk⟩⟩
   ·rw [if_neg (fun h => hf h.2), decide_eq_false (show ¬ fitQ a.num 1 from fun h => hf h.2)] at hI
    exact ⟨_, _, hI, .inr ⟨rfl, by unfold fit at hf; omega⟩⟩
  have hF1 := From_ok 1 (by decide)
  have hWh := Whole_ok ((chs r k : Nat) : Int)
  unfold RA WI rowR at *
  conv => whnf
  refine ⟨_, hWa, ?_⟩
  conv => whnf
  refine ⟨_, hWb, ?_⟩
  conv => whnf
  refine ⟨_, hSa, ?_⟩
  conv => whnf
  refine cFq (f1) ?_
  conv => whnf
  refine ⟨_, hSb, ?_⟩
  conv => whnf
  refine cFq (f2) ?_
  conv => whnf
  refine ⟨_, hM, ?_⟩
  conv => whnf
  refine ⟨(nbq rfl), _, hP, ?_⟩
  conv => whnf
  refine ⟨by kernel_rfl, ?_⟩
  conv => whnf
  refine ⟨_, hSr, ?_⟩
  conv => whnf
  refine cFq (fR) ?_
  conv => whnf
  refine ⟨_, hC, ?_⟩
  conv => whnf
  refine cFq (fs) ?_
  conv => whnf
  refine ⟨_, hI, ?_⟩
  conv => whnf
  refine ⟨_, hF1, ?_⟩
  conv => whnf
  refine SW.loopM TTok (fun j : Nat => [(2, .val (.int .i64 most)), (6, .lp 16 0), (8, .lp 216 0), (9, .val (.int .i64 v)), (10, .val (.bool ok)), (11, .lp 352 0), (12, .val (.int .i64 ((j : Int) + 1)))])
   (fun j => [(16, .cells 3 [[.sl 0 [] true, .val (.bool false), .sl 0 [] true]]), (216, .cells 3 [[.sl 1 (irows .u32 (limbs (nr).natAbs)) false, .val (.bool (decide (nr < 0))), .sl 1 (irows .u32 (limbs dr)) false]]), (352, .cells 2 [[.sl 1 (irows .u32 (limbs ((chs r j : Nat) : Int).natAbs)) false, .val (.bool (decide (((chs r j : Nat) : Int) < 0)))]])]) 376 86 rfl (fun j => 6500 - j)
   (fun j => j ≤ k ∧ (j = 0 ∨ ((limbs (chs r j)).length : Int) ≤ most)) 0 [] ⟨Nat.zero_le _, .inl rfl⟩
   ⟨q2r, q2r, q2r, q2r, q2r, q2r, q2r, trivial⟩ ⟨q3r, q3r, q3r, trivial⟩ rfl ?_
  intro j hJ
  have hj1 : j ≤ k := hJ.1
  have hj2 : j = 0 ∨ ((limbs (chs r j)).length : Int) ≤ most := hJ.2
  clear hJ
  have lc : (limbs (chs r j)).length ≤ 200 := by
   rcases hj2 with h | h
   ·subst h; exact Nat.le_trans (limbs_small (n := 1) (by decide)) (by decide)
   ·omega
  have hjb := chs_bound (Nat.le_trans hj1 hkr) lc
  have lj : (limbs (j + 1)).length ≤ 1 := limbs_small (by omega)
  have hFr := From_ok ((j : Int) + 1) (by omega)
  have lrj := limbs_abs_add (r : Int) ((j : Int) + 1)
  rw [Int.natAbs_natCast, show ((j : Int) + 1).natAbs = j + 1 by omega] at lrj
  have hPl := Plus1 (r : Int) ((j : Int) + 1) (by rw [Int.natAbs_natCast]; omega) (by rw [show ((j : Int) + 1).natAbs = j + 1 by omega]; omega) (by omega)
  have lcr := limbs_abs_mul ((chs r j : Nat) : Int) ((r : Int) + ((j : Int) + 1))
  rw [Int.natAbs_natCast] at lcr
  have ec : ((chs r j : Nat) : Int) * ((r : Int) + ((j : Int) + 1)) = ((chs r j * (r + (j + 1)) : Nat) : Int) := by rw [Int.natCast_mul, Int.natCast_add, Int.natCast_add]; rfl
  have hTi := Times1 ((chs r j : Nat) : Int) ((r : Int) + ((j : Int) + 1)) (by rw [Int.natAbs_natCast]; omega) (by omega) (by omega)
  rw [ec] at hTi lcr
  rw [Int.natAbs_natCast] at lcr
  obtain ⟨w, hFl⟩ := floor_nat (chs r j * (r + (j + 1))) (j + 1) (by omega) (by omega) (by omega)
  rw [← chs_succ, show ((j + 1 : Nat) : Int) = (j : Int) + 1 from rfl] at hFl
  have hLim := Limbs_ok ((chs r (j + 1) : Nat) : Int).natAbs
  rw [← hr] at hPl hTi
  clear ec lcr lrj lj lc
  revert hPl hTi hFl
  generalize ((chs r j * (r + (j + 1)) : Nat) : Int) = y
  generalize nr + ((j : Int) + 1) = z
  intro hPl hTi hFl
  unfold WI rowW natA at *
  rcases hv with ⟨rfl, rfl⟩ | ⟨rfl, hbig⟩
  ·conv => whnf
   refine caseb (fun h4 => ?_) (fun h4 => ?_)
   ·have h4' : (j : Int) + 1 ≤ (k : Int) := of_decide_eq_true h4
    conv => whnf
    refine ⟨_, hTop, ?_⟩
    conv => whnf
    refine ⟨_, hFr, ?_⟩
    conv => whnf
    refine ⟨(nbq rfl), _, hPl, ?_⟩
    conv => whnf
    refine ⟨(nbq rfl), _, hTi, ?_⟩
    conv => whnf
    refine ⟨_, hFr, ?_⟩
    conv => whnf
    refine ⟨_, hFl, ?_⟩
    conv => whnf
    refine ⟨by kernel_rfl, ?_⟩
    conv => whnf
    refine ⟨_, hLim, ?_⟩
    conv => whnf
    refine caseb (fun h5 => ?_) (fun h5 => ?_)
    ·have h5' : ((limbs (chs r (j + 1))).length : Int) > most := of_decide_eq_true h5
     have hmo := limbs_len_mono (chs_mono r (show j + 1 ≤ k by omega))
     conv => whnf
     exact r1 (fun hc => by rcases hc with hc | hc <;> omega)
    ·have h5' : ¬ ((limbs (chs r (j + 1))).length : Int) > most := of_decide_eq_false h5
     conv => whnf
     refine ⟨j + 1, [], (by show 6500 - (j + 1) < 6500 - j; omega), ⟨(by show j + 1 ≤ k; omega), .inr (by show ((limbs (chs r (j + 1))).length : Int) ≤ most; omega)⟩, ⟨q2r, q2r, q2r, q2r, q2r, q2r, ⟨valI ?_, rfl⟩, trivial⟩, ⟨q3r, q3r, q3r, trivial⟩, rfl⟩
     show IntKind.i64.wrap ((j : Int) + 1 + 1) = ((j + 1 : Nat) : Int) + 1
     rw [IntWalk.i64_in _ (by omega)]; omega
   ·have h4' : ¬ (j : Int) + 1 ≤ (k : Int) := of_decide_eq_false h4
    have hjk : j = k := by omega
    rw [hjk] at hj2 ⊢
    conv => whnf
    refine ⟨_, hWh, ?_⟩
    conv => whnf
    exact r2 (by rcases hj2 with h | h; exact .inl h; exact .inr h)
  ·have h4' : (j : Int) + 1 ≤ (k : Int) := by omega
   conv => whnf
   refine ⟨_, hTop, ?_⟩
   conv => whnf
   refine ⟨_, hFr, ?_⟩
   conv => whnf
   refine ⟨(nbq rfl), _, hPl, ?_⟩
   conv => whnf
   refine ⟨(nbq rfl), _, hTi, ?_⟩
   conv => whnf
   refine ⟨_, hFr, ?_⟩
   conv => whnf
   refine ⟨_, hFl, ?_⟩
   conv => whnf
   refine ⟨by kernel_rfl, ?_⟩
   conv => whnf
   refine ⟨_, hLim, ?_⟩
   conv => whnf
   refine caseb (fun h5 => ?_) (fun h5 => ?_)
   ·have h5' : ((limbs (chs r (j + 1))).length : Int) > most := of_decide_eq_true h5
    have hmo := limbs_len_mono (chs_mono r (show j + 1 ≤ k by omega))
    conv => whnf
    exact r1 (fun hc => by rcases hc with hc | hc <;> omega)
   ·have h5' : ¬ ((limbs (chs r (j + 1))).length : Int) > most := of_decide_eq_false h5
    conv => whnf
    refine ⟨j + 1, [], (by show 6500 - (j + 1) < 6500 - j; omega), ⟨(by show j + 1 ≤ k; omega), .inr (by show ((limbs (chs r (j + 1))).length : Int) ≤ most; omega)⟩, ⟨q2r, q2r, q2r, q2r, q2r, q2r, ⟨valI ?_, rfl⟩, trivial⟩, ⟨q3r, q3r, q3r, trivial⟩, rfl⟩
    show IntKind.i64.wrap ((j : Int) + 1 + 1) = ((j + 1 : Nat) : Int) + 1
    rw [IntWalk.i64_in _ (by omega)]; omega
end
theorem Choose_ok (a b : Rat) (i j : Nat) (most : Int) (hi : dn i = a.den) (hj : dn j = b.den) (hm : most ≤ 200) (la : Sz a 90) (lb : Sz b 90) : ∃ d, dn d = (chooseQ a b most).1.den ∧
  AC Tryz.prog 159 [RA a.num i, RA b.num j, .val (.int .i64 most)] (.pure (.tup [RA (chooseQ a b most).1.num d, .val (.int .i64 (chooseQ a b most).2)])) := by
 unfold chooseQ
 by_cases hn : natQ a ∧ natQ b
 ·rw [if_neg (fun h => h hn)]
  by_cases hl : b.num < a.num
  ·rw [if_pos hl]
   exact ⟨0, rfl, Choose_less a b i j most hi hj la lb hn.1 hn.2 hl⟩
  ·rw [if_neg hl]
   by_cases hc : chsOk (min a.num (b.num - a.num)).toNat (max a.num (b.num - a.num)).toNat most
   ·rw [if_pos hc]
    exact ⟨1, rfl, Choose_gen a b i j most hi hj hm la lb hn.1 hn.2 (by omega) _ (.tup _ (noid2 (RA_noid _ _) (.val _))) (fun h => absurd hc h) (fun _ => rfl)⟩
   ·rw [if_neg hc]
    exact ⟨0, rfl, RZ22 (Choose_gen a b i j most hi hj hm la lb hn.1 hn.2 (by omega) _ (.tup _ (noid2 RZ_noid (.val _))) (fun _ => rfl) (fun h => absurd h hc))⟩
 ·rw [if_pos hn]
  exact ⟨0, rfl, Choose_none a b i j most hi hj hn⟩
end
section
theorem decS_eq (n m : Nat) : ((decS n).toList == (decS m).toList) = decide (n = m) :=
 (decS_is n (decL m) (fun x hx => by have := decL_byt m x hx; omega)).trans (decide_eq_decide.2 ⟨fun h => decL_inj h, fun h => by rw [h]⟩)
theorem SWays_none (a b : Rat) (most : Int) (h : ¬ (natQ a ∧ natQ b)) : AC Tryz.prog 194 [RN a.num a.den, RN b.num b.den, .val (.int .i64 most)] (.pure (.tup [RN 0 1, .val (.int .i64 22)])) := by
 have hZ := SZero_ok
 have i1 := is1 a.den
 have j1 := is1 b.den
 refine AC.of_body TTok Tryz.func194 rfl (enter_of Tryz.func194 (by kernel_rfl) (by kernel_rfl)) (noid3 (RN_noid _ _) (RN_noid _ _) (.val _)) (.tup _ (noid2 (RN_noid _ _) (.val _))) (nbq rfl) ?_
 by_cases da : a.den = 1
 ·rw [decide_eq_true da] at i1
  have f1 : (!((decS a.den).toList == ({ data := #[49] } : ByteArray).toList)) = false := by rw [i1]; rfl
  by_cases db : b.den = 1
  ·rw [decide_eq_true db] at j1
   have f2 : (!((decS b.den).toList == ({ data := #[49] } : ByteArray).toList)) = false := by rw [j1]; rfl
   by_cases na : a.num < 0
   ·have f3 : decide (a.num < 0) = true := decide_eq_true na
    unfold RN at *
    conv => whnf
    refine cFq (f1) ?_
    conv => whnf
    refine cFq (f2) ?_
    conv => whnf
    refine cTq (f3) ?_
    repeat ((conv => whnf); (first | refine ⟨_, ‹_›, ?_⟩ | refine ⟨nbq rfl, _, ‹_›, ?_⟩ | refine ⟨by kernel_rfl, ?_⟩ | exact rfl | exact ⟨nbq rfl, rfl⟩ | refine ⟨by decide, ?_⟩))
   ·have f3 : decide (a.num < 0) = false := decide_eq_false na
    have nb : b.num < 0 := Decidable.of_not_not (fun hb => h ⟨⟨da, by omega⟩, ⟨db, by omega⟩⟩)
    have f4 : decide (b.num < 0) = true := decide_eq_true nb
    unfold RN at *
    conv => whnf
    refine cFq (f1) ?_
    conv => whnf
    refine cFq (f2) ?_
    conv => whnf
    refine cFq (f3) ?_
    conv => whnf
    refine cTq (f4) ?_
    repeat ((conv => whnf); (first | refine ⟨_, ‹_›, ?_⟩ | refine ⟨nbq rfl, _, ‹_›, ?_⟩ | refine ⟨by kernel_rfl, ?_⟩ | exact rfl | exact ⟨nbq rfl, rfl⟩ | refine ⟨by decide, ?_⟩))
  ·rw [decide_eq_false db] at j1
   have f2 : (!((decS b.den).toList == ({ data := #[49] } : ByteArray).toList)) = true := by rw [j1]; rfl
   unfold RN at *
   conv => whnf
   refine cFq (f1) ?_
   conv => whnf
   refine cTq (f2) ?_
   repeat ((conv => whnf); (first | refine ⟨_, ‹_›, ?_⟩ | refine ⟨nbq rfl, _, ‹_›, ?_⟩ | refine ⟨by kernel_rfl, ?_⟩ | exact rfl | exact ⟨nbq rfl, rfl⟩ | refine ⟨by decide, ?_⟩))
 ·rw [decide_eq_false da] at i1
  have f1 : (!((decS a.den).toList == ({ data := #[49] } : ByteArray).toList)) = true := by rw [i1]; rfl
  unfold RN at *
  conv => whnf
  refine cTq (f1) ?_
  repeat ((conv => whnf); (first | refine ⟨_, ‹_›, ?_⟩ | refine ⟨nbq rfl, _, ‹_›, ?_⟩ | refine ⟨by kernel_rfl, ?_⟩ | exact rfl | exact ⟨nbq rfl, rfl⟩ | refine ⟨by decide, ?_⟩))
theorem SWays_less (a b : Rat) (most : Int) (na : natQ a) (nb : natQ b) (h : b.num < a.num) : AC Tryz.prog 194 [RN a.num a.den, RN b.num b.den, .val (.int .i64 most)] (.pure (.tup [RN 0 1, .val (.int .i64 0)])) := by
 have i1 := is1 a.den
 have j1 := is1 b.den
 rw [decide_eq_true na.1] at i1
 rw [decide_eq_true nb.1] at j1
 have f1 : (!((decS a.den).toList == ({ data := #[49] } : ByteArray).toList)) = false := by rw [i1]; rfl
 have f2 : (!((decS b.den).toList == ({ data := #[49] } : ByteArray).toList)) = false := by rw [j1]; rfl
 have na2 := na.2
 have nb2 := nb.2
 have f3 : decide (a.num < 0) = false := decide_eq_false (by omega)
 have f4 : decide (b.num < 0) = false := decide_eq_false (by omega)
 have hC := RCmp_ok a.num.natAbs b.num.natAbs
 have hcmp : cmpN a.num.natAbs b.num.natAbs > 0 ↔ b.num < a.num := by
  rw [cmpN_Z, cmpZ_pos]
  omega
 have fc : decide (cmpN a.num.natAbs b.num.natAbs > 0) = true := decide_eq_true (hcmp.2 h)
 have hZ := SZero_ok
 refine AC.of_body TTok Tryz.func194 rfl (enter_of Tryz.func194 (by kernel_rfl) (by kernel_rfl)) (noid3 (RN_noid _ _) (RN_noid _ _) (.val _)) (.tup _ (noid2 (RN_noid _ _) (.val _))) (nbq rfl) ?_
 unfold RN at *
 conv => whnf
 refine cFq (f1) ?_
 conv => whnf
 refine cFq (f2) ?_
 conv => whnf
 refine cFq (f3) ?_
 conv => whnf
 refine cFq (f4) ?_
 conv => whnf
 refine ⟨_, hC, ?_⟩
 conv => whnf
 refine cTq (fc) ?_
 repeat ((conv => whnf); (first | refine ⟨_, ‹_›, ?_⟩ | refine ⟨nbq rfl, _, ‹_›, ?_⟩ | refine ⟨by kernel_rfl, ?_⟩ | exact rfl | exact ⟨nbq rfl, rfl⟩ | refine ⟨by decide, ?_⟩))
theorem SWays_gen (a b : Rat) (most : Int) (hm : most ≤ 200) (la : Sz a 90) (lb : Sz b 90) (na : natQ a) (nb : natQ b) (h : a.num ≤ b.num) (res : AV) (hno : NoId res)
  (r1 : ¬ chsOk (min a.num (b.num - a.num)).toNat (max a.num (b.num - a.num)).toNat most → AV.tup [RN 0 1, .val (.int .i64 26)] = res)
  (r2 : chsOk (min a.num (b.num - a.num)).toNat (max a.num (b.num - a.num)).toNat most → AV.tup [RN ((chs (max a.num (b.num - a.num)).toNat (min a.num (b.num - a.num)).toNat : Nat) : Int) 1, .val (.int .i64 0)] = res) :
  AC Tryz.prog 194 [RN a.num a.den, RN b.num b.den, .val (.int .i64 most)] (.pure res) := by
 have i1 := is1 a.den
 have j1 := is1 b.den
 rw [decide_eq_true na.1] at i1
 rw [decide_eq_true nb.1] at j1
 have f1 : (!((decS a.den).toList == ({ data := #[49] } : ByteArray).toList)) = false := by rw [i1]; rfl
 have f2 : (!((decS b.den).toList == ({ data := #[49] } : ByteArray).toList)) = false := by rw [j1]; rfl
 have na2 := na.2
 have nb2 := nb.2
 have f3 : decide (a.num < 0) = false := decide_eq_false (by omega)
 have f4 : decide (b.num < 0) = false := decide_eq_false (by omega)
 have hC := RCmp_ok a.num.natAbs b.num.natAbs
 have hcmp : cmpN a.num.natAbs b.num.natAbs > 0 ↔ b.num < a.num := by
  rw [cmpN_Z, cmpZ_pos]
  omega
 have fc : decide (cmpN a.num.natAbs b.num.natAbs > 0) = false := decide_eq_false (fun h' => absurd (hcmp.1 h') (by omega))
 have hZ := SZero_ok
 have l1 := decL_le a.num.natAbs
 have l2 := decL_le b.num.natAbs
 have := la.1
 have := lb.1
 have hS := RSub_ok b.num.natAbs a.num.natAbs (by omega) (by omega)
 have hC2 := RCmp_ok (b.num.natAbs - a.num.natAbs) a.num.natAbs
 have hc2 : cmpN (b.num.natAbs - a.num.natAbs) a.num.natAbs < 0 ↔ b.num - a.num < a.num := by
  rw [cmpN_Z]
  unfold cmpZ
  split
  ·omega
  ·split <;> omega
 have hlt2 := limbs_len_mono (Nat.sub_le b.num.natAbs a.num.natAbs)
 obtain ⟨z, hz⟩ : ∃ z : Nat → Int, ∀ j, z j = (j : Int) := ⟨_, fun j => rfl⟩
 refine AC.of_body TTok Tryz.func194 rfl (enter_of Tryz.func194 (by kernel_rfl) (by kernel_rfl)) (noid3 (RN_noid _ _) (RN_noid _ _) (.val _)) hno (nbq rfl) ?_
 by_cases hs : b.num - a.num < a.num
 ·have fs : decide (cmpN (b.num.natAbs - a.num.natAbs) a.num.natAbs < 0) = true := decide_eq_true (hc2.2 hs)
  obtain ⟨k, hk⟩ : ∃ k : Nat, k = b.num.natAbs - a.num.natAbs := ⟨_, rfl⟩
  obtain ⟨r, hr⟩ : ∃ r : Nat, r = a.num.natAbs := ⟨_, rfl⟩
  rw [show (min a.num (b.num - a.num)).toNat = k by omega, show (max a.num (b.num - a.num)).toNat = r by omega] at r1 r2
  have hkr : k ≤ r := by omega
  have lr : (limbs r).length ≤ 90 := by rw [hr]; omega
  have lk : (limbs k).length ≤ 90 := by rw [hk]; omega
  have dk := decL_le k
  have hS2 := RSub_ok b.num.natAbs k (by omega) (by omega)
  rw [show b.num.natAbs - k = r by omega] at hS2
  unfold RN at hZ ⊢
  conv => whnf
  refine cFq (f1) ?_
  conv => whnf
  refine cFq (f2) ?_
  conv => whnf
  refine cFq (f3) ?_
  conv => whnf
  refine cFq (f4) ?_
  conv => whnf
  refine ⟨_, hC, ?_⟩
  conv => whnf
  refine cFq (fc) ?_
  conv => whnf
  refine ⟨_, hS, ?_⟩
  conv => whnf
  refine ⟨_, hC2, ?_⟩
  conv => whnf
  refine cTq (fs) ?_
  conv => whnf
  refine ⟨_, hS, ?_⟩
  conv => whnf
  rw [← hk]
  refine SW.loopM TTok (fun j : Nat => [(2, .val (.int .i64 most)), (4, .lp 8 0), (6, .lp 16 0), (8, .val (.string (decS k))), (9, .val (.string (decS (chs r j)))), (10, .val (.string (decS j))), (11, .val (.int .i64 (z j)))])
   (fun j => [(8, .cells 3 [[.val (.bool (decide (b.num < 0))), .val (.string (decS b.num.natAbs)), .val (.string (decS b.den))]]), (16, .cells 3 [[.val (.bool false), .val (.string ByteArray.empty), .val (.string ByteArray.empty)]])]) 352 80 rfl (fun j => 6500 - j)
   (fun j => j ≤ k ∧ (j = 0 ∨ ((limbs (chs r j)).length : Int) ≤ most)) 0 [] ⟨Nat.zero_le _, .inl rfl⟩
   ⟨q2r, q2r, q2r, q2r, ⟨strE decS_one.symm, rfl⟩, ⟨strE decS_zero.symm, rfl⟩, ⟨valI (hz 0).symm, rfl⟩, trivial⟩ ⟨q3r, q3r, trivial⟩ rfl ?_
  intro j hJ
  have hj1 : j ≤ k := hJ.1
  have hj2 : j = 0 ∨ ((limbs (chs r j)).length : Int) ≤ most := hJ.2
  clear hJ
  have lc : (limbs (chs r j)).length ≤ 200 := by
   rcases hj2 with h | h
   ·subst h; exact Nat.le_trans (limbs_small (n := 1) (by decide)) (by decide)
   ·omega
  have hjb := chs_bound (Nat.le_trans hj1 hkr) lc
  have fn : decide (z j < 100000) = true := decide_eq_true (by rw [hz]; omega)
  have ek := decS_eq j k
  by_cases hjk : j = k
  ·rw [decide_eq_true hjk] at ek
   have fk : (!((decS j).toList == (decS k).toList)) = false := by rw [ek]; rfl
   conv => whnf
   refine cTq (fn) ?_
   conv => whnf
   refine cFq (fk) ?_
   conv => whnf
   have e := r2 (by rw [← hjk]; rcases hj2 with h | h; exact .inl h; exact .inr h)
   have e2 : RN ((chs r k : Nat) : Int) 1 = .agg [.val (.bool false), .val (.string (decS (chs r j))), .val (.string { data := #[49] })] := by
    unfold RN
    rw [decS_one, decide_eq_false (show ¬ ((chs r k : Nat) : Int) < 0 by omega), Int.natAbs_natCast, hjk]
   rw [e2] at e
   exact Eq.trans rfl e
  ·rw [decide_eq_false hjk] at ek
   have fk : (!((decS j).toList == (decS k).toList)) = true := by rw [ek]; rfl
   have lj1 := limbs_small (n := j + 1) (by omega)
   have lj := limbs_small (n := j) (by omega)
   have dj := decL_le j
   have dj1 := decL_le (j + 1)
   have dr := decL_le r
   have d1 := decL_le 1
   have l1' := limbs_small (n := 1) (by decide)
   have dc := decL_le (chs r j)
   have lrj : (limbs (r + (j + 1))).length ≤ 92 := by
    have := limbs_abs_add (r : Int) ((j + 1 : Nat) : Int)
    rw [show ((r : Int) + ((j + 1 : Nat) : Int)).natAbs = r + (j + 1) by omega, Int.natAbs_natCast, Int.natAbs_natCast] at this
    omega
   have drj := decL_le (r + (j + 1))
   have lcm := limbs_mul (chs r j) (r + (j + 1))
   have dcm := decL_le (chs r j * (r + (j + 1)))
   have hA1 := RAdd_ok j 1 (by omega)
   rw [decS_one] at hA1
   have hA2 := RAdd_ok r (j + 1) (by omega)
   have hM := RMul_ok (chs r j) (r + (j + 1)) (by omega)
   have hD := RDivMod_ok (chs r j * (r + (j + 1))) (j + 1) (by omega) (by omega)
   rw [← chs_succ] at hD
   have hle : (limbs (chs r (j + 1))).length ≤ 292 := by
    have := limbs_len_mono (Nat.div_le_self (chs r j * (r + (j + 1))) (j + 1))
    rw [← chs_succ] at this
    omega
   have hble := blen_limbs' (chs r (j + 1))
   have dcs := decL_le (chs r (j + 1))
   have hLi := RLimbs_ok (chs r (j + 1)) (by omega) (by omega)
   conv => whnf
   refine cTq (fn) ?_
   conv => whnf
   refine cTq (fk) ?_
   conv => whnf
   refine ⟨_, hA1, ?_⟩
   conv => whnf
   refine ⟨_, hS2, ?_⟩
   conv => whnf
   refine ⟨_, hA2, ?_⟩
   conv => whnf
   refine ⟨_, hM, ?_⟩
   conv => whnf
   refine ⟨_, hD, ?_⟩
   conv => whnf
   refine ⟨_, hLi, ?_⟩
   conv => whnf
   refine caseb (fun h5 => ?_) (fun h5 => ?_)
   ·have h5' : ((limbs (chs r (j + 1))).length : Int) > most := of_decide_eq_true h5
    have hmo := limbs_len_mono (chs_mono r (show j + 1 ≤ k by omega))
    conv => whnf
    refine ⟨_, hZ, ?_⟩
    conv => whnf
    exact r1 (fun hc => by rcases hc with hc | hc <;> omega)
   ·have h5' : ¬ ((limbs (chs r (j + 1))).length : Int) > most := of_decide_eq_false h5
    conv => whnf
    refine ⟨j + 1, [], (by show 6500 - (j + 1) < 6500 - j; omega), ⟨(by show j + 1 ≤ k; omega), .inr (by show ((limbs (chs r (j + 1))).length : Int) ≤ most; omega)⟩, ⟨q2r, q2r, q2r, q2r, q2r, q2r, ⟨valI ?_, rfl⟩, trivial⟩, ⟨q3r, q3r, trivial⟩, rfl⟩
    show IntKind.i64.wrap (z j + 1) = z (j + 1)
    rw [hz, hz, IntWalk.i64_in _ (by omega)]; omega
 ·have fs : decide (cmpN (b.num.natAbs - a.num.natAbs) a.num.natAbs < 0) = false := decide_eq_false (fun h => hs (hc2.1 h))
  obtain ⟨k, hk⟩ : ∃ k : Nat, k = a.num.natAbs := ⟨_, rfl⟩
  obtain ⟨r, hr⟩ : ∃ r : Nat, r = b.num.natAbs - a.num.natAbs := ⟨_, rfl⟩
  rw [show (min a.num (b.num - a.num)).toNat = k by omega, show (max a.num (b.num - a.num)).toNat = r by omega] at r1 r2
  have hkr : k ≤ r := by omega
  have lr : (limbs r).length ≤ 90 := by rw [hr]; omega
  have lk : (limbs k).length ≤ 90 := by rw [hk]; omega
  have dk := decL_le k
  have hS2 := RSub_ok b.num.natAbs k (by omega) (by omega)
  rw [show b.num.natAbs - k = r by omega] at hS2
  unfold RN at hZ ⊢
  conv => whnf
  refine cFq (f1) ?_
  conv => whnf
  refine cFq (f2) ?_
  conv => whnf
  refine cFq (f3) ?_
  conv => whnf
  refine cFq (f4) ?_
  conv => whnf
  refine ⟨_, hC, ?_⟩
  conv => whnf
  refine cFq (fc) ?_
  conv => whnf
  refine ⟨_, hS, ?_⟩
  conv => whnf
  refine ⟨_, hC2, ?_⟩
  conv => whnf
  refine cFq (fs) ?_
  conv => whnf
  rw [← hk]
  refine SW.loopM TTok (fun j : Nat => [(2, .val (.int .i64 most)), (4, .lp 8 0), (6, .lp 16 0), (8, .val (.string (decS k))), (9, .val (.string (decS (chs r j)))), (10, .val (.string (decS j))), (11, .val (.int .i64 (z j)))])
   (fun j => [(8, .cells 3 [[.val (.bool (decide (b.num < 0))), .val (.string (decS b.num.natAbs)), .val (.string (decS b.den))]]), (16, .cells 3 [[.val (.bool false), .val (.string ByteArray.empty), .val (.string ByteArray.empty)]])]) 312 80 rfl (fun j => 6500 - j)
   (fun j => j ≤ k ∧ (j = 0 ∨ ((limbs (chs r j)).length : Int) ≤ most)) 0 [] ⟨Nat.zero_le _, .inl rfl⟩
   ⟨q2r, q2r, q2r, q2r, ⟨strE decS_one.symm, rfl⟩, ⟨strE decS_zero.symm, rfl⟩, ⟨valI (hz 0).symm, rfl⟩, trivial⟩ ⟨q3r, q3r, trivial⟩ rfl ?_
  intro j hJ
  have hj1 : j ≤ k := hJ.1
  have hj2 : j = 0 ∨ ((limbs (chs r j)).length : Int) ≤ most := hJ.2
  clear hJ
  have lc : (limbs (chs r j)).length ≤ 200 := by
   rcases hj2 with h | h
   ·subst h; exact Nat.le_trans (limbs_small (n := 1) (by decide)) (by decide)
   ·omega
  have hjb := chs_bound (Nat.le_trans hj1 hkr) lc
  have fn : decide (z j < 100000) = true := decide_eq_true (by rw [hz]; omega)
  have ek := decS_eq j k
  by_cases hjk : j = k
  ·rw [decide_eq_true hjk] at ek
   have fk : (!((decS j).toList == (decS k).toList)) = false := by rw [ek]; rfl
   conv => whnf
   refine cTq (fn) ?_
   conv => whnf
   refine cFq (fk) ?_
   conv => whnf
   have e := r2 (by rw [← hjk]; rcases hj2 with h | h; exact .inl h; exact .inr h)
   have e2 : RN ((chs r k : Nat) : Int) 1 = .agg [.val (.bool false), .val (.string (decS (chs r j))), .val (.string { data := #[49] })] := by
    unfold RN
    rw [decS_one, decide_eq_false (show ¬ ((chs r k : Nat) : Int) < 0 by omega), Int.natAbs_natCast, hjk]
   rw [e2] at e
   exact Eq.trans rfl e
  ·rw [decide_eq_false hjk] at ek
   have fk : (!((decS j).toList == (decS k).toList)) = true := by rw [ek]; rfl
   have lj1 := limbs_small (n := j + 1) (by omega)
   have lj := limbs_small (n := j) (by omega)
   have dj := decL_le j
   have dj1 := decL_le (j + 1)
   have dr := decL_le r
   have d1 := decL_le 1
   have l1' := limbs_small (n := 1) (by decide)
   have dc := decL_le (chs r j)
   have lrj : (limbs (r + (j + 1))).length ≤ 92 := by
    have := limbs_abs_add (r : Int) ((j + 1 : Nat) : Int)
    rw [show ((r : Int) + ((j + 1 : Nat) : Int)).natAbs = r + (j + 1) by omega, Int.natAbs_natCast, Int.natAbs_natCast] at this
    omega
   have drj := decL_le (r + (j + 1))
   have lcm := limbs_mul (chs r j) (r + (j + 1))
   have dcm := decL_le (chs r j * (r + (j + 1)))
   have hA1 := RAdd_ok j 1 (by omega)
   rw [decS_one] at hA1
   have hA2 := RAdd_ok r (j + 1) (by omega)
   have hM := RMul_ok (chs r j) (r + (j + 1)) (by omega)
   have hD := RDivMod_ok (chs r j * (r + (j + 1))) (j + 1) (by omega) (by omega)
   rw [← chs_succ] at hD
   have hle : (limbs (chs r (j + 1))).length ≤ 292 := by
    have := limbs_len_mono (Nat.div_le_self (chs r j * (r + (j + 1))) (j + 1))
    rw [← chs_succ] at this
    omega
   have hble := blen_limbs' (chs r (j + 1))
   have dcs := decL_le (chs r (j + 1))
   have hLi := RLimbs_ok (chs r (j + 1)) (by omega) (by omega)
   conv => whnf
   refine cTq (fn) ?_
   conv => whnf
   refine cTq (fk) ?_
   conv => whnf
   refine ⟨_, hA1, ?_⟩
   conv => whnf
   refine ⟨_, hS2, ?_⟩
   conv => whnf
   refine ⟨_, hA2, ?_⟩
   conv => whnf
   refine ⟨_, hM, ?_⟩
   conv => whnf
   refine ⟨_, hD, ?_⟩
   conv => whnf
   refine ⟨_, hLi, ?_⟩
   conv => whnf
   refine caseb (fun h5 => ?_) (fun h5 => ?_)
   ·have h5' : ((limbs (chs r (j + 1))).length : Int) > most := of_decide_eq_true h5
    have hmo := limbs_len_mono (chs_mono r (show j + 1 ≤ k by omega))
    conv => whnf
    refine ⟨_, hZ, ?_⟩
    conv => whnf
    exact r1 (fun hc => by rcases hc with hc | hc <;> omega)
   ·have h5' : ¬ ((limbs (chs r (j + 1))).length : Int) > most := of_decide_eq_false h5
    conv => whnf
    refine ⟨j + 1, [], (by show 6500 - (j + 1) < 6500 - j; omega), ⟨(by show j + 1 ≤ k; omega), .inr (by show ((limbs (chs r (j + 1))).length : Int) ≤ most; omega)⟩, ⟨q2r, q2r, q2r, q2r, q2r, q2r, ⟨valI ?_, rfl⟩, trivial⟩, ⟨q3r, q3r, trivial⟩, rfl⟩
    show IntKind.i64.wrap (z j + 1) = z (j + 1)
    rw [hz, hz, IntWalk.i64_in _ (by omega)]; omega
theorem SWays_ok (a b : Rat) (most : Int) (hm : most ≤ 200) (la : Sz a 90) (lb : Sz b 90) : AC Tryz.prog 194 [RN a.num a.den, RN b.num b.den, .val (.int .i64 most)] (.pure (.tup [RN (chooseQ a b most).1.num (chooseQ a b most).1.den, .val (.int .i64 (chooseQ a b most).2)])) := by
 unfold chooseQ
 by_cases hn : natQ a ∧ natQ b
 ·rw [if_neg (fun h => h hn)]
  by_cases hl : b.num < a.num
  ·rw [if_pos hl]
   exact SWays_less a b most hn.1 hn.2 hl
  ·rw [if_neg hl]
   by_cases hc : chsOk (min a.num (b.num - a.num)).toNat (max a.num (b.num - a.num)).toNat most
   ·rw [if_pos hc]
    exact SWays_gen a b most hm la lb hn.1 hn.2 (by omega) _ (.tup _ (noid2 (RN_noid _ _) (.val _))) (fun h => absurd hc h) (fun _ => rfl)
   ·rw [if_neg hc]
    exact SWays_gen a b most hm la lb hn.1 hn.2 (by omega) _ (.tup _ (noid2 (RN_noid _ _) (.val _))) (fun _ => rfl) (fun h => absurd h hc)
 ·rw [if_pos hn]
  exact SWays_none a b most hn
end
section
def reckonQ (c : Int) (a b : Rat) (most : Int) : Rat × Int :=
 if c = 43 then (a + b, 0)
 else if c = 45 then (a + -b, 0)
 else if c = 215 then (a * b, 0)
 else if c = 247 then (if b ≠ 0 then (a / b, 0) else if a = 0 then (1, 0) else (0, 22))
 else if c = 8968 then (if a < b then b else a, 0)
 else if c = 8970 then (if a < b then a else b, 0)
 else if c = 124 then (restQ a b, 0)
 else if c = 42 then powerQ a b most
 else if c = 33 then chooseQ a b most
 else (0, 22)
theorem noid4 {a b c d : AV} (ha : NoId a) (hb : NoId b) (hc : NoId c) (hd : NoId d) : ∀ x ∈ [a, b, c, d], NoId x := by
 intro x hx
 simp only [List.mem_cons, List.not_mem_nil, or_false] at hx
 rcases hx with rfl | rfl | rfl | rfl <;> assumption
theorem not_f {b : Bool} (h : b = false) : (!b) = true := by rw [h]; rfl
theorem sig_ne {q : Rat} (h : q ≠ 0) : (sigW q.num == 0) = false := beq_false_of_ne (by unfold sigW; rw [if_neg (num_ne h)]; split <;> decide)
theorem sig_z {q : Rat} (h : q = 0) : (sigW q.num == 0) = true := by rw [h]; rfl
theorem cmp_lt {a b : Rat} (h : a < b) : cmpQ a b = -1 := if_pos h
theorem cmp_ge {a b : Rat} (h : ¬ a < b) : decide (cmpQ a b < 0) = false := decide_eq_false (fun e => h (cmpQ_neg.1 e))
theorem Rec43 (a b : Rat) (i j : Nat) (most : Int) (hi : dn i = a.den) (hj : dn j = b.den) (hm : most ≤ 200) (la : Sz a 20) (lb : Sz b 20) : ∃ d, dn d = (reckonQ 43 a b most).1.den ∧ AC Tryz.prog 138 [.val (.int .i32 43), RA a.num i, RA b.num j, .val (.int .i64 most)] (.pure (.tup [RA (reckonQ 43 a b most).1.num d, .val (.int .i64 (reckonQ 43 a b most).2)])) := by
 rw [show reckonQ 43 a b most = (a + b, 0) from rfl]
 have hP := QPlus1 a b i j hi hj (la.mono (by decide)) (lb.mono (by decide))
 refine ⟨_, dn_den _, ?_⟩
 refine AC.of_body TTok Tryz.func138 rfl (enter_of Tryz.func138 (by kernel_rfl) (by kernel_rfl)) (noid4 (.val _) (RA_noid _ _) (RA_noid _ _) (.val _)) (.tup _ (noid2 (RA_noid _ _) (.val _))) (nbq rfl) ?_
 revert hP
 generalize a + b = r
 intro hP
 unfold RA rowR at *
 repeat ((conv => whnf); (first | refine ⟨_, ‹_›, ?_⟩ | refine ⟨nbq rfl, _, ‹_›, ?_⟩ | refine ⟨by kernel_rfl, ?_⟩ | exact rfl | exact ⟨nbq rfl, rfl⟩ | refine ⟨by decide, ?_⟩))
theorem Rec45 (a b : Rat) (i j : Nat) (most : Int) (hi : dn i = a.den) (hj : dn j = b.den) (hm : most ≤ 200) (la : Sz a 20) (lb : Sz b 20) : ∃ d, dn d = (reckonQ 45 a b most).1.den ∧ AC Tryz.prog 138 [.val (.int .i32 45), RA a.num i, RA b.num j, .val (.int .i64 most)] (.pure (.tup [RA (reckonQ 45 a b most).1.num d, .val (.int .i64 (reckonQ 45 a b most).2)])) := by
 rw [show reckonQ 45 a b most = (a + -b, 0) from rfl]
 have hM := QMinus_ok b.num j
 rw [hj] at hM
 have hM : AC Tryz.prog 153 [RA b.num j] (.pure (RA (-b).num b.den)) := hM
 have hP := QPlus1 a (-b) i b.den hi (dn_den b) (la.mono (by decide)) ((Sz_neg lb).mono (by decide))
 refine ⟨_, dn_den _, ?_⟩
 refine AC.of_body TTok Tryz.func138 rfl (enter_of Tryz.func138 (by kernel_rfl) (by kernel_rfl)) (noid4 (.val _) (RA_noid _ _) (RA_noid _ _) (.val _)) (.tup _ (noid2 (RA_noid _ _) (.val _))) (nbq rfl) ?_
 revert hP
 generalize a + -b = r
 intro hP
 generalize -b = nb at *
 unfold RA rowR at *
 repeat ((conv => whnf); (first | refine ⟨_, ‹_›, ?_⟩ | refine ⟨nbq rfl, _, ‹_›, ?_⟩ | refine ⟨by kernel_rfl, ?_⟩ | exact rfl | exact ⟨nbq rfl, rfl⟩ | refine ⟨by decide, ?_⟩))
theorem Rec215 (a b : Rat) (i j : Nat) (most : Int) (hi : dn i = a.den) (hj : dn j = b.den) (hm : most ≤ 200) (la : Sz a 20) (lb : Sz b 20) : ∃ d, dn d = (reckonQ 215 a b most).1.den ∧ AC Tryz.prog 138 [.val (.int .i32 215), RA a.num i, RA b.num j, .val (.int .i64 most)] (.pure (.tup [RA (reckonQ 215 a b most).1.num d, .val (.int .i64 (reckonQ 215 a b most).2)])) := by
 rw [show reckonQ 215 a b most = (a * b, 0) from rfl]
 have hP := QTimes1 a b i j hi hj (la.mono (by decide)) (lb.mono (by decide))
 refine ⟨_, dn_den _, ?_⟩
 refine AC.of_body TTok Tryz.func138 rfl (enter_of Tryz.func138 (by kernel_rfl) (by kernel_rfl)) (noid4 (.val _) (RA_noid _ _) (RA_noid _ _) (.val _)) (.tup _ (noid2 (RA_noid _ _) (.val _))) (nbq rfl) ?_
 revert hP
 generalize a * b = r
 intro hP
 unfold RA rowR at *
 repeat ((conv => whnf); (first | refine ⟨_, ‹_›, ?_⟩ | refine ⟨nbq rfl, _, ‹_›, ?_⟩ | refine ⟨by kernel_rfl, ?_⟩ | exact rfl | exact ⟨nbq rfl, rfl⟩ | refine ⟨by decide, ?_⟩))
theorem Rec247 (a b : Rat) (i j : Nat) (most : Int) (hi : dn i = a.den) (hj : dn j = b.den) (hm : most ≤ 200) (la : Sz a 20) (lb : Sz b 20) : ∃ d, dn d = (reckonQ 247 a b most).1.den ∧ AC Tryz.prog 138 [.val (.int .i32 247), RA a.num i, RA b.num j, .val (.int .i64 most)] (.pure (.tup [RA (reckonQ 247 a b most).1.num d, .val (.int .i64 (reckonQ 247 a b most).2)])) := by
 rw [show reckonQ 247 a b most = (if b ≠ 0 then (a / b, 0) else if a = 0 then (1, 0) else (0, 22)) from rfl]
 have hSa := RaSign_ok a.num i
 have hSb := RaSign_ok b.num j
 by_cases hb : b = 0
 ·rw [if_neg (fun h => h hb)]
  have fb := sig_z hb
  by_cases ha : a = 0
  ·rw [if_pos ha]
   have fa := sig_z ha
   have hF := RatFrom_ok 1 (by decide)
   refine ⟨1, rfl, ?_⟩
   show AC Tryz.prog 138 _ (.pure (.tup [RA 1 1, .val (.int .i64 0)]))
   refine AC.of_body TTok Tryz.func138 rfl (enter_of Tryz.func138 (by kernel_rfl) (by kernel_rfl)) (noid4 (.val _) (RA_noid _ _) (RA_noid _ _) (.val _)) (.tup _ (noid2 (RA_noid _ _) (.val _))) (nbq rfl) ?_
   generalize sigW a.num = s at *
   generalize sigW b.num = t at *
   unfold RA at *
   conv => whnf
   refine ⟨_, hSa, ?_⟩
   conv => whnf
   refine cTq (fa) ?_
   conv => whnf
   refine ⟨_, hSb, ?_⟩
   conv => whnf
   refine cTq (fb) ?_
   repeat ((conv => whnf); (first | refine ⟨_, ‹_›, ?_⟩ | refine ⟨nbq rfl, _, ‹_›, ?_⟩ | refine ⟨by kernel_rfl, ?_⟩ | exact rfl | exact ⟨nbq rfl, rfl⟩ | refine ⟨by decide, ?_⟩))
  ·rw [if_neg ha]
   have fa := sig_ne ha
   have hB := By_zero a i j hi (by rw [hj, hb]) (la.mono (by decide))
   rw [← hb] at hB
   refine ⟨0, rfl, ?_⟩
   show AC Tryz.prog 138 _ (.pure (.tup [RA 0 0, .val (.int .i64 22)]))
   refine AC.of_body TTok Tryz.func138 rfl (enter_of Tryz.func138 (by kernel_rfl) (by kernel_rfl)) (noid4 (.val _) (RA_noid _ _) (RA_noid _ _) (.val _)) (.tup _ (noid2 (RA_noid _ _) (.val _))) (nbq rfl) ?_
   generalize sigW a.num = s at *
   unfold RA at *
   conv => whnf
   refine ⟨_, hSa, ?_⟩
   conv => whnf
   refine cFq (fa) ?_
   repeat ((conv => whnf); (first | refine ⟨_, ‹_›, ?_⟩ | refine ⟨nbq rfl, _, ‹_›, ?_⟩ | refine ⟨by kernel_rfl, ?_⟩ | exact rfl | exact ⟨nbq rfl, rfl⟩ | refine ⟨by decide, ?_⟩))
 ·rw [if_pos hb]
  have fb := sig_ne hb
  have hB := By_ok a b i j hi hj (la.mono (by decide)) (lb.mono (by decide)) hb
  refine ⟨_, dn_den _, ?_⟩
  refine AC.of_body TTok Tryz.func138 rfl (enter_of Tryz.func138 (by kernel_rfl) (by kernel_rfl)) (noid4 (.val _) (RA_noid _ _) (RA_noid _ _) (.val _)) (.tup _ (noid2 (RA_noid _ _) (.val _))) (nbq rfl) ?_
  revert hB
  generalize a / b = r
  intro hB
  by_cases ha : a = 0
  ·have fa := sig_z ha
   generalize sigW a.num = s at *
   generalize sigW b.num = t at *
   unfold RA at *
   conv => whnf
   refine ⟨_, hSa, ?_⟩
   conv => whnf
   refine cTq (fa) ?_
   conv => whnf
   refine ⟨_, hSb, ?_⟩
   conv => whnf
   refine cFq (fb) ?_
   repeat ((conv => whnf); (first | refine ⟨_, ‹_›, ?_⟩ | refine ⟨nbq rfl, _, ‹_›, ?_⟩ | refine ⟨by kernel_rfl, ?_⟩ | exact rfl | exact ⟨nbq rfl, rfl⟩ | refine ⟨by decide, ?_⟩))
  ·have fa := sig_ne ha
   generalize sigW a.num = s at *
   unfold RA at *
   conv => whnf
   refine ⟨_, hSa, ?_⟩
   conv => whnf
   refine cFq (fa) ?_
   repeat ((conv => whnf); (first | refine ⟨_, ‹_›, ?_⟩ | refine ⟨nbq rfl, _, ‹_›, ?_⟩ | refine ⟨by kernel_rfl, ?_⟩ | exact rfl | exact ⟨nbq rfl, rfl⟩ | refine ⟨by decide, ?_⟩))
theorem Rec8968 (a b : Rat) (i j : Nat) (most : Int) (hi : dn i = a.den) (hj : dn j = b.den) (hm : most ≤ 200) (la : Sz a 20) (lb : Sz b 20) : ∃ d, dn d = (reckonQ 8968 a b most).1.den ∧ AC Tryz.prog 138 [.val (.int .i32 8968), RA a.num i, RA b.num j, .val (.int .i64 most)] (.pure (.tup [RA (reckonQ 8968 a b most).1.num d, .val (.int .i64 (reckonQ 8968 a b most).2)])) := by
 rw [show reckonQ 8968 a b most = (if a < b then b else a, 0) from rfl]
 have hC := QCmp_ok a b i j hi hj (la.mono (by decide)) (lb.mono (by decide))
 by_cases h : a < b
 ·rw [if_pos h]
  rw [cmp_lt h] at hC
  refine ⟨j, hj, ?_⟩
  refine AC.of_body TTok Tryz.func138 rfl (enter_of Tryz.func138 (by kernel_rfl) (by kernel_rfl)) (noid4 (.val _) (RA_noid _ _) (RA_noid _ _) (.val _)) (.tup _ (noid2 (RA_noid _ _) (.val _))) (nbq rfl) ?_
  unfold RA at *
  repeat ((conv => whnf); (first | refine ⟨_, ‹_›, ?_⟩ | refine ⟨nbq rfl, _, ‹_›, ?_⟩ | refine ⟨by kernel_rfl, ?_⟩ | exact rfl | exact ⟨nbq rfl, rfl⟩ | refine ⟨by decide, ?_⟩))
 ·rw [if_neg h]
  have f1 := cmp_ge h
  refine ⟨i, hi, ?_⟩
  refine AC.of_body TTok Tryz.func138 rfl (enter_of Tryz.func138 (by kernel_rfl) (by kernel_rfl)) (noid4 (.val _) (RA_noid _ _) (RA_noid _ _) (.val _)) (.tup _ (noid2 (RA_noid _ _) (.val _))) (nbq rfl) ?_
  generalize cmpQ a b = s at *
  unfold RA at *
  conv => whnf
  refine ⟨_, hC, ?_⟩
  conv => whnf
  refine cFq (f1) ?_
  repeat ((conv => whnf); (first | refine ⟨_, ‹_›, ?_⟩ | refine ⟨nbq rfl, _, ‹_›, ?_⟩ | refine ⟨by kernel_rfl, ?_⟩ | exact rfl | exact ⟨nbq rfl, rfl⟩ | refine ⟨by decide, ?_⟩))
theorem Rec8970 (a b : Rat) (i j : Nat) (most : Int) (hi : dn i = a.den) (hj : dn j = b.den) (hm : most ≤ 200) (la : Sz a 20) (lb : Sz b 20) : ∃ d, dn d = (reckonQ 8970 a b most).1.den ∧ AC Tryz.prog 138 [.val (.int .i32 8970), RA a.num i, RA b.num j, .val (.int .i64 most)] (.pure (.tup [RA (reckonQ 8970 a b most).1.num d, .val (.int .i64 (reckonQ 8970 a b most).2)])) := by
 rw [show reckonQ 8970 a b most = (if a < b then a else b, 0) from rfl]
 have hC := QCmp_ok a b i j hi hj (la.mono (by decide)) (lb.mono (by decide))
 by_cases h : a < b
 ·rw [if_pos h]
  rw [cmp_lt h] at hC
  refine ⟨i, hi, ?_⟩
  refine AC.of_body TTok Tryz.func138 rfl (enter_of Tryz.func138 (by kernel_rfl) (by kernel_rfl)) (noid4 (.val _) (RA_noid _ _) (RA_noid _ _) (.val _)) (.tup _ (noid2 (RA_noid _ _) (.val _))) (nbq rfl) ?_
  unfold RA at *
  repeat ((conv => whnf); (first | refine ⟨_, ‹_›, ?_⟩ | refine ⟨nbq rfl, _, ‹_›, ?_⟩ | refine ⟨by kernel_rfl, ?_⟩ | exact rfl | exact ⟨nbq rfl, rfl⟩ | refine ⟨by decide, ?_⟩))
 ·rw [if_neg h]
  by_cases he : a = b
  ·have hC0 : cmpQ a b = 0 := cmpQ_eq.2 he
   rw [hC0] at hC
   refine ⟨i, by rw [hi, he], ?_⟩
   rw [show RA b.num i = RA a.num i by rw [he]]
   refine AC.of_body TTok Tryz.func138 rfl (enter_of Tryz.func138 (by kernel_rfl) (by kernel_rfl)) (noid4 (.val _) (RA_noid _ _) (RA_noid _ _) (.val _)) (.tup _ (noid2 (RA_noid _ _) (.val _))) (nbq rfl) ?_
   unfold RA at *
   repeat ((conv => whnf); (first | refine ⟨_, ‹_›, ?_⟩ | refine ⟨nbq rfl, _, ‹_›, ?_⟩ | refine ⟨by kernel_rfl, ?_⟩ | exact rfl | exact ⟨nbq rfl, rfl⟩ | refine ⟨by decide, ?_⟩))
  ·have hC1 : cmpQ a b = 1 := by unfold cmpQ; rw [if_neg h, if_neg he]
   rw [hC1] at hC
   refine ⟨j, hj, ?_⟩
   refine AC.of_body TTok Tryz.func138 rfl (enter_of Tryz.func138 (by kernel_rfl) (by kernel_rfl)) (noid4 (.val _) (RA_noid _ _) (RA_noid _ _) (.val _)) (.tup _ (noid2 (RA_noid _ _) (.val _))) (nbq rfl) ?_
   unfold RA at *
   repeat ((conv => whnf); (first | refine ⟨_, ‹_›, ?_⟩ | refine ⟨nbq rfl, _, ‹_›, ?_⟩ | refine ⟨by kernel_rfl, ?_⟩ | exact rfl | exact ⟨nbq rfl, rfl⟩ | refine ⟨by decide, ?_⟩))
theorem Rec124 (a b : Rat) (i j : Nat) (most : Int) (hi : dn i = a.den) (hj : dn j = b.den) (hm : most ≤ 200) (la : Sz a 20) (lb : Sz b 20) : ∃ d, dn d = (reckonQ 124 a b most).1.den ∧ AC Tryz.prog 138 [.val (.int .i32 124), RA a.num i, RA b.num j, .val (.int .i64 most)] (.pure (.tup [RA (reckonQ 124 a b most).1.num d, .val (.int .i64 (reckonQ 124 a b most).2)])) := by
 rw [show reckonQ 124 a b most = (restQ a b, 0) from rfl]
 by_cases h : a = 0
 ·have hR := Rest_zero b i j (by rw [hi, h]) hj (lb.mono (by decide))
  rw [← h] at hR
  rw [show restQ a b = b from if_pos h]
  refine ⟨j, hj, ?_⟩
  refine AC.of_body TTok Tryz.func138 rfl (enter_of Tryz.func138 (by kernel_rfl) (by kernel_rfl)) (noid4 (.val _) (RA_noid _ _) (RA_noid _ _) (.val _)) (.tup _ (noid2 (RA_noid _ _) (.val _))) (nbq rfl) ?_
  unfold RA at *
  repeat ((conv => whnf); (first | refine ⟨_, ‹_›, ?_⟩ | refine ⟨nbq rfl, _, ‹_›, ?_⟩ | refine ⟨by kernel_rfl, ?_⟩ | exact rfl | exact ⟨nbq rfl, rfl⟩ | refine ⟨by decide, ?_⟩))
 ·have hR := Rest_ok a b i j h hi hj la lb
  refine ⟨_, dn_den _, ?_⟩
  refine AC.of_body TTok Tryz.func138 rfl (enter_of Tryz.func138 (by kernel_rfl) (by kernel_rfl)) (noid4 (.val _) (RA_noid _ _) (RA_noid _ _) (.val _)) (.tup _ (noid2 (RA_noid _ _) (.val _))) (nbq rfl) ?_
  revert hR
  generalize restQ a b = r
  intro hR
  unfold RA at *
  repeat ((conv => whnf); (first | refine ⟨_, ‹_›, ?_⟩ | refine ⟨nbq rfl, _, ‹_›, ?_⟩ | refine ⟨by kernel_rfl, ?_⟩ | exact rfl | exact ⟨nbq rfl, rfl⟩ | refine ⟨by decide, ?_⟩))
theorem Rec42 (a b : Rat) (i j : Nat) (most : Int) (hi : dn i = a.den) (hj : dn j = b.den) (hm : most ≤ 200) (la : Sz a 20) (lb : Sz b 20) : ∃ d, dn d = (reckonQ 42 a b most).1.den ∧ AC Tryz.prog 138 [.val (.int .i32 42), RA a.num i, RA b.num j, .val (.int .i64 most)] (.pure (.tup [RA (reckonQ 42 a b most).1.num d, .val (.int .i64 (reckonQ 42 a b most).2)])) := by
 rw [show reckonQ 42 a b most = powerQ a b most from rfl]
 obtain ⟨d, hd, hP⟩ := Power_ok a b i j most hi hj hm (la.mono (by decide))
 refine ⟨d, hd, ?_⟩
 refine AC.of_body TTok Tryz.func138 rfl (enter_of Tryz.func138 (by kernel_rfl) (by kernel_rfl)) (noid4 (.val _) (RA_noid _ _) (RA_noid _ _) (.val _)) (.tup _ (noid2 (RA_noid _ _) (.val _))) (nbq rfl) ?_
 revert hP
 generalize (powerQ a b most).1 = r
 generalize (powerQ a b most).2 = e
 intro hP
 unfold RA at *
 repeat ((conv => whnf); (first | refine ⟨_, ‹_›, ?_⟩ | refine ⟨nbq rfl, _, ‹_›, ?_⟩ | refine ⟨by kernel_rfl, ?_⟩ | exact rfl | exact ⟨nbq rfl, rfl⟩ | refine ⟨by decide, ?_⟩))
theorem Rec33 (a b : Rat) (i j : Nat) (most : Int) (hi : dn i = a.den) (hj : dn j = b.den) (hm : most ≤ 200) (la : Sz a 20) (lb : Sz b 20) : ∃ d, dn d = (reckonQ 33 a b most).1.den ∧ AC Tryz.prog 138 [.val (.int .i32 33), RA a.num i, RA b.num j, .val (.int .i64 most)] (.pure (.tup [RA (reckonQ 33 a b most).1.num d, .val (.int .i64 (reckonQ 33 a b most).2)])) := by
 rw [show reckonQ 33 a b most = chooseQ a b most from rfl]
 obtain ⟨d, hd, hP⟩ := Choose_ok a b i j most hi hj hm (la.mono (by decide)) (lb.mono (by decide))
 refine ⟨d, hd, ?_⟩
 refine AC.of_body TTok Tryz.func138 rfl (enter_of Tryz.func138 (by kernel_rfl) (by kernel_rfl)) (noid4 (.val _) (RA_noid _ _) (RA_noid _ _) (.val _)) (.tup _ (noid2 (RA_noid _ _) (.val _))) (nbq rfl) ?_
 revert hP
 generalize (chooseQ a b most).1 = r
 generalize (chooseQ a b most).2 = e
 intro hP
 unfold RA at *
 repeat ((conv => whnf); (first | refine ⟨_, ‹_›, ?_⟩ | refine ⟨nbq rfl, _, ‹_›, ?_⟩ | refine ⟨by kernel_rfl, ?_⟩ | exact rfl | exact ⟨nbq rfl, rfl⟩ | refine ⟨by decide, ?_⟩))
theorem Rec9055 (a b : Rat) (i j : Nat) (most : Int) (hi : dn i = a.den) (hj : dn j = b.den) (hm : most ≤ 200) (la : Sz a 20) (lb : Sz b 20) : ∃ d, dn d = (reckonQ 9055 a b most).1.den ∧ AC Tryz.prog 138 [.val (.int .i32 9055), RA a.num i, RA b.num j, .val (.int .i64 most)] (.pure (.tup [RA (reckonQ 9055 a b most).1.num d, .val (.int .i64 (reckonQ 9055 a b most).2)])) := by
 refine ⟨0, rfl, RZ22 ?_⟩
 refine AC.of_body TTok Tryz.func138 rfl (enter_of Tryz.func138 (by kernel_rfl) (by kernel_rfl)) (noid4 (.val _) (RA_noid _ _) (RA_noid _ _) (.val _)) (.tup _ (noid2 RZ_noid (.val _))) (nbq rfl) ?_
 unfold RZ
 repeat ((conv => whnf); (first | refine ⟨_, ‹_›, ?_⟩ | refine ⟨nbq rfl, _, ‹_›, ?_⟩ | refine ⟨by kernel_rfl, ?_⟩ | exact rfl | exact ⟨nbq rfl, rfl⟩ | refine ⟨by decide, ?_⟩))
theorem Rec9675 (a b : Rat) (i j : Nat) (most : Int) (hi : dn i = a.den) (hj : dn j = b.den) (hm : most ≤ 200) (la : Sz a 20) (lb : Sz b 20) : ∃ d, dn d = (reckonQ 9675 a b most).1.den ∧ AC Tryz.prog 138 [.val (.int .i32 9675), RA a.num i, RA b.num j, .val (.int .i64 most)] (.pure (.tup [RA (reckonQ 9675 a b most).1.num d, .val (.int .i64 (reckonQ 9675 a b most).2)])) := by
 refine ⟨0, rfl, RZ22 ?_⟩
 refine AC.of_body TTok Tryz.func138 rfl (enter_of Tryz.func138 (by kernel_rfl) (by kernel_rfl)) (noid4 (.val _) (RA_noid _ _) (RA_noid _ _) (.val _)) (.tup _ (noid2 RZ_noid (.val _))) (nbq rfl) ?_
 unfold RZ
 repeat ((conv => whnf); (first | refine ⟨_, ‹_›, ?_⟩ | refine ⟨nbq rfl, _, ‹_›, ?_⟩ | refine ⟨by kernel_rfl, ?_⟩ | exact rfl | exact ⟨nbq rfl, rfl⟩ | refine ⟨by decide, ?_⟩))
theorem Reckon_ok (a b : Rat) (i j : Nat) (most : Int) (hi : dn i = a.den) (hj : dn j = b.den) (hm : most ≤ 200) (la : Sz a 20) (lb : Sz b 20) (c : Int) (hc : isRec c) : ∃ d, dn d = (reckonQ c a b most).1.den ∧ AC Tryz.prog 138 [.val (.int .i32 c), RA a.num i, RA b.num j, .val (.int .i64 most)] (.pure (.tup [RA (reckonQ c a b most).1.num d, .val (.int .i64 (reckonQ c a b most).2)])) := by
 rcases hc with rfl | rfl | rfl | rfl | rfl | rfl | rfl | rfl | rfl | rfl | rfl
 ·exact Rec43 a b i j most hi hj hm la lb
 ·exact Rec45 a b i j most hi hj hm la lb
 ·exact Rec215 a b i j most hi hj hm la lb
 ·exact Rec247 a b i j most hi hj hm la lb
 ·exact Rec8968 a b i j most hi hj hm la lb
 ·exact Rec8970 a b i j most hi hj hm la lb
 ·exact Rec124 a b i j most hi hj hm la lb
 ·exact Rec42 a b i j most hi hj hm la lb
 ·exact Rec33 a b i j most hi hj hm la lb
 ·exact Rec9055 a b i j most hi hj hm la lb
 ·exact Rec9675 a b i j most hi hj hm la lb
theorem SRec43 (a b : Rat) (most : Int) (hm : most ≤ 200) (la : Sz a 20) (lb : Sz b 20) : AC Tryz.prog 165 [.val (.int .i32 43), RN a.num a.den, RN b.num b.den, .val (.int .i64 most)] (.pure (.tup [RN (reckonQ 43 a b most).1.num (reckonQ 43 a b most).1.den, .val (.int .i64 (reckonQ 43 a b most).2)])) := by
 rw [show reckonQ 43 a b most = (a + b, 0) from rfl]
 have hP := SAdd_ok a b 20 20 la lb (by decide)
 refine AC.of_body TTok Tryz.func165 rfl (enter_of Tryz.func165 (by kernel_rfl) (by kernel_rfl)) (noid4 (.val _) (RN_noid _ _) (RN_noid _ _) (.val _)) (.tup _ (noid2 (RN_noid _ _) (.val _))) (nbq rfl) ?_
 revert hP
 generalize a + b = r
 intro hP
 unfold RN at *
 repeat ((conv => whnf); (first | refine ⟨_, ‹_›, ?_⟩ | refine ⟨nbq rfl, _, ‹_›, ?_⟩ | refine ⟨by kernel_rfl, ?_⟩ | exact rfl | exact ⟨nbq rfl, rfl⟩ | refine ⟨by decide, ?_⟩))
theorem SRec45 (a b : Rat) (most : Int) (hm : most ≤ 200) (la : Sz a 20) (lb : Sz b 20) : AC Tryz.prog 165 [.val (.int .i32 45), RN a.num a.den, RN b.num b.den, .val (.int .i64 most)] (.pure (.tup [RN (reckonQ 45 a b most).1.num (reckonQ 45 a b most).1.den, .val (.int .i64 (reckonQ 45 a b most).2)])) := by
 rw [show reckonQ 45 a b most = (a + -b, 0) from rfl]
 have hM := SMinus_ok b.num b.den
 have hM : AC Tryz.prog 189 [RN b.num b.den] (.pure (RN (-b).num b.den)) := hM
 have hP := SAdd_ok a (-b) 20 20 la (Sz_neg lb) (by decide)
 rw [Rat.neg_den] at hP
 refine AC.of_body TTok Tryz.func165 rfl (enter_of Tryz.func165 (by kernel_rfl) (by kernel_rfl)) (noid4 (.val _) (RN_noid _ _) (RN_noid _ _) (.val _)) (.tup _ (noid2 (RN_noid _ _) (.val _))) (nbq rfl) ?_
 revert hP
 generalize a + -b = r
 intro hP
 generalize -b = nb at *
 unfold RN at *
 repeat ((conv => whnf); (first | refine ⟨_, ‹_›, ?_⟩ | refine ⟨nbq rfl, _, ‹_›, ?_⟩ | refine ⟨by kernel_rfl, ?_⟩ | exact rfl | exact ⟨nbq rfl, rfl⟩ | refine ⟨by decide, ?_⟩))
theorem SRec215 (a b : Rat) (most : Int) (hm : most ≤ 200) (la : Sz a 20) (lb : Sz b 20) : AC Tryz.prog 165 [.val (.int .i32 215), RN a.num a.den, RN b.num b.den, .val (.int .i64 most)] (.pure (.tup [RN (reckonQ 215 a b most).1.num (reckonQ 215 a b most).1.den, .val (.int .i64 (reckonQ 215 a b most).2)])) := by
 rw [show reckonQ 215 a b most = (a * b, 0) from rfl]
 have hP := SMul_ok a b (la.mono (by decide)) (lb.mono (by decide))
 refine AC.of_body TTok Tryz.func165 rfl (enter_of Tryz.func165 (by kernel_rfl) (by kernel_rfl)) (noid4 (.val _) (RN_noid _ _) (RN_noid _ _) (.val _)) (.tup _ (noid2 (RN_noid _ _) (.val _))) (nbq rfl) ?_
 revert hP
 generalize a * b = r
 intro hP
 unfold RN at *
 repeat ((conv => whnf); (first | refine ⟨_, ‹_›, ?_⟩ | refine ⟨nbq rfl, _, ‹_›, ?_⟩ | refine ⟨by kernel_rfl, ?_⟩ | exact rfl | exact ⟨nbq rfl, rfl⟩ | refine ⟨by decide, ?_⟩))
theorem SRec247 (a b : Rat) (most : Int) (hm : most ≤ 200) (la : Sz a 20) (lb : Sz b 20) : AC Tryz.prog 165 [.val (.int .i32 247), RN a.num a.den, RN b.num b.den, .val (.int .i64 most)] (.pure (.tup [RN (reckonQ 247 a b most).1.num (reckonQ 247 a b most).1.den, .val (.int .i64 (reckonQ 247 a b most).2)])) := by
 rw [show reckonQ 247 a b most = (if b ≠ 0 then (a / b, 0) else if a = 0 then (1, 0) else (0, 22)) from rfl]
 have j0 := is0 b.num.natAbs
 have i0 := is0 a.num.natAbs
 have hC := SCmp_ok a b (la.mono (by decide)) (lb.mono (by decide))
 have hZ := SZero_ok
 by_cases hb : b = 0
 ·rw [if_neg (fun h => h hb)]
  rw [decide_eq_true (by rw [hb]; rfl)] at j0
  have fb : (!((decS b.num.natAbs).toList == ({ data := #[48] } : ByteArray).toList)) = false := by rw [j0]; rfl
  by_cases ha : a = 0
  ·rw [if_pos ha]
   rw [decide_eq_true (by rw [ha]; rfl)] at i0
   have hF := SFrom_ok 1 (by decide)
   show AC Tryz.prog 165 _ (.pure (.tup [RN 1 1, .val (.int .i64 0)]))
   refine AC.of_body TTok Tryz.func165 rfl (enter_of Tryz.func165 (by kernel_rfl) (by kernel_rfl)) (noid4 (.val _) (RN_noid _ _) (RN_noid _ _) (.val _)) (.tup _ (noid2 (RN_noid _ _) (.val _))) (nbq rfl) ?_
   unfold RN at *
   conv => whnf
   refine cFq (fb) ?_
   conv => whnf
   refine cTq (i0) ?_
   repeat ((conv => whnf); (first | refine ⟨_, ‹_›, ?_⟩ | refine ⟨nbq rfl, _, ‹_›, ?_⟩ | refine ⟨by kernel_rfl, ?_⟩ | exact rfl | exact ⟨nbq rfl, rfl⟩ | refine ⟨by decide, ?_⟩))
  ·rw [if_neg ha]
   rw [decide_eq_false (by have := num_ne ha; omega)] at i0
   show AC Tryz.prog 165 _ (.pure (.tup [RN 0 1, .val (.int .i64 22)]))
   refine AC.of_body TTok Tryz.func165 rfl (enter_of Tryz.func165 (by kernel_rfl) (by kernel_rfl)) (noid4 (.val _) (RN_noid _ _) (RN_noid _ _) (.val _)) (.tup _ (noid2 (RN_noid _ _) (.val _))) (nbq rfl) ?_
   generalize cmpQ a b = s at *
   unfold RN at *
   conv => whnf
   refine cFq (fb) ?_
   conv => whnf
   refine cFq (i0) ?_
   repeat ((conv => whnf); (first | refine ⟨_, ‹_›, ?_⟩ | refine ⟨nbq rfl, _, ‹_›, ?_⟩ | refine ⟨by kernel_rfl, ?_⟩ | exact rfl | exact ⟨nbq rfl, rfl⟩ | refine ⟨by decide, ?_⟩))
 ·rw [if_pos hb]
  rw [decide_eq_false (by have := num_ne hb; omega)] at j0
  have fb : (!((decS b.num.natAbs).toList == ({ data := #[48] } : ByteArray).toList)) = true := by rw [j0]; rfl
  have hB := SDiv_ok a b (la.mono (by decide)) (lb.mono (by decide)) hb
  refine AC.of_body TTok Tryz.func165 rfl (enter_of Tryz.func165 (by kernel_rfl) (by kernel_rfl)) (noid4 (.val _) (RN_noid _ _) (RN_noid _ _) (.val _)) (.tup _ (noid2 (RN_noid _ _) (.val _))) (nbq rfl) ?_
  revert hB
  generalize a / b = r
  intro hB
  unfold RN at *
  conv => whnf
  refine cTq (fb) ?_
  repeat ((conv => whnf); (first | refine ⟨_, ‹_›, ?_⟩ | refine ⟨nbq rfl, _, ‹_›, ?_⟩ | refine ⟨by kernel_rfl, ?_⟩ | exact rfl | exact ⟨nbq rfl, rfl⟩ | refine ⟨by decide, ?_⟩))
theorem SRec8968 (a b : Rat) (most : Int) (hm : most ≤ 200) (la : Sz a 20) (lb : Sz b 20) : AC Tryz.prog 165 [.val (.int .i32 8968), RN a.num a.den, RN b.num b.den, .val (.int .i64 most)] (.pure (.tup [RN (reckonQ 8968 a b most).1.num (reckonQ 8968 a b most).1.den, .val (.int .i64 (reckonQ 8968 a b most).2)])) := by
 rw [show reckonQ 8968 a b most = (if a < b then b else a, 0) from rfl]
 have hC := SCmp_ok a b (la.mono (by decide)) (lb.mono (by decide))
 by_cases h : a < b
 ·rw [if_pos h]
  rw [cmp_lt h] at hC
  refine AC.of_body TTok Tryz.func165 rfl (enter_of Tryz.func165 (by kernel_rfl) (by kernel_rfl)) (noid4 (.val _) (RN_noid _ _) (RN_noid _ _) (.val _)) (.tup _ (noid2 (RN_noid _ _) (.val _))) (nbq rfl) ?_
  unfold RN at *
  repeat ((conv => whnf); (first | refine ⟨_, ‹_›, ?_⟩ | refine ⟨nbq rfl, _, ‹_›, ?_⟩ | refine ⟨by kernel_rfl, ?_⟩ | exact rfl | exact ⟨nbq rfl, rfl⟩ | refine ⟨by decide, ?_⟩))
 ·rw [if_neg h]
  have f1 := cmp_ge h
  refine AC.of_body TTok Tryz.func165 rfl (enter_of Tryz.func165 (by kernel_rfl) (by kernel_rfl)) (noid4 (.val _) (RN_noid _ _) (RN_noid _ _) (.val _)) (.tup _ (noid2 (RN_noid _ _) (.val _))) (nbq rfl) ?_
  unfold RN at *
  generalize cmpQ a b = s at *
  repeat ((conv => whnf); (first | refine ⟨_, ‹_›, ?_⟩ | refine ⟨nbq rfl, _, ‹_›, ?_⟩ | refine ⟨by kernel_rfl, ?_⟩ | exact rfl | exact ⟨nbq rfl, rfl⟩ | refine ⟨by decide, ?_⟩))
  conv => whnf
  refine cFq (f1) ?_
  repeat ((conv => whnf); (first | refine ⟨_, ‹_›, ?_⟩ | refine ⟨nbq rfl, _, ‹_›, ?_⟩ | refine ⟨by kernel_rfl, ?_⟩ | exact rfl | exact ⟨nbq rfl, rfl⟩ | refine ⟨by decide, ?_⟩))
theorem SRec8970 (a b : Rat) (most : Int) (hm : most ≤ 200) (la : Sz a 20) (lb : Sz b 20) : AC Tryz.prog 165 [.val (.int .i32 8970), RN a.num a.den, RN b.num b.den, .val (.int .i64 most)] (.pure (.tup [RN (reckonQ 8970 a b most).1.num (reckonQ 8970 a b most).1.den, .val (.int .i64 (reckonQ 8970 a b most).2)])) := by
 rw [show reckonQ 8970 a b most = (if a < b then a else b, 0) from rfl]
 have hC := SCmp_ok a b (la.mono (by decide)) (lb.mono (by decide))
 by_cases h : a < b
 ·rw [if_pos h]
  rw [cmp_lt h] at hC
  refine AC.of_body TTok Tryz.func165 rfl (enter_of Tryz.func165 (by kernel_rfl) (by kernel_rfl)) (noid4 (.val _) (RN_noid _ _) (RN_noid _ _) (.val _)) (.tup _ (noid2 (RN_noid _ _) (.val _))) (nbq rfl) ?_
  unfold RN at *
  repeat ((conv => whnf); (first | refine ⟨_, ‹_›, ?_⟩ | refine ⟨nbq rfl, _, ‹_›, ?_⟩ | refine ⟨by kernel_rfl, ?_⟩ | exact rfl | exact ⟨nbq rfl, rfl⟩ | refine ⟨by decide, ?_⟩))
 ·rw [if_neg h]
  have f1 := cmp_ge h
  refine AC.of_body TTok Tryz.func165 rfl (enter_of Tryz.func165 (by kernel_rfl) (by kernel_rfl)) (noid4 (.val _) (RN_noid _ _) (RN_noid _ _) (.val _)) (.tup _ (noid2 (RN_noid _ _) (.val _))) (nbq rfl) ?_
  unfold RN at *
  generalize cmpQ a b = s at *
  repeat ((conv => whnf); (first | refine ⟨_, ‹_›, ?_⟩ | refine ⟨nbq rfl, _, ‹_›, ?_⟩ | refine ⟨by kernel_rfl, ?_⟩ | exact rfl | exact ⟨nbq rfl, rfl⟩ | refine ⟨by decide, ?_⟩))
  conv => whnf
  refine cTq (not_f f1) ?_
  repeat ((conv => whnf); (first | refine ⟨_, ‹_›, ?_⟩ | refine ⟨nbq rfl, _, ‹_›, ?_⟩ | refine ⟨by kernel_rfl, ?_⟩ | exact rfl | exact ⟨nbq rfl, rfl⟩ | refine ⟨by decide, ?_⟩))
theorem SRec124 (a b : Rat) (most : Int) (hm : most ≤ 200) (la : Sz a 20) (lb : Sz b 20) : AC Tryz.prog 165 [.val (.int .i32 124), RN a.num a.den, RN b.num b.den, .val (.int .i64 most)] (.pure (.tup [RN (reckonQ 124 a b most).1.num (reckonQ 124 a b most).1.den, .val (.int .i64 (reckonQ 124 a b most).2)])) := by
 rw [show reckonQ 124 a b most = (restQ a b, 0) from rfl]
 have hC := SCmp_ok a b (la.mono (by decide)) (lb.mono (by decide))
 by_cases h : a = 0
 ·have hR := SRest_zero b (lb.mono (by decide))
  rw [← h] at hR
  rw [show restQ a b = b from if_pos h]
  refine AC.of_body TTok Tryz.func165 rfl (enter_of Tryz.func165 (by kernel_rfl) (by kernel_rfl)) (noid4 (.val _) (RN_noid _ _) (RN_noid _ _) (.val _)) (.tup _ (noid2 (RN_noid _ _) (.val _))) (nbq rfl) ?_
  generalize cmpQ a b = s at *
  unfold RN at *
  repeat ((conv => whnf); (first | refine ⟨_, ‹_›, ?_⟩ | refine ⟨nbq rfl, _, ‹_›, ?_⟩ | refine ⟨by kernel_rfl, ?_⟩ | exact rfl | exact ⟨nbq rfl, rfl⟩ | refine ⟨by decide, ?_⟩))
 ·have hR := SRest_ok a b h la lb
  refine AC.of_body TTok Tryz.func165 rfl (enter_of Tryz.func165 (by kernel_rfl) (by kernel_rfl)) (noid4 (.val _) (RN_noid _ _) (RN_noid _ _) (.val _)) (.tup _ (noid2 (RN_noid _ _) (.val _))) (nbq rfl) ?_
  revert hR
  generalize restQ a b = r
  generalize cmpQ a b = s at *
  intro hR
  unfold RN at *
  repeat ((conv => whnf); (first | refine ⟨_, ‹_›, ?_⟩ | refine ⟨nbq rfl, _, ‹_›, ?_⟩ | refine ⟨by kernel_rfl, ?_⟩ | exact rfl | exact ⟨nbq rfl, rfl⟩ | refine ⟨by decide, ?_⟩))
theorem SRec42 (a b : Rat) (most : Int) (hm : most ≤ 200) (la : Sz a 20) (lb : Sz b 20) : AC Tryz.prog 165 [.val (.int .i32 42), RN a.num a.den, RN b.num b.den, .val (.int .i64 most)] (.pure (.tup [RN (reckonQ 42 a b most).1.num (reckonQ 42 a b most).1.den, .val (.int .i64 (reckonQ 42 a b most).2)])) := by
 rw [show reckonQ 42 a b most = powerQ a b most from rfl]
 have hC := SCmp_ok a b (la.mono (by decide)) (lb.mono (by decide))
 have hP := SPower_ok a b most hm (la.mono (by decide)) (lb.mono (by decide))
 refine AC.of_body TTok Tryz.func165 rfl (enter_of Tryz.func165 (by kernel_rfl) (by kernel_rfl)) (noid4 (.val _) (RN_noid _ _) (RN_noid _ _) (.val _)) (.tup _ (noid2 (RN_noid _ _) (.val _))) (nbq rfl) ?_
 revert hP
 generalize (powerQ a b most).1 = r
 generalize (powerQ a b most).2 = e
 generalize cmpQ a b = s at *
 intro hP
 unfold RN at *
 repeat ((conv => whnf); (first | refine ⟨_, ‹_›, ?_⟩ | refine ⟨nbq rfl, _, ‹_›, ?_⟩ | refine ⟨by kernel_rfl, ?_⟩ | exact rfl | exact ⟨nbq rfl, rfl⟩ | refine ⟨by decide, ?_⟩))
theorem SRec33 (a b : Rat) (most : Int) (hm : most ≤ 200) (la : Sz a 20) (lb : Sz b 20) : AC Tryz.prog 165 [.val (.int .i32 33), RN a.num a.den, RN b.num b.den, .val (.int .i64 most)] (.pure (.tup [RN (reckonQ 33 a b most).1.num (reckonQ 33 a b most).1.den, .val (.int .i64 (reckonQ 33 a b most).2)])) := by
 rw [show reckonQ 33 a b most = chooseQ a b most from rfl]
 have hC := SCmp_ok a b (la.mono (by decide)) (lb.mono (by decide))
 have hP := SWays_ok a b most hm (la.mono (by decide)) (lb.mono (by decide))
 refine AC.of_body TTok Tryz.func165 rfl (enter_of Tryz.func165 (by kernel_rfl) (by kernel_rfl)) (noid4 (.val _) (RN_noid _ _) (RN_noid _ _) (.val _)) (.tup _ (noid2 (RN_noid _ _) (.val _))) (nbq rfl) ?_
 revert hP
 generalize (chooseQ a b most).1 = r
 generalize (chooseQ a b most).2 = e
 generalize cmpQ a b = s at *
 intro hP
 unfold RN at *
 repeat ((conv => whnf); (first | refine ⟨_, ‹_›, ?_⟩ | refine ⟨nbq rfl, _, ‹_›, ?_⟩ | refine ⟨by kernel_rfl, ?_⟩ | exact rfl | exact ⟨nbq rfl, rfl⟩ | refine ⟨by decide, ?_⟩))
theorem SRec9055 (a b : Rat) (most : Int) (hm : most ≤ 200) (la : Sz a 20) (lb : Sz b 20) : AC Tryz.prog 165 [.val (.int .i32 9055), RN a.num a.den, RN b.num b.den, .val (.int .i64 most)] (.pure (.tup [RN (reckonQ 9055 a b most).1.num (reckonQ 9055 a b most).1.den, .val (.int .i64 (reckonQ 9055 a b most).2)])) := by
 have hC := SCmp_ok a b (la.mono (by decide)) (lb.mono (by decide))
 have hZ := SZero_ok
 show AC Tryz.prog 165 _ (.pure (.tup [RN 0 1, .val (.int .i64 22)]))
 refine AC.of_body TTok Tryz.func165 rfl (enter_of Tryz.func165 (by kernel_rfl) (by kernel_rfl)) (noid4 (.val _) (RN_noid _ _) (RN_noid _ _) (.val _)) (.tup _ (noid2 (RN_noid _ _) (.val _))) (nbq rfl) ?_
 generalize cmpQ a b = s at *
 unfold RN at *
 repeat ((conv => whnf); (first | refine ⟨_, ‹_›, ?_⟩ | refine ⟨nbq rfl, _, ‹_›, ?_⟩ | refine ⟨by kernel_rfl, ?_⟩ | exact rfl | exact ⟨nbq rfl, rfl⟩ | refine ⟨by decide, ?_⟩))
theorem SRec9675 (a b : Rat) (most : Int) (hm : most ≤ 200) (la : Sz a 20) (lb : Sz b 20) : AC Tryz.prog 165 [.val (.int .i32 9675), RN a.num a.den, RN b.num b.den, .val (.int .i64 most)] (.pure (.tup [RN (reckonQ 9675 a b most).1.num (reckonQ 9675 a b most).1.den, .val (.int .i64 (reckonQ 9675 a b most).2)])) := by
 have hC := SCmp_ok a b (la.mono (by decide)) (lb.mono (by decide))
 have hZ := SZero_ok
 show AC Tryz.prog 165 _ (.pure (.tup [RN 0 1, .val (.int .i64 22)]))
 refine AC.of_body TTok Tryz.func165 rfl (enter_of Tryz.func165 (by kernel_rfl) (by kernel_rfl)) (noid4 (.val _) (RN_noid _ _) (RN_noid _ _) (.val _)) (.tup _ (noid2 (RN_noid _ _) (.val _))) (nbq rfl) ?_
 generalize cmpQ a b = s at *
 unfold RN at *
 repeat ((conv => whnf); (first | refine ⟨_, ‹_›, ?_⟩ | refine ⟨nbq rfl, _, ‹_›, ?_⟩ | refine ⟨by kernel_rfl, ?_⟩ | exact rfl | exact ⟨nbq rfl, rfl⟩ | refine ⟨by decide, ?_⟩))
theorem SReckon_ok (a b : Rat) (most : Int) (hm : most ≤ 200) (la : Sz a 20) (lb : Sz b 20) (c : Int) (hc : isRec c) : AC Tryz.prog 165 [.val (.int .i32 c), RN a.num a.den, RN b.num b.den, .val (.int .i64 most)] (.pure (.tup [RN (reckonQ c a b most).1.num (reckonQ c a b most).1.den, .val (.int .i64 (reckonQ c a b most).2)])) := by
 rcases hc with rfl | rfl | rfl | rfl | rfl | rfl | rfl | rfl | rfl | rfl | rfl
 ·exact SRec43 a b most hm la lb
 ·exact SRec45 a b most hm la lb
 ·exact SRec215 a b most hm la lb
 ·exact SRec247 a b most hm la lb
 ·exact SRec8968 a b most hm la lb
 ·exact SRec8970 a b most hm la lb
 ·exact SRec124 a b most hm la lb
 ·exact SRec42 a b most hm la lb
 ·exact SRec33 a b most hm la lb
 ·exact SRec9055 a b most hm la lb
 ·exact SRec9675 a b most hm la lb
end
section
def twoQ (c : Int) (a b : Rat) (most : Int) : Rat × Int :=
 if isCmp c then (tq (cmpS c (cmpQ a b)), 0)
 else if isJdg c then judgeQ c a b
 else if ¬ isRec c then (0, 20)
 else if (reckonQ c a b most).2 ≠ 0 then (0, (reckonQ c a b most).2)
 else if most < (qLimbs (reckonQ c a b most).1.num (reckonQ c a b most).1.den : Nat) then (0, 26)
 else ((reckonQ c a b most).1, 0)
theorem chs_sz {k r : Nat} {most : Int} {K : Nat} (h1 : 1 ≤ K) (hm : most ≤ K) (h : chsOk k r most) : (limbs (chs r k)).length ≤ K := by
 rcases h with h | h
 ·subst h; exact Nat.le_trans (limbs_small (n := 1) (by decide)) h1
 ·omega
theorem Sz_one : Sz 1 1 := Sz_small (by decide) (by decide)
theorem rest_sz {a x : Rat} {i j : Nat} (h0 : a ≠ 0) (la : Sz a i) (lx : Sz x j) : Sz (restQ a x) (2 * (j + (i + (j + i + 2))) + 1) := by
 unfold restQ
 rw [if_neg h0]
 exact Sz_add lx (Sz_neg (Sz_mul la (Sz_int (by omega) (limbs_floor (Sz_div h0 lx la)))))
theorem reckon_sz (c : Int) (a b : Rat) (most : Int) (hm : most ≤ 200) (la : Sz a 20) (lb : Sz b 20) : Sz (reckonQ c a b most).1 400 := by
 unfold reckonQ
 split
 ·exact (Sz_add la lb).mono (by decide)
 split
 ·exact (Sz_add la (Sz_neg lb)).mono (by decide)
 split
 ·exact (Sz_mul la lb).mono (by decide)
 split
 ·split
  ·rename_i h; exact (Sz_div h la lb).mono (by decide)
  ·split
   ·exact Sz_one.mono (by decide)
   ·exact Sz_zero.mono (by decide)
 split
 ·show Sz (if a < b then b else a) 400
  split
  ·exact lb.mono (by decide)
  ·exact la.mono (by decide)
 split
 ·show Sz (if a < b then a else b) 400
  split
  ·exact la.mono (by decide)
  ·exact lb.mono (by decide)
 split
 ·show Sz (restQ a b) 400
  by_cases h : a = 0
  ·rw [show restQ a b = b from if_pos h]; exact lb.mono (by decide)
  ·exact (rest_sz h la lb).mono (by decide)
 split
 ·unfold powerQ
  split
  ·exact Sz_zero.mono (by decide)
  split
  ·show Sz (if a.num < 0 ∧ b.num.natAbs % 2 = 0 then -a else a) 400
   split
   ·exact (Sz_neg la).mono (by decide)
   ·exact la.mono (by decide)
  split
  ·exact Sz_zero.mono (by decide)
  ·exact (pow_sz a b.num most 200 (by decide) hm (la.mono (by decide))).mono (by decide)
 split
 ·unfold chooseQ
  split
  ·exact Sz_zero.mono (by decide)
  split
  ·exact Sz_zero.mono (by decide)
  split
  ·rename_i h
   exact (Sz_int (k := 200) (by decide) (by rw [Int.natAbs_natCast]; exact chs_sz (by decide) hm h)).mono (by decide)
  ·exact Sz_zero.mono (by decide)
 ·exact Sz_zero.mono (by decide)
section
variable (c : Int) (a b : Rat) (i j : Nat) (most : Int) (hi : dn i = a.den) (hj : dn j = b.den) (hm : most ≤ 200) (la : Sz a 20) (lb : Sz b 20)
include hi hj hm la lb
theorem Two_ok : ∃ d, dn d = (twoQ c a b most).1.den ∧ AC Tryz.prog 112 [.val (.int .i32 c), RA a.num i, RA b.num j, .val (.int .i64 most)] (.pure (.tup [RA (twoQ c a b most).1.num d, .val (.int .i64 (twoQ c a b most).2)])) := by
 unfold twoQ
 have hC := compares_ok c
 have hJ := judges_ok c
 have hR := reckons_ok c
 by_cases h1 : isCmp c
 ·rw [if_pos h1]
  rw [decide_eq_true h1] at hC
  have hQ := QCmp_ok a b i j hi hj (la.mono (by decide)) (lb.mono (by decide))
  have hS := Compare_ok c (cmpQ a b)
  have hT := truth_ok (cmpS c (cmpQ a b))
  refine ⟨_, td_dn _, ?_⟩
  refine AC.of_body TTok Tryz.func112 rfl (enter_of Tryz.func112 (by kernel_rfl) (by kernel_rfl)) (noid4 (.val _) (RA_noid _ _) (RA_noid _ _) (.val _)) (.tup _ (noid2 (RA_noid _ _) (.val _))) (nbq rfl) ?_
  revert hQ hS hT
  generalize cmpS c (cmpQ a b) = t
  generalize cmpQ a b = n
  intro hQ hS hT
  generalize td t = e at *
  generalize (tq t).num = f at *
  unfold RA at *
  repeat ((conv => whnf); (first | refine ⟨_, ‹_›, ?_⟩ | refine ⟨nbq rfl, _, ‹_›, ?_⟩ | refine ⟨by kernel_rfl, ?_⟩ | exact rfl | exact ⟨nbq rfl, rfl⟩ | refine ⟨by decide, ?_⟩))
 rw [if_neg h1]
 rw [decide_eq_false h1] at hC
 by_cases h2 : isJdg c
 ·rw [if_pos h2]
  rw [decide_eq_true h2] at hJ
  obtain ⟨d, hd, hP⟩ := judge_ok c h2 a b i j hi hj (la.mono (by decide)) (lb.mono (by decide))
  refine ⟨d, hd, ?_⟩
  refine AC.of_body TTok Tryz.func112 rfl (enter_of Tryz.func112 (by kernel_rfl) (by kernel_rfl)) (noid4 (.val _) (RA_noid _ _) (RA_noid _ _) (.val _)) (.tup _ (noid2 (RA_noid _ _) (.val _))) (nbq rfl) ?_
  revert hP
  generalize (judgeQ c a b).1 = r
  generalize (judgeQ c a b).2 = e
  intro hP
  unfold RA at *
  repeat ((conv => whnf); (first | refine ⟨_, ‹_›, ?_⟩ | refine ⟨nbq rfl, _, ‹_›, ?_⟩ | refine ⟨by kernel_rfl, ?_⟩ | exact rfl | exact ⟨nbq rfl, rfl⟩ | refine ⟨by decide, ?_⟩))
 rw [if_neg h2]
 rw [decide_eq_false h2] at hJ
 by_cases h3 : isRec c
 rotate_left
 ·rw [if_pos h3]
  rw [decide_eq_false h3] at hR
  refine ⟨0, rfl, RZ22 ?_⟩
  refine AC.of_body TTok Tryz.func112 rfl (enter_of Tryz.func112 (by kernel_rfl) (by kernel_rfl)) (noid4 (.val _) (RA_noid _ _) (RA_noid _ _) (.val _)) (.tup _ (noid2 RZ_noid (.val _))) (nbq rfl) ?_
  unfold RA RZ at *
  repeat ((conv => whnf); (first | refine ⟨_, ‹_›, ?_⟩ | refine ⟨nbq rfl, _, ‹_›, ?_⟩ | refine ⟨by kernel_rfl, ?_⟩ | exact rfl | exact ⟨nbq rfl, rfl⟩ | refine ⟨by decide, ?_⟩))
 rw [if_neg (fun h => h h3)]
 rw [decide_eq_true h3] at hR
 obtain ⟨d, hd, hP⟩ := Reckon_ok a b i j most hi hj hm la lb c h3
 have hL := QLimbs_ok (reckonQ c a b most).1.num d
 rw [hd] at hL
 revert hd hP hL
 generalize (reckonQ c a b most).1 = r
 generalize (reckonQ c a b most).2 = e
 intro hd hP hL
 by_cases he : e = 0
 rotate_left
 ·rw [if_pos he]
  have f1 : (e == 0) = false := beq_false_of_ne he
  have f2 : (e != 0) = true := by rw [bne, f1]; rfl
  refine ⟨0, rfl, RZ22 ?_⟩
  refine AC.of_body TTok Tryz.func112 rfl (enter_of Tryz.func112 (by kernel_rfl) (by kernel_rfl)) (noid4 (.val _) (RA_noid _ _) (RA_noid _ _) (.val _)) (.tup _ (noid2 RZ_noid (.val _))) (nbq rfl) ?_
  unfold RA RZ at *
  conv => whnf
  refine ⟨_, hC, ?_⟩
  conv => whnf
  refine ⟨_, hJ, ?_⟩
  conv => whnf
  refine ⟨_, hR, ?_⟩
  conv => whnf
  refine ⟨_, hP, ?_⟩
  conv => whnf
  refine cFq (f1) ?_
  conv => whnf
  refine cTq (f2) ?_
  repeat ((conv => whnf); (first | refine ⟨_, ‹_›, ?_⟩ | refine ⟨nbq rfl, _, ‹_›, ?_⟩ | refine ⟨by kernel_rfl, ?_⟩ | exact rfl | exact ⟨nbq rfl, rfl⟩ | refine ⟨by decide, ?_⟩))
 rw [if_neg (fun h => h he)]
 subst he
 by_cases hq : most < (qLimbs r.num r.den : Nat)
 ·rw [if_pos hq]
  have f1 : decide (((qLimbs r.num r.den : Nat) : Int) > most) = true := decide_eq_true hq
  refine ⟨0, rfl, RZ22 ?_⟩
  refine AC.of_body TTok Tryz.func112 rfl (enter_of Tryz.func112 (by kernel_rfl) (by kernel_rfl)) (noid4 (.val _) (RA_noid _ _) (RA_noid _ _) (.val _)) (.tup _ (noid2 RZ_noid (.val _))) (nbq rfl) ?_
  generalize ((qLimbs r.num r.den : Nat) : Int) = n at *
  unfold RA RZ at *
  conv => whnf
  refine ⟨_, hC, ?_⟩
  conv => whnf
  refine ⟨_, hJ, ?_⟩
  conv => whnf
  refine ⟨_, hR, ?_⟩
  conv => whnf
  refine ⟨_, hP, ?_⟩
  conv => whnf
  refine ⟨_, hL, ?_⟩
  conv => whnf
  refine cTq (f1) ?_
  repeat ((conv => whnf); (first | refine ⟨_, ‹_›, ?_⟩ | refine ⟨nbq rfl, _, ‹_›, ?_⟩ | refine ⟨by kernel_rfl, ?_⟩ | exact rfl | exact ⟨nbq rfl, rfl⟩ | refine ⟨by decide, ?_⟩))
 ·rw [if_neg hq]
  have f1 : decide (((qLimbs r.num r.den : Nat) : Int) > most) = false := decide_eq_false hq
  refine ⟨d, hd, ?_⟩
  refine AC.of_body TTok Tryz.func112 rfl (enter_of Tryz.func112 (by kernel_rfl) (by kernel_rfl)) (noid4 (.val _) (RA_noid _ _) (RA_noid _ _) (.val _)) (.tup _ (noid2 (RA_noid _ _) (.val _))) (nbq rfl) ?_
  generalize ((qLimbs r.num r.den : Nat) : Int) = n at *
  unfold RA at *
  conv => whnf
  refine ⟨_, hC, ?_⟩
  conv => whnf
  refine ⟨_, hJ, ?_⟩
  conv => whnf
  refine ⟨_, hR, ?_⟩
  conv => whnf
  refine ⟨_, hP, ?_⟩
  conv => whnf
  refine ⟨_, hL, ?_⟩
  conv => whnf
  refine cFq (f1) ?_
  repeat ((conv => whnf); (first | refine ⟨_, ‹_›, ?_⟩ | refine ⟨nbq rfl, _, ‹_›, ?_⟩ | refine ⟨by kernel_rfl, ?_⟩ | exact rfl | exact ⟨nbq rfl, rfl⟩ | refine ⟨by decide, ?_⟩))
end
theorem STwo_ok (c : Int) (a b : Rat) (most : Int) (hm : most ≤ 200) (la : Sz a 20) (lb : Sz b 20) : AC Tryz.prog 140 [.val (.int .i32 c), RN a.num a.den, RN b.num b.den, .val (.int .i64 most)] (.pure (.tup [RN (twoQ c a b most).1.num (twoQ c a b most).1.den, .val (.int .i64 (twoQ c a b most).2)])) := by
 unfold twoQ
 have hH := SHas_ok c
 have hZ := SZero_ok
 by_cases h1 : isCmp c
 ·rw [if_pos h1]
  rw [decide_eq_true (show isTwo c from .inr (.inl h1))] at hH
  have hQ := SCmp_ok a b (la.mono (by decide)) (lb.mono (by decide))
  have hS := SCompare_ok c (cmpQ a b)
  have hT := Struth_ok (cmpS c (cmpQ a b))
  refine AC.of_body TTok Tryz.func140 rfl (enter_of Tryz.func140 (by kernel_rfl) (by kernel_rfl)) (noid4 (.val _) (RN_noid _ _) (RN_noid _ _) (.val _)) (.tup _ (noid2 (RN_noid _ _) (.val _))) (nbq rfl) ?_
  revert hQ hS hT
  generalize cmpS c (cmpQ a b) = t
  generalize cmpQ a b = n
  intro hQ hS hT
  generalize (tq t).den = e at *
  generalize (tq t).num = f at *
  unfold RN at *
  rcases h1 with rfl | rfl | rfl | rfl | rfl | rfl
  all_goals
   repeat ((conv => whnf); (first | refine ⟨_, ‹_›, ?_⟩ | refine ⟨nbq rfl, _, ‹_›, ?_⟩ | refine ⟨by kernel_rfl, ?_⟩ | exact rfl | exact ⟨nbq rfl, rfl⟩ | refine ⟨by decide, ?_⟩))
 rw [if_neg h1]
 by_cases h2 : isJdg c
 ·rw [if_pos h2]
  rw [decide_eq_true (show isTwo c from .inr (.inr h2))] at hH
  have hP := Sjudge_ok c h2 a b (la.mono (by decide)) (lb.mono (by decide))
  refine AC.of_body TTok Tryz.func140 rfl (enter_of Tryz.func140 (by kernel_rfl) (by kernel_rfl)) (noid4 (.val _) (RN_noid _ _) (RN_noid _ _) (.val _)) (.tup _ (noid2 (RN_noid _ _) (.val _))) (nbq rfl) ?_
  revert hP
  generalize (judgeQ c a b).1 = r
  generalize (judgeQ c a b).2 = e
  intro hP
  unfold RN at *
  clear h1
  rcases h2 with rfl | rfl | rfl | rfl
  all_goals
   repeat ((conv => whnf); (first | refine ⟨_, ‹_›, ?_⟩ | refine ⟨nbq rfl, _, ‹_›, ?_⟩ | refine ⟨by kernel_rfl, ?_⟩ | exact rfl | exact ⟨nbq rfl, rfl⟩ | refine ⟨by decide, ?_⟩))
 rw [if_neg h2]
 by_cases h3 : isRec c
 rotate_left
 ·rw [if_pos h3]
  rw [decide_eq_false (show ¬ isTwo c from fun h => h.elim h3 (fun h => h.elim h1 h2))] at hH
  show AC Tryz.prog 140 _ (.pure (.tup [RN 0 1, .val (.int .i64 20)]))
  refine AC.of_body TTok Tryz.func140 rfl (enter_of Tryz.func140 (by kernel_rfl) (by kernel_rfl)) (noid4 (.val _) (RN_noid _ _) (RN_noid _ _) (.val _)) (.tup _ (noid2 (RN_noid _ _) (.val _))) (nbq rfl) ?_
  unfold RN at *
  repeat ((conv => whnf); (first | refine ⟨_, ‹_›, ?_⟩ | refine ⟨nbq rfl, _, ‹_›, ?_⟩ | refine ⟨by kernel_rfl, ?_⟩ | exact rfl | exact ⟨nbq rfl, rfl⟩ | refine ⟨by decide, ?_⟩))
 rw [if_neg (fun h => h h3)]
 rw [decide_eq_true (show isTwo c from .inl h3)] at hH
 have hP := SReckon_ok a b most hm la lb c h3
 have sz := reckon_sz c a b most hm la lb
 have hL := SLimbs_ok (reckonQ c a b most).1.num (reckonQ c a b most).1.den (Nat.le_trans sz.1 (by decide)) (Nat.le_trans sz.2 (by decide))
 clear sz
 revert hP hL
 generalize (reckonQ c a b most).1 = r
 generalize (reckonQ c a b most).2 = e
 intro hP hL
 have k1 : (c == 60) = false := beq_false_of_ne (fun h => h1 (.inl h))
 have k2 : (c == 8804) = false := beq_false_of_ne (fun h => h1 (.inr (.inl h)))
 have k3 : (c == 61) = false := beq_false_of_ne (fun h => h1 (.inr (.inr (.inl h))))
 have k4 : (c == 8805) = false := beq_false_of_ne (fun h => h1 (.inr (.inr (.inr (.inl h)))))
 have k5 : (c == 62) = false := beq_false_of_ne (fun h => h1 (.inr (.inr (.inr (.inr (.inl h))))))
 have k6 : (c == 8800) = false := beq_false_of_ne (fun h => h1 (.inr (.inr (.inr (.inr (.inr h))))))
 have m1 : (c == 8743) = false := beq_false_of_ne (fun h => h2 (.inl h))
 have m2 : (c == 8744) = false := beq_false_of_ne (fun h => h2 (.inr (.inl h)))
 have m3 : (c == 9074) = false := beq_false_of_ne (fun h => h2 (.inr (.inr (.inl h))))
 have m4 : (c == 9073) = false := beq_false_of_ne (fun h => h2 (.inr (.inr (.inr h))))
 by_cases he : e = 0
 rotate_left
 ·rw [if_pos he]
  have f1 : (e == 0) = false := beq_false_of_ne he
  have f2 : (e != 0) = true := by rw [bne, f1]; rfl
  show AC Tryz.prog 140 _ (.pure (.tup [RN 0 1, .val (.int .i64 e)]))
  refine AC.of_body TTok Tryz.func140 rfl (enter_of Tryz.func140 (by kernel_rfl) (by kernel_rfl)) (noid4 (.val _) (RN_noid _ _) (RN_noid _ _) (.val _)) (.tup _ (noid2 (RN_noid _ _) (.val _))) (nbq rfl) ?_
  unfold RN at *
  conv => whnf
  refine ⟨_, hH, ?_⟩
  conv => whnf
  refine cFq (k1) ?_
  conv => whnf
  refine cFq (k2) ?_
  conv => whnf
  refine cFq (k3) ?_
  conv => whnf
  refine cFq (k4) ?_
  conv => whnf
  refine cFq (k5) ?_
  conv => whnf
  refine cFq (k6) ?_
  conv => whnf
  refine cFq (m1) ?_
  conv => whnf
  refine cFq (m2) ?_
  conv => whnf
  refine cFq (m3) ?_
  conv => whnf
  refine cFq (m4) ?_
  conv => whnf
  refine ⟨_, hP, ?_⟩
  conv => whnf
  refine cFq (f1) ?_
  conv => whnf
  refine cTq (f2) ?_
  repeat ((conv => whnf); (first | refine ⟨_, ‹_›, ?_⟩ | refine ⟨nbq rfl, _, ‹_›, ?_⟩ | refine ⟨by kernel_rfl, ?_⟩ | exact rfl | exact ⟨nbq rfl, rfl⟩ | refine ⟨by decide, ?_⟩))
 rw [if_neg (fun h => h he)]
 subst he
 by_cases hq : most < (qLimbs r.num r.den : Nat)
 ·rw [if_pos hq]
  have f1 : decide (((qLimbs r.num r.den : Nat) : Int) > most) = true := decide_eq_true hq
  show AC Tryz.prog 140 _ (.pure (.tup [RN 0 1, .val (.int .i64 26)]))
  refine AC.of_body TTok Tryz.func140 rfl (enter_of Tryz.func140 (by kernel_rfl) (by kernel_rfl)) (noid4 (.val _) (RN_noid _ _) (RN_noid _ _) (.val _)) (.tup _ (noid2 (RN_noid _ _) (.val _))) (nbq rfl) ?_
  generalize ((qLimbs r.num r.den : Nat) : Int) = n at *
  unfold RN at *
  conv => whnf
  refine ⟨_, hH, ?_⟩
  conv => whnf
  refine cFq (k1) ?_
  conv => whnf
  refine cFq (k2) ?_
  conv => whnf
  refine cFq (k3) ?_
  conv => whnf
  refine cFq (k4) ?_
  conv => whnf
  refine cFq (k5) ?_
  conv => whnf
  refine cFq (k6) ?_
  conv => whnf
  refine cFq (m1) ?_
  conv => whnf
  refine cFq (m2) ?_
  conv => whnf
  refine cFq (m3) ?_
  conv => whnf
  refine cFq (m4) ?_
  conv => whnf
  refine ⟨_, hP, ?_⟩
  conv => whnf
  refine ⟨_, hL, ?_⟩
  conv => whnf
  refine cTq (f1) ?_
  repeat ((conv => whnf); (first | refine ⟨_, ‹_›, ?_⟩ | refine ⟨nbq rfl, _, ‹_›, ?_⟩ | refine ⟨by kernel_rfl, ?_⟩ | exact rfl | exact ⟨nbq rfl, rfl⟩ | refine ⟨by decide, ?_⟩))
 ·rw [if_neg hq]
  have f1 : decide (((qLimbs r.num r.den : Nat) : Int) > most) = false := decide_eq_false hq
  refine AC.of_body TTok Tryz.func140 rfl (enter_of Tryz.func140 (by kernel_rfl) (by kernel_rfl)) (noid4 (.val _) (RN_noid _ _) (RN_noid _ _) (.val _)) (.tup _ (noid2 (RN_noid _ _) (.val _))) (nbq rfl) ?_
  generalize ((qLimbs r.num r.den : Nat) : Int) = n at *
  unfold RN at *
  conv => whnf
  refine ⟨_, hH, ?_⟩
  conv => whnf
  refine cFq (k1) ?_
  conv => whnf
  refine cFq (k2) ?_
  conv => whnf
  refine cFq (k3) ?_
  conv => whnf
  refine cFq (k4) ?_
  conv => whnf
  refine cFq (k5) ?_
  conv => whnf
  refine cFq (k6) ?_
  conv => whnf
  refine cFq (m1) ?_
  conv => whnf
  refine cFq (m2) ?_
  conv => whnf
  refine cFq (m3) ?_
  conv => whnf
  refine cFq (m4) ?_
  conv => whnf
  refine ⟨_, hP, ?_⟩
  conv => whnf
  refine ⟨_, hL, ?_⟩
  conv => whnf
  refine cFq (f1) ?_
  repeat ((conv => whnf); (first | refine ⟨_, ‹_›, ?_⟩ | refine ⟨nbq rfl, _, ‹_›, ?_⟩ | refine ⟨by kernel_rfl, ?_⟩ | exact rfl | exact ⟨nbq rfl, rfl⟩ | refine ⟨by decide, ?_⟩))
end
section
theorem kinds_len {sh : List Int} {ch : Bool} {a b : Nat} (h : kinds sh ch a b) : ((a + b : Nat) : Int) = cntI sh ∧ (if ch then a else b) = a + b := by
 unfold kinds at h
 cases ch with
 | true =>
  have h : (a : Int) = cntI sh ∧ b = 0 := h
  exact ⟨by omega, by show a = a + b; omega⟩
 | false =>
  have h : (b : Int) = cntI sh ∧ a = 0 := h
  exact ⟨by omega, by show b = a + b; omega⟩
def ix (one : Bool) (i : Nat) : Nat := if one then 0 else i
theorem fit_idx {sa sb : List Int} {la lb : Nat} (ha : (la : Int) = cntI sa) (hb : (lb : Int) = cntI sb) (va : vS sa) (vb : vS sb) (he : (fitS sa sb la lb).2.2.2 = 0) :
  vS (fitS sa sb la lb).1 ∧ (cntI (fitS sa sb la lb).1 = la ∨ cntI (fitS sa sb la lb).1 = lb) ∧ ∀ i : Nat, (i : Int) < cntI (fitS sa sb la lb).1 → ix (fitS sa sb la lb).2.1 i < la ∧ ix (fitS sa sb la lb).2.2.1 i < lb := by
 unfold fitS at *
 by_cases hs : sa = sb
 ·rw [if_pos hs] at he ⊢
  subst hs
  exact ⟨va, .inl ha.symm, fun i hi => ⟨by have hi : (i : Int) < cntI sa := hi; show i < la; omega, by have hi : (i : Int) < cntI sa := hi; show i < lb; omega⟩⟩
 ·rw [if_neg hs] at he ⊢
  by_cases h1 : la = 1 ∧ (lb ≠ 1 ∨ sa.length < sb.length)
  ·rw [if_pos h1] at he ⊢
   exact ⟨vb, .inr hb.symm, fun i hi => ⟨by show 0 < la; omega, by have hi : (i : Int) < cntI sb := hi; show i < lb; omega⟩⟩
  ·rw [if_neg h1] at he ⊢
   by_cases h2 : lb = 1
   ·rw [if_pos h2] at he ⊢
    exact ⟨va, .inl ha.symm, fun i hi => ⟨by have hi : (i : Int) < cntI sa := hi; show i < la; omega, by show 0 < lb; omega⟩⟩
   ·rw [if_neg h2] at he
    split at he
    ·exact absurd he (by decide)
    ·exact absurd he (by decide)
def denX : Option (Rat × Nat) → Nat
 | none => 0
 | some p => p.2
theorem denX_ok {o : Option (Rat × Nat)} (h : okX o) : dn (denX o) = (valX o).den := by
 cases o with
 | none => rfl
 | some p => exact h
theorem rowX_le (o : Option (Rat × Nat)) : AVle (.agg (rowX o)) (RA (valX o).num (denX o)) := by
 cases o with
 | none => exact RZ_le
 | some p => exact .refl _
theorem getD_val (na : List (Option (Rat × Nat))) (k : Nat) : (na.map valX).getD k 0 = valX (na.getD k none) := by
 rw [List.getD_eq_getElem?_getD, List.getD_eq_getElem?_getD, List.getElem?_map]
 cases na[k]? <;> rfl
theorem RatY_ok (sh : List Int) (ch : Bool) (tx : List Int) (na : List (Option (Rat × Nat))) (k : Nat) (hk : k < na.length) (hb : na.length ≤ 1000) : AC Tryz.prog 15 [AA sh ch tx na true, .val (.int .i64 (k : Int))] (.pure (RA ((na.map valX).getD k 0).num (denX (na.getD k none)))) := by
 have h := RatI_ok sh ch tx na true k hk (by omega)
 rw [getD_val, List.getD_eq_getElem?_getD, List.getElem?_eq_getElem hk]
 exact AC.le_res h (rowX_le _) (RA_noid _ _)
theorem RuneX_ok (sh : List Int) (ch : Bool) (tx : List Int) (ns : List (Option (Rat × Nat))) (k : Nat) (hk : k < tx.length) (hb : tx.length ≤ 1000) : AC Tryz.prog 134 [AA sh ch tx ns true, .val (.int .i64 (k : Int))] (.pure (.val (.int .i32 (tx.getD k 0)))) := by
 have h := RuneI_ok sh ch tx ns true k hk (by omega)
 rw [List.getD_eq_getElem?_getD, List.getElem?_eq_getElem hk]
 exact h
theorem atX_ok (i : Nat) (one : Bool) : AC Tryz.prog 113 [.val (.int .i64 (i : Int)), .val (.bool one)] (.pure (.val (.int .i64 ((ix one i : Nat) : Int)))) := by
 have h := at_ok (i : Int) one
 cases one
 ·exact h
 ·exact h
def elemF (c : Int) (ca cb : Bool) (ta tb : List Int) (qa qb : List Rat) (one two : Bool) (most : Int) (i : Nat) : Rat × Int :=
 if ca = true ∨ cb = true then
  if c = 61 ∨ c = 8800 then (if (ca && cb && decide (ta.getD (ix one i) 0 = tb.getD (ix two i) 0)) = decide (c = 61) then 1 else 0, 0) else (0, 22)
 else twoQ c (qa.getD (ix one i) 0) (qb.getD (ix two i) 0) most
end
section
theorem rep_drop {α : Type} (x : α) (n i : Nat) (h : i < n) : (List.replicate (n - i) x) = x :: List.replicate (n - (i + 1)) x := by
 rw [show n - i = (n - (i + 1)) + 1 by omega, List.replicate_succ]
theorem rowsM_noid (l : List (Option (Rat × Nat))) (k : Nat) : ∀ r ∈ l.map rowX ++ List.replicate k (rowX none), ∀ x ∈ r, NoId x := by
 intro r hr
 rcases List.mem_append.1 hr with h | h
 ·exact rowsX_noid l r h
 ·refine rowsX_noid [none] r ?_
  rw [(List.mem_replicate.1 h).2]
  exact List.mem_singleton.2 rfl
theorem Two_loop (c : Int) (hc : isTwo c) (sa sb : List Int) (ta tb : List Int) (na nb : List (Option (Rat × Nat))) (qa qb : List Rat) (na1 : na.map valX = qa) (nb1 : nb.map valX = qb) (most : Int) (s : List Int) (one two : Bool) (n : Nat) (hn : n ≤ 1000) (hv : vS s) (hcn : cntI s = (n : Int))
  (hfit : AC Tryz.prog 110 [AA sa false ta na true, AA sb false tb nb true] (.pure (FV (s, one, two, 0))))
  (hix : ∀ i : Nat, i < n → ix one i < qa.length ∧ ix two i < qb.length) (la : qa.length ≤ 1000) (lb : qb.length ≤ 1000)
  (D : Nat → Nat) (f : Nat → Rat × Int)
  (hD : ∀ i < n, dn (D i) = (f i).1.den ∧ AC Tryz.prog 112 [.val (.int .i32 c), RA (qa.getD (ix one i) 0).num (denX (na.getD (ix one i) none)), RA (qb.getD (ix two i) 0).num (denX (nb.getD (ix two i) none)), .val (.int .i64 most)] (.pure (.tup [RA (f i).1.num (D i), .val (.int .i64 (f i).2)])))
  (E : Int) (hE : E = firstE ((List.range n).map f)) :
  AC Tryz.prog 66 [.val (.int .i32 c), AA sa false ta na true, AA sb false tb nb true, .val (.int .i64 most)] (.pure (if E = 0 then .tup [AA s false [] ((List.range n).map fun i => some ((f i).1, D i)) true, .val (.int .i64 0)] else .tup [AZ, .val (.int .i64 E)])) := by
 have hH := Has_ok c
 rw [decide_eq_true hc] at hH
 have hIa := IsChar_ok sa false ta na true
 have hIb := IsChar_ok sb false tb nb true
 have hC := Count_ok s (by have := hv.1; omega)
 rw [CNT_good hv, hcn] at hC
 obtain ⟨Y, hY⟩ : ∃ Y : List (Option (Rat × Nat)), Y = (List.range n).map fun i => some ((f i).1, D i) := ⟨_, rfl⟩
 rw [← hY]
 have l1 : Y.length = n := by rw [hY, List.length_map, List.length_range]
 have hYi : ∀ i (h : i < n), Y[i]'(by omega) = some ((f i).1, D i) := fun i h => by subst hY; rw [List.getElem_map, List.getElem_range]
 have hN := Nums_ok s Y hv (by rw [l1]; exact hcn) (by omega)
 obtain ⟨res, hres⟩ : ∃ res : AV, res = if E = 0 then .tup [AA s false [] Y true, .val (.int .i64 0)] else .tup [AZ, .val (.int .i64 E)] := ⟨_, rfl⟩
 rw [← hres]
 have hnr : NoId res := by
  rw [hres]; split
  ·exact .tup _ (noid2 (AA_noid _ _ _ _ _) (.val _))
  ·exact AZt_noid _
 refine AC.of_body TTok Tryz.func66 rfl (enter_of Tryz.func66 (by kernel_rfl) (by kernel_rfl)) (noidF (.val _) (AA_noid _ _ _ _ _) (AA_noid _ _ _ _ _) (.val _)) hnr (nbq rfl) ?_
 have lrep : ∀ k, (List.replicate k (rowX none)).length = k := fun k => List.length_replicate
 have hA1 : ∀ i < n, AC Tryz.prog 15 [AA sa false ta na true, .val (.int .i64 ((ix one i : Nat) : Int))] (.pure (RA (qa.getD (ix one i) 0).num (denX (na.getD (ix one i) none)))) := fun i hi => by
  have h := RatY_ok sa false ta na (ix one i) (by have := (hix i hi).1; rw [← na1, List.length_map] at this; exact this) (by rw [← na1, List.length_map] at la; exact la)
  rw [na1] at h; exact h
 have hB1 : ∀ i < n, AC Tryz.prog 15 [AA sb false tb nb true, .val (.int .i64 ((ix two i : Nat) : Int))] (.pure (RA (qb.getD (ix two i) 0).num (denX (nb.getD (ix two i) none)))) := fun i hi => by
  have h := RatY_ok sb false tb nb (ix two i) (by have := (hix i hi).2; rw [← nb1, List.length_map] at this; exact this) (by rw [← nb1, List.length_map] at lb; exact lb)
  rw [nb1] at h; exact h
 unfold FV AA at hfit
 unfold AA at hIa hIb hA1 hB1 ⊢
 have start : ∀ (P : Prop), P → P := fun _ h => h
 by_cases hn0 : n = 0
 ·subst hn0
  have hY0 : Y = [] := List.length_eq_zero_iff.1 l1
  have hE0 : E = 0 := by rw [hE]; rfl
  rw [if_pos hE0] at hres
  subst hres
  rw [hY0] at hN ⊢
  conv => whnf
  refine ⟨_, hH, ?_⟩
  conv => whnf
  refine ⟨_, hfit, ?_⟩
  conv => whnf
  refine ⟨_, hC, ?_⟩
  conv => whnf
  refine ⟨by decide, ?_⟩
  conv => whnf
  refine SW.loopM TTok (fun _ : Unit => [(8, .lp 16 0), (10, .sl 1 (irows .i64 s) false), (16, .own 312 0 0), (65, .val (.int .i64 0)), (66, .val (.int .i64 0))]) (fun _ => [(16, .cells 5 [[.sl 0 [] true, .val (.bool false), .sl 0 [] true, .sl 0 [] true, .val (.bool false)]]), (312, .cells 3 [])]) 352 101 rfl (fun _ => 0) (fun _ => True) () [] trivial
   ⟨q2r, q2r, q2r, q2r, q2r, trivial⟩ ⟨q3r, q3r, trivial⟩ rfl ?_
  intro _ _
  unfold AA at hN ⊢
  conv => whnf
  refine ⟨Nat.le_refl _, _, hN, ?_⟩
  repeat ((conv => whnf); (first | refine ⟨_, ‹_›, ?_⟩ | refine ⟨nbq rfl, _, ‹_›, ?_⟩ | refine ⟨by kernel_rfl, ?_⟩ | exact rfl | exact ⟨nbq rfl, rfl⟩ | refine ⟨by decide, ?_⟩))
 ·conv => whnf
  refine ⟨_, hH, ?_⟩
  conv => whnf
  refine ⟨_, hfit, ?_⟩
  conv => whnf
  refine ⟨_, hC, ?_⟩
  conv => whnf
  first | refine oTq (by omega) ?_ | refine oFq (by omega) ?_ | refine oEq (by omega) ?_ | refine oNq (by omega) ?_
  conv => whnf
  refine ⟨_, hIa, ?_⟩
  conv => whnf
  refine ⟨_, hIb, ?_⟩
  conv => whnf
  refine ⟨by show 0 ≤ (n:Int) ∧ (n:Int) ≤ n ∧ (n:Int) * 56 ≤ 140737488355328; omega, ?_⟩
  conv => whnf
  refine SW.loopM TTok (fun i : Nat => [(0, .val (.int .i32 c)), (3, .val (.int .i64 most)), (5, .lp 0 0), (6, .lp 8 0), (8, .lp 16 0), (10, .sl 1 (irows .i64 s) false), (11, .val (.bool one)), (12, .val (.bool two)), (16, .own 312 0 n), (65, .val (.int .i64 (n : Int))), (66, .val (.int .i64 (i : Int)))])
   (fun i => [(0, .cells 5 [[.sl 1 (irows .i64 sa) false, .val (.bool false), .sl 1 (irows .i32 ta) false, .sl 3 (na.map rowX) false, .val (.bool true)]]), (8, .cells 5 [[.sl 1 (irows .i64 sb) false, .val (.bool false), .sl 1 (irows .i32 tb) false, .sl 3 (nb.map rowX) false, .val (.bool true)]]), (16, .cells 5 [[.sl 0 [] true, .val (.bool false), .sl 0 [] true, .sl 0 [] true, .val (.bool false)]]), (312, .cells 3 ((Y.take i).map rowX ++ List.replicate (n - i) (rowX none)))]) 352 101 rfl (fun i => n - i) (fun i => i ≤ n ∧ ∀ j < i, (f j).2 = 0) 0 [] ⟨Nat.zero_le _, fun x hx => absurd hx (Nat.not_lt_zero _)⟩
   ⟨q2r, q2r, q2r, q2r, q2r, q2r, q2r, q2r, q2r, q2r, q2r, trivial⟩ ⟨q3r, q3r, q3r, ⟨rfl, .inl ⟨rfl, rowsM_noid _ _⟩⟩, trivial⟩ rfl ?_
  intro i hJ
  have hi : i ≤ n := hJ.1
  have hz : ∀ j < i, (f j).2 = 0 := hJ.2
  clear hJ
  have ltk : ((Y.take i).map rowX).length = i := by rw [List.length_map, List.length_take]; omega
  have lr : ((Y.take i).map rowX ++ List.replicate (n - i) (rowX none)).length = n := by
   rw [List.length_append, ltk, List.length_replicate]; omega
  by_cases hlt : i < n
  ·have eI : IntKind.i64.wrap ((i : Int) + 1) = ((i + 1 : Nat) : Int) := by rw [IntWalk.i64_in _ (by omega)]; omega
   have hA := hA1 i hlt
   have hB := hB1 i hlt
   have hta := atX_ok i one
   have htb := atX_ok i two
   obtain ⟨d1, d2⟩ := hD i hlt
   have hset : ((Y.take i).map rowX ++ List.replicate (n - i) (rowX none)).set i (rowX (some ((f i).1, D i))) = (Y.take (i + 1)).map rowX ++ List.replicate (n - (i + 1)) (rowX none) := by
    rw [rep_drop _ n i hlt, take_snoc (show i < Y.length by omega), hYi i hlt]
    have := set_mid ((Y.take i).map rowX) (rowX none) (rowX (some ((f i).1, D i))) (List.replicate (n - (i + 1)) (rowX none))
    rw [ltk] at this
    rw [this]; simp
   by_cases he : (f i).2 = 0
   ·rw [he] at d2
    unfold RA at d2 hA hB
    conv => whnf
    first | refine oTq (by omega) ?_ | refine oFq (by omega) ?_ | refine oEq (by omega) ?_ | refine oNq (by omega) ?_
    conv => whnf
    refine ⟨_, hta, ?_⟩
    conv => whnf
    refine ⟨_, hA, ?_⟩
    conv => whnf
    refine ⟨_, htb, ?_⟩
    conv => whnf
    refine ⟨_, hB, ?_⟩
    conv => whnf
    refine ⟨_, d2, ?_⟩
    conv => whnf
    refine ⟨by kernel_rfl, ?_⟩
    conv => whnf
    refine ⟨by omega, ?_⟩
    conv => whnf
    refine ⟨by rw [Nat.zero_add, Int.toNat_natCast]; omega, ?_⟩
    conv => whnf
    refine ⟨i + 1, [], (by show n - (i + 1) < n - i; omega), ⟨hlt, fun j hj => ?_⟩, ⟨q2r, q2r, q2r, q2r, q2r, q2r, q2r, q2r, q2r, q2r, ⟨valI eI, rfl⟩, trivial⟩, ⟨q3r, q3r, q3r, ⟨rfl, .inl ⟨celE ?_, rowsM_noid _ _⟩⟩, trivial⟩, rfl⟩
    ·by_cases hji : j = i
     ·rw [hji]; exact he
     ·exact hz j (by omega)
    ·rw [← hset]
     show List.set _ (0 + (i : Int).toNat) _ = _
     rw [Nat.zero_add, Int.toNat_natCast]
     rfl
   ·have hEe : E = (f i).2 := by
     rw [hE]
     have := firstE_at (l := (List.range n).map f) (i := i) (by rw [List.length_map, List.length_range]; exact hlt) (fun x hx => by
      rw [← List.map_take] at hx
      obtain ⟨q, hq, rfl⟩ := List.mem_map.1 hx
      refine hz q ?_
      rw [List.take_range] at hq
      have := List.mem_range.1 hq
      omega) (by rw [List.getElem_map, List.getElem_range]; exact he)
     rw [this, List.getElem_map, List.getElem_range]
    rw [if_neg (by rw [hEe]; exact he), hEe] at hres
    subst hres
    unfold RA at d2 hA hB
    conv => whnf
    first | refine oTq (by omega) ?_ | refine oFq (by omega) ?_ | refine oEq (by omega) ?_ | refine oNq (by omega) ?_
    conv => whnf
    refine ⟨_, hta, ?_⟩
    conv => whnf
    refine ⟨_, hA, ?_⟩
    conv => whnf
    refine ⟨_, htb, ?_⟩
    conv => whnf
    refine ⟨_, hB, ?_⟩
    conv => whnf
    refine ⟨_, d2, ?_⟩
    conv => whnf
    refine ⟨by kernel_rfl, ?_⟩
    conv => whnf
    first | refine nTq (by omega) ?_ | refine nFq (by omega) ?_
    repeat ((conv => whnf); (first | refine ⟨_, ‹_›, ?_⟩ | refine ⟨nbq rfl, _, ‹_›, ?_⟩ | refine ⟨by kernel_rfl, ?_⟩ | exact rfl | exact ⟨nbq rfl, rfl⟩ | refine ⟨by decide, ?_⟩))
  ·have hie : i = n := by omega
   have hE0 : E = 0 := by
    rw [hE]
    refine firstE_zero (fun x hx => ?_)
    obtain ⟨q, hq, rfl⟩ := List.mem_map.1 hx
    exact hz q (by have := List.mem_range.1 hq; omega)
   rw [if_pos hE0] at hres
   subst hres
   have e1 : (Y.take i).map rowX ++ List.replicate (n - i) (rowX none) = Y.map rowX := by
    rw [hie, List.take_of_length_le (by omega), Nat.sub_self, List.replicate_zero, List.append_nil]
   rw [e1]
   have key : List.take n (List.drop 0 (Y.map rowX)) = Y.map rowX := by rw [List.drop_zero, List.take_of_length_le (by rw [List.length_map]; omega)]
   conv => whnf
   first | refine oTq (by omega) ?_ | refine oFq (by omega) ?_ | refine oEq (by omega) ?_ | refine oNq (by omega) ?_
   conv => whnf
   rw [key]
   have lY : (Y.map rowX).length = n := by rw [List.length_map]; exact l1
   unfold AA at *
   refine ⟨by show 0 + n ≤ (Y.map rowX).length; omega, _, hN, ?_⟩
   repeat ((conv => whnf); (first | refine ⟨_, ‹_›, ?_⟩ | refine ⟨nbq rfl, _, ‹_›, ?_⟩ | refine ⟨by kernel_rfl, ?_⟩ | exact rfl | exact ⟨nbq rfl, rfl⟩ | refine ⟨by decide, ?_⟩))
end
section
def smE (ca cb : Bool) (ta tb : List Int) (one two : Bool) (i : Nat) : Bool := ca && cb && decide (ta.getD (ix one i) 0 = tb.getD (ix two i) 0)
def chE (c : Int) (ca cb : Bool) (ta tb : List Int) (one two : Bool) (i : Nat) : Option (Rat × Nat) := if smE ca cb ta tb one two i = decide (c = 61) then some (1, 1) else none
theorem noid6 {a b c d e f : AV} (h1 : NoId a) (h2 : NoId b) (h3 : NoId c) (h4 : NoId d) (h5 : NoId e) (h6 : NoId f) : ∀ x ∈ [a, b, c, d, e, f], NoId x := by
 intro x hx
 simp only [List.mem_cons, List.not_mem_nil, or_false] at hx
 rcases hx with rfl | rfl | rfl | rfl | rfl | rfl <;> assumption
theorem chars_61 (sa sb : List Int) (ca cb : Bool) (ta tb : List Int) (na nb : List (Option (Rat × Nat))) (s : List Int) (one two : Bool) (n : Nat) (hn : n ≤ 5000) (hv : vS s) (hcn : cntI s = (n : Int))
  (hix : ∀ i : Nat, i < n → (ca = true → ix one i < ta.length) ∧ (cb = true → ix two i < tb.length)) (la : ta.length ≤ 1000) (lb : tb.length ≤ 1000) :
  AC Tryz.prog 111 [.val (.int .i32 61), AA sa ca ta na true, AA sb cb tb nb true, .sl 1 (irows .i64 s) false, .val (.bool one), .val (.bool two)] (.pure (.tup [AA s false [] ((List.range n).map (chE 61 ca cb ta tb one two)) true, .val (.int .i64 0)])) := by
 have hIa := IsChar_ok sa ca ta na true
 have hIb := IsChar_ok sb cb tb nb true
 have hC := Count_ok s (by have := hv.1; omega)
 rw [CNT_good hv, hcn] at hC
 obtain ⟨Y, hY⟩ : ∃ Y : List (Option (Rat × Nat)), Y = (List.range n).map (chE 61 ca cb ta tb one two) := ⟨_, rfl⟩
 rw [← hY]
 have l1 : Y.length = n := by rw [hY, List.length_map, List.length_range]
 have hYi : ∀ i (h : i < n), Y[i]'(by omega) = chE 61 ca cb ta tb one two i := fun i h => by subst hY; rw [List.getElem_map, List.getElem_range]
 have hN := Nums_ok s Y hv (by rw [l1]; exact hcn) (by omega)
 have hF := RatFrom_ok 1 (by decide)
 refine AC.of_body TTok Tryz.func111 rfl (enter_of Tryz.func111 (by kernel_rfl) (by kernel_rfl)) (noid6 (.val _) (AA_noid _ _ _ _ _) (AA_noid _ _ _ _ _) (noid_sl _ _ _) (.val _) (.val _)) (.tup _ (noid2 (AA_noid _ _ _ _ _) (.val _))) (nbq rfl) ?_
 have hA1 : ∀ i < n, ca = true → AC Tryz.prog 134 [AA sa ca ta na true, .val (.int .i64 ((ix one i : Nat) : Int))] (.pure (.val (.int .i32 (ta.getD (ix one i) 0)))) := fun i hi h => RuneX_ok sa ca ta na _ ((hix i hi).1 h) la
 have hB1 : ∀ i < n, cb = true → AC Tryz.prog 134 [AA sb cb tb nb true, .val (.int .i64 ((ix two i : Nat) : Int))] (.pure (.val (.int .i32 (tb.getD (ix two i) 0)))) := fun i hi h => RuneX_ok sb cb tb nb _ ((hix i hi).2 h) lb
 have u1 : AA sa ca ta na true = .agg [.sl 1 (irows .i64 sa) false, .val (.bool ca), .sl 1 (irows .i32 ta) false, .sl 3 (na.map rowX) false, .val (.bool true)] := rfl
 have u2 : AA sb cb tb nb true = .agg [.sl 1 (irows .i64 sb) false, .val (.bool cb), .sl 1 (irows .i32 tb) false, .sl 3 (nb.map rowX) false, .val (.bool true)] := rfl
 rw [u1] at hIa hA1 ⊢
 rw [u2] at hIb hB1 ⊢
 unfold RA at hF
 conv => whnf
 refine ⟨_, hC, ?_⟩
 conv => whnf
 refine ⟨by show 0 ≤ (n:Int) ∧ (n:Int) ≤ n ∧ (n:Int) * 56 ≤ 140737488355328; omega, ?_⟩
 conv => whnf
 refine SW.loopM TTok (fun i : Nat => [(0, .val (.int .i32 61)), (3, .sl 1 (irows .i64 s) false), (4, .val (.bool one)), (5, .val (.bool two)), (7, .lp 0 0), (8, .lp 8 0), (12, .lp 16 0), (16, .own 144 0 n), (36, .val (.int .i64 (n : Int))), (37, .val (.int .i64 (i : Int)))])
   (fun i => [(0, .cells 5 [[.sl 1 (irows .i64 sa) false, .val (.bool ca), .sl 1 (irows .i32 ta) false, .sl 3 (na.map rowX) false, .val (.bool true)]]), (8, .cells 5 [[.sl 1 (irows .i64 sb) false, .val (.bool cb), .sl 1 (irows .i32 tb) false, .sl 3 (nb.map rowX) false, .val (.bool true)]]), (16, .cells 5 [[.sl 0 [] true, .val (.bool false), .sl 0 [] true, .sl 0 [] true, .val (.bool false)]]), (144, .cells 3 ((Y.take i).map rowX ++ List.replicate (n - i) (rowX none)))]) 184 75 rfl (fun i => n - i) (fun i => i ≤ n) 0 [] (Nat.zero_le _)
   ⟨q2r, q2r, q2r, q2r, q2r, q2r, q2r, q2r, q2r, q2r, trivial⟩ ⟨q3r, q3r, q3r, ⟨rfl, .inl ⟨rfl, rowsM_noid _ _⟩⟩, trivial⟩ rfl ?_
 intro i hJ
 have hi : i ≤ n := hJ
 clear hJ
 have ltk : ((Y.take i).map rowX).length = i := by rw [List.length_map, List.length_take]; omega
 have lr : ((Y.take i).map rowX ++ List.replicate (n - i) (rowX none)).length = n := by
  rw [List.length_append, ltk, List.length_replicate]; omega
 by_cases hlt : i < n
 ·have eI : IntKind.i64.wrap ((i : Int) + 1) = ((i + 1 : Nat) : Int) := by rw [IntWalk.i64_in _ (by omega)]; omega
  have hA := hA1 i hlt
  have hB := hB1 i hlt
  have hta := atX_ok i one
  have htb := atX_ok i two
  have hset : ∀ o, chE 61 ca cb ta tb one two i = o → ((Y.take i).map rowX ++ List.replicate (n - i) (rowX none)).set i (rowX o) = (Y.take (i + 1)).map rowX ++ List.replicate (n - (i + 1)) (rowX none) := fun o ho => by
   rw [rep_drop _ n i hlt, take_snoc (show i < Y.length by omega), hYi i hlt, ho]
   have := set_mid ((Y.take i).map rowX) (rowX none) (rowX o) (List.replicate (n - (i + 1)) (rowX none))
   rw [ltk] at this
   rw [this]; simp
  have hstay : chE 61 ca cb ta tb one two i = none → (Y.take i).map rowX ++ List.replicate (n - i) (rowX none) = (Y.take (i + 1)).map rowX ++ List.replicate (n - (i + 1)) (rowX none) := fun ho => by
   rw [rep_drop _ n i hlt, take_snoc (show i < Y.length by omega), hYi i hlt, ho]; simp
  obtain ⟨x, hx⟩ : ∃ x, x = ta.getD (ix one i) 0 := ⟨_, rfl⟩
  obtain ⟨y, hy⟩ : ∃ y, y = tb.getD (ix two i) 0 := ⟨_, rfl⟩
  rw [← hx] at hA
  rw [← hy] at hB
  cases ca
  ·cases cb
   ·conv => whnf
    first | refine oTq (by omega) ?_ | refine oFq (by omega) ?_ | refine oEq (by omega) ?_ | refine oNq (by omega) ?_
    conv => whnf
    refine ⟨_, hIa, ?_⟩
    conv => whnf
    refine ⟨by kernel_rfl, ?_⟩
    conv => whnf
    refine ⟨i + 1, [], (by show n - (i + 1) < n - i; omega), hlt, ⟨q2r, q2r, q2r, q2r, q2r, q2r, q2r, q2r, q2r, ⟨valI eI, rfl⟩, trivial⟩, ⟨q3r, q3r, q3r, ⟨rfl, .inl ⟨celE ?_, rowsM_noid _ _⟩⟩, trivial⟩, rfl⟩
    exact hstay (by unfold chE smE; simp)
   ·conv => whnf
    first | refine oTq (by omega) ?_ | refine oFq (by omega) ?_ | refine oEq (by omega) ?_ | refine oNq (by omega) ?_
    conv => whnf
    refine ⟨_, hIa, ?_⟩
    conv => whnf
    refine ⟨by kernel_rfl, ?_⟩
    conv => whnf
    refine ⟨i + 1, [], (by show n - (i + 1) < n - i; omega), hlt, ⟨q2r, q2r, q2r, q2r, q2r, q2r, q2r, q2r, q2r, ⟨valI eI, rfl⟩, trivial⟩, ⟨q3r, q3r, q3r, ⟨rfl, .inl ⟨celE ?_, rowsM_noid _ _⟩⟩, trivial⟩, rfl⟩
    exact hstay (by unfold chE smE; simp)
  ·cases cb
   ·conv => whnf
    first | refine oTq (by omega) ?_ | refine oFq (by omega) ?_ | refine oEq (by omega) ?_ | refine oNq (by omega) ?_
    conv => whnf
    refine ⟨_, hIa, ?_⟩
    conv => whnf
    refine ⟨_, hIb, ?_⟩
    conv => whnf
    refine ⟨by kernel_rfl, ?_⟩
    conv => whnf
    refine ⟨i + 1, [], (by show n - (i + 1) < n - i; omega), hlt, ⟨q2r, q2r, q2r, q2r, q2r, q2r, q2r, q2r, q2r, ⟨valI eI, rfl⟩, trivial⟩, ⟨q3r, q3r, q3r, ⟨rfl, .inl ⟨celE ?_, rowsM_noid _ _⟩⟩, trivial⟩, rfl⟩
    exact hstay (by unfold chE smE; simp)
   ·replace hA := hA rfl
    replace hB := hB rfl
    by_cases hxy : x = y
    ·have hs : ((x == y) == true) = true := by simp [hxy]
     conv => whnf
     first | refine oTq (by omega) ?_ | refine oFq (by omega) ?_ | refine oEq (by omega) ?_ | refine oNq (by omega) ?_
     conv => whnf
     refine ⟨_, hIa, ?_⟩
     conv => whnf
     refine ⟨_, hIb, ?_⟩
     conv => whnf
     refine ⟨_, hta, ?_⟩
     conv => whnf
     refine ⟨_, hA, ?_⟩
     conv => whnf
     refine ⟨_, htb, ?_⟩
     conv => whnf
     refine ⟨_, hB, ?_⟩
     conv => whnf
     refine ⟨by kernel_rfl, ?_⟩
     conv => whnf
     refine cTq (hs) ?_
     conv => whnf
     refine ⟨_, hF, ?_⟩
     conv => whnf
     refine ⟨by omega, ?_⟩
     conv => whnf
     refine ⟨by rw [Nat.zero_add, Int.toNat_natCast]; omega, ?_⟩
     conv => whnf
     refine ⟨i + 1, [], (by show n - (i + 1) < n - i; omega), hlt, ⟨q2r, q2r, q2r, q2r, q2r, q2r, q2r, q2r, q2r, ⟨valI eI, rfl⟩, trivial⟩, ⟨q3r, q3r, q3r, ⟨rfl, .inl ⟨celE ?_, rowsM_noid _ _⟩⟩, trivial⟩, rfl⟩
     rw [← hset (some (1, 1)) (by unfold chE smE; rw [← hx, ← hy]; simp [hxy])]
     show List.set _ (0 + (i : Int).toNat) _ = _
     rw [Nat.zero_add, Int.toNat_natCast]
     rfl
    ·have hs : ((x == y) == true) = false := by simp [hxy]
     conv => whnf
     first | refine oTq (by omega) ?_ | refine oFq (by omega) ?_ | refine oEq (by omega) ?_ | refine oNq (by omega) ?_
     conv => whnf
     refine ⟨_, hIa, ?_⟩
     conv => whnf
     refine ⟨_, hIb, ?_⟩
     conv => whnf
     refine ⟨_, hta, ?_⟩
     conv => whnf
     refine ⟨_, hA, ?_⟩
     conv => whnf
     refine ⟨_, htb, ?_⟩
     conv => whnf
     refine ⟨_, hB, ?_⟩
     conv => whnf
     refine ⟨by kernel_rfl, ?_⟩
     conv => whnf
     refine cFq (hs) ?_
     conv => whnf
     refine ⟨i + 1, [], (by show n - (i + 1) < n - i; omega), hlt, ⟨q2r, q2r, q2r, q2r, q2r, q2r, q2r, q2r, q2r, ⟨valI eI, rfl⟩, trivial⟩, ⟨q3r, q3r, q3r, ⟨rfl, .inl ⟨celE ?_, rowsM_noid _ _⟩⟩, trivial⟩, rfl⟩
     exact hstay (by unfold chE smE; rw [← hx, ← hy]; simp [hxy])
 ·have hie : i = n := by omega
  have e1 : (Y.take i).map rowX ++ List.replicate (n - i) (rowX none) = Y.map rowX := by
   rw [hie, List.take_of_length_le (by omega), Nat.sub_self, List.replicate_zero, List.append_nil]
  rw [e1]
  have key : List.take n (List.drop 0 (Y.map rowX)) = Y.map rowX := by rw [List.drop_zero, List.take_of_length_le (by rw [List.length_map]; omega)]
  conv => whnf
  first | refine oTq (by omega) ?_ | refine oFq (by omega) ?_ | refine oEq (by omega) ?_ | refine oNq (by omega) ?_
  conv => whnf
  rw [key]
  have lY : (Y.map rowX).length = n := by rw [List.length_map]; exact l1
  unfold AA at *
  refine ⟨by show 0 + n ≤ (Y.map rowX).length; omega, _, hN, ?_⟩
  repeat ((conv => whnf); (first | refine ⟨_, ‹_›, ?_⟩ | refine ⟨nbq rfl, _, ‹_›, ?_⟩ | refine ⟨by kernel_rfl, ?_⟩ | exact rfl | exact ⟨nbq rfl, rfl⟩ | refine ⟨by decide, ?_⟩))
theorem chars_8800 (sa sb : List Int) (ca cb : Bool) (ta tb : List Int) (na nb : List (Option (Rat × Nat))) (s : List Int) (one two : Bool) (n : Nat) (hn : n ≤ 5000) (hv : vS s) (hcn : cntI s = (n : Int))
  (hix : ∀ i : Nat, i < n → (ca = true → ix one i < ta.length) ∧ (cb = true → ix two i < tb.length)) (la : ta.length ≤ 1000) (lb : tb.length ≤ 1000) :
  AC Tryz.prog 111 [.val (.int .i32 8800), AA sa ca ta na true, AA sb cb tb nb true, .sl 1 (irows .i64 s) false, .val (.bool one), .val (.bool two)] (.pure (.tup [AA s false [] ((List.range n).map (chE 8800 ca cb ta tb one two)) true, .val (.int .i64 0)])) := by
 have hIa := IsChar_ok sa ca ta na true
 have hIb := IsChar_ok sb cb tb nb true
 have hC := Count_ok s (by have := hv.1; omega)
 rw [CNT_good hv, hcn] at hC
 obtain ⟨Y, hY⟩ : ∃ Y : List (Option (Rat × Nat)), Y = (List.range n).map (chE 8800 ca cb ta tb one two) := ⟨_, rfl⟩
 rw [← hY]
 have l1 : Y.length = n := by rw [hY, List.length_map, List.length_range]
 have hYi : ∀ i (h : i < n), Y[i]'(by omega) = chE 8800 ca cb ta tb one two i := fun i h => by subst hY; rw [List.getElem_map, List.getElem_range]
 have hN := Nums_ok s Y hv (by rw [l1]; exact hcn) (by omega)
 have hF := RatFrom_ok 1 (by decide)
 refine AC.of_body TTok Tryz.func111 rfl (enter_of Tryz.func111 (by kernel_rfl) (by kernel_rfl)) (noid6 (.val _) (AA_noid _ _ _ _ _) (AA_noid _ _ _ _ _) (noid_sl _ _ _) (.val _) (.val _)) (.tup _ (noid2 (AA_noid _ _ _ _ _) (.val _))) (nbq rfl) ?_
 have hA1 : ∀ i < n, ca = true → AC Tryz.prog 134 [AA sa ca ta na true, .val (.int .i64 ((ix one i : Nat) : Int))] (.pure (.val (.int .i32 (ta.getD (ix one i) 0)))) := fun i hi h => RuneX_ok sa ca ta na _ ((hix i hi).1 h) la
 have hB1 : ∀ i < n, cb = true → AC Tryz.prog 134 [AA sb cb tb nb true, .val (.int .i64 ((ix two i : Nat) : Int))] (.pure (.val (.int .i32 (tb.getD (ix two i) 0)))) := fun i hi h => RuneX_ok sb cb tb nb _ ((hix i hi).2 h) lb
 have u1 : AA sa ca ta na true = .agg [.sl 1 (irows .i64 sa) false, .val (.bool ca), .sl 1 (irows .i32 ta) false, .sl 3 (na.map rowX) false, .val (.bool true)] := rfl
 have u2 : AA sb cb tb nb true = .agg [.sl 1 (irows .i64 sb) false, .val (.bool cb), .sl 1 (irows .i32 tb) false, .sl 3 (nb.map rowX) false, .val (.bool true)] := rfl
 rw [u1] at hIa hA1 ⊢
 rw [u2] at hIb hB1 ⊢
 unfold RA at hF
 conv => whnf
 refine ⟨_, hC, ?_⟩
 conv => whnf
 refine ⟨by show 0 ≤ (n:Int) ∧ (n:Int) ≤ n ∧ (n:Int) * 56 ≤ 140737488355328; omega, ?_⟩
 conv => whnf
 refine SW.loopM TTok (fun i : Nat => [(0, .val (.int .i32 8800)), (3, .sl 1 (irows .i64 s) false), (4, .val (.bool one)), (5, .val (.bool two)), (7, .lp 0 0), (8, .lp 8 0), (12, .lp 16 0), (16, .own 144 0 n), (36, .val (.int .i64 (n : Int))), (37, .val (.int .i64 (i : Int)))])
   (fun i => [(0, .cells 5 [[.sl 1 (irows .i64 sa) false, .val (.bool ca), .sl 1 (irows .i32 ta) false, .sl 3 (na.map rowX) false, .val (.bool true)]]), (8, .cells 5 [[.sl 1 (irows .i64 sb) false, .val (.bool cb), .sl 1 (irows .i32 tb) false, .sl 3 (nb.map rowX) false, .val (.bool true)]]), (16, .cells 5 [[.sl 0 [] true, .val (.bool false), .sl 0 [] true, .sl 0 [] true, .val (.bool false)]]), (144, .cells 3 ((Y.take i).map rowX ++ List.replicate (n - i) (rowX none)))]) 184 75 rfl (fun i => n - i) (fun i => i ≤ n) 0 [] (Nat.zero_le _)
   ⟨q2r, q2r, q2r, q2r, q2r, q2r, q2r, q2r, q2r, q2r, trivial⟩ ⟨q3r, q3r, q3r, ⟨rfl, .inl ⟨rfl, rowsM_noid _ _⟩⟩, trivial⟩ rfl ?_
 intro i hJ
 have hi : i ≤ n := hJ
 clear hJ
 have ltk : ((Y.take i).map rowX).length = i := by rw [List.length_map, List.length_take]; omega
 have lr : ((Y.take i).map rowX ++ List.replicate (n - i) (rowX none)).length = n := by
  rw [List.length_append, ltk, List.length_replicate]; omega
 by_cases hlt : i < n
 ·have eI : IntKind.i64.wrap ((i : Int) + 1) = ((i + 1 : Nat) : Int) := by rw [IntWalk.i64_in _ (by omega)]; omega
  have hA := hA1 i hlt
  have hB := hB1 i hlt
  have hta := atX_ok i one
  have htb := atX_ok i two
  have hset : ∀ o, chE 8800 ca cb ta tb one two i = o → ((Y.take i).map rowX ++ List.replicate (n - i) (rowX none)).set i (rowX o) = (Y.take (i + 1)).map rowX ++ List.replicate (n - (i + 1)) (rowX none) := fun o ho => by
   rw [rep_drop _ n i hlt, take_snoc (show i < Y.length by omega), hYi i hlt, ho]
   have := set_mid ((Y.take i).map rowX) (rowX none) (rowX o) (List.replicate (n - (i + 1)) (rowX none))
   rw [ltk] at this
   rw [this]; simp
  have hstay : chE 8800 ca cb ta tb one two i = none → (Y.take i).map rowX ++ List.replicate (n - i) (rowX none) = (Y.take (i + 1)).map rowX ++ List.replicate (n - (i + 1)) (rowX none) := fun ho => by
   rw [rep_drop _ n i hlt, take_snoc (show i < Y.length by omega), hYi i hlt, ho]; simp
  obtain ⟨x, hx⟩ : ∃ x, x = ta.getD (ix one i) 0 := ⟨_, rfl⟩
  obtain ⟨y, hy⟩ : ∃ y, y = tb.getD (ix two i) 0 := ⟨_, rfl⟩
  rw [← hx] at hA
  rw [← hy] at hB
  cases ca
  ·cases cb
   ·conv => whnf
    first | refine oTq (by omega) ?_ | refine oFq (by omega) ?_ | refine oEq (by omega) ?_ | refine oNq (by omega) ?_
    conv => whnf
    refine ⟨_, hIa, ?_⟩
    conv => whnf
    refine ⟨by kernel_rfl, ?_⟩
    conv => whnf
    refine ⟨_, hF, ?_⟩
    conv => whnf
    refine ⟨by omega, ?_⟩
    conv => whnf
    refine ⟨by rw [Nat.zero_add, Int.toNat_natCast]; omega, ?_⟩
    conv => whnf
    refine ⟨i + 1, [], (by show n - (i + 1) < n - i; omega), hlt, ⟨q2r, q2r, q2r, q2r, q2r, q2r, q2r, q2r, q2r, ⟨valI eI, rfl⟩, trivial⟩, ⟨q3r, q3r, q3r, ⟨rfl, .inl ⟨celE ?_, rowsM_noid _ _⟩⟩, trivial⟩, rfl⟩
    rw [← hset (some (1, 1)) (by unfold chE smE; simp)]
    show List.set _ (0 + (i : Int).toNat) _ = _
    rw [Nat.zero_add, Int.toNat_natCast]
    rfl
   ·conv => whnf
    first | refine oTq (by omega) ?_ | refine oFq (by omega) ?_ | refine oEq (by omega) ?_ | refine oNq (by omega) ?_
    conv => whnf
    refine ⟨_, hIa, ?_⟩
    conv => whnf
    refine ⟨by kernel_rfl, ?_⟩
    conv => whnf
    refine ⟨_, hF, ?_⟩
    conv => whnf
    refine ⟨by omega, ?_⟩
    conv => whnf
    refine ⟨by rw [Nat.zero_add, Int.toNat_natCast]; omega, ?_⟩
    conv => whnf
    refine ⟨i + 1, [], (by show n - (i + 1) < n - i; omega), hlt, ⟨q2r, q2r, q2r, q2r, q2r, q2r, q2r, q2r, q2r, ⟨valI eI, rfl⟩, trivial⟩, ⟨q3r, q3r, q3r, ⟨rfl, .inl ⟨celE ?_, rowsM_noid _ _⟩⟩, trivial⟩, rfl⟩
    rw [← hset (some (1, 1)) (by unfold chE smE; simp)]
    show List.set _ (0 + (i : Int).toNat) _ = _
    rw [Nat.zero_add, Int.toNat_natCast]
    rfl
  ·cases cb
   ·conv => whnf
    first | refine oTq (by omega) ?_ | refine oFq (by omega) ?_ | refine oEq (by omega) ?_ | refine oNq (by omega) ?_
    conv => whnf
    refine ⟨_, hIa, ?_⟩
    conv => whnf
    refine ⟨_, hIb, ?_⟩
    conv => whnf
    refine ⟨by kernel_rfl, ?_⟩
    conv => whnf
    refine ⟨_, hF, ?_⟩
    conv => whnf
    refine ⟨by omega, ?_⟩
    conv => whnf
    refine ⟨by rw [Nat.zero_add, Int.toNat_natCast]; omega, ?_⟩
    conv => whnf
    refine ⟨i + 1, [], (by show n - (i + 1) < n - i; omega), hlt, ⟨q2r, q2r, q2r, q2r, q2r, q2r, q2r, q2r, q2r, ⟨valI eI, rfl⟩, trivial⟩, ⟨q3r, q3r, q3r, ⟨rfl, .inl ⟨celE ?_, rowsM_noid _ _⟩⟩, trivial⟩, rfl⟩
    rw [← hset (some (1, 1)) (by unfold chE smE; simp)]
    show List.set _ (0 + (i : Int).toNat) _ = _
    rw [Nat.zero_add, Int.toNat_natCast]
    rfl
   ·replace hA := hA rfl
    replace hB := hB rfl
    by_cases hxy : x = y
    ·have hs : ((x == y) == false) = false := by simp [hxy]
     conv => whnf
     first | refine oTq (by omega) ?_ | refine oFq (by omega) ?_ | refine oEq (by omega) ?_ | refine oNq (by omega) ?_
     conv => whnf
     refine ⟨_, hIa, ?_⟩
     conv => whnf
     refine ⟨_, hIb, ?_⟩
     conv => whnf
     refine ⟨_, hta, ?_⟩
     conv => whnf
     refine ⟨_, hA, ?_⟩
     conv => whnf
     refine ⟨_, htb, ?_⟩
     conv => whnf
     refine ⟨_, hB, ?_⟩
     conv => whnf
     refine ⟨by kernel_rfl, ?_⟩
     conv => whnf
     refine cFq (hs) ?_
     conv => whnf
     refine ⟨i + 1, [], (by show n - (i + 1) < n - i; omega), hlt, ⟨q2r, q2r, q2r, q2r, q2r, q2r, q2r, q2r, q2r, ⟨valI eI, rfl⟩, trivial⟩, ⟨q3r, q3r, q3r, ⟨rfl, .inl ⟨celE ?_, rowsM_noid _ _⟩⟩, trivial⟩, rfl⟩
     exact hstay (by unfold chE smE; rw [← hx, ← hy]; simp [hxy])
    ·have hs : ((x == y) == false) = true := by simp [hxy]
     conv => whnf
     first | refine oTq (by omega) ?_ | refine oFq (by omega) ?_ | refine oEq (by omega) ?_ | refine oNq (by omega) ?_
     conv => whnf
     refine ⟨_, hIa, ?_⟩
     conv => whnf
     refine ⟨_, hIb, ?_⟩
     conv => whnf
     refine ⟨_, hta, ?_⟩
     conv => whnf
     refine ⟨_, hA, ?_⟩
     conv => whnf
     refine ⟨_, htb, ?_⟩
     conv => whnf
     refine ⟨_, hB, ?_⟩
     conv => whnf
     refine ⟨by kernel_rfl, ?_⟩
     conv => whnf
     refine cTq (hs) ?_
     conv => whnf
     refine ⟨_, hF, ?_⟩
     conv => whnf
     refine ⟨by omega, ?_⟩
     conv => whnf
     refine ⟨by rw [Nat.zero_add, Int.toNat_natCast]; omega, ?_⟩
     conv => whnf
     refine ⟨i + 1, [], (by show n - (i + 1) < n - i; omega), hlt, ⟨q2r, q2r, q2r, q2r, q2r, q2r, q2r, q2r, q2r, ⟨valI eI, rfl⟩, trivial⟩, ⟨q3r, q3r, q3r, ⟨rfl, .inl ⟨celE ?_, rowsM_noid _ _⟩⟩, trivial⟩, rfl⟩
     rw [← hset (some (1, 1)) (by unfold chE smE; rw [← hx, ← hy]; simp [hxy])]
     show List.set _ (0 + (i : Int).toNat) _ = _
     rw [Nat.zero_add, Int.toNat_natCast]
     rfl
 ·have hie : i = n := by omega
  have e1 : (Y.take i).map rowX ++ List.replicate (n - i) (rowX none) = Y.map rowX := by
   rw [hie, List.take_of_length_le (by omega), Nat.sub_self, List.replicate_zero, List.append_nil]
  rw [e1]
  have key : List.take n (List.drop 0 (Y.map rowX)) = Y.map rowX := by rw [List.drop_zero, List.take_of_length_le (by rw [List.length_map]; omega)]
  conv => whnf
  first | refine oTq (by omega) ?_ | refine oFq (by omega) ?_ | refine oEq (by omega) ?_ | refine oNq (by omega) ?_
  conv => whnf
  rw [key]
  have lY : (Y.map rowX).length = n := by rw [List.length_map]; exact l1
  unfold AA at *
  refine ⟨by show 0 + n ≤ (Y.map rowX).length; omega, _, hN, ?_⟩
  repeat ((conv => whnf); (first | refine ⟨_, ‹_›, ?_⟩ | refine ⟨nbq rfl, _, ‹_›, ?_⟩ | refine ⟨by kernel_rfl, ?_⟩ | exact rfl | exact ⟨nbq rfl, rfl⟩ | refine ⟨by decide, ?_⟩))
end
section
section
variable (c : Int) (sa sb : List Int) (ca cb : Bool) (ta tb : List Int)
theorem Two_not (h : ¬ isTwo c) (na nb : List (Option (Rat × Nat))) (most : Int) : AC Tryz.prog 66 [.val (.int .i32 c), AA sa ca ta na true, AA sb cb tb nb true, .val (.int .i64 most)] (.pure (.tup [AZ, .val (.int .i64 20)])) := by
 have hH := Has_ok c
 rw [decide_eq_false h] at hH
 refine AC.of_body TTok Tryz.func66 rfl (enter_of Tryz.func66 (by kernel_rfl) (by kernel_rfl)) (noidF (.val _) (AA_noid _ _ _ _ _) (AA_noid _ _ _ _ _) (.val _)) (AZt_noid _) (nbq rfl) ?_
 unfold AA
 repeat ((conv => whnf); (first | refine ⟨_, ‹_›, ?_⟩ | refine ⟨nbq rfl, _, ‹_›, ?_⟩ | refine ⟨by kernel_rfl, ?_⟩ | exact rfl | exact ⟨nbq rfl, rfl⟩ | refine ⟨by decide, ?_⟩))
theorem Two_unfit (h : isTwo c) (na nb : List (Option (Rat × Nat))) (most : Int) (x : List Int × Bool × Bool × Int) (he : x.2.2.2 ≠ 0) (hF : AC Tryz.prog 110 [AA sa ca ta na true, AA sb cb tb nb true] (.pure (FV x))) :
  AC Tryz.prog 66 [.val (.int .i32 c), AA sa ca ta na true, AA sb cb tb nb true, .val (.int .i64 most)] (.pure (.tup [AZ, .val (.int .i64 x.2.2.2)])) := by
 have hH := Has_ok c
 rw [decide_eq_true h] at hH
 obtain ⟨s, one, two, e⟩ := x
 refine AC.of_body TTok Tryz.func66 rfl (enter_of Tryz.func66 (by kernel_rfl) (by kernel_rfl)) (noidF (.val _) (AA_noid _ _ _ _ _) (AA_noid _ _ _ _ _) (.val _)) (AZt_noid _) (nbq rfl) ?_
 unfold FV at hF
 have he : e ≠ 0 := he
 have hF : AC Tryz.prog 110 [AA sa ca ta na true, AA sb cb tb nb true] (.pure (.tup [.sl 1 (irows .i64 s) false, .val (.bool one), .val (.bool two), .val (.int .i64 e)])) := hF
 unfold AA at *
 conv => whnf
 refine ⟨_, hH, ?_⟩
 conv => whnf
 refine ⟨_, hF, ?_⟩
 conv => whnf
 first | refine nTq (by omega) ?_ | refine nFq (by omega) ?_
 repeat ((conv => whnf); (first | refine ⟨_, ‹_›, ?_⟩ | refine ⟨nbq rfl, _, ‹_›, ?_⟩ | refine ⟨by kernel_rfl, ?_⟩ | exact rfl | exact ⟨nbq rfl, rfl⟩ | refine ⟨by decide, ?_⟩))
theorem Two_nil (h : isTwo c) (na nb : List (Option (Rat × Nat))) (most : Int) (s : List Int) (one two : Bool) (hv : vS s) (hcn : cntI s = 0) (hF : AC Tryz.prog 110 [AA sa ca ta na true, AA sb cb tb nb true] (.pure (FV (s, one, two, 0)))) :
  AC Tryz.prog 66 [.val (.int .i32 c), AA sa ca ta na true, AA sb cb tb nb true, .val (.int .i64 most)] (.pure (.tup [AA s false [] [] true, .val (.int .i64 0)])) := by
 have hH := Has_ok c
 rw [decide_eq_true h] at hH
 have hC := Count_ok s (by have := hv.1; omega)
 rw [CNT_good hv, hcn] at hC
 have hN := Nums_ok s [] hv (by rw [hcn]; rfl) (by decide)
 refine AC.of_body TTok Tryz.func66 rfl (enter_of Tryz.func66 (by kernel_rfl) (by kernel_rfl)) (noidF (.val _) (AA_noid _ _ _ _ _) (AA_noid _ _ _ _ _) (.val _)) (.tup _ (noid2 (AA_noid _ _ _ _ _) (.val _))) (nbq rfl) ?_
 unfold FV AA at hF
 unfold AA
 conv => whnf
 refine ⟨_, hH, ?_⟩
 conv => whnf
 refine ⟨_, hF, ?_⟩
 conv => whnf
 refine ⟨_, hC, ?_⟩
 conv => whnf
 refine ⟨by decide, ?_⟩
 conv => whnf
 refine SW.loopM TTok (fun _ : Unit => [(8, .lp 16 0), (10, .sl 1 (irows .i64 s) false), (16, .own 312 0 0), (65, .val (.int .i64 0)), (66, .val (.int .i64 0))]) (fun _ => [(16, .cells 5 [[.sl 0 [] true, .val (.bool false), .sl 0 [] true, .sl 0 [] true, .val (.bool false)]]), (312, .cells 3 [])]) 352 101 rfl (fun _ => 0) (fun _ => True) () [] trivial
  ⟨q2r, q2r, q2r, q2r, q2r, trivial⟩ ⟨q3r, q3r, trivial⟩ rfl ?_
 intro _ _
 unfold AA at hN
 conv => whnf
 refine ⟨Nat.le_refl _, _, hN, ?_⟩
 repeat ((conv => whnf); (first | refine ⟨_, ‹_›, ?_⟩ | refine ⟨nbq rfl, _, ‹_›, ?_⟩ | refine ⟨by kernel_rfl, ?_⟩ | exact rfl | exact ⟨nbq rfl, rfl⟩ | refine ⟨by decide, ?_⟩))
theorem Two_chars (h : isTwo c) (hch : ca = true ∨ cb = true) (na nb : List (Option (Rat × Nat))) (most : Int) (s : List Int) (one two : Bool) (n : Nat) (hn : 0 < n) (hv : vS s) (hcn : cntI s = (n : Int)) (hF : AC Tryz.prog 110 [AA sa ca ta na true, AA sb cb tb nb true] (.pure (FV (s, one, two, 0))))
  (e : Int) (k1 k3 k4 : Nat) (l1 l3 l4 : List (List AV)) (z1 z3 z4 : Bool) (v2 v5 : Value) (hnr : NoId (.tup [.agg [.sl k1 l1 z1, .val v2, .sl k3 l3 z3, .sl k4 l4 z4, .val v5], .val (.int .i64 e)]))
  (hX : AC Tryz.prog 111 [.val (.int .i32 c), AA sa ca ta na true, AA sb cb tb nb true, .sl 1 (irows .i64 s) false, .val (.bool one), .val (.bool two)] (.pure (.tup [.agg [.sl k1 l1 z1, .val v2, .sl k3 l3 z3, .sl k4 l4 z4, .val v5], .val (.int .i64 e)]))) :
  AC Tryz.prog 66 [.val (.int .i32 c), AA sa ca ta na true, AA sb cb tb nb true, .val (.int .i64 most)] (.pure (.tup [.agg [.sl k1 l1 z1, .val v2, .sl k3 l3 z3, .sl k4 l4 z4, .val v5], .val (.int .i64 e)])) := by
 have hH := Has_ok c
 rw [decide_eq_true h] at hH
 have hC := Count_ok s (by have := hv.1; omega)
 rw [CNT_good hv, hcn] at hC
 have hIa := IsChar_ok sa ca ta na true
 have hIb := IsChar_ok sb cb tb nb true
 refine AC.of_body TTok Tryz.func66 rfl (enter_of Tryz.func66 (by kernel_rfl) (by kernel_rfl)) (noidF (.val _) (AA_noid _ _ _ _ _) (AA_noid _ _ _ _ _) (.val _)) hnr (nbq rfl) ?_
 unfold FV AA at hF
 unfold AA at *
 cases ca
 ·have hcb : cb = true := hch.resolve_left Bool.false_ne_true
  subst hcb
  conv => whnf
  refine ⟨_, hH, ?_⟩
  conv => whnf
  refine ⟨_, hF, ?_⟩
  conv => whnf
  refine ⟨_, hC, ?_⟩
  conv => whnf
  first | refine oTq (by omega) ?_ | refine oFq (by omega) ?_ | refine oEq (by omega) ?_ | refine oNq (by omega) ?_
  conv => whnf
  refine ⟨_, hIa, ?_⟩
  conv => whnf
  refine ⟨_, hIb, ?_⟩
  conv => whnf
  refine ⟨_, hX, ?_⟩
  repeat ((conv => whnf); (first | refine ⟨_, ‹_›, ?_⟩ | refine ⟨nbq rfl, _, ‹_›, ?_⟩ | refine ⟨by kernel_rfl, ?_⟩ | exact rfl | exact ⟨nbq rfl, rfl⟩ | refine ⟨by decide, ?_⟩))
 ·conv => whnf
  refine ⟨_, hH, ?_⟩
  conv => whnf
  refine ⟨_, hF, ?_⟩
  conv => whnf
  refine ⟨_, hC, ?_⟩
  conv => whnf
  first | refine oTq (by omega) ?_ | refine oFq (by omega) ?_ | refine oEq (by omega) ?_ | refine oNq (by omega) ?_
  conv => whnf
  refine ⟨_, hIa, ?_⟩
  conv => whnf
  refine ⟨_, hX, ?_⟩
  repeat ((conv => whnf); (first | refine ⟨_, ‹_›, ?_⟩ | refine ⟨nbq rfl, _, ‹_›, ?_⟩ | refine ⟨by kernel_rfl, ?_⟩ | exact rfl | exact ⟨nbq rfl, rfl⟩ | refine ⟨by decide, ?_⟩))
theorem chars_not (h1 : c ≠ 61) (h2 : c ≠ 8800) (na nb : List (Option (Rat × Nat))) (s : List Int) (one two : Bool) :
  AC Tryz.prog 111 [.val (.int .i32 c), AA sa ca ta na true, AA sb cb tb nb true, .sl 1 (irows .i64 s) false, .val (.bool one), .val (.bool two)] (.pure (.tup [AZ, .val (.int .i64 22)])) := by
 refine AC.of_body TTok Tryz.func111 rfl (enter_of Tryz.func111 (by kernel_rfl) (by kernel_rfl)) (noid6 (.val _) (AA_noid _ _ _ _ _) (AA_noid _ _ _ _ _) (noid_sl _ _ _) (.val _) (.val _)) (AZt_noid _) (nbq rfl) ?_
 unfold AA
 conv => whnf
 first | refine nTq (by omega) ?_ | refine nFq (by omega) ?_
 conv => whnf
 first | refine nTq (by omega) ?_ | refine nFq (by omega) ?_
 repeat ((conv => whnf); (first | refine ⟨_, ‹_›, ?_⟩ | refine ⟨nbq rfl, _, ‹_›, ?_⟩ | refine ⟨by kernel_rfl, ?_⟩ | exact rfl | exact ⟨nbq rfl, rfl⟩ | refine ⟨by decide, ?_⟩))
end
end
section
def twoE (c : Int) (sa sb : List Int) (ca cb : Bool) (ta tb : List Int) (qa qb : List Rat) (most : Int) : Int :=
 if isTwo c then (if (fitS sa sb (ta.length + qa.length) (tb.length + qb.length)).2.2.2 ≠ 0 then (fitS sa sb (ta.length + qa.length) (tb.length + qb.length)).2.2.2
  else firstE ((List.range (cntI (fitS sa sb (ta.length + qa.length) (tb.length + qb.length)).1).toNat).map (elemF c ca cb ta tb qa qb (fitS sa sb (ta.length + qa.length) (tb.length + qb.length)).2.1 (fitS sa sb (ta.length + qa.length) (tb.length + qb.length)).2.2.1 most))) else 20
def twoV (c : Int) (sa sb : List Int) (ca cb : Bool) (ta tb : List Int) (qa qb : List Rat) (most : Int) : List Rat :=
 (List.range (cntI (fitS sa sb (ta.length + qa.length) (tb.length + qb.length)).1).toNat).map fun i => (elemF c ca cb ta tb qa qb (fitS sa sb (ta.length + qa.length) (tb.length + qb.length)).2.1 (fitS sa sb (ta.length + qa.length) (tb.length + qb.length)).2.2.1 most i).1
theorem chE_val (c : Int) (hc : c = 61 ∨ c = 8800) (ca cb : Bool) (hch : ca = true ∨ cb = true) (ta tb : List Int) (qa qb : List Rat) (one two : Bool) (most : Int) (i : Nat) :
  valX (chE c ca cb ta tb one two i) = (elemF c ca cb ta tb qa qb one two most i).1 ∧ okX (chE c ca cb ta tb one two i) := by
 unfold chE elemF smE
 rw [if_pos hch, if_pos hc]
 by_cases h : (ca && cb && decide (ta.getD (ix one i) 0 = tb.getD (ix two i) 0)) = decide (c = 61)
 ·rw [if_pos h, if_pos h]
  exact q2r
 ·rw [if_neg h, if_neg h]
  exact ⟨rfl, trivial⟩
theorem chars_ok (c : Int) (hc : c = 61 ∨ c = 8800) (sa sb : List Int) (ca cb : Bool) (ta tb : List Int) (na nb : List (Option (Rat × Nat))) (s : List Int) (one two : Bool) (n : Nat) (hn : n ≤ 5000) (hv : vS s) (hcn : cntI s = (n : Int))
  (hix : ∀ i : Nat, i < n → (ca = true → ix one i < ta.length) ∧ (cb = true → ix two i < tb.length)) (la : ta.length ≤ 1000) (lb : tb.length ≤ 1000) :
  AC Tryz.prog 111 [.val (.int .i32 c), AA sa ca ta na true, AA sb cb tb nb true, .sl 1 (irows .i64 s) false, .val (.bool one), .val (.bool two)] (.pure (.tup [AA s false [] ((List.range n).map (chE c ca cb ta tb one two)) true, .val (.int .i64 0)])) := by
 rcases hc with rfl | rfl
 ·exact chars_61 sa sb ca cb ta tb na nb s one two n hn hv hcn hix la lb
 ·exact chars_8800 sa sb ca cb ta tb na nb s one two n hn hv hcn hix la lb
theorem getD_okX {na : List (Option (Rat × Nat))} (h : ∀ o ∈ na, okX o) (k : Nat) : okX (na.getD k none) := by
 rw [List.getD_eq_getElem?_getD]
 cases hk : na[k]? with
 | none => trivial
 | some o => exact h o (List.mem_of_getElem? hk)
theorem PTwoN_ok (c : Int) (sa sb : List Int) (ca cb : Bool) (ta tb : List Int) (na nb : List (Option (Rat × Nat))) (oa : ∀ o ∈ na, okX o) (ob : ∀ o ∈ nb, okX o) (qa qb : List Rat) (na1 : na.map valX = qa) (nb1 : nb.map valX = qb) (most : Int) (hm : most ≤ 200) (hva : vS sa) (hvb : vS sb) (hka : kinds sa ca ta.length qa.length) (hkb : kinds sb cb tb.length qb.length)
  (h1 : ta.length ≤ 500) (h2 : tb.length ≤ 500) (h3 : qa.length ≤ 500) (h4 : qb.length ≤ 500) (hQa : ∀ q ∈ qa, Sz q 20) (hQb : ∀ q ∈ qb, Sz q 20) :
  ∃ l : List (Option (Rat × Nat)), (twoE c sa sb ca cb ta tb qa qb most = 0 → l.map valX = twoV c sa sb ca cb ta tb qa qb most) ∧ (∀ o ∈ l, okX o) ∧ l.length ≤ 5000 ∧
   AC Tryz.prog 66 [.val (.int .i32 c), AA sa ca ta na true, AA sb cb tb nb true, .val (.int .i64 most)] (.pure (resA (fitS sa sb (ta.length + qa.length) (tb.length + qb.length)).1 (twoE c sa sb ca cb ta tb qa qb most) l)) := by
 have la : na.length = qa.length := by rw [← na1, List.length_map]
 have lb : nb.length = qb.length := by rw [← nb1, List.length_map]
 have hF := Fit_ok sa sb ca cb ta tb na nb (by have := hva.1; omega) (by have := hvb.1; omega) (by omega) (by omega) (by omega) (by omega)
 rw [la, lb] at hF
 obtain ⟨ka1, ka2⟩ := kinds_len hka
 obtain ⟨kb1, kb2⟩ := kinds_len hkb
 have hI := fit_idx ka1 kb1 hva hvb
 unfold twoE twoV
 generalize hx : fitS sa sb (ta.length + qa.length) (tb.length + qb.length) = x at hF hI ⊢
 by_cases hc : isTwo c
 ·rw [if_pos hc]
  by_cases he : x.2.2.2 = 0
  ·obtain ⟨v1, v2, v3⟩ := hI he
   obtain ⟨s, one, two, e⟩ := x
   have he : e = 0 := he
   subst he
   have v1 : vS s := v1
   have v2 : cntI s = ((ta.length + qa.length : Nat) : Int) ∨ cntI s = ((tb.length + qb.length : Nat) : Int) := v2
   have v3 : ∀ i : Nat, (i : Int) < cntI s → ix one i < ta.length + qa.length ∧ ix two i < tb.length + qb.length := v3
   obtain ⟨n, hn⟩ : ∃ n : Nat, cntI s = (n : Int) := by rcases v2 with h | h <;> exact ⟨_, h⟩
   have hn5 : n ≤ 1000 := by omega
   rw [if_neg (fun h => h rfl)]
   show ∃ l : List (Option (Rat × Nat)), (firstE ((List.range (cntI s).toNat).map (elemF c ca cb ta tb qa qb one two most)) = 0 → l.map valX = (List.range (cntI s).toNat).map fun i => (elemF c ca cb ta tb qa qb one two most i).1) ∧ (∀ o ∈ l, okX o) ∧ l.length ≤ 5000 ∧
    AC Tryz.prog 66 _ (.pure (resA s (firstE ((List.range (cntI s).toNat).map (elemF c ca cb ta tb qa qb one two most))) l))
   rw [hn, Int.toNat_natCast]
   rw [hn] at v3
   by_cases hn0 : n = 0
   ·subst hn0
    refine ⟨[], fun _ => rfl, fun o ho => (nomatch ho), Nat.zero_le _, ?_⟩
    show AC Tryz.prog 66 _ (.pure (resA s 0 []))
    unfold resA
    rw [if_pos rfl]
    exact Two_nil c sa sb ca cb ta tb hc _ _ most s one two v1 hn hF
   ·by_cases hch : ca = true ∨ cb = true
    ·by_cases hcc : c = 61 ∨ c = 8800
     ·have hz : firstE ((List.range n).map (elemF c ca cb ta tb qa qb one two most)) = 0 := firstE_zero (fun y hy => by
       obtain ⟨i, _, rfl⟩ := List.mem_map.1 hy
       unfold elemF
       rw [if_pos hch, if_pos hcc])
      refine ⟨(List.range n).map (chE c ca cb ta tb one two), fun _ => ?_, fun o ho => ?_, by rw [List.length_map, List.length_range]; omega, ?_⟩
      ·rw [List.map_map]
       exact List.map_congr_left (fun i _ => (chE_val c hcc ca cb hch ta tb qa qb one two most i).1)
      ·obtain ⟨i, _, rfl⟩ := List.mem_map.1 ho
       exact (chE_val c hcc ca cb hch ta tb qa qb one two most i).2
      ·rw [hz]
       unfold resA
       rw [if_pos rfl]
       have hX := chars_ok c hcc sa sb ca cb ta tb na nb s one two n (by omega) v1 hn (fun i hi => ⟨fun h => by
        have := (v3 i (by omega)).1
        rw [h, if_pos rfl] at ka2
        omega, fun h => by
        have := (v3 i (by omega)).2
        rw [h, if_pos rfl] at kb2
        omega⟩) (by omega) (by omega)
       unfold AA at hX ⊢
       exact Two_chars c sa sb ca cb ta tb hc hch _ _ most s one two n (by omega) v1 hn hF 0 1 1 3 _ _ _ _ _ _ _ _ (.tup _ (noid2 (AA_noid _ _ _ _ _) (.val _))) hX
     ·have hz : firstE ((List.range n).map (elemF c ca cb ta tb qa qb one two most)) = 22 := by
       have he22 : ∀ i, (elemF c ca cb ta tb qa qb one two most i).2 = 22 := fun i => by
        unfold elemF
        rw [if_pos hch, if_neg hcc]
       have := firstE_at (l := (List.range n).map (elemF c ca cb ta tb qa qb one two most)) (i := 0) (by rw [List.length_map, List.length_range]; omega) (fun y hy => nomatch hy) (by rw [List.getElem_map, he22]; decide)
       rw [this, List.getElem_map, he22]
      refine ⟨[], fun h => absurd (hz.symm.trans h) (by decide), fun o ho => (nomatch ho), Nat.zero_le _, ?_⟩
      rw [hz]
      have hX := chars_not c sa sb ca cb ta tb (fun h => hcc (.inl h)) (fun h => hcc (.inr h)) na nb s one two
      exact resA_err s _ (by decide) (Two_chars c sa sb ca cb ta tb hc hch _ _ most s one two n (by omega) v1 hn hF 22 0 0 0 _ _ _ _ _ _ _ _ (AZt_noid _) hX)
    ·have hca : ca = false := by cases ca with | false => rfl | true => exact absurd (.inl rfl) hch
     have hcb : cb = false := by cases cb with | false => rfl | true => exact absurd (.inr rfl) hch
     subst hca hcb
     have ka2 : qa.length = ta.length + qa.length := ka2
     have kb2 : qb.length = tb.length + qb.length := kb2
     have hix : ∀ i : Nat, i < n → ix one i < qa.length ∧ ix two i < qb.length := fun i hi => by
      have := v3 i (by omega)
      omega
     have hel : ∀ i, elemF c false false ta tb qa qb one two most i = twoQ c (qa.getD (ix one i) 0) (qb.getD (ix two i) 0) most := fun i => by
      unfold elemF
      rw [if_neg hch]
     obtain ⟨D, hD⟩ := pick_all (l := List.range n) (p := fun i d => dn d = (elemF c false false ta tb qa qb one two most i).1.den ∧ AC Tryz.prog 112 [.val (.int .i32 c), RA (qa.getD (ix one i) 0).num (denX (na.getD (ix one i) none)), RA (qb.getD (ix two i) 0).num (denX (nb.getD (ix two i) none)), .val (.int .i64 most)] (.pure (.tup [RA (elemF c false false ta tb qa qb one two most i).1.num d, .val (.int .i64 (elemF c false false ta tb qa qb one two most i).2)]))) (fun i hi => by
      have hi := List.mem_range.1 hi
      obtain ⟨i1, i2⟩ := hix i hi
      rw [hel]
      refine Two_ok c _ _ _ _ most (by rw [← na1, getD_val]; exact denX_ok (getD_okX oa _)) (by rw [← nb1, getD_val]; exact denX_ok (getD_okX ob _)) hm ?_ ?_
      ·rw [List.getD_eq_getElem?_getD, List.getElem?_eq_getElem i1]
       exact hQa _ (List.getElem_mem i1)
      ·rw [List.getD_eq_getElem?_getD, List.getElem?_eq_getElem i2]
       exact hQb _ (List.getElem_mem i2))
     have hL := Two_loop c hc sa sb ta tb na nb qa qb na1 nb1 most s one two n hn5 v1 hn hF hix (by omega) (by omega) D (elemF c false false ta tb qa qb one two most) (fun i hi => hD i (List.mem_range.2 hi)) _ rfl
     refine ⟨(List.range n).map fun i => some ((elemF c false false ta tb qa qb one two most i).1, D i), fun _ => by rw [List.map_map]; rfl, fun o ho => ?_, by rw [List.length_map, List.length_range]; omega, ?_⟩
     ·obtain ⟨i, hi, rfl⟩ := List.mem_map.1 ho
      exact (hD i hi).1
     ·unfold resA
      by_cases hE : firstE ((List.range n).map (elemF c false false ta tb qa qb one two most)) = 0
      ·rw [if_pos hE] at hL ⊢
       exact hL
      ·rw [if_neg hE] at hL ⊢
       exact AC.le_res hL (.tup2 AZ_le (.refl _)) (.tup _ (noid2 (AA_noid _ _ _ _ _) (.val _)))
  ·rw [if_pos he]
   refine ⟨[], fun h => absurd h he, fun o ho => (nomatch ho), Nat.zero_le _, ?_⟩
   exact resA_err _ _ he (Two_unfit c sa sb ca cb ta tb hc _ _ most x he hF)
 ·rw [if_neg hc]
  exact ⟨[], fun h => absurd h (by decide), fun o ho => (nomatch ho), Nat.zero_le _, resA_err _ _ (by decide) (Two_not c sa sb ca cb ta tb hc _ _ most)⟩
theorem map_valX_of (qs : List Rat) : (qs.map ofX).map valX = qs := by rw [List.map_map]; exact List.map_id qs
theorem ofX_ok (qs : List Rat) : ∀ o ∈ qs.map ofX, okX o := fun o ho => by
 obtain ⟨q, _, rfl⟩ := List.mem_map.1 ho
 exact dn_den q
end
section
def PE (ch : Bool) (x : Int) (q : Rat) : AV := if ch then PA [] true [x] [] else PA [] false [] [q]
theorem PE_noid (ch : Bool) (x : Int) (q : Rat) : NoId (PE ch x q) := by
 unfold PE; split <;> exact PA_noid _ _ _ _
theorem PE_le1 (x : Int) (q : Rat) : AVle (.agg [.sl 0 [] true, .val (.bool true), .sl 1 (irows .i32 [x]) false, .sl 0 [] true]) (PE true x q) := le_agg4 (le_nil 1) (.refl _) (.refl _) (le_nil 3)
theorem PE_le2 (q : Rat) (x : Int) : AVle (.agg [.sl 0 [] true, .val (.bool false), .sl 0 [] true, .sl 3 [rowN q] false]) (PE false x q) := le_agg4 (le_nil 1) (.refl _) (le_nil 1) (.refl _)
theorem element_ok (sh : List Int) (ch : Bool) (tx : List Int) (qs : List Rat) (i : Nat) (one : Bool) (hi : (if ch then tx.length else qs.length) ≤ 1000) (h : if ch then ix one i < tx.length else ix one i < qs.length) :
  AC Tryz.prog 119 [PA sh ch tx qs, .val (.int .i64 (i : Int)), .val (.bool one)] (.pure (PE ch (tx.getD (ix one i) 0) (qs.getD (ix one i) 0))) := by
 cases ch
 ·have h : ix one i < qs.length := h
  have hi : qs.length ≤ 1000 := hi
  obtain ⟨q, hq⟩ : ∃ q, q = qs.getD (ix one i) 0 := ⟨_, rfl⟩
  have hg : (qs.map rowN)[ix one i]? = some [.val (.bool (decide (q.num < 0))), .val (.string (decS q.num.natAbs)), .val (.string (decS q.den))] := by
   rw [hq, List.getD_eq_getElem?_getD, List.getElem?_eq_getElem h, List.getElem?_map, List.getElem?_eq_getElem h]; rfl
  rw [← hq]
  have l1 : (qs.map rowN).length = qs.length := List.length_map _
  refine AC.le_res ?_ (PE_le2 q _) (PE_noid _ _ _)
  refine AC.of_body TTok Tryz.func119 rfl (enter_of Tryz.func119 (by kernel_rfl) (by kernel_rfl)) (noid3 (PA_noid _ _ _ _) (.val _) (.val _)) (.agg _ (noidF (.sl _ _ _ (fun r hr => nomatch hr)) (.val _) (.sl _ _ _ (fun r hr => nomatch hr)) (slN_noid [q]))) (nbq rfl) ?_
  unfold PA
  cases one
  ·have hg : (qs.map rowN)[i]? = _ := hg
   have h : i < qs.length := h
   conv => whnf
   refine ⟨_, ⟨by omega, hg⟩, ?_⟩
   repeat ((conv => whnf); (first | refine ⟨_, ‹_›, ?_⟩ | refine ⟨nbq rfl, _, ‹_›, ?_⟩ | refine ⟨by kernel_rfl, ?_⟩ | exact rfl | exact ⟨nbq rfl, rfl⟩ | refine ⟨by decide, ?_⟩))
  ·have hg : (qs.map rowN)[0]? = _ := hg
   have h : 0 < qs.length := h
   conv => whnf
   refine ⟨_, ⟨by omega, hg⟩, ?_⟩
   repeat ((conv => whnf); (first | refine ⟨_, ‹_›, ?_⟩ | refine ⟨nbq rfl, _, ‹_›, ?_⟩ | refine ⟨by kernel_rfl, ?_⟩ | exact rfl | exact ⟨nbq rfl, rfl⟩ | refine ⟨by decide, ?_⟩))
 ·have h : ix one i < tx.length := h
  have hi : tx.length ≤ 1000 := hi
  obtain ⟨q, hq⟩ : ∃ q, q = tx.getD (ix one i) 0 := ⟨_, rfl⟩
  have hg : (irows .i32 tx)[ix one i]? = some [.val (.int .i32 q)] := irows_get .i32 tx (by
   rw [hq, List.getD_eq_getElem?_getD, List.getElem?_eq_getElem h]; rfl)
  rw [← hq]
  have l1 := irows_len .i32 tx
  refine AC.le_res ?_ (PE_le1 q _) (PE_noid _ _ _)
  refine AC.of_body TTok Tryz.func119 rfl (enter_of Tryz.func119 (by kernel_rfl) (by kernel_rfl)) (noid3 (PA_noid _ _ _ _) (.val _) (.val _)) (.agg _ (noidF (.sl _ _ _ (fun r hr => nomatch hr)) (.val _) (noid_sl _ _ _) (.sl _ _ _ (fun r hr => nomatch hr)))) (nbq rfl) ?_
  unfold PA
  cases one
  ·have hg : (irows .i32 tx)[i]? = _ := hg
   have h : i < tx.length := h
   conv => whnf
   refine ⟨_, ⟨by omega, hg⟩, ?_⟩
   repeat ((conv => whnf); (first | refine ⟨_, ‹_›, ?_⟩ | refine ⟨nbq rfl, _, ‹_›, ?_⟩ | refine ⟨by kernel_rfl, ?_⟩ | exact rfl | exact ⟨nbq rfl, rfl⟩ | refine ⟨by decide, ?_⟩))
  ·have hg : (irows .i32 tx)[0]? = _ := hg
   have h : 0 < tx.length := h
   conv => whnf
   refine ⟨_, ⟨by omega, hg⟩, ?_⟩
   repeat ((conv => whnf); (first | refine ⟨_, ‹_›, ?_⟩ | refine ⟨nbq rfl, _, ‹_›, ?_⟩ | refine ⟨by kernel_rfl, ?_⟩ | exact rfl | exact ⟨nbq rfl, rfl⟩ | refine ⟨by decide, ?_⟩))
def pairV (c : Int) (ca cb : Bool) (x y : Int) (p q : Rat) (most : Int) : Rat × Int :=
 if ca = true ∨ cb = true then
  if c = 61 ∨ c = 8800 then (if (ca && cb && decide (x = y)) = decide (c = 61) then 1 else 0, 0) else (0, 22)
 else twoQ c p q most
def pairR (r : Rat × Int) : AV := .tup [RN r.1.num r.1.den, .val (.int .i64 r.2)]
theorem pairR_noid (r : Rat × Int) : NoId (pairR r) := .tup _ (noid2 (RN_noid _ _) (.val _))
section
variable (c : Int) (ca cb : Bool) (x y : Int) (p q : Rat) (most : Int) (hm : most ≤ 200) (lp : Sz p 20) (lq : Sz q 20)
include hm lp lq
theorem pair_ok : AC Tryz.prog 118 [.val (.int .i32 c), PE ca x p, PE cb y q, .val (.int .i64 most)] (.pure (pairR (pairV c ca cb x y p q most))) := by
 have h2 := STwo_ok c p q most hm lp lq
 have hZ := SZero_ok
 have hF := SFrom_ok 1 (by decide)
 have e1 : ∀ x p, PE false x p = .agg [.sl 1 [] false, .val (.bool false), .sl 1 [] false, .sl 3 [[.val (.bool (decide (p.num < 0))), .val (.string (decS p.num.natAbs)), .val (.string (decS p.den))]] false] := fun _ _ => rfl
 have e2 : ∀ x p, PE true x p = .agg [.sl 1 [] false, .val (.bool true), .sl 1 [[.val (.int .i32 x)]] false, .sl 3 [] false] := fun _ _ => rfl
 have nd : ∀ z ∈ [AV.val (.int .i32 c), PE ca x p, PE cb y q, .val (.int .i64 most)], NoId z := noidF (.val _) (PE_noid _ _ _) (PE_noid _ _ _) (.val _)
 unfold pairV
 cases ca
 ·cases cb
  ·rw [if_neg (fun h => by rcases h with h | h <;> exact Bool.false_ne_true h)]
   generalize twoQ c p q most = r at *
   refine AC.of_body TTok Tryz.func118 rfl (enter_of Tryz.func118 (by kernel_rfl) (by kernel_rfl)) nd (pairR_noid _) (nbq rfl) ?_
   unfold pairR
   rw [e1, e1]
   unfold RN at *
   conv => whnf
   refine ⟨_, ⟨by decide, rfl⟩, ?_⟩
   conv => whnf
   refine ⟨_, ⟨by decide, rfl⟩, ?_⟩
   conv => whnf
   refine ⟨_, h2, ?_⟩
   repeat ((conv => whnf); (first | refine ⟨_, ‹_›, ?_⟩ | refine ⟨nbq rfl, _, ‹_›, ?_⟩ | refine ⟨by kernel_rfl, ?_⟩ | exact rfl | exact ⟨nbq rfl, rfl⟩ | refine ⟨by decide, ?_⟩))
  ·rw [if_pos (by decide)]
   by_cases h61 : c = 61
   ·subst h61
    rw [if_pos (by decide)]
    rw [if_neg (by simp)]
    refine AC.of_body TTok Tryz.func118 rfl (enter_of Tryz.func118 (by kernel_rfl) (by kernel_rfl)) nd (pairR_noid _) (nbq rfl) ?_
    unfold pairR
    rw [e1, e2]
    unfold RN at *
    repeat ((conv => whnf); (first | refine ⟨_, ‹_›, ?_⟩ | refine ⟨nbq rfl, _, ‹_›, ?_⟩ | refine ⟨by kernel_rfl, ?_⟩ | exact rfl | exact ⟨nbq rfl, rfl⟩ | refine ⟨by decide, ?_⟩))
   ·by_cases h88 : c = 8800
    ·subst h88
     rw [if_pos (by decide)]
     rw [if_pos (by simp)]
     refine AC.of_body TTok Tryz.func118 rfl (enter_of Tryz.func118 (by kernel_rfl) (by kernel_rfl)) nd (pairR_noid _) (nbq rfl) ?_
     unfold pairR
     rw [e1, e2]
     unfold RN at *
     repeat ((conv => whnf); (first | refine ⟨_, ‹_›, ?_⟩ | refine ⟨nbq rfl, _, ‹_›, ?_⟩ | refine ⟨by kernel_rfl, ?_⟩ | exact rfl | exact ⟨nbq rfl, rfl⟩ | refine ⟨by decide, ?_⟩))
    ·rw [if_neg (fun h => h.elim h61 h88)]
     refine AC.of_body TTok Tryz.func118 rfl (enter_of Tryz.func118 (by kernel_rfl) (by kernel_rfl)) nd (pairR_noid _) (nbq rfl) ?_
     unfold pairR
     rw [e1, e2]
     unfold RN at *
     conv => whnf
     first | refine nTq (by omega) ?_ | refine nFq (by omega) ?_
     conv => whnf
     first | refine nTq (by omega) ?_ | refine nFq (by omega) ?_
     repeat ((conv => whnf); (first | refine ⟨_, ‹_›, ?_⟩ | refine ⟨nbq rfl, _, ‹_›, ?_⟩ | refine ⟨by kernel_rfl, ?_⟩ | exact rfl | exact ⟨nbq rfl, rfl⟩ | refine ⟨by decide, ?_⟩))
 ·cases cb
  ·rw [if_pos (by decide)]
   by_cases h61 : c = 61
   ·subst h61
    rw [if_pos (by decide)]
    rw [if_neg (by simp)]
    refine AC.of_body TTok Tryz.func118 rfl (enter_of Tryz.func118 (by kernel_rfl) (by kernel_rfl)) nd (pairR_noid _) (nbq rfl) ?_
    unfold pairR
    rw [e2, e1]
    unfold RN at *
    repeat ((conv => whnf); (first | refine ⟨_, ‹_›, ?_⟩ | refine ⟨nbq rfl, _, ‹_›, ?_⟩ | refine ⟨by kernel_rfl, ?_⟩ | exact rfl | exact ⟨nbq rfl, rfl⟩ | refine ⟨by decide, ?_⟩))
   ·by_cases h88 : c = 8800
    ·subst h88
     rw [if_pos (by decide)]
     rw [if_pos (by simp)]
     refine AC.of_body TTok Tryz.func118 rfl (enter_of Tryz.func118 (by kernel_rfl) (by kernel_rfl)) nd (pairR_noid _) (nbq rfl) ?_
     unfold pairR
     rw [e2, e1]
     unfold RN at *
     repeat ((conv => whnf); (first | refine ⟨_, ‹_›, ?_⟩ | refine ⟨nbq rfl, _, ‹_›, ?_⟩ | refine ⟨by kernel_rfl, ?_⟩ | exact rfl | exact ⟨nbq rfl, rfl⟩ | refine ⟨by decide, ?_⟩))
    ·rw [if_neg (fun h => h.elim h61 h88)]
     refine AC.of_body TTok Tryz.func118 rfl (enter_of Tryz.func118 (by kernel_rfl) (by kernel_rfl)) nd (pairR_noid _) (nbq rfl) ?_
     unfold pairR
     rw [e2, e1]
     unfold RN at *
     conv => whnf
     first | refine nTq (by omega) ?_ | refine nFq (by omega) ?_
     conv => whnf
     first | refine nTq (by omega) ?_ | refine nFq (by omega) ?_
     repeat ((conv => whnf); (first | refine ⟨_, ‹_›, ?_⟩ | refine ⟨nbq rfl, _, ‹_›, ?_⟩ | refine ⟨by kernel_rfl, ?_⟩ | exact rfl | exact ⟨nbq rfl, rfl⟩ | refine ⟨by decide, ?_⟩))
  ·rw [if_pos (by decide)]
   by_cases h61 : c = 61
   ·subst h61
    rw [if_pos (by decide)]
    by_cases hxy : x = y
    ·rw [if_pos (by simp [hxy])]
     refine AC.of_body TTok Tryz.func118 rfl (enter_of Tryz.func118 (by kernel_rfl) (by kernel_rfl)) nd (pairR_noid _) (nbq rfl) ?_
     unfold pairR
     rw [e2, e2]
     unfold RN at *
     have hs : ((x == y) == true) = true := by simp [hxy]
     conv => whnf
     refine ⟨_, ⟨by decide, rfl⟩, ?_⟩
     conv => whnf
     refine ⟨_, ⟨by decide, rfl⟩, ?_⟩
     conv => whnf
     refine ⟨by kernel_rfl, ?_⟩
     conv => whnf
     refine cTq (hs) ?_
     repeat ((conv => whnf); (first | refine ⟨_, ‹_›, ?_⟩ | refine ⟨nbq rfl, _, ‹_›, ?_⟩ | refine ⟨by kernel_rfl, ?_⟩ | exact rfl | exact ⟨nbq rfl, rfl⟩ | refine ⟨by decide, ?_⟩))
    ·rw [if_neg (by simp [hxy])]
     refine AC.of_body TTok Tryz.func118 rfl (enter_of Tryz.func118 (by kernel_rfl) (by kernel_rfl)) nd (pairR_noid _) (nbq rfl) ?_
     unfold pairR
     rw [e2, e2]
     unfold RN at *
     have hs : ((x == y) == true) = false := by simp [hxy]
     conv => whnf
     refine ⟨_, ⟨by decide, rfl⟩, ?_⟩
     conv => whnf
     refine ⟨_, ⟨by decide, rfl⟩, ?_⟩
     conv => whnf
     refine ⟨by kernel_rfl, ?_⟩
     conv => whnf
     refine cFq (hs) ?_
     repeat ((conv => whnf); (first | refine ⟨_, ‹_›, ?_⟩ | refine ⟨nbq rfl, _, ‹_›, ?_⟩ | refine ⟨by kernel_rfl, ?_⟩ | exact rfl | exact ⟨nbq rfl, rfl⟩ | refine ⟨by decide, ?_⟩))
   ·by_cases h88 : c = 8800
    ·subst h88
     rw [if_pos (by decide)]
     by_cases hxy : x = y
     ·rw [if_neg (by simp [hxy])]
      refine AC.of_body TTok Tryz.func118 rfl (enter_of Tryz.func118 (by kernel_rfl) (by kernel_rfl)) nd (pairR_noid _) (nbq rfl) ?_
      unfold pairR
      rw [e2, e2]
      unfold RN at *
      have hs : ((x == y) == false) = false := by simp [hxy]
      conv => whnf
      refine ⟨_, ⟨by decide, rfl⟩, ?_⟩
      conv => whnf
      refine ⟨_, ⟨by decide, rfl⟩, ?_⟩
      conv => whnf
      refine ⟨by kernel_rfl, ?_⟩
      conv => whnf
      refine cFq (hs) ?_
      repeat ((conv => whnf); (first | refine ⟨_, ‹_›, ?_⟩ | refine ⟨nbq rfl, _, ‹_›, ?_⟩ | refine ⟨by kernel_rfl, ?_⟩ | exact rfl | exact ⟨nbq rfl, rfl⟩ | refine ⟨by decide, ?_⟩))
     ·rw [if_pos (by simp [hxy])]
      refine AC.of_body TTok Tryz.func118 rfl (enter_of Tryz.func118 (by kernel_rfl) (by kernel_rfl)) nd (pairR_noid _) (nbq rfl) ?_
      unfold pairR
      rw [e2, e2]
      unfold RN at *
      have hs : ((x == y) == false) = true := by simp [hxy]
      conv => whnf
      refine ⟨_, ⟨by decide, rfl⟩, ?_⟩
      conv => whnf
      refine ⟨_, ⟨by decide, rfl⟩, ?_⟩
      conv => whnf
      refine ⟨by kernel_rfl, ?_⟩
      conv => whnf
      refine cTq (hs) ?_
      repeat ((conv => whnf); (first | refine ⟨_, ‹_›, ?_⟩ | refine ⟨nbq rfl, _, ‹_›, ?_⟩ | refine ⟨by kernel_rfl, ?_⟩ | exact rfl | exact ⟨nbq rfl, rfl⟩ | refine ⟨by decide, ?_⟩))
    ·rw [if_neg (fun h => h.elim h61 h88)]
     refine AC.of_body TTok Tryz.func118 rfl (enter_of Tryz.func118 (by kernel_rfl) (by kernel_rfl)) nd (pairR_noid _) (nbq rfl) ?_
     unfold pairR
     rw [e2, e2]
     unfold RN at *
     conv => whnf
     first | refine nTq (by omega) ?_ | refine nFq (by omega) ?_
     conv => whnf
     first | refine nTq (by omega) ?_ | refine nFq (by omega) ?_
     repeat ((conv => whnf); (first | refine ⟨_, ‹_›, ?_⟩ | refine ⟨nbq rfl, _, ‹_›, ?_⟩ | refine ⟨by kernel_rfl, ?_⟩ | exact rfl | exact ⟨nbq rfl, rfl⟩ | refine ⟨by decide, ?_⟩))
end
end
section
def PEt (ch : Bool) (x : Int) : List (List AV) := if ch then [[.val (.int .i32 x)]] else []
def PEn (ch : Bool) (q : Rat) : List (List AV) := if ch then [] else [rowN q]
theorem PE_eq (ch : Bool) (x : Int) (q : Rat) : PE ch x q = .agg [.sl 1 [] false, .val (.bool ch), .sl 1 (PEt ch x) false, .sl 3 (PEn ch q) false] := by cases ch <;> rfl
theorem RTwo_loop (c : Int) (hc : isTwo c) (sa sb : List Int) (ca cb : Bool) (ta tb : List Int) (qa qb : List Rat) (most : Int) (hm : most ≤ 200) (s : List Int) (one two : Bool) (n : Nat) (hn : n ≤ 1000) (hv : vS s) (hcn : cntI s = (n : Int))
  (hfit : AC Tryz.prog 117 [PA sa ca ta qa, PA sb cb tb qb] (.pure (FV (s, one, two, 0))))
  (f : Nat → Rat × Int)
  (hEA : ∀ i : Nat, i < n → AC Tryz.prog 119 [PA sa ca ta qa, .val (.int .i64 (i : Int)), .val (.bool one)] (.pure (PE ca (ta.getD (ix one i) 0) (qa.getD (ix one i) 0))))
  (hEB : ∀ i : Nat, i < n → AC Tryz.prog 119 [PA sb cb tb qb, .val (.int .i64 (i : Int)), .val (.bool two)] (.pure (PE cb (tb.getD (ix two i) 0) (qb.getD (ix two i) 0))))
  (hP : ∀ i : Nat, i < n → AC Tryz.prog 118 [.val (.int .i32 c), PE ca (ta.getD (ix one i) 0) (qa.getD (ix one i) 0), PE cb (tb.getD (ix two i) 0) (qb.getD (ix two i) 0), .val (.int .i64 most)] (.pure (pairR (f i))))
  (E : Int) (hE : E = firstE ((List.range n).map f)) :
  AC Tryz.prog 78 [.val (.int .i32 c), PA sa ca ta qa, PA sb cb tb qb, .val (.int .i64 most)] (.pure (if E = 0 then .tup [.agg [.sl 1 (irows .i64 s) false, .val (.bool false), .sl 0 [] true, .sl 3 (((List.range n).map fun i => (f i).1).map rowN) false], .val (.int .i64 0)] else .tup [PZ, .val (.int .i64 E)])) := by
 have hH := SHas_ok c
 rw [decide_eq_true hc] at hH
 have hC := RCount_ok s (by have := hv.1; omega)
 rw [CNT_good hv, hcn] at hC
 obtain ⟨Y, hY⟩ : ∃ Y : List Rat, Y = (List.range n).map fun i => (f i).1 := ⟨_, rfl⟩
 rw [← hY]
 have l1 : Y.length = n := by rw [hY, List.length_map, List.length_range]
 have hYi : ∀ i (h : i < n), Y[i]'(by omega) = (f i).1 := fun i h => by subst hY; rw [List.getElem_map, List.getElem_range]
 obtain ⟨res, hres⟩ : ∃ res : AV, res = if E = 0 then .tup [.agg [.sl 1 (irows .i64 s) false, .val (.bool false), .sl 0 [] true, .sl 3 (Y.map rowN) false], .val (.int .i64 0)] else .tup [PZ, .val (.int .i64 E)] := ⟨_, rfl⟩
 rw [← hres]
 have hnr : NoId res := by
  rw [hres]; split
  ·exact good_noid _ _
  ·exact PZt_noid _
 refine AC.of_body TTok Tryz.func78 rfl (enter_of Tryz.func78 (by kernel_rfl) (by kernel_rfl)) (noidF (.val _) (PA_noid _ _ _ _) (PA_noid _ _ _ _) (.val _)) hnr (nbq rfl) ?_
 unfold FV PA at hfit
 simp only [PE_eq] at hEA hEB hP
 unfold PA at hEA hEB ⊢
 conv => whnf
 refine ⟨_, hH, ?_⟩
 conv => whnf
 refine ⟨_, hfit, ?_⟩
 conv => whnf
 refine ⟨_, hC, ?_⟩
 conv => whnf
 refine SW.nilC 240 3 3 rfl rfl ?_
 refine SW.loopM TTok (fun i : Nat => [(0, .val (.int .i32 c)), (3, .val (.int .i64 most)), (5, .lp 0 0), (6, .lp 8 0), (8, .lp 16 0), (11, .val (.bool one)), (12, .val (.bool two)), (14, .val (.int .i64 (n : Int))), (16, .lp 240 0), (17, .val (.int .i64 (i : Int)))])
  (fun i => [(0, .cells 4 [[.sl 1 (irows .i64 sa) false, .val (.bool ca), .sl 1 (irows .i32 ta) false, .sl 3 (qa.map rowN) false]]), (8, .cells 4 [[.sl 1 (irows .i64 sb) false, .val (.bool cb), .sl 1 (irows .i32 tb) false, .sl 3 (qb.map rowN) false]]), (16, .cells 4 [[.sl 0 [] true, .val (.bool false), .sl 0 [] true, .sl 0 [] true]]), (240, .cells 4 [[.sl 1 (irows .i64 s) false, .val (.bool false), .sl 0 [] true, .own 264 0 i]]), (264, .cells 3 ((Y.take i).map rowN))]) 272 73 rfl (fun i => n - i) (fun i => i ≤ n ∧ ∀ j < i, (f j).2 = 0) 0 [] ⟨Nat.zero_le _, fun x hx => absurd hx (Nat.not_lt_zero _)⟩
  ⟨q2r, q2r, q2r, q2r, q2r, q2r, q2r, q2r, q2r, q2r, trivial⟩ ⟨q3r, q3r, q3r, q3r, ⟨rfl, .inl ⟨rfl, rowsN_noid _⟩⟩, trivial⟩ rfl ?_
 intro i hJ
 have hi : i ≤ n := hJ.1
 have hz : ∀ j < i, (f j).2 = 0 := hJ.2
 clear hJ
 have lr : ((Y.take i).map rowN).length = i := by rw [List.length_map, List.length_take]; omega
 by_cases hlt : i < n
 ·have eI : IntKind.i64.wrap ((i : Int) + 1) = ((i + 1 : Nat) : Int) := by rw [IntWalk.i64_in _ (by omega)]; omega
  have hA := hEA i hlt
  have hB := hEB i hlt
  have d2 := hP i hlt
  unfold pairR at d2
  have hsn : (Y.take i).map rowN ++ [rowN (f i).1] = (Y.take (i + 1)).map rowN := by
   rw [take_snoc (show i < Y.length by omega), List.map_append, hYi i hlt]; rfl
  have htk : List.take i (List.drop 0 ((Y.take i).map rowN)) = (Y.take i).map rowN := by rw [List.drop_zero, List.take_of_length_le (by omega)]
  by_cases he : (f i).2 = 0
  ·rw [he] at d2
   unfold RN at d2
   conv => whnf
   first | refine oTq (by omega) ?_ | refine oFq (by omega) ?_ | refine oEq (by omega) ?_ | refine oNq (by omega) ?_
   conv => whnf
   refine ⟨_, hA, ?_⟩
   conv => whnf
   refine ⟨_, hB, ?_⟩
   conv => whnf
   refine ⟨_, d2, ?_⟩
   conv => whnf
   refine ⟨by kernel_rfl, ?_⟩
   conv => whnf
   refine ⟨⟨by show 0 + i ≤ _; omega, by show (i + 1) * 40 ≤ 140737488355328; omega, nbq rfl⟩, ?_⟩
   conv => whnf
   refine ⟨i + 1, [(264, 480)], (by show n - (i + 1) < n - i; omega), ⟨hlt, fun j hj => ?_⟩, ⟨q2r, q2r, q2r, q2r, q2r, q2r, q2r, q2r, q2r, ⟨valI eI, rfl⟩, trivial⟩, ⟨q3r, q3r, q3r, q3r, ⟨rfl, .inl ⟨celE ?_, rowsN_noid _⟩⟩, trivial⟩, rfl⟩
   ·by_cases hji : j = i
    ·rw [hji]; exact he
    ·exact hz j (by omega)
   ·rw [← hsn]
    show List.take i (List.drop 0 ((Y.take i).map rowN)) ++ [_] = _
    rw [htk]; rfl
  ·have hEe : E = (f i).2 := by
    rw [hE]
    have := firstE_at (l := (List.range n).map f) (i := i) (by rw [List.length_map, List.length_range]; exact hlt) (fun x hx => by
     rw [← List.map_take] at hx
     obtain ⟨q, hq, rfl⟩ := List.mem_map.1 hx
     refine hz q ?_
     rw [List.take_range] at hq
     have := List.mem_range.1 hq
     omega) (by rw [List.getElem_map, List.getElem_range]; exact he)
    rw [this, List.getElem_map, List.getElem_range]
   rw [if_neg (by rw [hEe]; exact he), hEe] at hres
   subst hres
   unfold RN at d2
   conv => whnf
   first | refine oTq (by omega) ?_ | refine oFq (by omega) ?_ | refine oEq (by omega) ?_ | refine oNq (by omega) ?_
   conv => whnf
   refine ⟨_, hA, ?_⟩
   conv => whnf
   refine ⟨_, hB, ?_⟩
   conv => whnf
   refine ⟨_, d2, ?_⟩
   conv => whnf
   refine ⟨by kernel_rfl, ?_⟩
   conv => whnf
   first | refine nTq (by omega) ?_ | refine nFq (by omega) ?_
   repeat ((conv => whnf); (first | refine ⟨_, ‹_›, ?_⟩ | refine ⟨nbq rfl, _, ‹_›, ?_⟩ | refine ⟨by kernel_rfl, ?_⟩ | exact rfl | exact ⟨nbq rfl, rfl⟩ | refine ⟨by decide, ?_⟩))
 ·have hie : i = n := by omega
  have hE0 : E = 0 := by
   rw [hE]
   refine firstE_zero (fun x hx => ?_)
   obtain ⟨q, hq, rfl⟩ := List.mem_map.1 hx
   exact hz q (by have := List.mem_range.1 hq; omega)
  rw [if_pos hE0] at hres
  subst hres
  have e1 : Y.take i = Y := List.take_of_length_le (by omega)
  rw [e1] at lr ⊢
  have key : List.take i (List.drop 0 (Y.map rowN)) = Y.map rowN := by rw [List.drop_zero, List.take_of_length_le (by omega)]
  conv => whnf
  first | refine oTq (by omega) ?_ | refine oFq (by omega) ?_ | refine oEq (by omega) ?_ | refine oNq (by omega) ?_
  conv => whnf
  refine ⟨by show 0 + i ≤ _; omega, ?_⟩
  show AV.tup [AV.agg [_, _, _, AV.sl 3 (List.take i (List.drop 0 (Y.map rowN))) false], _] = _
  rw [key]
  rfl
end
section
theorem RTwo_not (c : Int) (h : ¬ isTwo c) (sa sb : List Int) (ca cb : Bool) (ta tb : List Int) (qa qb : List Rat) (most : Int) : AC Tryz.prog 78 [.val (.int .i32 c), PA sa ca ta qa, PA sb cb tb qb, .val (.int .i64 most)] (.pure (.tup [PZ, .val (.int .i64 20)])) := by
 have hH := SHas_ok c
 rw [decide_eq_false h] at hH
 refine AC.of_body TTok Tryz.func78 rfl (enter_of Tryz.func78 (by kernel_rfl) (by kernel_rfl)) (noidF (.val _) (PA_noid _ _ _ _) (PA_noid _ _ _ _) (.val _)) (PZt_noid _) (nbq rfl) ?_
 unfold PA
 repeat ((conv => whnf); (first | refine ⟨_, ‹_›, ?_⟩ | refine ⟨nbq rfl, _, ‹_›, ?_⟩ | refine ⟨by kernel_rfl, ?_⟩ | exact rfl | exact ⟨nbq rfl, rfl⟩ | refine ⟨by decide, ?_⟩))
theorem RTwo_unfit (c : Int) (h : isTwo c) (sa sb : List Int) (ca cb : Bool) (ta tb : List Int) (qa qb : List Rat) (most : Int) (x : List Int × Bool × Bool × Int) (he : x.2.2.2 ≠ 0) (hF : AC Tryz.prog 117 [PA sa ca ta qa, PA sb cb tb qb] (.pure (FV x))) :
  AC Tryz.prog 78 [.val (.int .i32 c), PA sa ca ta qa, PA sb cb tb qb, .val (.int .i64 most)] (.pure (.tup [PZ, .val (.int .i64 x.2.2.2)])) := by
 have hH := SHas_ok c
 rw [decide_eq_true h] at hH
 obtain ⟨s, one, two, e⟩ := x
 refine AC.of_body TTok Tryz.func78 rfl (enter_of Tryz.func78 (by kernel_rfl) (by kernel_rfl)) (noidF (.val _) (PA_noid _ _ _ _) (PA_noid _ _ _ _) (.val _)) (PZt_noid _) (nbq rfl) ?_
 unfold FV at hF
 have he : e ≠ 0 := he
 have hF : AC Tryz.prog 117 [PA sa ca ta qa, PA sb cb tb qb] (.pure (.tup [.sl 1 (irows .i64 s) false, .val (.bool one), .val (.bool two), .val (.int .i64 e)])) := hF
 unfold PA at *
 conv => whnf
 refine ⟨_, hH, ?_⟩
 conv => whnf
 refine ⟨_, hF, ?_⟩
 conv => whnf
 first | refine nTq (by omega) ?_ | refine nFq (by omega) ?_
 repeat ((conv => whnf); (first | refine ⟨_, ‹_›, ?_⟩ | refine ⟨nbq rfl, _, ‹_›, ?_⟩ | refine ⟨by kernel_rfl, ?_⟩ | exact rfl | exact ⟨nbq rfl, rfl⟩ | refine ⟨by decide, ?_⟩))
theorem elem_pair (c : Int) (ca cb : Bool) (ta tb : List Int) (qa qb : List Rat) (one two : Bool) (most : Int) (i : Nat) :
  elemF c ca cb ta tb qa qb one two most i = pairV c ca cb (ta.getD (ix one i) 0) (tb.getD (ix two i) 0) (qa.getD (ix one i) 0) (qb.getD (ix two i) 0) most := rfl
theorem getD_sz {j : Nat} (hj : 1 ≤ j) {l : List Rat} (h : ∀ q ∈ l, Sz q j) (k : Nat) : Sz (l.getD k 0) j := by
 rw [List.getD_eq_getElem?_getD]
 by_cases hk : k < l.length
 ·rw [List.getElem?_eq_getElem hk]; exact h _ (List.getElem_mem hk)
 ·rw [List.getElem?_eq_none (by omega)]; exact Sz_zero.mono hj
theorem RTwoN_ok (c : Int) (sa sb : List Int) (ca cb : Bool) (ta tb : List Int) (qa qb : List Rat) (most : Int) (hm : most ≤ 200) (hva : vS sa) (hvb : vS sb) (hka : kinds sa ca ta.length qa.length) (hkb : kinds sb cb tb.length qb.length)
  (h1 : ta.length ≤ 500) (h2 : tb.length ≤ 500) (h3 : qa.length ≤ 500) (h4 : qb.length ≤ 500) (hQa : ∀ q ∈ qa, Sz q 20) (hQb : ∀ q ∈ qb, Sz q 20) :
  AC Tryz.prog 78 [.val (.int .i32 c), PA sa ca ta qa, PA sb cb tb qb, .val (.int .i64 most)] (.pure (resP (fitS sa sb (ta.length + qa.length) (tb.length + qb.length)).1 (twoE c sa sb ca cb ta tb qa qb most) (twoV c sa sb ca cb ta tb qa qb most))) := by
 have hF := RFit_ok sa sb ca cb ta tb qa qb (by have := hva.1; omega) (by have := hvb.1; omega) (by omega) (by omega) (by omega) (by omega)
 obtain ⟨ka1, ka2⟩ := kinds_len hka
 obtain ⟨kb1, kb2⟩ := kinds_len hkb
 have hI := fit_idx ka1 kb1 hva hvb
 unfold twoE twoV
 generalize hx : fitS sa sb (ta.length + qa.length) (tb.length + qb.length) = x at hF hI ⊢
 by_cases hc : isTwo c
 ·rw [if_pos hc]
  by_cases he : x.2.2.2 = 0
  ·obtain ⟨v1, v2, v3⟩ := hI he
   obtain ⟨s, one, two, e⟩ := x
   have he : e = 0 := he
   subst he
   have v1 : vS s := v1
   have v2 : cntI s = ((ta.length + qa.length : Nat) : Int) ∨ cntI s = ((tb.length + qb.length : Nat) : Int) := v2
   have v3 : ∀ i : Nat, (i : Int) < cntI s → ix one i < ta.length + qa.length ∧ ix two i < tb.length + qb.length := v3
   obtain ⟨n, hn⟩ : ∃ n : Nat, cntI s = (n : Int) := by rcases v2 with h | h <;> exact ⟨_, h⟩
   have hn5 : n ≤ 1000 := by omega
   rw [if_neg (fun h => h rfl)]
   show AC Tryz.prog 78 _ (.pure (resP s (firstE ((List.range (cntI s).toNat).map (elemF c ca cb ta tb qa qb one two most))) ((List.range (cntI s).toNat).map fun i => (elemF c ca cb ta tb qa qb one two most i).1)))
   rw [hn, Int.toNat_natCast]
   rw [hn] at v3
   have hL := RTwo_loop c hc sa sb ca cb ta tb qa qb most hm s one two n hn5 v1 hn hF (elemF c ca cb ta tb qa qb one two most)
    (fun i hi => element_ok sa ca ta qa i one (by cases ca <;> (simp only [if_pos, Bool.false_eq_true, if_false]; omega)) (by
     have := (v3 i (by omega)).1
     cases ca
     ·have ka2 : qa.length = ta.length + qa.length := ka2
      show ix one i < qa.length
      omega
     ·have ka2 : ta.length = ta.length + qa.length := ka2
      show ix one i < ta.length
      omega))
    (fun i hi => element_ok sb cb tb qb i two (by cases cb <;> (simp only [if_pos, Bool.false_eq_true, if_false]; omega)) (by
     have := (v3 i (by omega)).2
     cases cb
     ·have kb2 : qb.length = tb.length + qb.length := kb2
      show ix two i < qb.length
      omega
     ·have kb2 : tb.length = tb.length + qb.length := kb2
      show ix two i < tb.length
      omega))
    (fun i hi => by
     rw [elem_pair]
     exact pair_ok c ca cb _ _ _ _ most hm (getD_sz (by decide) hQa _) (getD_sz (by decide) hQb _)) _ rfl
   unfold resP
   by_cases hE : firstE ((List.range n).map (elemF c ca cb ta tb qa qb one two most)) = 0
   ·rw [if_pos hE] at hL ⊢
    exact AC.le_res hL (.tup2 (le_agg4 (.refl _) (.refl _) (le_nil 1) (.refl _)) (.refl _)) (.tup _ (noid2 (PA_noid _ _ _ _) (.val _)))
   ·rw [if_neg hE] at hL ⊢
    exact AC.le_res hL (.tup2 PZ_le (.refl _)) (.tup _ (noid2 (PA_noid _ _ _ _) (.val _)))
  ·rw [if_pos he]
   exact resP_err _ _ he (RTwo_unfit c hc sa sb ca cb ta tb qa qb most x he hF)
 ·rw [if_neg hc]
  exact resP_err _ _ (by decide) (RTwo_not c hc sa sb ca cb ta tb qa qb most)
end
section
theorem sz_nat (n : Nat) (h : n < 4294967296) : Sz ((n : Int) : Rat) 1 := Sz_small (by
 show ((n : Int)).natAbs < _
 rw [Int.natAbs_natCast]; exact h) (by show (1 : Nat) < 4294967296; decide)
end
section
theorem uP4 : Tryz.prog.underlying 4 = some .bool := by kernel_rfl
theorem uP9 : Tryz.prog.underlying 9 = some .string := by kernel_rfl
theorem uP3 : Tryz.prog.underlying 3 = some (.int .i64) := by kernel_rfl
theorem uP21 : Tryz.prog.underlying 21 = some (.int .i32) := by kernel_rfl
theorem uP27 : Tryz.prog.underlying 27 = some (.slice 3) := by kernel_rfl
theorem uP29 : Tryz.prog.underlying 29 = some (.slice 21) := by kernel_rfl
theorem uP49 : Tryz.prog.underlying 49 = some (.slice 116) := by kernel_rfl
theorem uP116 : Tryz.prog.underlying 116 = some (.struct (Tryz.prog.fieldsOf 116)) := by kernel_rfl
theorem uP51 : Tryz.prog.underlying 51 = some (.struct (Tryz.prog.fieldsOf 51)) := by kernel_rfl
theorem opNum : Opens Tryz.prog 116 (fun xs => ∃ b s t, xs = [.val (.bool b), .val (.string s), .val (.string t)] ∧ s.size ≤ maxLen ∧ t.size ≤ maxLen) := by
 have h := opens_struct (l := [(0, 4), (1, 9), (2, 9)]) (n := 3) uP116 (by kernel_rfl) (by kernel_rfl) (.cons _ _ 0 1 3 _ _ (by kernel_rfl) (opens_bool uP4) (.cons _ _ 1 1 3 _ _ (by kernel_rfl) (opens_str uP9) (.cons _ _ 2 1 3 _ _ (by kernel_rfl) (opens_str uP9) (.nil 3))))
 refine h.mono ?_
 rintro xs ⟨a, b, rfl, ⟨x, rfl⟩, c, d, rfl, ⟨y, rfl, hy⟩, e, f, rfl, ⟨z, rfl, hz⟩, rfl⟩
 exact ⟨x, y, z, rfl, hy, hz⟩
theorem opInts : Opens Tryz.prog 27 (fun xs => ∃ L : List Int, xs = [.sl 1 (irows .i64 L) false] ∧ L.length < 9223372036854775808) := by
 refine (opens_slice (c := 1) uP27 (by kernel_rfl) (nbq rfl) (opens_int uP3)).mono ?_
 rintro xs ⟨rows, rfl, hl, hr⟩
 have key : ∀ rows : List (List AV), (∀ r ∈ rows, r.length = 1 ∧ ∃ n, r = [.val (.int .i64 n)] ∧ (Lit.int .i64 n).wf = true) → ∃ L : List Int, rows = irows .i64 L := by
  intro rows
  induction rows with
  | nil => exact fun _ => ⟨[], rfl⟩
  | cons r rows ih =>
   intro h
   obtain ⟨_, n, hn, _⟩ := h r List.mem_cons_self
   obtain ⟨L, hL⟩ := ih (fun r hr => h r (List.mem_cons_of_mem _ hr))
   exact ⟨n :: L, by rw [hn, hL]; rfl⟩
 obtain ⟨L, rfl⟩ := key rows hr
 refine ⟨L, rfl, ?_⟩
 rw [irows_len] at hl
 unfold maxLen at hl
 omega
theorem opRunes : Opens Tryz.prog 29 (fun xs => ∃ L : List Int, xs = [.sl 1 (irows .i32 L) false] ∧ L.length < 9223372036854775808) := by
 refine (opens_slice (c := 1) uP29 (by kernel_rfl) (nbq rfl) (opens_int uP21)).mono ?_
 rintro xs ⟨rows, rfl, hl, hr⟩
 have key : ∀ rows : List (List AV), (∀ r ∈ rows, r.length = 1 ∧ ∃ n, r = [.val (.int .i32 n)] ∧ (Lit.int .i32 n).wf = true) → ∃ L : List Int, rows = irows .i32 L := by
  intro rows
  induction rows with
  | nil => exact fun _ => ⟨[], rfl⟩
  | cons r rows ih =>
   intro h
   obtain ⟨_, n, hn, _⟩ := h r List.mem_cons_self
   obtain ⟨L, hL⟩ := ih (fun r hr => h r (List.mem_cons_of_mem _ hr))
   exact ⟨n :: L, by rw [hn, hL]; rfl⟩
 obtain ⟨L, rfl⟩ := key rows hr
 refine ⟨L, rfl, ?_⟩
 rw [irows_len] at hl
 unfold maxLen at hl
 omega
def GN (L : List TX) : Prop := ∀ x ∈ L, bytX x ∧ x.2.1.length < 9223372036854775808 ∧ x.2.2.length < 9223372036854775808
theorem bytesL_len (s : ByteArray) : (bytesL s).length = s.size := by unfold bytesL; rw [List.length_map, Array.length_toList]; rfl
theorem opNums : Opens Tryz.prog 49 (fun xs => ∃ L : List TX, xs = [.sl 3 (L.map rowB) false] ∧ L.length < 9223372036854775808 ∧ GN L) := by
 refine (opens_slice (c := 3) uP49 (by kernel_rfl) (nbq rfl) opNum).mono ?_
 rintro xs ⟨rows, rfl, hl, hr⟩
 have key : ∀ rows : List (List AV), (∀ r ∈ rows, r.length = 3 ∧ ∃ b s t, r = [.val (.bool b), .val (.string s), .val (.string t)] ∧ s.size ≤ maxLen ∧ t.size ≤ maxLen) → ∃ L : List TX, rows = L.map rowB ∧ GN L := by
  intro rows
  induction rows with
  | nil => exact fun _ => ⟨[], rfl, fun x hx => nomatch hx⟩
  | cons r rows ih =>
   intro h
   obtain ⟨_, b, s, t, hn, hs, ht⟩ := h r List.mem_cons_self
   obtain ⟨L, hL, hG⟩ := ih (fun r hr => h r (List.mem_cons_of_mem _ hr))
   refine ⟨(b, bytesL s, bytesL t) :: L, ?_, fun x hx => ?_⟩
   ·rw [hn, hL]
    show _ = rowB (b, bytesL s, bytesL t) :: L.map rowB
    unfold rowB
    rw [strL_bytesL, strL_bytesL]
   ·rcases List.mem_cons.1 hx with rfl | hx
    ·have l1 := bytesL_len s
     have l2 := bytesL_len t
     unfold maxLen at hs ht
     exact ⟨⟨bytesL_byt s, bytesL_byt t⟩, by show (bytesL s).length < _; omega, by show (bytesL t).length < _; omega⟩
    ·exact hG x hx
 obtain ⟨L, rfl, hG⟩ := key rows hr
 refine ⟨L, rfl, ?_, hG⟩
 rw [List.length_map] at hl
 unfold maxLen at hl
 omega
theorem opPlain : Opens Tryz.prog 51 (fun xs => ∃ sh ch tx L, xs = [.sl 1 (irows .i64 sh) false, .val (.bool ch), .sl 1 (irows .i32 tx) false, .sl 3 (L.map rowB) false] ∧ sh.length < 9223372036854775808 ∧ tx.length < 9223372036854775808 ∧ L.length < 9223372036854775808 ∧ GN L) := by
 have h := opens_struct (l := [(0, 27), (1, 4), (2, 29), (3, 49)]) (n := 4) uP51 (by kernel_rfl) (by kernel_rfl) (.cons _ _ 0 1 4 _ _ (by kernel_rfl) opInts (.cons _ _ 1 1 4 _ _ (by kernel_rfl) (opens_bool uP4) (.cons _ _ 2 1 4 _ _ (by kernel_rfl) opRunes (.cons _ _ 3 1 4 _ _ (by kernel_rfl) opNums (.nil 4)))))
 refine h.mono ?_
 rintro xs ⟨a, b, rfl, ⟨sh, rfl, h1⟩, c, d, rfl, ⟨ch, rfl⟩, e, f, rfl, ⟨tx, rfl, h2⟩, g, i, rfl, ⟨L, rfl, h3, h4⟩, rfl⟩
 exact ⟨sh, ch, tx, L, rfl, h1, h2, h3, h4⟩
end
section
def Lite (sh : List Int) (ch : Bool) (tx : List Int) (L : List TX) (most : Nat) (qs : List Rat) : Prop :=
 PB sh ch tx L = PA sh ch tx qs ∧ vS sh ∧ kinds sh ch tx.length qs.length ∧ tx.length ≤ most ∧ qs.length ≤ most ∧ ∀ q ∈ qs, QR q
theorem lite_ok (sh : List Int) (ch : Bool) (tx : List Int) (L : List TX) (most : Nat) (hm : most ≤ 1000) (z : sh.length < 9223372036854775808 ∧ tx.length < 9223372036854775808 ∧ L.length < 9223372036854775808 ∧ GN L) :
  ∃ r : Bool, AC Tryz.prog 48 [PB sh ch tx L, .val (.int .i64 (most : Int))] (.pure (.val (.bool r))) ∧ (r = true → ∃ qs, Lite sh ch tx L most qs) := by
 obtain ⟨z1, z2, z3, z4⟩ := z
 obtain ⟨r, hr, hP⟩ := Light_ok sh ch tx L (most : Int) (by omega) z1 z2 z3 z4
 refine ⟨r, hP, fun h => ?_⟩
 obtain ⟨g1, g2, g3, g4, g5, g6⟩ := hr h
 refine ⟨L.map qX, PB_PA g6, g4, by rw [List.length_map]; exact g5, by omega, by rw [List.length_map]; omega, fun q hq => ?_⟩
 obtain ⟨x, hx, rfl⟩ := List.mem_map.1 hq
 exact ⟨_, _, _, g6 x hx, (z4 x hx).1.1, (z4 x hx).1.2, (g3 x hx).1, (g3 x hx).2, rfl⟩
end
section
end
end Go.Proofs.YtbdklokfijjifaaGreat

namespace Go.Proofs.YtbdklokfijjifaaGreat
open Go Go.AL
section
def pr : List Int → Nat
 | [] => 1
 | d :: v => d.toNat * pr v
def dig : List Int → Nat → List Int
 | [], _ => []
 | _ :: v, i => ((i / pr v : Nat) : Int) :: dig v (i % pr v)
def allS : List Int → List (List Int)
 | [] => [[]]
 | d :: v => (List.range d.toNat).flatMap fun n : Nat => (allS v).map fun w => (n : Int) :: w
def plS (n : Int) : List Int → List Int → Int
 | d :: v, a :: w => if a < 0 ∨ d ≤ a then -1 else plS (n * d + a) v w
 | _, _ => n
theorem pr_append (u v : List Int) : pr (u ++ v) = pr u * pr v := by
 induction u with
 | nil => rw [List.nil_append]; exact (Nat.one_mul _).symm
 | cons d u ih => show d.toNat * pr (u ++ v) = d.toNat * pr u * pr v; rw [ih, Nat.mul_assoc]
end
end Go.Proofs.YtbdklokfijjifaaGreat

namespace Go.Proofs.YtbdklokfijjifaaGreat
open Go Go.AL NM
section
theorem pm_from (v : List Int) : ∀ n : Int, v.foldl (fun n d => n * max 1 d) n = n * pmI v := by
 induction v with
 | nil => intro n; exact (Int.mul_one n).symm
 | cons d v ih =>
  intro n
  show v.foldl (fun n d => n * max 1 d) (n * max 1 d) = n * v.foldl (fun n d => n * max 1 d) (1 * max 1 d)
  rw [ih, ih, Int.one_mul, Int.mul_assoc]
theorem pm_cons (d : Int) (v : List Int) : pmI (d :: v) = max 1 d * pmI v := by
 show v.foldl (fun n d => n * max 1 d) (1 * max 1 d) = _
 rw [pm_from, Int.one_mul]
theorem pm_append (u v : List Int) : pmI (u ++ v) = pmI u * pmI v := by
 induction u with
 | nil => exact (Int.one_mul _).symm
 | cons d u ih => rw [List.cons_append, pm_cons, pm_cons, ih, Int.mul_assoc]
theorem pr_zero {s : List Int} (h : 0 ∈ s) : pr s = 0 := by
 induction s with
 | nil => cases h
 | cons d v ih =>
  show d.toNat * pr v = 0
  rcases List.mem_cons.1 h with h | h
  ·rw [← h]; exact Nat.zero_mul _
  ·rw [ih h, Nat.mul_zero]
theorem cnt_pr {s : List Int} (h : ∀ d ∈ s, 0 ≤ d) : cntI s = (pr s : Int) := by
 unfold cntI
 by_cases h0 : 0 ∈ s
 ·rw [if_pos h0, pr_zero h0]; rfl
 ·rw [if_neg h0]
  induction s with
  | nil => rfl
  | cons d v ih =>
   rw [pm_cons]
   have hd := h d List.mem_cons_self
   have hn : d ≠ 0 := fun e => h0 (by rw [e]; exact List.mem_cons_self)
   rw [ih (fun x hx => h x (List.mem_cons_of_mem _ hx)) (fun hx => h0 (List.mem_cons_of_mem _ hx))]
   show _ = ((d.toNat * pr v : Nat) : Int)
   rw [Int.natCast_mul, show max 1 d = ((d.toNat : Nat) : Int) by omega]
theorem pr_le_pm {s : List Int} (h : ∀ d ∈ s, 0 ≤ d) : (pr s : Int) ≤ pmI s := by
 rw [← cnt_pr h]
 unfold cntI
 split
 ·have := pm_pos s; omega
 ·exact Int.le_refl _
theorem vS_pr {s : List Int} (h : vS s) : cntI s = (pr s : Int) ∧ pr s ≤ 4096 := by
 refine ⟨cnt_pr h.2.1, ?_⟩
 have := pr_le_pm h.2.1
 have := h.2.2
 omega
theorem mid_split {s : List Int} {k : Nat} (hk : k < s.length) : s = s.take k ++ s[k] :: s.drop (k + 1) := by
 rw [← List.drop_eq_getElem_cons hk, List.take_append_drop]
theorem vS_mid {u v : List Int} {d : Int} : vS (u ++ d :: v) ↔ u.length + v.length ≤ 7 ∧ (∀ x ∈ u, 0 ≤ x) ∧ 0 ≤ d ∧ (∀ x ∈ v, 0 ≤ x) ∧ pmI u * (max 1 d * pmI v) ≤ 4096 := by
 unfold vS
 rw [pm_append, pm_cons, List.length_append, List.length_cons]
 constructor
 ·rintro ⟨h1, h2, h3⟩
  exact ⟨by omega, fun x hx => h2 x (List.mem_append_left _ hx), h2 d (List.mem_append_right _ List.mem_cons_self), fun x hx => h2 x (List.mem_append_right _ (List.mem_cons_of_mem _ hx)), h3⟩
 ·rintro ⟨h1, h2, h3, h4, h5⟩
  refine ⟨by omega, fun x hx => ?_, h5⟩
  rcases List.mem_append.1 hx with h | h
  ·exact h2 x h
  ·rcases List.mem_cons.1 h with rfl | h
   ·exact h3
   ·exact h4 x h
theorem vS_app {u v : List Int} : vS (u ++ v) ↔ u.length + v.length ≤ 8 ∧ (∀ x ∈ u, 0 ≤ x) ∧ (∀ x ∈ v, 0 ≤ x) ∧ pmI u * pmI v ≤ 4096 := by
 unfold vS
 rw [pm_append, List.length_append]
 constructor
 ·rintro ⟨h1, h2, h3⟩
  exact ⟨h1, fun x hx => h2 x (List.mem_append_left _ hx), fun x hx => h2 x (List.mem_append_right _ hx), h3⟩
 ·rintro ⟨h1, h2, h3, h4⟩
  refine ⟨h1, fun x hx => ?_, h4⟩
  rcases List.mem_append.1 hx with h | h
  ·exact h2 x h
  ·exact h3 x h
theorem vS_parts {u v : List Int} (h : vS (u ++ v)) : vS u ∧ vS v := by
 obtain ⟨h1, h2, h3, h4⟩ := vS_app.1 h
 have p1 := pm_pos u
 have p2 := pm_pos v
 have m1 : pmI u * 1 ≤ pmI u * pmI v := Int.mul_le_mul_of_nonneg_left p2 (by omega)
 have m2 : 1 * pmI v ≤ pmI u * pmI v := Int.mul_le_mul_of_nonneg_right p1 (by omega)
 exact ⟨⟨by omega, h2, by omega⟩, ⟨by omega, h3, by omega⟩⟩
theorem vS_dim {s : List Int} (h : vS s) {d : Int} (hd : d ∈ s) : d ≤ 4096 := by
 obtain ⟨u, v, rfl⟩ := List.append_of_mem hd
 obtain ⟨h1, h2, h3, h4, h5⟩ := vS_mid.1 h
 have p1 := pm_pos u
 have p2 := pm_pos v
 have m1 : max 1 d * 1 ≤ max 1 d * pmI v := Int.mul_le_mul_of_nonneg_left p2 (by omega)
 have m2 : 1 * (max 1 d * pmI v) ≤ pmI u * (max 1 d * pmI v) := Int.mul_le_mul_of_nonneg_right p1 (by omega)
 omega
end
end Go.Proofs.YtbdklokfijjifaaGreat

set_option linter.unusedSimpArgs false
namespace Go.AL
open Go Go.RowKit
end Go.AL

namespace Go.Proofs.YtbdklokfijjifaaGreat
open Go Go.AL NM
section
theorem Grow_zero : AC Tryz.prog 124 [.sl 0 [] true, .val (.int .i64 0)] (.pure (.sl 0 [] true)) := by
 refine AC.of_body TTok Tryz.func124 rfl (enter_of Tryz.func124 (by kernel_rfl) (by kernel_rfl)) (noid2 (.sl _ _ _ (fun r hr => nomatch hr)) (.val _)) (.sl _ _ _ (fun r hr => nomatch hr)) (nbq rfl) ?_
 repeat ((conv => whnf); (first | refine ⟨_, ‹_›, ?_⟩ | refine ⟨nbq rfl, _, ‹_›, ?_⟩ | refine ⟨by kernel_rfl, ?_⟩ | exact rfl | exact ⟨nbq rfl, rfl⟩ | refine ⟨by decide, ?_⟩))
theorem Grow_pos (n : Nat) (h0 : 0 < n) (hb : n ≤ 1000000) : AC Tryz.prog 124 [.sl 0 [] true, .val (.int .i64 (n : Int))] (.fresh 1 []) := by
 have e1 : IntKind.i64.wrap ((n : Int) - IntKind.i64.wrap ((([] : List (List AV)).length : Int) - (([] : List (List AV)).length : Int))) = (n : Int) := by
  rw [show (([] : List (List AV)).length : Int) - (([] : List (List AV)).length : Int) = 0 from rfl, show IntKind.i64.wrap 0 = 0 by decide, Int.sub_zero, IntWalk.i64_in _ (by omega)]
 refine AC.of_body TTok Tryz.func124 rfl (enter_of Tryz.func124 (by kernel_rfl) (by kernel_rfl)) (noid2 (.sl _ _ _ (fun r hr => nomatch hr)) (.val _)) (fun r hr => nomatch hr) (nbq rfl) ?_
 conv => whnf
 refine caseb (fun _ => ?_) (fun h => absurd (of_decide_eq_false h) (by rw [e1]; omega))
 conv => whnf
 refine ⟨by decide, ?_⟩
 conv => whnf
 refine ⟨by rw [e1]; exact ⟨by omega, by show (n : Int) * 8 ≤ 140737488355328; omega⟩, ?_⟩
 conv => whnf
 refine ⟨⟨Int.le_refl _, Int.natCast_nonneg _⟩, ?_⟩
 conv => whnf
 exact ⟨rfl, Nat.zero_le _, rfl⟩
def lrows (ls : List (List Int)) : List (List AV) := ls.map fun l => [.sl 1 (irows .i64 l) false]
theorem lrows_len (ls : List (List Int)) : (lrows ls).length = ls.length := List.length_map _
theorem lrows_noid (ls : List (List Int)) : ∀ r ∈ lrows ls, ∀ x ∈ r, NoId x := by
 intro r hr x hx
 obtain ⟨l, _, rfl⟩ := List.mem_map.1 hr
 rw [List.mem_singleton.1 hx]
 exact noid_sl _ _ _
theorem flat_snoc {ls : List (List Int)} {i : Nat} (h : i < ls.length) : (ls.take (i + 1)).flatten = (ls.take i).flatten ++ ls[i] := by
 rw [take_snoc h, List.flatten_append]; simp
theorem Concat_ok (ls : List (List Int)) (hl : ls.length ≤ 1000) (hb : ls.flatten.length ≤ 100000) : AC Tryz.prog 91 [.sl 1 (lrows ls) false] (.pure (.sl 1 (irows .i64 ls.flatten) false)) := by
 have lr := lrows_len ls
 have hle : ∀ i, i ≤ ls.length → (ls.take i).flatten.length ≤ ls.flatten.length := fun i hi => by
  have := List.take_append_drop i ls
  have h2 : ls.flatten = (ls.take i).flatten ++ (ls.drop i).flatten := by rw [← List.flatten_append, this]
  rw [h2, List.length_append]; omega
 refine AC.of_body TTok Tryz.func91 rfl (enter_of Tryz.func91 (by kernel_rfl) (by kernel_rfl)) (noid1 (.sl _ _ _ (lrows_noid _))) (noid_sl _ _ _) (nbq rfl) ?_
 conv => whnf
 refine SW.loopM TTok (fun i : Nat => [(0, .sl 1 (lrows ls) false), (3, .val (.int .i64 ((ls.take i).flatten.length : Nat))), (9, .sl 1 (lrows ls) false), (10, .val (.int .i64 ((lrows ls).length : Nat))), (11, .val (.int .i64 (i : Int)))]) (fun _ => []) 40 36 rfl (fun i => ls.length - i) (fun i => i ≤ ls.length) 0 [] (Nat.zero_le _)
  ⟨q2r, q2r, q2r, q2r, q2r, trivial⟩ trivial rfl ?_
 intro i hJ
 have hi : i ≤ ls.length := hJ
 clear hJ
 have b1 := hle i hi
 by_cases hlt : i < ls.length
 ·have eI : IntKind.i64.wrap ((i : Int) + 1) = ((i + 1 : Nat) : Int) := by rw [IntWalk.i64_in _ (by omega)]; omega
  have b2 := hle (i + 1) hlt
  have hg : (lrows ls)[i]? = some [.sl 1 (irows .i64 ls[i]) false] := by unfold lrows; rw [List.getElem?_map, List.getElem?_eq_getElem hlt]; rfl
  have hs := flat_snoc hlt
  have hsl : (ls.take (i + 1)).flatten.length = (ls.take i).flatten.length + ls[i].length := by rw [hs, List.length_append]
  have ln := irows_len .i64 ls[i]
  have eS : IntKind.i64.wrap (((ls.take i).flatten.length : Nat) + ((irows .i64 ls[i]).length : Int)) = (((ls.take (i + 1)).flatten.length : Nat) : Int) := by rw [ln, IntWalk.i64_in _ (by omega), hsl]; omega
  conv => whnf
  first | refine oTq (by omega) ?_ | refine oFq (by omega) ?_ | refine oEq (by omega) ?_ | refine oNq (by omega) ?_
  conv => whnf
  refine ⟨_, ⟨by omega, by rw [Int.toNat_natCast]; exact hg⟩, ?_⟩
  conv => whnf
  refine caseb (fun h => absurd (of_decide_eq_true h) (by rw [eS]; omega)) (fun _ => ?_)
  conv => whnf
  exact ⟨i + 1, [], (by show ls.length - (i + 1) < ls.length - i; omega), hlt, ⟨q2r, ⟨valI eS, rfl⟩, q2r, q2r, ⟨valI eI, rfl⟩, trivial⟩, trivial, rfl⟩
 ·have hie : i = ls.length := by omega
  have e0 : ls.take i = ls := by rw [hie, List.take_length]
  rw [e0]
  obtain ⟨n, hn⟩ : ∃ n, n = ls.flatten.length := ⟨_, rfl⟩
  rw [← hn] at hb hle ⊢
  by_cases hn0 : n = 0
  ·subst hn0
   have hG := Grow_zero
   conv => whnf
   first | refine oTq (by omega) ?_ | refine oFq (by omega) ?_ | refine oEq (by omega) ?_ | refine oNq (by omega) ?_
   conv => whnf
   refine ⟨_, hG, ?_⟩
   conv => whnf
   refine SW.nil 6 1 rfl ?_
   refine SW.loopM TTok (fun i : Nat => [(6, .own 96 0 (ls.take i).flatten.length), (25, .sl 1 (lrows ls) false), (26, .val (.int .i64 ((lrows ls).length : Nat))), (27, .val (.int .i64 (i : Int)))]) (fun i => [(96, .cells 1 (irows .i64 (ls.take i).flatten))]) 104 36 rfl (fun i => ls.length - i) (fun i => i ≤ ls.length) 0 [] (Nat.zero_le _)
    ⟨q2r, q2r, q2r, q2r, trivial⟩ ⟨q3r, trivial⟩ rfl ?_
   intro i hJ
   have hi : i ≤ ls.length := hJ
   clear hJ
   have b1 := hle i hi
   have lf := irows_len .i64 (ls.take i).flatten
   by_cases hlt : i < ls.length
   ·have eI : IntKind.i64.wrap ((i : Int) + 1) = ((i + 1 : Nat) : Int) := by rw [IntWalk.i64_in _ (by omega)]; omega
    have b2 := hle (i + 1) hlt
    have hg : (lrows ls)[i]? = some [.sl 1 (irows .i64 ls[i]) false] := by unfold lrows; rw [List.getElem?_map, List.getElem?_eq_getElem hlt]; rfl
    have hs := flat_snoc hlt
    have hsl : (ls.take (i + 1)).flatten.length = (ls.take i).flatten.length + ls[i].length := by rw [hs, List.length_append]
    have ln := irows_len .i64 ls[i]
    conv => whnf
    first | refine oTq (by omega) ?_ | refine oFq (by omega) ?_ | refine oEq (by omega) ?_ | refine oNq (by omega) ?_
    conv => whnf
    refine ⟨_, ⟨by omega, by rw [Int.toNat_natCast]; exact hg⟩, ?_⟩
    conv => whnf
    refine ⟨⟨by show 0 + _ ≤ _; omega, by show ((ls.take i).flatten.length + (irows .i64 ls[i]).length) * 8 ≤ 140737488355328; omega⟩, ?_⟩
    conv => whnf
    refine ⟨i + 1, [(96, 152)], (by show ls.length - (i + 1) < ls.length - i; omega), hlt, ⟨⟨ownE rfl (by rw [hsl, ln]), rfl⟩, q2r, q2r, ⟨valI eI, rfl⟩, trivial⟩, ⟨⟨rfl, .inl ⟨celE ?_, irows_noid _ _⟩⟩, trivial⟩, rfl⟩
    show List.take _ (List.drop 0 (irows .i64 (ls.take i).flatten)) ++ irows .i64 ls[i] = _
    rw [List.drop_zero, List.take_of_length_le (by omega), hs, ← irows_append]
   ·have hie : i = ls.length := by omega
    have e0 : ls.take i = ls := by rw [hie, List.take_length]
    rw [e0] at lf ⊢
    conv => whnf
    first | refine oTq (by omega) ?_ | refine oFq (by omega) ?_ | refine oEq (by omega) ?_ | refine oNq (by omega) ?_
    conv => whnf
    refine ⟨by show 0 + _ ≤ _; omega, ?_⟩
    show AV.sl 1 (List.take _ (List.drop 0 (irows .i64 ls.flatten))) false = _
    rw [List.drop_zero, List.take_of_length_le (by omega)]
  ·have hG := Grow_pos n (by omega) (by omega)
   conv => whnf
   first | refine oTq (by omega) ?_ | refine oFq (by omega) ?_ | refine oEq (by omega) ?_ | refine oNq (by omega) ?_
   conv => whnf
   refine ⟨_, hG, ?_⟩
   conv => whnf
   refine SW.loopM TTok (fun i : Nat => [(6, .own 56 0 (ls.take i).flatten.length), (25, .sl 1 (lrows ls) false), (26, .val (.int .i64 ((lrows ls).length : Nat))), (27, .val (.int .i64 (i : Int)))]) (fun i => [(56, .cells 1 (irows .i64 (ls.take i).flatten))]) 96 36 rfl (fun i => ls.length - i) (fun i => i ≤ ls.length) 0 [] (Nat.zero_le _)
    ⟨q2r, q2r, q2r, q2r, trivial⟩ ⟨q3r, trivial⟩ rfl ?_
   intro i hJ
   have hi : i ≤ ls.length := hJ
   clear hJ
   have b1 := hle i hi
   have lf := irows_len .i64 (ls.take i).flatten
   by_cases hlt : i < ls.length
   ·have eI : IntKind.i64.wrap ((i : Int) + 1) = ((i + 1 : Nat) : Int) := by rw [IntWalk.i64_in _ (by omega)]; omega
    have b2 := hle (i + 1) hlt
    have hg : (lrows ls)[i]? = some [.sl 1 (irows .i64 ls[i]) false] := by unfold lrows; rw [List.getElem?_map, List.getElem?_eq_getElem hlt]; rfl
    have hs := flat_snoc hlt
    have hsl : (ls.take (i + 1)).flatten.length = (ls.take i).flatten.length + ls[i].length := by rw [hs, List.length_append]
    have ln := irows_len .i64 ls[i]
    conv => whnf
    first | refine oTq (by omega) ?_ | refine oFq (by omega) ?_ | refine oEq (by omega) ?_ | refine oNq (by omega) ?_
    conv => whnf
    refine ⟨_, ⟨by omega, by rw [Int.toNat_natCast]; exact hg⟩, ?_⟩
    conv => whnf
    refine ⟨⟨by show 0 + _ ≤ _; omega, by show ((ls.take i).flatten.length + (irows .i64 ls[i]).length) * 8 ≤ 140737488355328; omega⟩, ?_⟩
    conv => whnf
    refine ⟨i + 1, [(56, 144)], (by show ls.length - (i + 1) < ls.length - i; omega), hlt, ⟨⟨ownE rfl (by rw [hsl, ln]), rfl⟩, q2r, q2r, ⟨valI eI, rfl⟩, trivial⟩, ⟨⟨rfl, .inl ⟨celE ?_, irows_noid _ _⟩⟩, trivial⟩, rfl⟩
    show List.take _ (List.drop 0 (irows .i64 (ls.take i).flatten)) ++ irows .i64 ls[i] = _
    rw [List.drop_zero, List.take_of_length_le (by omega), hs, ← irows_append]
   ·have hie : i = ls.length := by omega
    have e0 : ls.take i = ls := by rw [hie, List.take_length]
    rw [e0] at lf ⊢
    conv => whnf
    first | refine oTq (by omega) ?_ | refine oFq (by omega) ?_ | refine oEq (by omega) ?_ | refine oNq (by omega) ?_
    conv => whnf
    refine ⟨by show 0 + _ ≤ _; omega, ?_⟩
    show AV.sl 1 (List.take _ (List.drop 0 (irows .i64 ls.flatten))) false = _
    rw [List.drop_zero, List.take_of_length_le (by omega)]
theorem ShJoin_ok (ls : List (List Int)) (hl : ls.length ≤ 1000) (hb : ls.flatten.length ≤ 100000) : AC Tryz.prog 64 [.sl 1 (lrows ls) false] (.pure (.sl 1 (irows .i64 ls.flatten) false)) := by
 have hC := Concat_ok ls hl hb
 refine AC.of_body TTok Tryz.func64 rfl (enter_of Tryz.func64 (by kernel_rfl) (by kernel_rfl)) (noid1 (.sl _ _ _ (lrows_noid _))) (noid_sl _ _ _) (nbq rfl) ?_
 repeat ((conv => whnf); (first | refine ⟨_, ‹_›, ?_⟩ | refine ⟨nbq rfl, _, ‹_›, ?_⟩ | refine ⟨by kernel_rfl, ?_⟩ | exact rfl | exact ⟨nbq rfl, rfl⟩ | refine ⟨by decide, ?_⟩))
end
section
theorem irows_set (k : IntKind) (l : List Int) (i : Nat) (x : Int) : (irows k l).set i [.val (.int k x)] = irows k (l.set i x) := by unfold irows; rw [List.map_set]
theorem irows_take (k : IntKind) (l : List Int) (i : Nat) : (irows k l).take i = irows k (l.take i) := by unfold irows; rw [List.map_take]
theorem irows_drop (k : IntKind) (l : List Int) (i : Nat) : (irows k l).drop i = irows k (l.drop i) := by unfold irows; rw [List.map_drop]
theorem Without_ok (s : List Int) (k : Nat) (hk : k < s.length) (hb : s.length ≤ 100000) : AC Tryz.prog 39 [.sl 1 (irows .i64 s) false, .val (.int .i64 (k : Int))] (.pure (.sl 1 (irows .i64 (s.take k ++ s.drop (k + 1))) false)) := by
 have hC := Concat_ok [s.take k, s.drop (k + 1)] (by show 2 ≤ 1000; omega) (by simp; omega)
 rw [show [s.take k, s.drop (k + 1)].flatten = s.take k ++ s.drop (k + 1) by simp] at hC
 have ln := irows_len .i64 s
 have eK : IntKind.i64.wrap ((k : Int) + 1) = ((k + 1 : Nat) : Int) := by rw [IntWalk.i64_in _ (by omega)]; omega
 have e1 : lrows [s.take k, s.drop (k + 1)] = [[.sl 1 (List.drop 0 (List.take (k : Int).toNat (irows .i64 s))) false], [.sl 1 (List.drop (IntKind.i64.wrap ((k : Int) + 1)).toNat (List.take (irows .i64 s).length (irows .i64 s))) false]] := by
  rw [eK, Int.toNat_natCast, Int.toNat_natCast, List.drop_zero, List.take_length, irows_take, irows_drop]; rfl
 rw [e1] at hC
 refine AC.of_body TTok Tryz.func39 rfl (enter_of Tryz.func39 (by kernel_rfl) (by kernel_rfl)) (noid2 (noid_sl _ _ _) (.val _)) (noid_sl _ _ _) (nbq rfl) ?_
 conv => whnf
 first | refine oTq (by omega) ?_ | refine oFq (by omega) ?_ | refine oEq (by omega) ?_ | refine oNq (by omega) ?_
 conv => whnf
 refine ⟨by omega, ?_⟩
 conv => whnf
 refine ⟨by rw [eK]; omega, ?_⟩
 conv => whnf
 refine ⟨(nbq rfl), _, hC, ?_⟩
 conv => whnf
 refine ⟨by kernel_rfl, ?_⟩
 repeat ((conv => whnf); (first | refine ⟨_, ‹_›, ?_⟩ | refine ⟨nbq rfl, _, ‹_›, ?_⟩ | refine ⟨by kernel_rfl, ?_⟩ | exact rfl | exact ⟨nbq rfl, rfl⟩ | refine ⟨by decide, ?_⟩))
theorem Split_ok (s : List Int) (k : Nat) (hk : k < s.length) (hv : vS s) : AC Tryz.prog 109 [.sl 1 (irows .i64 s) false, .val (.int .i64 (k : Int))] (.pure (.tup [.val (.int .i64 (pr (s.take k))), .val (.int .i64 s[k]), .val (.int .i64 (pr (s.drop (k + 1)))), .val (.bool true)])) := by
 have h8 := hv.1
 have hp := mid_split hk
 have v1 : vS (s.take k) := (vS_parts (by rw [← List.take_append_drop k s] at hv; exact hv)).1
 have v2 : vS (s.drop (k + 1)) := (vS_parts (by rw [← List.take_append_drop (k + 1) s] at hv; exact hv)).2
 have c0 := Count_ok s (by omega)
 have c1 := Count_ok (s.take k) (by rw [List.length_take]; omega)
 have c2 := Count_ok (s.drop (k + 1)) (by rw [List.length_drop]; omega)
 rw [CNT_good hv] at c0
 rw [CNT_good v1, (vS_pr v1).1] at c1
 rw [CNT_good v2, (vS_pr v2).1] at c2
 have ln := irows_len .i64 s
 have eK : IntKind.i64.wrap ((k : Int) + 1) = ((k + 1 : Nat) : Int) := by rw [IntWalk.i64_in _ (by omega)]; omega
 have e1 : irows .i64 (s.take k) = List.drop 0 (List.take (k : Int).toNat (irows .i64 s)) := by rw [Int.toNat_natCast, List.drop_zero, irows_take]
 have e2 : irows .i64 (s.drop (k + 1)) = List.drop (IntKind.i64.wrap ((k : Int) + 1)).toNat (List.take (irows .i64 s).length (irows .i64 s)) := by rw [eK, Int.toNat_natCast, List.take_length, irows_drop]
 rw [e1] at c1
 rw [e2] at c2
 have hg : (irows .i64 s)[k]? = some [.val (.int .i64 s[k])] := irows_get .i64 s (List.getElem?_eq_getElem hk)
 refine AC.of_body TTok Tryz.func109 rfl (enter_of Tryz.func109 (by kernel_rfl) (by kernel_rfl)) (noid2 (noid_sl _ _ _) (.val _)) (.tup _ (noidF (.val _) (.val _) (.val _) (.val _))) (nbq rfl) ?_
 conv => whnf
 refine ⟨_, c0, ?_⟩
 conv => whnf
 first | refine oTq (by omega) ?_ | refine oFq (by omega) ?_ | refine oEq (by omega) ?_ | refine oNq (by omega) ?_
 conv => whnf
 refine ⟨by omega, ?_⟩
 conv => whnf
 refine ⟨_, c1, ?_⟩
 conv => whnf
 refine ⟨by rw [eK]; omega, ?_⟩
 conv => whnf
 refine ⟨_, c2, ?_⟩
 conv => whnf
 refine ⟨_, ⟨by omega, by rw [Int.toNat_natCast]; exact hg⟩, ?_⟩
 repeat ((conv => whnf); (first | refine ⟨_, ‹_›, ?_⟩ | refine ⟨nbq rfl, _, ‹_›, ?_⟩ | refine ⟨by kernel_rfl, ?_⟩ | exact rfl | exact ⟨nbq rfl, rfl⟩ | refine ⟨by decide, ?_⟩))
end
section
end
section
def plB (s : List Int) (i : Nat) (n : Int) : Prop := 0 ≤ n ∧ n < pmI (s.take i)
end
section
def gA (D : Nat) (w : List Int) : List (List Int) := (List.range D).map fun n : Nat => w ++ [(n : Int)]
end
end Go.Proofs.YtbdklokfijjifaaGreat

set_option linter.unusedSimpArgs false
namespace Go.AL
open Go Go.RowKit
end Go.AL

namespace Go.Proofs.YtbdklokfijjifaaGreat
open Go Go.AL NM
section
def getX (ns : List (Option (Rat × Nat))) (k : Int) : Option (Rat × Nat) := if 0 ≤ k then ns.getD k.toNat none else none
def getT (tx : List Int) (k : Int) : Int := if 0 ≤ k then tx.getD k.toNat 32 else 32
def getQ (qs : List Rat) (k : Int) : Rat := if 0 ≤ k then qs.getD k.toNat 0 else 0
theorem getX_in {ns : List (Option (Rat × Nat))} {k : Nat} (h : k < ns.length) : getX ns (k : Int) = ns[k] := by
 unfold getX
 rw [if_pos (by omega), Int.toNat_natCast, List.getD_eq_getElem?_getD, List.getElem?_eq_getElem h]; rfl
theorem getX_out {ns : List (Option (Rat × Nat))} {k : Int} (h : k < 0 ∨ (ns.length : Int) ≤ k) : getX ns k = none := by
 unfold getX
 split
 ·rw [List.getD_eq_getElem?_getD, List.getElem?_eq_none (by omega)]; rfl
 ·rfl
theorem getT_in {tx : List Int} {k : Nat} (h : k < tx.length) : getT tx (k : Int) = tx[k] := by
 unfold getT
 rw [if_pos (by omega), Int.toNat_natCast, List.getD_eq_getElem?_getD, List.getElem?_eq_getElem h]; rfl
theorem getT_out {tx : List Int} {k : Int} (h : k < 0 ∨ (tx.length : Int) ≤ k) : getT tx k = 32 := by
 unfold getT
 split
 ·rw [List.getD_eq_getElem?_getD, List.getElem?_eq_none (by omega)]; rfl
 ·rfl
theorem getQ_in {qs : List Rat} {k : Nat} (h : k < qs.length) : getQ qs (k : Int) = qs[k] := by
 unfold getQ
 rw [if_pos (by omega), Int.toNat_natCast, List.getD_eq_getElem?_getD, List.getElem?_eq_getElem h]; rfl
theorem getQ_out {qs : List Rat} {k : Int} (h : k < 0 ∨ (qs.length : Int) ≤ k) : getQ qs k = 0 := by
 unfold getQ
 split
 ·rw [List.getD_eq_getElem?_getD, List.getElem?_eq_none (by omega)]; rfl
 ·rfl
theorem getX_val (ns : List (Option (Rat × Nat))) (k : Int) : valX (getX ns k) = getQ (ns.map valX) k := by
 by_cases h : k < 0 ∨ (ns.length : Int) ≤ k
 ·rw [getX_out h, getQ_out (by rw [List.length_map]; exact h)]; rfl
 ·obtain ⟨j, rfl⟩ := Int.eq_ofNat_of_zero_le (show 0 ≤ k by omega)
  rw [getX_in (show j < ns.length by omega), getQ_in (show j < (ns.map valX).length by rw [List.length_map]; omega), List.getElem_map]
theorem getX_ok {ns : List (Option (Rat × Nat))} (h : ∀ o ∈ ns, okX o) (k : Int) : okX (getX ns k) := by
 by_cases hk : k < 0 ∨ (ns.length : Int) ≤ k
 ·rw [getX_out hk]; trivial
 ·obtain ⟨j, rfl⟩ := Int.eq_ofNat_of_zero_le (show 0 ≤ k by omega)
  rw [getX_in (show j < ns.length by omega)]
  exact h _ (List.getElem_mem _)
theorem RatAny_ok (sh : List Int) (ch : Bool) (tx : List Int) (ns : List (Option (Rat × Nat))) (made : Bool) (k : Int) (hb : ns.length ≤ 1000000) : AC Tryz.prog 15 [AA sh ch tx ns made, .val (.int .i64 k)] (.pure (.agg (rowX (getX ns k)))) := by
 by_cases h : k < 0 ∨ (ns.length : Int) ≤ k
 ·rw [getX_out h]
  refine AC.of_body TTok Tryz.func15 rfl (enter_of Tryz.func15 (by kernel_rfl) (by kernel_rfl)) (noid2 (AA_noid _ _ _ _ _) (.val _)) (.agg _ (rowX_noid none)) (nbq rfl) ?_
  have hlen : (ns.map rowX).length = ns.length := List.length_map _
  unfold AA
  by_cases h0 : k < 0
  ·conv => whnf
   first | refine oTq (by omega) ?_ | refine oFq (by omega) ?_ | refine oEq (by omega) ?_ | refine oNq (by omega) ?_
   repeat ((conv => whnf); (first | refine ⟨_, ‹_›, ?_⟩ | refine ⟨nbq rfl, _, ‹_›, ?_⟩ | refine ⟨by kernel_rfl, ?_⟩ | exact rfl | exact ⟨nbq rfl, rfl⟩ | refine ⟨by decide, ?_⟩))
  ·conv => whnf
   first | refine oTq (by omega) ?_ | refine oFq (by omega) ?_ | refine oEq (by omega) ?_ | refine oNq (by omega) ?_
   conv => whnf
   first | refine oTq (by omega) ?_ | refine oFq (by omega) ?_ | refine oEq (by omega) ?_ | refine oNq (by omega) ?_
   repeat ((conv => whnf); (first | refine ⟨_, ‹_›, ?_⟩ | refine ⟨nbq rfl, _, ‹_›, ?_⟩ | refine ⟨by kernel_rfl, ?_⟩ | exact rfl | exact ⟨nbq rfl, rfl⟩ | refine ⟨by decide, ?_⟩))
 ·obtain ⟨j, rfl⟩ := Int.eq_ofNat_of_zero_le (show 0 ≤ k by omega)
  rw [getX_in (show j < ns.length by omega)]
  exact RatI_ok sh ch tx ns made j (by omega) hb
theorem rowX_eq (o : Option (Rat × Nat)) : ∃ (k : Nat) (l1 l2 : List (List AV)) (z : Bool) (b : Bool), rowX o = [.sl k l1 z, .val (.bool b), .sl k l2 z] := by
 cases o with
 | none => exact ⟨0, [], [], true, false, rfl⟩
 | some p => exact ⟨1, _, _, false, _, rfl⟩
theorem PickN_ok (sh : List Int) (tx : List Int) (ns : List (Option (Rat × Nat))) (s at_ : List Int) (hv : vS s) (hc : cntI s = (at_.length : Int)) (hb : ns.length ≤ 100000) :
  AC Tryz.prog 108 [AA sh false tx ns true, .sl 1 (irows .i64 s) false, .sl 1 (irows .i64 at_) false] (.pure (.tup [AA s false [] (at_.map (getX ns)) true, .val (.bool true)])) := by
 have l4 : at_.length ≤ 4096 := by have := vS_pr hv; omega
 have hC := Count_ok s (by have := hv.1; omega)
 rw [CNT_good hv, hc] at hC
 have hK := CloneI_ok s (by have := hv.1; omega)
 have la := irows_len .i64 at_
 obtain ⟨Y, hY⟩ : ∃ Y, Y = at_.map (getX ns) := ⟨_, rfl⟩
 have lY : Y.length = at_.length := by rw [hY, List.length_map]
 have hYi : ∀ i (h : i < at_.length), Y[i]'(by omega) = getX ns at_[i] := fun i h => by subst hY; rw [List.getElem_map]
 have hR : ∀ i (h : i < at_.length), AC Tryz.prog 15 [AA sh false tx ns true, .val (.int .i64 at_[i])] (.pure (.agg (rowX (getX ns at_[i])))) := fun i h => RatAny_ok sh false tx ns true _ (by omega)
 rw [← hY]
 refine AC.le_res (?_ : AC Tryz.prog 108 _ (.pure (.tup [.agg [.sl 1 (irows .i64 s) false, .val (.bool false), .sl 0 [] true, .sl 3 (Y.map rowX) false, .val (.bool true)], .val (.bool true)]))) (.tup2 (le_agg5 (.refl _) (.refl _) (le_nil 1) (.refl _) (.refl _)) (.refl _)) (.tup _ (noid2 (AA_noid _ _ _ _ _) (.val _)))
 refine AC.of_body TTok Tryz.func108 rfl (enter_of Tryz.func108 (by kernel_rfl) (by kernel_rfl)) (noid3 (AA_noid _ _ _ _ _) (noid_sl _ _ _) (noid_sl _ _ _)) (.tup _ (noid2 (.agg _ (noid5 (noid_sl _ _ _) (.val _) (.sl _ _ _ (fun r hr => nomatch hr)) (slX_noid _) (.val _))) (.val _))) (nbq rfl) ?_
 unfold AA at hR ⊢
 conv => whnf
 refine ⟨_, hC, ?_⟩
 conv => whnf
 first | refine nTq (by omega) ?_ | refine nFq (by omega) ?_
 conv => whnf
 refine ⟨_, hK, ?_⟩
 conv => whnf
 refine ⟨by kernel_rfl, ?_⟩
 conv => whnf
 refine SW.nilC 184 3 3 rfl rfl ?_
 refine SW.loopM TTok (fun i : Nat => [(3, .lp 0 0), (6, .lp 8 0), (10, .lp 184 0), (32, .sl 1 (irows .i64 at_) false), (33, .val (.int .i64 ((irows .i64 at_).length : Nat))), (34, .val (.int .i64 (i : Int)))])
  (fun i => [(0, .cells 5 [[.sl 1 (irows .i64 sh) false, .val (.bool false), .sl 1 (irows .i32 tx) false, .sl 3 (ns.map rowX) false, .val (.bool true)]]), (8, .cells 5 [[.sl 0 [] true, .val (.bool false), .sl 0 [] true, .sl 0 [] true, .val (.bool false)]]), (184, .cells 5 [[.sl 1 (irows .i64 s) false, .val (.bool false), .sl 0 [] true, .own 224 0 i, .val (.bool true)]]), (224, .cells 3 ((Y.take i).map rowX))]) 232 77 rfl (fun i => at_.length - i) (fun i => i ≤ at_.length) 0 [] (Nat.zero_le _)
  ⟨q2r, q2r, q2r, q2r, q2r, q2r, trivial⟩ ⟨q3r, q3r, q3r, q3r, trivial⟩ rfl ?_
 intro i hJ
 have hi : i ≤ at_.length := hJ
 clear hJ
 have lr : ((Y.take i).map rowX).length = i := by rw [List.length_map, List.length_take]; omega
 by_cases hlt : i < at_.length
 ·have eI : IntKind.i64.wrap ((i : Int) + 1) = ((i + 1 : Nat) : Int) := by rw [IntWalk.i64_in _ (by omega)]; omega
  have hg : (irows .i64 at_)[i]? = some [.val (.int .i64 at_[i])] := irows_get .i64 at_ (List.getElem?_eq_getElem hlt)
  have d2 := hR i hlt
  have hsn : (Y.take i).map rowX ++ [rowX (getX ns at_[i])] = (Y.take (i + 1)).map rowX := by
   rw [take_snoc (show i < Y.length by omega), List.map_append, hYi i hlt]; rfl
  have htk : List.take i (List.drop 0 ((Y.take i).map rowX)) = (Y.take i).map rowX := by rw [List.drop_zero, List.take_of_length_le (by omega)]
  obtain ⟨k, l1, l2, z, b, hrow⟩ := rowX_eq (getX ns at_[i])
  rw [hrow] at d2 hsn
  conv => whnf
  first | refine oTq (by omega) ?_ | refine oFq (by omega) ?_ | refine oEq (by omega) ?_ | refine oNq (by omega) ?_
  conv => whnf
  refine ⟨_, ⟨by omega, by rw [Int.toNat_natCast]; exact hg⟩, ?_⟩
  conv => whnf
  refine ⟨_, d2, ?_⟩
  conv => whnf
  refine ⟨⟨by show 0 + i ≤ _; omega, by show (i + 1) * 56 ≤ 140737488355328; omega, nbq rfl⟩, ?_⟩
  conv => whnf
  refine ⟨by kernel_rfl, ?_⟩
  conv => whnf
  refine ⟨i + 1, [(224, 344)], (by show at_.length - (i + 1) < at_.length - i; omega), hlt, ⟨q2r, q2r, q2r, q2r, q2r, ⟨valI eI, rfl⟩, trivial⟩, ⟨q3r, q3r, q3r, ⟨rfl, .inl ⟨celE ?_, rowsX_noid _⟩⟩, trivial⟩, rfl⟩
  rw [← hsn]
  show List.take i (List.drop 0 ((Y.take i).map rowX)) ++ [_] = _
  rw [htk]
  rfl
 ·have hie : i = at_.length := by omega
  have e1 : Y.take i = Y := List.take_of_length_le (by omega)
  rw [e1] at lr ⊢
  have key : List.take i (List.drop 0 (Y.map rowX)) = Y.map rowX := by rw [List.drop_zero, List.take_of_length_le (by omega)]
  conv => whnf
  first | refine oTq (by omega) ?_ | refine oFq (by omega) ?_ | refine oEq (by omega) ?_ | refine oNq (by omega) ?_
  conv => whnf
  refine ⟨by show 0 + i ≤ _; omega, ?_⟩
  show AV.tup [AV.agg [_, _, _, AV.sl 3 (List.take i (List.drop 0 (Y.map rowX))) false, _], _] = _
  rw [key]
  rfl
theorem PickT_ok (sh : List Int) (tx : List Int) (ns : List (Option (Rat × Nat))) (s at_ : List Int) (hv : vS s) (hc : cntI s = (at_.length : Int)) (hb : tx.length ≤ 100000) :
  AC Tryz.prog 108 [AA sh true tx ns true, .sl 1 (irows .i64 s) false, .sl 1 (irows .i64 at_) false] (.pure (.tup [AA s true (at_.map (getT tx)) [] true, .val (.bool true)])) := by
 have l4 : at_.length ≤ 4096 := by have := vS_pr hv; omega
 have hC := Count_ok s (by have := hv.1; omega)
 rw [CNT_good hv, hc] at hC
 have hK := CloneI_ok s (by have := hv.1; omega)
 have la := irows_len .i64 at_
 have lt := irows_len .i32 tx
 obtain ⟨Y, hY⟩ : ∃ Y, Y = at_.map (getT tx) := ⟨_, rfl⟩
 have lY : Y.length = at_.length := by rw [hY, List.length_map]
 have hYi : ∀ i (h : i < at_.length), Y[i]'(by omega) = getT tx at_[i] := fun i h => by subst hY; rw [List.getElem_map]
 rw [← hY]
 refine AC.le_res (?_ : AC Tryz.prog 108 _ (.pure (.tup [.agg [.sl 1 (irows .i64 s) false, .val (.bool true), .sl 1 (irows .i32 Y) false, .sl 0 [] true, .val (.bool true)], .val (.bool true)]))) (.tup2 (le_agg5 (.refl _) (.refl _) (.refl _) (le_nil 3) (.refl _)) (.refl _)) (.tup _ (noid2 (AA_noid _ _ _ _ _) (.val _)))
 refine AC.of_body TTok Tryz.func108 rfl (enter_of Tryz.func108 (by kernel_rfl) (by kernel_rfl)) (noid3 (AA_noid _ _ _ _ _) (noid_sl _ _ _) (noid_sl _ _ _)) (.tup _ (noid2 (.agg _ (noid5 (noid_sl _ _ _) (.val _) (noid_sl _ _ _) (.sl _ _ _ (fun r hr => nomatch hr)) (.val _))) (.val _))) (nbq rfl) ?_
 unfold AA
 conv => whnf
 refine ⟨_, hC, ?_⟩
 conv => whnf
 first | refine nTq (by omega) ?_ | refine nFq (by omega) ?_
 conv => whnf
 refine ⟨_, hK, ?_⟩
 conv => whnf
 refine ⟨by kernel_rfl, ?_⟩
 conv => whnf
 refine SW.nilC 184 2 1 rfl rfl ?_
 refine SW.loopM TTok (fun i : Nat => [(3, .lp 0 0), (6, .lp 8 0), (10, .lp 184 0), (32, .sl 1 (irows .i64 at_) false), (33, .val (.int .i64 ((irows .i64 at_).length : Nat))), (34, .val (.int .i64 (i : Int)))])
  (fun i => [(0, .cells 5 [[.sl 1 (irows .i64 sh) false, .val (.bool true), .sl 1 (irows .i32 tx) false, .sl 3 (ns.map rowX) false, .val (.bool true)]]), (8, .cells 5 [[.sl 0 [] true, .val (.bool false), .sl 0 [] true, .sl 0 [] true, .val (.bool false)]]), (184, .cells 5 [[.sl 1 (irows .i64 s) false, .val (.bool true), .own 224 0 i, .sl 0 [] true, .val (.bool true)]]), (224, .cells 1 (irows .i32 (Y.take i)))]) 232 77 rfl (fun i => at_.length - i) (fun i => i ≤ at_.length) 0 [] (Nat.zero_le _)
  ⟨q2r, q2r, q2r, q2r, q2r, q2r, trivial⟩ ⟨q3r, q3r, q3r, q3r, trivial⟩ rfl ?_
 intro i hJ
 have hi : i ≤ at_.length := hJ
 clear hJ
 have lr : (irows .i32 (Y.take i)).length = i := by rw [irows_len, List.length_take]; omega
 by_cases hlt : i < at_.length
 ·have eI : IntKind.i64.wrap ((i : Int) + 1) = ((i + 1 : Nat) : Int) := by rw [IntWalk.i64_in _ (by omega)]; omega
  have hg : (irows .i64 at_)[i]? = some [.val (.int .i64 at_[i])] := irows_get .i64 at_ (List.getElem?_eq_getElem hlt)
  have hsn : irows .i32 (Y.take i) ++ irows .i32 [getT tx at_[i]] = irows .i32 (Y.take (i + 1)) := by
   rw [take_snoc (show i < Y.length by omega), hYi i hlt, irows_append]
  have htk : List.take i (List.drop 0 (irows .i32 (Y.take i))) = irows .i32 (Y.take i) := by rw [List.drop_zero, List.take_of_length_le (by omega)]
  obtain ⟨k, hk⟩ : ∃ k, k = at_[i] := ⟨_, rfl⟩
  rw [← hk] at hg hsn
  by_cases h0 : k < 0
  ·rw [getT_out (.inl h0)] at hsn
   conv => whnf
   first | refine oTq (by omega) ?_ | refine oFq (by omega) ?_ | refine oEq (by omega) ?_ | refine oNq (by omega) ?_
   conv => whnf
   refine ⟨_, ⟨by omega, by rw [Int.toNat_natCast]; exact hg⟩, ?_⟩
   conv => whnf
   first | refine oTq (by omega) ?_ | refine oFq (by omega) ?_ | refine oEq (by omega) ?_ | refine oNq (by omega) ?_
   conv => whnf
   refine ⟨⟨by show 0 + i ≤ _; omega, by show (i + 1) * 4 ≤ 140737488355328; omega, nbq rfl⟩, ?_⟩
   conv => whnf
   refine ⟨i + 1, [(224, 400)], (by show at_.length - (i + 1) < at_.length - i; omega), hlt, ⟨q2r, q2r, q2r, q2r, q2r, ⟨valI eI, rfl⟩, trivial⟩, ⟨q3r, q3r, q3r, ⟨rfl, .inl ⟨celE ?_, irows_noid _ _⟩⟩, trivial⟩, rfl⟩
   rw [← hsn]
   show List.take i (List.drop 0 (irows .i32 (Y.take i))) ++ [_] = _
   rw [htk]; rfl
  ·by_cases h1 : (tx.length : Int) ≤ k
   ·rw [getT_out (.inr h1)] at hsn
    conv => whnf
    first | refine oTq (by omega) ?_ | refine oFq (by omega) ?_ | refine oEq (by omega) ?_ | refine oNq (by omega) ?_
    conv => whnf
    refine ⟨_, ⟨by omega, by rw [Int.toNat_natCast]; exact hg⟩, ?_⟩
    conv => whnf
    first | refine oTq (by omega) ?_ | refine oFq (by omega) ?_ | refine oEq (by omega) ?_ | refine oNq (by omega) ?_
    conv => whnf
    first | refine oTq (by omega) ?_ | refine oFq (by omega) ?_ | refine oEq (by omega) ?_ | refine oNq (by omega) ?_
    conv => whnf
    refine ⟨⟨by show 0 + i ≤ _; omega, by show (i + 1) * 4 ≤ 140737488355328; omega, nbq rfl⟩, ?_⟩
    conv => whnf
    refine ⟨i + 1, [(224, 400)], (by show at_.length - (i + 1) < at_.length - i; omega), hlt, ⟨q2r, q2r, q2r, q2r, q2r, ⟨valI eI, rfl⟩, trivial⟩, ⟨q3r, q3r, q3r, ⟨rfl, .inl ⟨celE ?_, irows_noid _ _⟩⟩, trivial⟩, rfl⟩
    rw [← hsn]
    show List.take i (List.drop 0 (irows .i32 (Y.take i))) ++ [_] = _
    rw [htk]; rfl
   ·obtain ⟨j, rfl⟩ := Int.eq_ofNat_of_zero_le (show 0 ≤ k by omega)
    rw [getT_in (show j < tx.length by omega)] at hsn
    have hg2 : (irows .i32 tx)[j]? = some [.val (.int .i32 tx[j])] := irows_get .i32 tx (List.getElem?_eq_getElem (by omega))
    conv => whnf
    first | refine oTq (by omega) ?_ | refine oFq (by omega) ?_ | refine oEq (by omega) ?_ | refine oNq (by omega) ?_
    conv => whnf
    refine ⟨_, ⟨by omega, by rw [Int.toNat_natCast]; exact hg⟩, ?_⟩
    conv => whnf
    first | refine oTq (by omega) ?_ | refine oFq (by omega) ?_ | refine oEq (by omega) ?_ | refine oNq (by omega) ?_
    conv => whnf
    refine ⟨_, ⟨by omega, by rw [Int.toNat_natCast]; exact hg2⟩, ?_⟩
    conv => whnf
    refine ⟨⟨by show 0 + i ≤ _; omega, by show (i + 1) * 4 ≤ 140737488355328; omega, nbq rfl⟩, ?_⟩
    conv => whnf
    refine ⟨by kernel_rfl, ?_⟩
    conv => whnf
    refine ⟨i + 1, [(224, 440)], (by show at_.length - (i + 1) < at_.length - i; omega), hlt, ⟨q2r, q2r, q2r, q2r, q2r, ⟨valI eI, rfl⟩, trivial⟩, ⟨q3r, q3r, q3r, ⟨rfl, .inl ⟨celE ?_, irows_noid _ _⟩⟩, trivial⟩, rfl⟩
    rw [← hsn]
    show List.take i (List.drop 0 (irows .i32 (Y.take i))) ++ [_] = _
    rw [htk]; rfl
 ·have hie : i = at_.length := by omega
  have e1 : Y.take i = Y := List.take_of_length_le (by omega)
  rw [e1] at lr ⊢
  have key : List.take i (List.drop 0 (irows .i32 Y)) = irows .i32 Y := by rw [List.drop_zero, List.take_of_length_le (by omega)]
  conv => whnf
  first | refine oTq (by omega) ?_ | refine oFq (by omega) ?_ | refine oEq (by omega) ?_ | refine oNq (by omega) ?_
  conv => whnf
  refine ⟨by show 0 + i ≤ _; omega, ?_⟩
  show AV.tup [AV.agg [_, _, AV.sl 1 (List.take i (List.drop 0 (irows .i32 Y))) false, _, _], _] = _
  rw [key]
  rfl
end
section
theorem RPickN_ok (sh : List Int) (qs : List Rat) (s at_ : List Int) (hs : s.length ≤ 1000) (ha : at_.length ≤ 5000) (hb : qs.length ≤ 100000) :
  AC Tryz.prog 82 [PA sh false [] qs, .sl 1 (irows .i64 s) false, .sl 1 (irows .i64 at_) false] (.pure (PA s false [] (at_.map (getQ qs)))) := by
 have hL := RLen_ok sh false [] qs (by decide) (by omega)
 have hZ := SZero_ok
 have la := irows_len .i64 at_
 have lq : (qs.map rowN).length = qs.length := List.length_map _
 obtain ⟨Y, hY⟩ : ∃ Y, Y = at_.map (getQ qs) := ⟨_, rfl⟩
 have lY : Y.length = at_.length := by rw [hY, List.length_map]
 have hYi : ∀ i (h : i < at_.length), Y[i]'(by omega) = getQ qs at_[i] := fun i h => by subst hY; rw [List.getElem_map]
 rw [← hY]
 refine AC.le_res (?_ : AC Tryz.prog 82 _ (.pure (.agg [.sl 1 (irows .i64 s) false, .val (.bool false), .sl 0 [] true, .sl 3 (Y.map rowN) false]))) (le_agg4 (.refl _) (.refl _) (le_nil 1) (.refl _)) (PA_noid _ _ _ _)
 refine AC.of_body TTok Tryz.func82 rfl (enter_of Tryz.func82 (by kernel_rfl) (by kernel_rfl)) (noid3 (PA_noid _ _ _ _) (noid_sl _ _ _) (noid_sl _ _ _)) (.agg _ (noidF (noid_sl _ _ _) (.val _) (.sl _ _ _ (fun r hr => nomatch hr)) (slN_noid _))) (nbq rfl) ?_
 unfold PA at hL ⊢
 unfold RN at hZ
 conv => whnf
 refine SW.nilC 48 3 3 rfl rfl ?_
 refine SW.loopM TTok (fun i : Nat => [(2, .sl 1 (irows .i64 at_) false), (3, .lp 0 0), (6, .lp 8 0), (7, .lp 48 0), (8, .val (.int .i64 (i : Int)))])
  (fun i => [(0, .cells 4 [[.sl 1 (irows .i64 sh) false, .val (.bool false), .sl 1 (irows .i32 []) false, .sl 3 (qs.map rowN) false]]), (8, .cells 4 [[.sl 0 [] true, .val (.bool false), .sl 0 [] true, .sl 0 [] true]]), (48, .cells 4 [[.sl 1 (irows .i64 s) false, .val (.bool false), .sl 0 [] true, .own 72 0 i]]), (72, .cells 3 ((Y.take i).map rowN))]) 80 73 rfl (fun i => at_.length - i) (fun i => i ≤ at_.length) 0 [] (Nat.zero_le _)
  ⟨q2r, q2r, q2r, q2r, q2r, trivial⟩ ⟨q3r, q3r, q3r, q3r, trivial⟩ rfl ?_
 intro i hJ
 have hi : i ≤ at_.length := hJ
 clear hJ
 have lr : ((Y.take i).map rowN).length = i := by rw [List.length_map, List.length_take]; omega
 have h0len : ([] : List Int).length = 0 := rfl
 by_cases hlt : i < at_.length
 ·have eI : IntKind.i64.wrap ((i : Int) + 1) = ((i + 1 : Nat) : Int) := by rw [IntWalk.i64_in _ (by omega)]; omega
  have hg : (irows .i64 at_)[i]? = some [.val (.int .i64 at_[i])] := irows_get .i64 at_ (List.getElem?_eq_getElem hlt)
  have hsn : (Y.take i).map rowN ++ [rowN (getQ qs at_[i])] = (Y.take (i + 1)).map rowN := by
   rw [take_snoc (show i < Y.length by omega), List.map_append, hYi i hlt]; rfl
  have htk : List.take i (List.drop 0 ((Y.take i).map rowN)) = (Y.take i).map rowN := by rw [List.drop_zero, List.take_of_length_le (by omega)]
  obtain ⟨k, hk⟩ : ∃ k, k = at_[i] := ⟨_, rfl⟩
  rw [← hk] at hg hsn
  by_cases h0 : k < 0
  ·rw [getQ_out (.inl h0)] at hsn
   conv => whnf
   first | refine oTq (by omega) ?_ | refine oFq (by omega) ?_ | refine oEq (by omega) ?_ | refine oNq (by omega) ?_
   conv => whnf
   refine ⟨_, ⟨by omega, by rw [Int.toNat_natCast]; exact hg⟩, ?_⟩
   conv => whnf
   first | refine oTq (by omega) ?_ | refine oFq (by omega) ?_ | refine oEq (by omega) ?_ | refine oNq (by omega) ?_
   conv => whnf
   refine ⟨_, hZ, ?_⟩
   conv => whnf
   refine ⟨⟨by show 0 + i ≤ _; omega, by show (i + 1) * 40 ≤ 140737488355328; omega, nbq rfl⟩, ?_⟩
   conv => whnf
   refine ⟨by kernel_rfl, ?_⟩
   conv => whnf
   refine ⟨i + 1, [(72, 320)], (by show at_.length - (i + 1) < at_.length - i; omega), hlt, ⟨q2r, q2r, q2r, q2r, ⟨valI eI, rfl⟩, trivial⟩, ⟨q3r, q3r, q3r, ⟨rfl, .inl ⟨celE ?_, rowsN_noid _⟩⟩, trivial⟩, rfl⟩
   rw [← hsn]
   show List.take i (List.drop 0 ((Y.take i).map rowN)) ++ [_] = _
   rw [htk]; rfl
  ·by_cases h1 : (qs.length : Int) ≤ k
   ·rw [getQ_out (.inr h1)] at hsn
    conv => whnf
    first | refine oTq (by omega) ?_ | refine oFq (by omega) ?_ | refine oEq (by omega) ?_ | refine oNq (by omega) ?_
    conv => whnf
    refine ⟨_, ⟨by omega, by rw [Int.toNat_natCast]; exact hg⟩, ?_⟩
    conv => whnf
    first | refine oTq (by omega) ?_ | refine oFq (by omega) ?_ | refine oEq (by omega) ?_ | refine oNq (by omega) ?_
    conv => whnf
    refine ⟨_, hL, ?_⟩
    conv => whnf
    first | refine oTq (by omega) ?_ | refine oFq (by omega) ?_ | refine oEq (by omega) ?_ | refine oNq (by omega) ?_
    conv => whnf
    refine ⟨_, hZ, ?_⟩
    conv => whnf
    refine ⟨⟨by show 0 + i ≤ _; omega, by show (i + 1) * 40 ≤ 140737488355328; omega, nbq rfl⟩, ?_⟩
    conv => whnf
    refine ⟨by kernel_rfl, ?_⟩
    conv => whnf
    refine ⟨i + 1, [(72, 320)], (by show at_.length - (i + 1) < at_.length - i; omega), hlt, ⟨q2r, q2r, q2r, q2r, ⟨valI eI, rfl⟩, trivial⟩, ⟨q3r, q3r, q3r, ⟨rfl, .inl ⟨celE ?_, rowsN_noid _⟩⟩, trivial⟩, rfl⟩
    rw [← hsn]
    show List.take i (List.drop 0 ((Y.take i).map rowN)) ++ [_] = _
    rw [htk]; rfl
   ·obtain ⟨j, rfl⟩ := Int.eq_ofNat_of_zero_le (show 0 ≤ k by omega)
    rw [getQ_in (show j < qs.length by omega)] at hsn
    have hg2 : (qs.map rowN)[j]? = some [.val (.bool (decide (qs[j].num < 0))), .val (.string (decS qs[j].num.natAbs)), .val (.string (decS qs[j].den))] := by rw [List.getElem?_map, List.getElem?_eq_getElem (show j < qs.length by omega)]; rfl
    conv => whnf
    first | refine oTq (by omega) ?_ | refine oFq (by omega) ?_ | refine oEq (by omega) ?_ | refine oNq (by omega) ?_
    conv => whnf
    refine ⟨_, ⟨by omega, by rw [Int.toNat_natCast]; exact hg⟩, ?_⟩
    conv => whnf
    refine ⟨_, hL, ?_⟩
    conv => whnf
    first | refine oTq (by omega) ?_ | refine oFq (by omega) ?_ | refine oEq (by omega) ?_ | refine oNq (by omega) ?_
    conv => whnf
    refine ⟨_, ⟨by omega, by rw [Int.toNat_natCast]; exact hg2⟩, ?_⟩
    conv => whnf
    refine ⟨⟨by show 0 + i ≤ _; omega, by show (i + 1) * 40 ≤ 140737488355328; omega, nbq rfl⟩, ?_⟩
    conv => whnf
    refine ⟨by kernel_rfl, ?_⟩
    conv => whnf
    refine ⟨i + 1, [(72, 352)], (by show at_.length - (i + 1) < at_.length - i; omega), hlt, ⟨q2r, q2r, q2r, q2r, ⟨valI eI, rfl⟩, trivial⟩, ⟨q3r, q3r, q3r, ⟨rfl, .inl ⟨celE ?_, rowsN_noid _⟩⟩, trivial⟩, rfl⟩
    rw [← hsn]
    show List.take i (List.drop 0 ((Y.take i).map rowN)) ++ [_] = _
    rw [htk]; rfl
 ·have hie : i = at_.length := by omega
  have e1 : Y.take i = Y := List.take_of_length_le (by omega)
  rw [e1] at lr ⊢
  have key : List.take i (List.drop 0 (Y.map rowN)) = Y.map rowN := by rw [List.drop_zero, List.take_of_length_le (by omega)]
  conv => whnf
  first | refine oTq (by omega) ?_ | refine oFq (by omega) ?_ | refine oEq (by omega) ?_ | refine oNq (by omega) ?_
  conv => whnf
  refine ⟨by show 0 + i ≤ _; omega, ?_⟩
  show AV.agg [_, _, _, AV.sl 3 (List.take i (List.drop 0 (Y.map rowN))) false] = _
  rw [key]
theorem RPickT_ok (sh : List Int) (tx : List Int) (s at_ : List Int) (hs : s.length ≤ 1000) (ha : at_.length ≤ 5000) (hb : tx.length ≤ 100000) :
  AC Tryz.prog 82 [PA sh true tx [], .sl 1 (irows .i64 s) false, .sl 1 (irows .i64 at_) false] (.pure (PA s true (at_.map (getT tx)) [])) := by
 have hL := RLen_ok sh true tx [] (by omega) (by decide)
 have la := irows_len .i64 at_
 have lt := irows_len .i32 tx
 obtain ⟨Y, hY⟩ : ∃ Y, Y = at_.map (getT tx) := ⟨_, rfl⟩
 have lY : Y.length = at_.length := by rw [hY, List.length_map]
 have hYi : ∀ i (h : i < at_.length), Y[i]'(by omega) = getT tx at_[i] := fun i h => by subst hY; rw [List.getElem_map]
 rw [← hY]
 refine AC.le_res (?_ : AC Tryz.prog 82 _ (.pure (.agg [.sl 1 (irows .i64 s) false, .val (.bool true), .sl 1 (irows .i32 Y) false, .sl 0 [] true]))) (le_agg4 (.refl _) (.refl _) (.refl _) (le_nil 3)) (PA_noid _ _ _ _)
 refine AC.of_body TTok Tryz.func82 rfl (enter_of Tryz.func82 (by kernel_rfl) (by kernel_rfl)) (noid3 (PA_noid _ _ _ _) (noid_sl _ _ _) (noid_sl _ _ _)) (.agg _ (noidF (noid_sl _ _ _) (.val _) (noid_sl _ _ _) (.sl _ _ _ (fun r hr => nomatch hr)))) (nbq rfl) ?_
 unfold PA at hL ⊢
 conv => whnf
 refine SW.nilC 48 2 1 rfl rfl ?_
 refine SW.loopM TTok (fun i : Nat => [(2, .sl 1 (irows .i64 at_) false), (3, .lp 0 0), (6, .lp 8 0), (7, .lp 48 0), (8, .val (.int .i64 (i : Int)))])
  (fun i => [(0, .cells 4 [[.sl 1 (irows .i64 sh) false, .val (.bool true), .sl 1 (irows .i32 tx) false, .sl 3 (([] : List Rat).map rowN) false]]), (8, .cells 4 [[.sl 0 [] true, .val (.bool false), .sl 0 [] true, .sl 0 [] true]]), (48, .cells 4 [[.sl 1 (irows .i64 s) false, .val (.bool true), .own 72 0 i, .sl 0 [] true]]), (72, .cells 1 (irows .i32 (Y.take i)))]) 80 73 rfl (fun i => at_.length - i) (fun i => i ≤ at_.length) 0 [] (Nat.zero_le _)
  ⟨q2r, q2r, q2r, q2r, q2r, trivial⟩ ⟨q3r, q3r, q3r, q3r, trivial⟩ rfl ?_
 intro i hJ
 have hi : i ≤ at_.length := hJ
 clear hJ
 have lr : (irows .i32 (Y.take i)).length = i := by rw [irows_len, List.length_take]; omega
 have h0len : ([] : List Rat).length = 0 := rfl
 by_cases hlt : i < at_.length
 ·have eI : IntKind.i64.wrap ((i : Int) + 1) = ((i + 1 : Nat) : Int) := by rw [IntWalk.i64_in _ (by omega)]; omega
  have hg : (irows .i64 at_)[i]? = some [.val (.int .i64 at_[i])] := irows_get .i64 at_ (List.getElem?_eq_getElem hlt)
  have hsn : irows .i32 (Y.take i) ++ irows .i32 [getT tx at_[i]] = irows .i32 (Y.take (i + 1)) := by
   rw [take_snoc (show i < Y.length by omega), hYi i hlt, irows_append]
  have htk : List.take i (List.drop 0 (irows .i32 (Y.take i))) = irows .i32 (Y.take i) := by rw [List.drop_zero, List.take_of_length_le (by omega)]
  obtain ⟨k, hk⟩ : ∃ k, k = at_[i] := ⟨_, rfl⟩
  rw [← hk] at hg hsn
  by_cases h0 : k < 0
  ·rw [getT_out (.inl h0)] at hsn
   conv => whnf
   first | refine oTq (by omega) ?_ | refine oFq (by omega) ?_ | refine oEq (by omega) ?_ | refine oNq (by omega) ?_
   conv => whnf
   refine ⟨_, ⟨by omega, by rw [Int.toNat_natCast]; exact hg⟩, ?_⟩
   conv => whnf
   first | refine oTq (by omega) ?_ | refine oFq (by omega) ?_ | refine oEq (by omega) ?_ | refine oNq (by omega) ?_
   conv => whnf
   refine ⟨⟨by show 0 + i ≤ _; omega, by show (i + 1) * 4 ≤ 140737488355328; omega, nbq rfl⟩, ?_⟩
   conv => whnf
   refine ⟨i + 1, [(72, 304)], (by show at_.length - (i + 1) < at_.length - i; omega), hlt, ⟨q2r, q2r, q2r, q2r, ⟨valI eI, rfl⟩, trivial⟩, ⟨q3r, q3r, q3r, ⟨rfl, .inl ⟨celE ?_, irows_noid _ _⟩⟩, trivial⟩, rfl⟩
   rw [← hsn]
   show List.take i (List.drop 0 (irows .i32 (Y.take i))) ++ [_] = _
   rw [htk]; rfl
  ·by_cases h1 : (tx.length : Int) ≤ k
   ·rw [getT_out (.inr h1)] at hsn
    conv => whnf
    first | refine oTq (by omega) ?_ | refine oFq (by omega) ?_ | refine oEq (by omega) ?_ | refine oNq (by omega) ?_
    conv => whnf
    refine ⟨_, ⟨by omega, by rw [Int.toNat_natCast]; exact hg⟩, ?_⟩
    conv => whnf
    first | refine oTq (by omega) ?_ | refine oFq (by omega) ?_ | refine oEq (by omega) ?_ | refine oNq (by omega) ?_
    conv => whnf
    refine ⟨_, hL, ?_⟩
    conv => whnf
    first | refine oTq (by omega) ?_ | refine oFq (by omega) ?_ | refine oEq (by omega) ?_ | refine oNq (by omega) ?_
    conv => whnf
    refine ⟨⟨by show 0 + i ≤ _; omega, by show (i + 1) * 4 ≤ 140737488355328; omega, nbq rfl⟩, ?_⟩
    conv => whnf
    refine ⟨i + 1, [(72, 304)], (by show at_.length - (i + 1) < at_.length - i; omega), hlt, ⟨q2r, q2r, q2r, q2r, ⟨valI eI, rfl⟩, trivial⟩, ⟨q3r, q3r, q3r, ⟨rfl, .inl ⟨celE ?_, irows_noid _ _⟩⟩, trivial⟩, rfl⟩
    rw [← hsn]
    show List.take i (List.drop 0 (irows .i32 (Y.take i))) ++ [_] = _
    rw [htk]; rfl
   ·obtain ⟨j, rfl⟩ := Int.eq_ofNat_of_zero_le (show 0 ≤ k by omega)
    rw [getT_in (show j < tx.length by omega)] at hsn
    have hg2 : (irows .i32 tx)[j]? = some [.val (.int .i32 tx[j])] := irows_get .i32 tx (List.getElem?_eq_getElem (by omega))
    conv => whnf
    first | refine oTq (by omega) ?_ | refine oFq (by omega) ?_ | refine oEq (by omega) ?_ | refine oNq (by omega) ?_
    conv => whnf
    refine ⟨_, ⟨by omega, by rw [Int.toNat_natCast]; exact hg⟩, ?_⟩
    conv => whnf
    refine ⟨_, hL, ?_⟩
    conv => whnf
    first | refine oTq (by omega) ?_ | refine oFq (by omega) ?_ | refine oEq (by omega) ?_ | refine oNq (by omega) ?_
    conv => whnf
    refine ⟨_, ⟨by omega, by rw [Int.toNat_natCast]; exact hg2⟩, ?_⟩
    conv => whnf
    refine ⟨⟨by show 0 + i ≤ _; omega, by show (i + 1) * 4 ≤ 140737488355328; omega, nbq rfl⟩, ?_⟩
    conv => whnf
    refine ⟨by kernel_rfl, ?_⟩
    conv => whnf
    refine ⟨i + 1, [(72, 328)], (by show at_.length - (i + 1) < at_.length - i; omega), hlt, ⟨q2r, q2r, q2r, q2r, ⟨valI eI, rfl⟩, trivial⟩, ⟨q3r, q3r, q3r, ⟨rfl, .inl ⟨celE ?_, irows_noid _ _⟩⟩, trivial⟩, rfl⟩
    rw [← hsn]
    show List.take i (List.drop 0 (irows .i32 (Y.take i))) ++ [_] = _
    rw [htk]; rfl
 ·have hie : i = at_.length := by omega
  have e1 : Y.take i = Y := List.take_of_length_le (by omega)
  rw [e1] at lr ⊢
  have key : List.take i (List.drop 0 (irows .i32 Y)) = irows .i32 Y := by rw [List.drop_zero, List.take_of_length_le (by omega)]
  conv => whnf
  first | refine oTq (by omega) ?_ | refine oFq (by omega) ?_ | refine oEq (by omega) ?_ | refine oNq (by omega) ?_
  conv => whnf
  refine ⟨by show 0 + i ≤ _; omega, ?_⟩
  show AV.agg [_, _, AV.sl 1 (List.take i (List.drop 0 (irows .i32 Y))) false, _] = _
  rw [key]
end
section
def fitJ (sh s : List Int) (k : Nat) : List Int × Bool × Int :=
 if sh = [] then (s.set k 1, true, 0)
 else if (if sh.length + 1 = s.length then sh.take k ++ 1 :: sh.drop k else sh).length ≠ s.length then ([], false, 23)
 else if (if sh.length + 1 = s.length then sh.take k ++ 1 :: sh.drop k else sh).take k ++ (if sh.length + 1 = s.length then sh.take k ++ 1 :: sh.drop k else sh).drop (k + 1) ≠ s.take k ++ s.drop (k + 1) then ([], false, 24)
 else ((if sh.length + 1 = s.length then sh.take k ++ 1 :: sh.drop k else sh), false, 0)
def atJ (n m I la : Nat) (one two : Bool) (i : Nat) : Int :=
 if i / I % (n + m) < n then (if one then 0 else ((((i / I / (n + m)) * n + i / I % (n + m)) * I + i % I : Nat) : Int))
 else (if two then (la : Int) else ((la + ((i / I / (n + m)) * m + (i / I % (n + m) - n)) * I + i % I : Nat) : Int))
def docJ (n : Nat) (x y : List Int) (la : Nat) (one two : Bool) (k : Nat) (idx : List Int) : Int :=
 if idx.getD k 0 < (n : Int) then (if one then 0 else plS 0 x idx) else (la : Int) + (if two then 0 else plS 0 y (idx.set k (idx.getD k 0 - (n : Int))))
end
section
theorem CloneQ_freshA (l : List (Option (Rat × Nat))) (hb : l.length ≤ 1000000) : AC Tryz.prog 44 [.sl 3 (l.map rowX) false] (.fresh 3 (l.map rowX)) := by
 by_cases hne : l = []
 ·subst hne
  refine AC.of_sw TTok Tryz.func44 rfl (enter_of Tryz.func44 (by kernel_rfl) (by kernel_rfl)) (noid1 (slX_noid _)) (rowsX_noid _) (nbq rfl) ?_
  refine SW.seqA TTok ?_
  conv => whnf
  refine SW.seq (SW.seq ?_)
  refine SW.regionNil (sz := 3) (rows := ([] : List (Option (Rat × Nat))).map rowX) (tight := false) TTok _ rfl rfl rfl rfl (show Tryz.prog.underlying 30 = some (.slice 45) by kernel_rfl) ?_
  conv => whnf
  refine ⟨rfl, rfl, by decide, fun bv hbv => ?_⟩
  conv => whnf
  cases bv with
  | true =>
   refine SW.cond (t := true) rfl (fun _ => ?_) (fun h => Bool.noConfusion h)
   refine SW.seqA TTok ?_
   conv => whnf
   refine SW.nil 2 3 rfl ?_
   refine SW.ret ?_
   exact ⟨rfl, Nat.le_refl _, rfl⟩
  | false =>
   refine SW.cond (t := false) rfl (fun h => Bool.noConfusion h) (fun _ => ?_)
   refine axp_sound TTok _ _ _ ?_
   conv => whnf
   refine axp_sound TTok _ _ _ ?_
   conv => whnf
   refine ⟨⟨Nat.le_refl _, by show 0 * 56 ≤ 140737488355328; decide⟩, ?_⟩
   conv => whnf
   exact ⟨rfl, Nat.le_refl _, rfl⟩
 ·exact CloneQ_fresh l hne hb
section
variable (sh : List Int) (ch : Bool) (tx : List Int) (ns : List (Option (Rat × Nat)))
end
theorem vS_single (n : Nat) (h : n ≤ 4096) : vS [(n : Int)] ∧ cntI [(n : Int)] = (n : Int) := by
 have hv : vS [(n : Int)] := ⟨by show 1 ≤ 8; omega, fun d hd => by rw [List.mem_singleton.1 hd]; omega, by show 1 * max 1 (n : Int) ≤ 4096; omega⟩
 refine ⟨hv, ?_⟩
 rw [cnt_pr hv.2.1]
 show (((n : Int).toNat * 1 : Nat) : Int) = _
 omega
end
section
abbrev El := Bool × Int × Rat
def numE (q : Rat) : El := (false, 0, q)
def pairE (c most : Int) (x y : El) : Rat × Int := pairV c x.1 y.1 x.2.1 y.2.1 x.2.2 y.2.2 most
def foldE (c most : Int) : List El → El × Int
 | [] => (numE 0, 0)
 | x :: l => match l with
  | [] => (x, 0)
  | _ :: _ => if (foldE c most l).2 ≠ 0 then (numE 0, (foldE c most l).2)
   else if (pairE c most x (foldE c most l).1).2 ≠ 0 then (numE 0, (pairE c most x (foldE c most l).1).2) else (numE (pairE c most x (foldE c most l).1).1, 0)
theorem foldE_one (c most : Int) (x : El) : foldE c most [x] = (x, 0) := by unfold foldE; rfl
theorem foldE_cons (c most : Int) (x : El) {l : List El} (hl : l ≠ []) : foldE c most (x :: l) = if (foldE c most l).2 ≠ 0 then (numE 0, (foldE c most l).2)
   else if (pairE c most x (foldE c most l).1).2 ≠ 0 then (numE 0, (pairE c most x (foldE c most l).1).2) else (numE (pairE c most x (foldE c most l).1).1, 0) := by
 cases l with
 | nil => exact absurd rfl hl
 | cons y l => rw [foldE]
def elA (c : Bool) (tx : List Int) (qs : List Rat) (i : Nat) : El := (c, tx.getD i 0, qs.getD i 0)
def lineE (c : Bool) (tx : List Int) (qs : List Rat) (t n I r : Nat) : List El := (List.range t).map fun i => elA c tx qs ((r / I * n + i) * I + r % I)
theorem lineE_len (c : Bool) (tx : List Int) (qs : List Rat) (t n I r : Nat) : (lineE c tx qs t n I r).length = t := by unfold lineE; rw [List.length_map, List.length_range]
def fst0 : List Int → Int
 | [] => 0
 | e :: l => if e ≠ 0 then e else fst0 l
def rowsE (c most : Int) (L : List (List El)) (i : Nat) : Int := fst0 (L.map fun l => (foldE c most (l.drop i)).2)
def redE (c most : Int) (L : List (List El)) (n : Nat) : Int := fst0 ((List.range (n - 1)).reverse.map (rowsE c most L))
theorem fst0_zero {l : List Int} (h : fst0 l = 0) : ∀ e ∈ l, e = 0 := by
 induction l with
 | nil => intro e he; exact nomatch he
 | cons a l ih =>
  unfold fst0 at h
  by_cases ha : a ≠ 0
  ·rw [if_pos ha] at h; exact absurd h ha
  ·rw [if_neg ha] at h
   intro e he
   rcases List.mem_cons.1 he with rfl | he
   ·exact Decidable.byContradiction ha
   ·exact ih h e he
theorem fst0_of {l : List Int} (h : ∀ e ∈ l, e = 0) : fst0 l = 0 := by
 induction l with
 | nil => rfl
 | cons a l ih =>
  unfold fst0
  rw [if_neg (fun ha => ha (h a List.mem_cons_self))]
  exact ih fun e he => h e (List.mem_cons_of_mem _ he)
theorem fst0_at {l : List Int} {i : Nat} (hi : i < l.length) (hz : ∀ e ∈ l.take i, e = 0) (hne : l[i] ≠ 0) : fst0 l = l[i] := by
 induction l generalizing i with
 | nil => exact absurd hi (Nat.not_lt_zero _)
 | cons a l ih =>
  unfold fst0
  cases i with
  | zero => rw [if_pos (by exact hne)]; rfl
  | succ i =>
   have ha : a = 0 := hz a (by simp)
   rw [if_neg (fun h => h ha)]
   exact ih (by simpa using hi) (fun e he => hz e (by simp [he])) (by simpa using hne)
def unitQ (c : Int) : Option Int :=
 if c = 43 ∨ c = 45 ∨ c = 124 ∨ c = 60 ∨ c = 62 ∨ c = 8800 ∨ c = 8744 then some 0
 else if c = 215 ∨ c = 247 ∨ c = 42 ∨ c = 33 ∨ c = 8804 ∨ c = 61 ∨ c = 8805 ∨ c = 8743 then some 1 else none
theorem redE_from (c most : Int) (L : List (List El)) (n i : Nat) (hi : i + 1 < n) (hz : ∀ j, i < j → j < n → rowsE c most L j = 0) (hne : rowsE c most L i ≠ 0) : redE c most L n = rowsE c most L i := by
 have key : (List.range (n - 1)).reverse[n - 2 - i]? = some i := by
  rw [List.getElem?_reverse (by rw [List.length_range]; omega), List.length_range, List.getElem?_range (by omega)]
  congr 1; omega
 have hlen : n - 2 - i < ((List.range (n - 1)).reverse.map (rowsE c most L)).length := by rw [List.length_map, List.length_reverse, List.length_range]; omega
 have hat : ((List.range (n - 1)).reverse.map (rowsE c most L))[n - 2 - i] = rowsE c most L i := by
  have : ((List.range (n - 1)).reverse.map (rowsE c most L))[n - 2 - i]? = some (rowsE c most L i) := by rw [List.getElem?_map, key]; rfl
  rw [List.getElem?_eq_getElem hlen] at this
  exact Option.some.inj this
 unfold redE
 rw [fst0_at hlen (fun e he => ?_) (by rw [hat]; exact hne), hat]
 rw [← List.map_take] at he
 obtain ⟨j, hj, rfl⟩ := List.mem_map.1 he
 obtain ⟨k, hk, hkj⟩ := List.getElem_of_mem hj
 rw [List.length_take, List.length_reverse, List.length_range] at hk
 rw [List.getElem_take, List.getElem_reverse, List.getElem_range, List.length_range] at hkj
 exact hz j (by omega) (by omega)
theorem redE_zero (c most : Int) (L : List (List El)) (n : Nat) (hz : ∀ j, j + 1 < n → rowsE c most L j = 0) : redE c most L n = 0 := by
 refine fst0_of fun e he => ?_
 obtain ⟨j, hj, rfl⟩ := List.mem_map.1 he
 have := List.mem_range.1 (List.mem_reverse.1 hj)
 exact hz j (by omega)
theorem firstE_fst0 (l : List (Rat × Int)) : firstE l = fst0 (l.map (·.2)) := by
 induction l with
 | nil => rfl
 | cons x l ih =>
  show (if x.2 = 0 then firstE l else x.2) = (if x.2 ≠ 0 then x.2 else fst0 (l.map (·.2)))
  by_cases h : x.2 = 0
  ·rw [if_pos h, if_neg (fun h' => h' h), ih]
  ·rw [if_neg h, if_pos h]
theorem lineE_drop (c : Bool) (tx : List Int) (qs : List Rat) (t n I r i : Nat) (hi : i < t) : (lineE c tx qs t n I r).drop i = elA c tx qs ((r / I * n + i) * I + r % I) :: (lineE c tx qs t n I r).drop (i + 1) := by
 have hlen : i < (lineE c tx qs t n I r).length := by rw [lineE_len]; exact hi
 rw [List.drop_eq_getElem_cons hlen]
 congr 1
 have h : (lineE c tx qs t n I r)[i]? = some (elA c tx qs ((r / I * n + i) * I + r % I)) := by
  unfold lineE
  rw [List.getElem?_map, List.getElem?_range hi]; rfl
 rw [List.getElem?_eq_getElem hlen] at h
 exact Option.some.inj h
theorem lineE_last (c most : Int) (ch : Bool) (tx : List Int) (qs : List Rat) (t n I r : Nat) (hn : 0 < t) : foldE c most ((lineE ch tx qs t n I r).drop (t - 1)) = (elA ch tx qs ((r / I * n + (t - 1)) * I + r % I), 0) := by
 rw [lineE_drop _ _ _ _ _ _ _ _ (by omega), show (lineE ch tx qs t n I r).drop (t - 1 + 1) = [] from List.drop_of_length_le (by rw [lineE_len]; omega), foldE_one]
theorem drop_ne {α : Type} {l : List α} {i : Nat} (h : i < l.length) : l.drop i ≠ [] := fun e => by
 have := congrArg List.length e
 rw [List.length_drop, List.length_nil] at this
 omega
def rowsL (c : Bool) (tx : List Int) (qs : List Rat) (t n I R : Nat) : List (List El) := (List.range R).map (lineE c tx qs t n I)
theorem rows_step (c most : Int) (ch : Bool) (tx : List Int) (qs : List Rat) (t n I R i : Nat) (hi : i + 1 < t) (hz : rowsE c most (rowsL ch tx qs t n I R) (i + 1) = 0) :
  rowsE c most (rowsL ch tx qs t n I R) i = firstE ((List.range R).map fun r => pairE c most (elA ch tx qs ((r / I * n + i) * I + r % I)) (foldE c most ((lineE ch tx qs t n I r).drop (i + 1))).1) ∧
  (rowsE c most (rowsL ch tx qs t n I R) i = 0 → ∀ r, r < R → (foldE c most ((lineE ch tx qs t n I r).drop i)) = (numE (pairE c most (elA ch tx qs ((r / I * n + i) * I + r % I)) (foldE c most ((lineE ch tx qs t n I r).drop (i + 1))).1).1, 0)) := by
 have hz' : ∀ r, r < R → (foldE c most ((lineE ch tx qs t n I r).drop (i + 1))).2 = 0 := fun r hr => by
  refine fst0_zero hz _ ?_
  unfold rowsL
  rw [List.map_map]
  exact List.mem_map.2 ⟨r, List.mem_range.2 hr, rfl⟩
 have hst : ∀ r, r < R → foldE c most ((lineE ch tx qs t n I r).drop i) = if (pairE c most (elA ch tx qs ((r / I * n + i) * I + r % I)) (foldE c most ((lineE ch tx qs t n I r).drop (i + 1))).1).2 ≠ 0 then (numE 0, (pairE c most (elA ch tx qs ((r / I * n + i) * I + r % I)) (foldE c most ((lineE ch tx qs t n I r).drop (i + 1))).1).2) else (numE (pairE c most (elA ch tx qs ((r / I * n + i) * I + r % I)) (foldE c most ((lineE ch tx qs t n I r).drop (i + 1))).1).1, 0) := fun r hr => by
  rw [lineE_drop _ _ _ _ _ _ _ _ (by omega), foldE_cons _ _ _ (drop_ne (by rw [lineE_len]; omega)), if_neg (fun h => h (hz' r hr))]
 have hE : rowsE c most (rowsL ch tx qs t n I R) i = firstE ((List.range R).map fun r => pairE c most (elA ch tx qs ((r / I * n + i) * I + r % I)) (foldE c most ((lineE ch tx qs t n I r).drop (i + 1))).1) := by
  rw [firstE_fst0]
  unfold rowsE rowsL
  rw [List.map_map, List.map_map]
  congr 1
  refine List.map_congr_left fun r hr => ?_
  have hr := List.mem_range.1 hr
  show (foldE c most ((lineE ch tx qs t n I r).drop i)).2 = (pairE c most (elA ch tx qs ((r / I * n + i) * I + r % I)) (foldE c most ((lineE ch tx qs t n I r).drop (i + 1))).1).2
  rw [hst r hr]
  split
  ·rfl
  ·rename_i h; exact (Decidable.byContradiction h).symm
 refine ⟨hE, fun h0 r hr => ?_⟩
 rw [hE, firstE_fst0] at h0
 have := fst0_zero h0 _ (List.mem_map.2 ⟨_, List.mem_map.2 ⟨r, List.mem_range.2 hr, rfl⟩, rfl⟩)
 rw [hst r hr, if_neg (fun h => h this)]
theorem rows_last (c most : Int) (ch : Bool) (tx : List Int) (qs : List Rat) (t n I R : Nat) (hn : 0 < t) : rowsE c most (rowsL ch tx qs t n I R) (t - 1) = 0 := by
 refine fst0_of fun e he => ?_
 unfold rowsL at he
 rw [List.map_map] at he
 obtain ⟨r, _, rfl⟩ := List.mem_map.1 he
 show (foldE c most ((lineE ch tx qs t n I r).drop (t - 1))).2 = 0
 rw [lineE_last _ _ _ _ _ _ _ _ _ hn]
theorem two_szm {c : Int} {p q : Rat} {most : Int} (hm : most ≤ 20) (h : (twoQ c p q most).2 = 0) : Sz (twoQ c p q most).1 20 := by
 unfold twoQ at *
 by_cases h1 : isCmp c
 ·rw [if_pos h1]; exact (tq_sz _).mono (by decide)
 ·rw [if_neg h1] at h ⊢
  by_cases h2 : isJdg c
  ·rw [if_pos h2]
   unfold judgeQ
   split
   ·exact (tq_sz _).mono (by decide)
   ·exact Sz_zero.mono (by decide)
  ·rw [if_neg h2] at h ⊢
   by_cases h3 : ¬ isRec c
   ·rw [if_pos h3]; exact Sz_zero.mono (by decide)
   ·rw [if_neg h3] at h ⊢
    by_cases h4 : (reckonQ c p q most).2 ≠ 0
    ·rw [if_pos h4] at h; exact absurd h h4
    ·rw [if_neg h4] at h ⊢
     by_cases h5 : most < (qLimbs (reckonQ c p q most).1.num (reckonQ c p q most).1.den : Nat)
     ·rw [if_pos h5] at h; exact absurd h (by show ¬ (26 : Int) = 0; decide)
     ·rw [if_neg h5]
      unfold qLimbs at h5
      exact ⟨by show (limbs (reckonQ c p q most).1.num.natAbs).length ≤ 20; omega, by show (limbs (reckonQ c p q most).1.den).length ≤ 20; omega⟩
theorem pair_szm {c most : Int} (hm : most ≤ 20) {x y : El} (h : (pairE c most x y).2 = 0) : Sz (pairE c most x y).1 20 := by
 unfold pairE pairV at *
 split
 ·split
  ·show Sz (if _ then 1 else 0) 20
   split
   ·exact Sz_one.mono (by decide)
   ·exact Sz_zero.mono (by decide)
  ·exact Sz_zero.mono (by decide)
 ·rename_i h1
  rw [if_neg h1] at h
  exact two_szm hm h
def slabL (n I R i : Nat) : List Int := (List.range R).map fun r => (((r / I * n + i) * I + r % I : Nat) : Int)
theorem slabL_len (n I R i : Nat) : (slabL n I R i).length = R := by unfold slabL; rw [List.length_map, List.length_range]
theorem getT_nat (tx : List Int) {k : Nat} (h : k < tx.length) : getT tx (k : Int) = tx.getD k 0 := by
 rw [getT_in h, List.getD_eq_getElem?_getD, List.getElem?_eq_getElem h]; rfl
theorem getQ_nat (qs : List Rat) (k : Nat) : getQ qs (k : Int) = qs.getD k 0 := by
 unfold getQ
 rw [if_pos (by omega), Int.toNat_natCast]
theorem getD_map_slab {β : Type} (f : Int → β) (d : β) (n I R i r : Nat) (hr : r < R) : ((slabL n I R i).map f).getD r d = f (((r / I * n + i) * I + r % I : Nat) : Int) := by
 unfold slabL
 rw [List.getD_eq_getElem?_getD, List.getElem?_map, List.getElem?_map, List.getElem?_range hr]
 rfl
theorem el_slab {c : Bool} {tx : List Int} {qs : List Rat} {n I R i r : Nat} (hr : r < R) (hc : c = true → qs = [] ∧ (r / I * n + i) * I + r % I < tx.length) (hn : c = false → tx = []) :
  elA c (if c then (slabL n I R i).map (getT tx) else []) (if c then [] else (slabL n I R i).map (getQ qs)) r = elA c tx qs ((r / I * n + i) * I + r % I) := by
 cases c
 ·have := hn rfl
  subst this
  unfold elA
  rw [if_neg Bool.false_ne_true, if_neg Bool.false_ne_true, getD_map_slab _ _ _ _ _ _ _ hr, getQ_nat]
  rfl
 ·obtain ⟨h1, h2⟩ := hc rfl
  subst h1
  unfold elA
  rw [if_pos rfl, if_pos rfl, getD_map_slab _ _ _ _ _ _ _ hr, getT_nat _ h2]
  rfl
theorem place_lt {O I n r i : Nat} (hr : r < O * I) (hi : i < n) : (r / I * n + i) * I + r % I < O * (n * I) := by
 have hI : 0 < I := Nat.pos_of_ne_zero fun e => by rw [e] at hr; omega
 have h1 : r / I < O := Nat.div_lt_of_lt_mul (by rw [Nat.mul_comm]; exact hr)
 have h2 : r % I < I := Nat.mod_lt _ hI
 have h3 : r / I * n + i + 1 ≤ O * n := by
  have : (r / I + 1) * n ≤ O * n := Nat.mul_le_mul_right _ h1
  rw [Nat.add_mul, Nat.one_mul] at this
  omega
 have h4 : (r / I * n + i + 1) * I ≤ O * n * I := Nat.mul_le_mul_right _ h3
 rw [Nat.add_mul (r / I * n + i) 1 I, Nat.one_mul, Nat.mul_assoc O] at h4
 omega
end
end Go.Proofs.YtbdklokfijjifaaGreat
