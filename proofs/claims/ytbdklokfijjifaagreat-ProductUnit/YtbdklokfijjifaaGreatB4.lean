/- Contracts of the document's ratios: how a number is made, and what is told of one. -/
import Derived.Test.YtbdklokfijjifaaGreatB3
import Derived.Test.YtbdklokfijjifaaGreatB2
import Derived.Laws.Cover3
set_option linter.unusedVariables false
namespace Go.Proofs.YtbdklokfijjifaaGreat
open Go Go.AL NM
section
theorem decL_le (n : Nat) : (decL n).length ≤ 10 * (limbs n).length + 1 := decL_limbs n
theorem STop_ok (t : Int) (d : Nat) (lt : (limbs t.natAbs).length ≤ 100000) : AC Tryz.prog 185 [RN t d] (.pure (WR t)) := by
 refine AC.of_body TTok Tryz.func185 rfl (enter_of Tryz.func185 (by kernel_rfl) (by kernel_rfl)) (noid1 (RN_noid t d)) (WR_noid _) (nbq rfl) ?_
 have h1 := decL_le t.natAbs
 have hO := ROfW_ok (decide (t < 0)) t.natAbs (by omega)
 rw [sgn_self] at hO
 unfold RN WR at *
 repeat ((conv => whnf); (first | refine ⟨_, ‹_›, ?_⟩ | refine ⟨nbq rfl, _, ‹_›, ?_⟩ | refine ⟨by kernel_rfl, ?_⟩ | exact rfl | exact ⟨nbq rfl, rfl⟩ | refine ⟨by decide, ?_⟩))
theorem SBot_ok (t : Int) (d : Nat) (ld : (limbs d).length ≤ 100000) : AC Tryz.prog 186 [RN t d] (.pure (WR (d : Int))) := by
 refine AC.of_body TTok Tryz.func186 rfl (enter_of Tryz.func186 (by kernel_rfl) (by kernel_rfl)) (noid1 (RN_noid t d)) (WR_noid _) (nbq rfl) ?_
 have h1 := decL_le d
 have hO := ROfW_ok false d (by omega)
 rw [show sgn false d = (d : Int) from rfl] at hO
 unfold RN WR at *
 repeat ((conv => whnf); (first | refine ⟨_, ‹_›, ?_⟩ | refine ⟨nbq rfl, _, ‹_›, ?_⟩ | refine ⟨by kernel_rfl, ?_⟩ | exact rfl | exact ⟨nbq rfl, rfl⟩ | refine ⟨by decide, ?_⟩))
theorem SZero_ok : AC Tryz.prog 120 [] (.pure (RN 0 1)) := by
 refine AC.of_body TTok Tryz.func120 rfl (enter_of Tryz.func120 (by kernel_rfl) (by kernel_rfl)) (by intro x hx; cases hx) (RN_noid _ _) (nbq rfl) ?_
 unfold RN
 rw [show (0 : Int).natAbs = 0 from rfl, decS_zero, decS_one]
 repeat ((conv => whnf); (first | refine ⟨_, ‹_›, ?_⟩ | refine ⟨nbq rfl, _, ‹_›, ?_⟩ | refine ⟨by kernel_rfl, ?_⟩ | exact rfl | exact ⟨nbq rfl, rfl⟩ | refine ⟨by decide, ?_⟩))
theorem SFrom_ok (n : Int) (hn : -9223372036854775808 ≤ n ∧ n < 9223372036854775808) : AC Tryz.prog 86 [.val (.int .i64 n)] (.pure (RN n 1)) := by
 refine AC.of_body TTok Tryz.func86 rfl (enter_of Tryz.func86 (by kernel_rfl) (by kernel_rfl)) (noid1 (.val _)) (RN_noid _ _) (nbq rfl) ?_
 have h := RFrom_ok n hn
 unfold RN WR at *
 rw [decS_one]
 repeat ((conv => whnf); (first | refine ⟨_, ‹_›, ?_⟩ | refine ⟨nbq rfl, _, ‹_›, ?_⟩ | refine ⟨by kernel_rfl, ?_⟩ | exact rfl | exact ⟨nbq rfl, rfl⟩ | refine ⟨by decide, ?_⟩))
theorem SLimited_ok (t : Int) (d : Nat) : AC Tryz.prog 214 [RN t d] (.pure (.val (.bool (decide (d = 1 ∧ (t.natAbs = 0 ∨ t.natAbs = 1)))))) := by
 refine AC.of_body TTok Tryz.func214 rfl (enter_of Tryz.func214 (by kernel_rfl) (by kernel_rfl)) (noid1 (RN_noid t d)) (.val _) (nbq rfl) ?_
 have i1 := is1 d
 have j0 := is0 t.natAbs
 have j1 := is1 t.natAbs
 have e : decide (d = 1 ∧ (t.natAbs = 0 ∨ t.natAbs = 1)) = (((decS d).toList == ({ data := #[49] } : ByteArray).toList) && (((decS t.natAbs).toList == ({ data := #[48] } : ByteArray).toList) || ((decS t.natAbs).toList == ({ data := #[49] } : ByteArray).toList))) := by
  rw [i1, j0, j1]
  simp only [Bool.decide_and, Bool.decide_or]
 rw [e]
 unfold RN
 conv => whnf
 refine caseb (fun h => ?_) (fun h => ?_)
 ·rw [h]
  conv => whnf
  refine caseb (fun h' => ?_) (fun h' => ?_)
  ·rw [h']
   conv => whnf
   exact rfl
  ·rw [h']
   conv => whnf
   exact valB rfl
 ·rw [h]
  conv => whnf
  exact rfl
theorem SNew_ok (x y : Int) (hy : y ≠ 0) (hl : (limbs x.natAbs).length + (limbs y.natAbs).length ≤ 600) :
  AC Tryz.prog 210 [WR x, WR y] (.pure (.tup [RN (Rat.divInt x y).num (Rat.divInt x y).den, .val (.bool true)])) := by
 refine AC.of_body TTok Tryz.func210 rfl (enter_of Tryz.func210 (by kernel_rfl) (by kernel_rfl)) (noid2 (WR_noid x) (WR_noid y)) (.tup _ (noid2 (RN_noid _ _) (.val _))) (nbq rfl) ?_
 have i0 := is0 y.natAbs
 rw [decide_eq_false (by omega)] at i0
 have hG := RGcd2 x.natAbs y.natAbs hl
 have hg : 0 < Nat.gcd x.natAbs y.natAbs := Nat.gcd_pos_of_pos_right _ (by omega)
 have lg := limbs_len_mono (Nat.gcd_le_right (n := y.natAbs) x.natAbs (by omega))
 have d1 := decL_le x.natAbs
 have d2 := decL_le y.natAbs
 have d3 := decL_le (Nat.gcd x.natAbs y.natAbs)
 have hD1 := RDivMod_ok x.natAbs (Nat.gcd x.natAbs y.natAbs) hg (by omega)
 have hD2 := RDivMod_ok y.natAbs (Nat.gcd x.natAbs y.natAbs) hg (by omega)
 have j0 := is0 (x.natAbs / Nat.gcd x.natAbs y.natAbs)
 have hn := congrArg (fun z => decide (z < 0)) (sgn_num x y hy)
 have ha := congrArg Int.natAbs (sgn_num x y hy)
 have hd := sgn_den x y hy
 simp only [sgn_neg] at hn
 rw [sgn_abs] at ha
 rw [← j0] at hn
 rw [← ha] at hD1 hn
 rw [← hd] at hD2
 clear hg lg hl hy d1 d2 d3 j0 ha hd
 revert hG hD1 hD2 hn
 generalize Nat.gcd x.natAbs y.natAbs = g
 generalize x.natAbs % g = b
 generalize y.natAbs % g = c
 generalize (Rat.divInt x y).num = n
 generalize (Rat.divInt x y).den = d
 intro hG hD1 hD2 hn
 unfold RN WR at *
 rw [hn]
 conv => whnf
 refine cFq (i0) ?_
 conv => whnf
 refine ⟨_, hG, ?_⟩
 conv => whnf
 refine ⟨_, hD1, ?_⟩
 conv => whnf
 refine ⟨_, hD2, ?_⟩
 conv => whnf
 refine caseb (fun h => ?_) (fun h => ?_)
 ·conv => whnf
  exact tup2 (agg3 (valB (by rw [h]; rfl)) rfl rfl) rfl
 ·conv => whnf
  exact tup2 (agg3 (valB (by rw [h]; rfl)) rfl rfl) rfl
end
section
section
variable (p q : Rat) (lp : Sz p 99) (lq : Sz q 99)
include lp lq
theorem SDiv_ok (h0 : q ≠ 0) : AC Tryz.prog 191 [RN p.num p.den, RN q.num q.den] (.pure (.tup [RN (p / q).num (p / q).den, .val (.bool true)])) := by
 refine AC.of_body TTok Tryz.func191 rfl (enter_of Tryz.func191 (by kernel_rfl) (by kernel_rfl)) (noid2 (RN_noid _ _) (RN_noid _ _)) (.tup _ (noid2 (RN_noid _ _) (.val _))) (nbq rfl) ?_
 have := lp.1; have := lp.2; have := lq.1; have := lq.2
 have l1 := limbs_num_den p q
 have l2 := limbs_num_den q p
 rw [Int.mul_comm] at l2
 have t1 := STop_ok p.num p.den (by omega)
 have t2 := STop_ok q.num q.den (by omega)
 have b1 := SBot_ok p.num p.den (by omega)
 have b2 := SBot_ok q.num q.den (by omega)
 have m1 := RMulS p.num (q.den : Int) (by omega) (by rw [Int.natAbs_natCast]; omega)
 have m2 := RMulS (p.den : Int) q.num (by rw [Int.natAbs_natCast]; omega) (by omega)
 have hC := SNew_ok (p.num * (q.den : Int)) ((p.den : Int) * q.num) (Int.mul_ne_zero (by have := p.den_nz; omega) (num_ne h0)) (by omega)
 rw [q_div] at hC
 revert t1 t2 b1 b2 m1 m2 hC
 generalize p.num * (q.den : Int) = x
 generalize (p.den : Int) * q.num = y
 generalize (p.den : Int) = a
 generalize (q.den : Int) = b
 generalize p / q = c
 intro t1 t2 b1 b2 m1 m2 hC
 unfold RN WR at *
 repeat ((conv => whnf); (first | refine ⟨_, ‹_›, ?_⟩ | refine ⟨nbq rfl, _, ‹_›, ?_⟩ | refine ⟨by kernel_rfl, ?_⟩ | exact rfl | exact ⟨nbq rfl, rfl⟩ | refine ⟨by decide, ?_⟩))
end
end
section
def RT (b : Bool) (s t : List Int) : AV := .agg [.val (.bool b), .val (.string (strL s)), .val (.string (strL t))]
theorem RT_noid (b : Bool) (s t : List Int) : NoId (RT b s t) := .agg _ (noid3 (.val _) (.val _) (.val _))
def RQ (b : Bool) (s t : List Int) : Prop := right s = true ∧ right t = true ∧ s = decL (valL s) ∧ t = decL (valL t) ∧ valL t ≠ 0 ∧ Nat.gcd (valL s) (valL t) = 1 ∧ ¬ (b = true ∧ valL s = 0)
instance (b : Bool) (s t : List Int) : Decidable (RQ b s t) := inferInstanceAs (Decidable (_ ∧ _))
def qOf (b : Bool) (s t : List Int) : Rat := Rat.divInt (sgn b (valL s)) (valL t : Int)
theorem RQ_num {b : Bool} {s t : List Int} (h : RQ b s t) : (qOf b s t).num = sgn b (valL s) ∧ (qOf b s t).den = valL t := by
 obtain ⟨_, _, _, _, h0, hg, hn⟩ := h
 have hy : (valL t : Int) ≠ 0 := by omega
 unfold qOf
 rw [sgn_num _ _ hy, sgn_den _ _ hy, sgn_abs, Int.natAbs_natCast, hg, Nat.div_one, Nat.div_one]
 refine ⟨?_, rfl⟩
 congr 1
 rw [sgn_neg, decide_eq_false (show ¬ (valL t : Int) < 0 by omega)]
 cases b
 ·rfl
 ·rw [decide_eq_false (fun e => hn ⟨rfl, e⟩)]; rfl
theorem RQ_is {b : Bool} {s t : List Int} (h : RQ b s t) : RT b s t = RN (qOf b s t).num (qOf b s t).den := by
 obtain ⟨e1, e2⟩ := RQ_num h
 obtain ⟨_, _, hs, ht, h0, hg, hn⟩ := h
 rw [e1, e2]
 unfold RT RN decS
 rw [sgn_abs, ← hs, ← ht, sgn_neg]
 refine agg3 (valB ?_) rfl rfl
 cases b
 ·rfl
 ·rw [decide_eq_false (fun e => hn ⟨rfl, e⟩)]; rfl
theorem RQ_sz {b : Bool} {s t : List Int} (h : RQ b s t) {k l : Nat} (hs : s.length ≤ l) (ht : t.length ≤ l) (hk : 10 ^ l ≤ 4294967296 ^ k) : Sz (qOf b s t) k := by
 obtain ⟨e1, e2⟩ := RQ_num h
 obtain ⟨d1, _, _⟩ := right_dig h.1
 obtain ⟨d2, _, _⟩ := right_dig h.2.1
 have h1 := valL_lt d1
 have h2 := valL_lt d2
 have p1 := Nat.pow_le_pow_right (n := 10) (by decide) hs
 have p2 := Nat.pow_le_pow_right (n := 10) (by decide) ht
 refine ⟨?_, ?_⟩
 ·rw [e1, sgn_abs]; exact limbs_len_le (by omega)
 ·rw [e2]; exact limbs_len_le (by omega)
theorem RQ_back {b : Bool} {s t : List Int} (hBs : Byt s) (hBt : Byt t) (hs : right s = true) (ht : right t = true) (h0 : valL t ≠ 0) :
  ((decide ((qOf b s t).num < 0) == b) && (((decS (qOf b s t).num.natAbs).toList == (strL s).toList) && (((decS (qOf b s t).den).toList == (strL t).toList) && true))) = decide (RQ b s t) := by
 rw [decS_is _ _ hBs, decS_is _ _ hBt, Bool.and_true]
 by_cases h : RQ b s t
 ·obtain ⟨e1, e2⟩ := RQ_num h
  rw [decide_eq_true h, e1, e2, sgn_abs, sgn_neg]
  obtain ⟨_, _, hs, ht, h0, hg, hn⟩ := h
  rw [decide_eq_true hs.symm, decide_eq_true ht.symm]
  cases b
  ·rfl
  ·rw [decide_eq_false (fun e => hn ⟨rfl, e⟩)]; rfl
 ·rw [decide_eq_false h]
  cases hc : (decide ((qOf b s t).num < 0) == b) && (decide (decL (qOf b s t).num.natAbs = s) && decide (decL (qOf b s t).den = t)) with
  | false => rfl
  | true =>
   exfalso
   simp only [Bool.and_eq_true, decide_eq_true_eq, beq_iff_eq] at hc
   obtain ⟨h1, h2, h3⟩ := hc
   have v1 : valL s = (qOf b s t).num.natAbs := (congrArg valL h2).symm.trans (valL_decL _)
   have v2 : valL t = (qOf b s t).den := (congrArg valL h3).symm.trans (valL_decL _)
   refine h ⟨hs, ht, h2.symm.trans (by rw [v1]), h3.symm.trans (by rw [v2]), h0, by rw [v1, v2]; exact (qOf b s t).reduced, fun hb => ?_⟩
   rw [hb.1] at h1
   have := of_decide_eq_true h1
   rw [← hb.1] at this
   have := hb.2
   omega
theorem SRight_ok (b : Bool) (s t : List Int) (hBs : Byt s) (hBt : Byt t) (ls : s.length ≤ 100) (lt : t.length ≤ 100) : AC Tryz.prog 127 [RT b s t] (.pure (.val (.bool (decide (RQ b s t))))) := by
 refine AC.of_body TTok Tryz.func127 rfl (enter_of Tryz.func127 (by kernel_rfl) (by kernel_rfl)) (noid1 (RT_noid b s t)) (.val _) (nbq rfl) ?_
 have r1 := Right_ok s hBs (by omega)
 have r2 := Right_ok t hBt (by omega)
 cases hr : right s with
 | false =>
  rw [hr] at r1
  rw [decide_eq_false (fun h : RQ b s t => Bool.noConfusion (h.1.symm.trans hr))]
  unfold RT
  repeat ((conv => whnf); (first | refine ⟨_, ‹_›, ?_⟩ | refine ⟨nbq rfl, _, ‹_›, ?_⟩ | refine ⟨by kernel_rfl, ?_⟩ | exact rfl | exact ⟨nbq rfl, rfl⟩ | refine ⟨by decide, ?_⟩))
 | true =>
  rw [hr] at r1
  cases hr' : right t with
  | false =>
   rw [hr'] at r2
   rw [decide_eq_false (fun h : RQ b s t => Bool.noConfusion (h.2.1.symm.trans hr'))]
   unfold RT
   repeat ((conv => whnf); (first | refine ⟨_, ‹_›, ?_⟩ | refine ⟨nbq rfl, _, ‹_›, ?_⟩ | refine ⟨by kernel_rfl, ?_⟩ | exact rfl | exact ⟨nbq rfl, rfl⟩ | refine ⟨by decide, ?_⟩))
  | true =>
   rw [hr'] at r2
   obtain ⟨d1, n1, _⟩ := right_dig hr
   obtain ⟨d2, n2, _⟩ := right_dig hr'
   have t1 := Trim_ok s d1 n1 (by omega)
   have t2 := Trim_ok t d2 n2 (by omega)
   have e1 := decS_is (valL s) s hBs
   have e2 := decS_is (valL t) t hBt
   by_cases c1 : decL (valL s) = s
   ·rw [decide_eq_true c1] at e1
    have f1 : (!((decS (valL s)).toList == (strL s).toList)) = false := by rw [e1]; rfl
    by_cases c2 : decL (valL t) = t
    ·rw [decide_eq_true c2] at e2
     have f2 : (!((decS (valL t)).toList == (strL t).toList)) = false := by rw [e2]; rfl
     have z := is0 (valL t)
     have s2 : strL t = decS (valL t) := by unfold decS; rw [c2]
     have s1 : strL s = decS (valL s) := by unfold decS; rw [c1]
     rw [← s2] at z
     by_cases c3 : valL t = 0
     ·rw [decide_eq_true c3] at z
      rw [decide_eq_false (fun h : RQ b s t => h.2.2.2.2.1 c3)]
      unfold RT
      conv => whnf
      refine ⟨_, r1, ?_⟩
      conv => whnf
      refine ⟨_, r2, ?_⟩
      conv => whnf
      refine ⟨_, t1, ?_⟩
      conv => whnf
      refine cFq (f1) ?_
      conv => whnf
      refine ⟨_, t2, ?_⟩
      conv => whnf
      refine cFq (f2) ?_
      conv => whnf
      refine ⟨by kernel_rfl, ?_⟩
      conv => whnf
      refine cTq (z) ?_
      repeat ((conv => whnf); (first | refine ⟨_, ‹_›, ?_⟩ | refine ⟨nbq rfl, _, ‹_›, ?_⟩ | refine ⟨by kernel_rfl, ?_⟩ | exact rfl | exact ⟨nbq rfl, rfl⟩ | refine ⟨by decide, ?_⟩))
     ·rw [decide_eq_false c3] at z
      have y := is0 (valL s)
      have k1 := limbs_ten (valL_lt d1)
      have k2 := limbs_ten (valL_lt d2)
      have hG := RGcd2 (valL s) (valL t) (by omega)
      have o := is1 (Nat.gcd (valL s) (valL t))
      rw [← s1] at y hG
      rw [← s2] at hG
      unfold RT
      conv => whnf
      refine ⟨_, r1, ?_⟩
      conv => whnf
      refine ⟨_, r2, ?_⟩
      conv => whnf
      refine ⟨_, t1, ?_⟩
      conv => whnf
      refine cFq (f1) ?_
      conv => whnf
      refine ⟨_, t2, ?_⟩
      conv => whnf
      refine cFq (f2) ?_
      conv => whnf
      refine ⟨by kernel_rfl, ?_⟩
      conv => whnf
      refine cFq (z) ?_
      conv => whnf
      refine ⟨_, hG, ?_⟩
      conv => whnf
      by_cases c4 : Nat.gcd (valL s) (valL t) = 1
      ·rw [decide_eq_true c4] at o
       rw [o]
       have e : decide (RQ b s t) = !(b && decide (valL s = 0)) := by
        cases hb : b && decide (valL s = 0) with
        | true =>
         simp only [Bool.and_eq_true, decide_eq_true_eq] at hb
         exact decide_eq_false (fun h => h.2.2.2.2.2.2 hb)
        | false =>
         refine decide_eq_true ⟨hr, hr', c1.symm, c2.symm, c3, c4, fun h => ?_⟩
         rw [h.1, decide_eq_true h.2] at hb
         cases hb
       rw [e, ← y]
       cases b
       ·conv => whnf
        exact rfl
       ·conv => whnf
        exact valB rfl
      ·rw [decide_eq_false c4] at o
       rw [o, decide_eq_false (fun h : RQ b s t => c4 h.2.2.2.2.2.1)]
       conv => whnf
       exact rfl
    ·rw [decide_eq_false c2] at e2
     have f2 : (!((decS (valL t)).toList == (strL t).toList)) = true := by rw [e2]; rfl
     rw [decide_eq_false (fun h : RQ b s t => c2 h.2.2.2.1.symm)]
     unfold RT
     conv => whnf
     refine ⟨_, r1, ?_⟩
     conv => whnf
     refine ⟨_, r2, ?_⟩
     conv => whnf
     refine ⟨_, t1, ?_⟩
     conv => whnf
     refine cFq (f1) ?_
     conv => whnf
     refine ⟨_, t2, ?_⟩
     conv => whnf
     refine cTq (f2) ?_
     repeat ((conv => whnf); (first | refine ⟨_, ‹_›, ?_⟩ | refine ⟨nbq rfl, _, ‹_›, ?_⟩ | refine ⟨by kernel_rfl, ?_⟩ | exact rfl | exact ⟨nbq rfl, rfl⟩ | refine ⟨by decide, ?_⟩))
   ·rw [decide_eq_false c1] at e1
    have f1 : (!((decS (valL s)).toList == (strL s).toList)) = true := by rw [e1]; rfl
    rw [decide_eq_false (fun h : RQ b s t => c1 h.2.2.1.symm)]
    unfold RT
    conv => whnf
    refine ⟨_, r1, ?_⟩
    conv => whnf
    refine ⟨_, r2, ?_⟩
    conv => whnf
    refine ⟨_, t1, ?_⟩
    conv => whnf
    refine cTq (f1) ?_
    repeat ((conv => whnf); (first | refine ⟨_, ‹_›, ?_⟩ | refine ⟨nbq rfl, _, ‹_›, ?_⟩ | refine ⟨by kernel_rfl, ?_⟩ | exact rfl | exact ⟨nbq rfl, rfl⟩ | refine ⟨by decide, ?_⟩))
end
section
def RZ : AV := .agg [.sl 0 [] true, .val (.bool false), .sl 0 [] true]
theorem RZ_noid : NoId RZ := .agg _ (noid3 (.sl _ _ _ (fun r hr => (nomatch hr))) (.val _) (.sl _ _ _ (fun r hr => (nomatch hr))))
theorem RZ_le : AVle RZ (RA 0 0) := by
 unfold RA
 rw [show (0 : Int).natAbs = 0 from rfl, limbs_zero]
 exact .agg _ _ rfl (fun i a b ha hb => by
  match i with
  | 0 => cases ha; cases hb; exact .sl _ _ _
  | 1 => cases ha; cases hb; exact .refl _
  | 2 => cases ha; cases hb; exact .sl _ _ _
  | (i + 3) => cases ha)
theorem RZ_res {P : Program} {f : FuncId} {args : List AV} {b : Bool} (h : AC P f args (.pure (.tup [RZ, .val (.bool b)]))) : AC P f args (.pure (.tup [RA 0 0, .val (.bool b)])) :=
 AC.le_res h (.tup2 RZ_le (.refl _)) (.tup _ (noid2 (RA_noid _ _) (.val _)))
theorem SOf_ok (b : Bool) (s t : List Int) (hBs : Byt s) (hBt : Byt t) (ls : s.length ≤ 100) (lt : t.length ≤ 100) (hs : right s = true) (ht : right t = true) (h0 : valL t ≠ 0) :
  AC Tryz.prog 101 [RT b s t] (.pure (.tup [RA (qOf b s t).num (qOf b s t).den, .val (.bool (decide (RQ b s t)))])) := by
 rw [← RQ_back hBs hBt hs ht h0]
 refine AC.of_body TTok Tryz.func101 rfl (enter_of Tryz.func101 (by kernel_rfl) (by kernel_rfl)) (noid1 (RT_noid b s t)) (.tup _ (noid2 (RA_noid _ _) (.val _))) (nbq rfl) ?_
 have p1 := Parse_any s hBs
 have p2 := Parse_any t hBt
 rw [if_pos hs, hs] at p1
 rw [if_pos ht, ht] at p2
 have o1 := WOf_ok b (valL s)
 have o2 := WOf_ok false (valL t)
 rw [show sgn false (valL t) = (valL t : Int) from rfl] at o2
 have k1 := limbs_ten (valL_lt (right_dig hs).1)
 have k2 := limbs_ten (valL_lt (right_dig ht).1)
 have hN := New_ok (sgn b (valL s)) (valL t : Int) (by omega) (by rw [sgn_abs]; omega) (by rw [Int.natAbs_natCast]; omega)
 have hz : Sz (qOf b s t) 100 := Sz_divInt (by omega) (by rw [sgn_abs]; omega) (by rw [Int.natAbs_natCast]; omega)
 have := hz.1
 have := hz.2
 have hM := Num_ok (qOf b s t).num (qOf b s t).den (by omega) (by rw [dn_den]; omega)
 rw [dn_den] at hM
 change AC Tryz.prog 129 _ (.pure (.tup [RA (qOf b s t).num (qOf b s t).den, .val (.bool true)])) at hN
 revert p1 p2 o1 o2 hN hM
 generalize qOf b s t = q
 generalize sgn b (valL s) = z
 generalize (valL t : Int) = w
 generalize valL s = x
 generalize valL t = y
 intro p1 p2 o1 o2 hN hM
 unfold RT RA RN WI natA at *
 repeat ((conv => whnf); (first | refine ⟨_, ‹_›, ?_⟩ | refine ⟨nbq rfl, _, ‹_›, ?_⟩ | refine ⟨by kernel_rfl, ?_⟩ | exact rfl | exact ⟨nbq rfl, rfl⟩ | refine ⟨by decide, ?_⟩))
end
section
def fitsN (a k : Nat) (most : Int) : Prop := a = 1 ∨ ((limbs (a ^ k)).length : Int) ≤ most
instance (a k : Nat) (most : Int) : Decidable (fitsN a k most) := inferInstanceAs (Decidable (_ ∨ _))
def pk (n : Int) : Nat := if n < 0 then (if n < -9223372036854775807 then 9223372036854775807 else (-n).toNat) else n.toNat
def pb (q : Rat) (n : Int) : Rat := if n < 0 then 1 / q else q
def limQ (q : Rat) : Prop := q.den = 1 ∧ (q.num.natAbs = 0 ∨ q.num.natAbs = 1)
instance (q : Rat) : Decidable (limQ q) := inferInstanceAs (Decidable (_ ∧ _))
def powQ (q : Rat) (n most : Int) : Rat × Bool :=
 if n = 0 then (1, true)
 else if limQ q then (if q = 0 ∧ n < 0 then (0, false) else (if n % 2 = 0 then q * q else q, true))
 else if fitsN (pb q n).num.natAbs (pk n) most ∧ fitsN (pb q n).den (pk n) most then ((pb q n) ^ (pk n), true) else (0, false)
theorem and1 (n : Int) : IntKind.i64.wrap (((BitVec.ofInt 64 n &&& BitVec.ofInt 64 1).toNat : Nat) : Int) = n % 2 := by
 have h1 : (BitVec.ofInt 64 n &&& BitVec.ofInt 64 1).toNat = (n % 2).toNat := by
  rw [BitVec.toNat_and, show (BitVec.ofInt 64 1).toNat = 2 ^ 1 - 1 from rfl, Nat.and_two_pow_sub_one_eq_mod, BitVec.toNat_ofInt]
  omega
 rw [h1, IntWalk.i64_in _ (by omega)]
 omega
theorem and1e (n : Int) : (IntKind.i64.wrap (((BitVec.ofInt 64 n &&& BitVec.ofInt 64 1).toNat : Nat) : Int) == 0) = decide (n % 2 = 0) := by rw [and1]; exact beqD Iff.rfl
theorem and1o (n : Int) : (IntKind.i64.wrap (((BitVec.ofInt 64 n &&& BitVec.ofInt 64 1).toNat : Nat) : Int) == 1) = decide (n % 2 = 1) := by rw [and1]; exact beqD Iff.rfl
theorem pow_sgn (a : Int) (k : Nat) : a ^ k = sgn (decide (a < 0) && decide ((k : Int) % 2 = 1)) (a.natAbs ^ k) := by
 have hc : ((a.natAbs ^ k : Nat) : Int) = (a.natAbs : Int) ^ k := Int.natCast_pow _ _
 by_cases h : a < 0
 ·rw [decide_eq_true h, Bool.true_and]
  obtain ⟨m, rfl⟩ : ∃ m : Nat, a = -(m : Int) := ⟨a.natAbs, by omega⟩
  rw [Int.natAbs_neg, Int.natAbs_natCast]
  clear hc h
  have key : ∀ k : Nat, (-(m : Int)) ^ k = if k % 2 = 1 then -((m : Int) ^ k) else (m : Int) ^ k := by
   intro k
   induction k with
   | zero => simp
   | succ k ih =>
    rw [Int.pow_succ, ih, Int.pow_succ]
    by_cases hk : k % 2 = 1
    ·rw [if_pos hk, if_neg (by omega), Int.neg_mul_neg]
    ·rw [if_neg hk, if_pos (by omega), Int.mul_neg]
  rw [key k]
  by_cases hk : k % 2 = 1
  ·rw [if_pos hk, decide_eq_true (by omega)]
   show _ = -((m ^ k : Nat) : Int)
   rw [Int.natCast_pow]
  ·rw [if_neg hk, decide_eq_false (by omega)]
   show _ = ((m ^ k : Nat) : Int)
   rw [Int.natCast_pow]
 ·rw [decide_eq_false h, Bool.false_and]
  show _ = ((a.natAbs ^ k : Nat) : Int)
  rw [hc]
  congr 1
  omega
theorem NPow_fit (a : Nat) (n most : Int) (ha : 1 ≤ a) (hn : 0 < n) (hn63 : n < 9223372036854775808) (hm : most ≤ 200) (hl : (limbs a).length ≤ 400) (h : fitsN a n.toNat most) : AC Tryz.prog 204 [natA a, .val (.int .i64 n), .val (.int .i64 most)] (.pure (.tup [natA (a ^ n.toNat), .val (.bool true)])) := by
 by_cases h1 : a = 1
 ·subst h1
  rw [Nat.one_pow]
  exact Pow_one 1 n most (.inr rfl)
 ·exact Pow_gen a n most (by omega) hn hn63 hm hl _ (.tup _ (noid2 (natA_noid _) (.val _))) (fun h' => by rcases h with h | h <;> omega) (fun _ => rfl)
theorem NPow_not (a : Nat) (n most : Int) (ha : 1 ≤ a) (hn : 0 < n) (hn63 : n < 9223372036854775808) (hm : most ≤ 200) (hl : (limbs a).length ≤ 400) (h : ¬ fitsN a n.toNat most) : AC Tryz.prog 204 [natA a, .val (.int .i64 n), .val (.int .i64 most)] (.pure (.tup [.agg [.sl 0 [] true], .val (.bool false)])) := by
 have h1 : a ≠ 1 := fun e => h (.inl e)
 exact Pow_gen a n most (by omega) hn hn63 hm hl _ (.tup _ (noid2 (.agg _ (noid1 (.sl _ _ _ (fun r hr => (nomatch hr))))) (.val _))) (fun _ => rfl) (fun h' => absurd (.inr h') h)
theorem RPow_fit (a : Nat) (n most : Int) (ha : 1 ≤ a) (hn : 0 < n) (hn63 : n < 9223372036854775808) (hm : most ≤ 200) (hl : (limbs a).length ≤ 400) (h : fitsN a n.toNat most) : AC Tryz.prog 223 [.val (.string (decS a)), .val (.int .i64 n), .val (.int .i64 most)] (.pure (.tup [.val (.string (decS (a ^ n.toNat))), .val (.bool true)])) := by
 by_cases h1 : a = 1
 ·subst h1
  rw [Nat.one_pow]
  exact RPow_one 1 n most (.inr rfl)
 ·exact RPow_gen a n most (by omega) hn hn63 hm hl _ (.tup _ (noid2 (.val _) (.val _))) (fun h' => by rcases h with h | h <;> omega) (fun _ => rfl)
theorem RPow_not (a : Nat) (n most : Int) (ha : 1 ≤ a) (hn : 0 < n) (hn63 : n < 9223372036854775808) (hm : most ≤ 200) (hl : (limbs a).length ≤ 400) (h : ¬ fitsN a n.toNat most) : AC Tryz.prog 223 [.val (.string (decS a)), .val (.int .i64 n), .val (.int .i64 most)] (.pure (.tup [.val (.string (decS 0)), .val (.bool false)])) := by
 have h1 : a ≠ 1 := fun e => h (.inl e)
 exact RPow_gen a n most (by omega) hn hn63 hm hl _ (.tup _ (noid2 (.val _) (.val _))) (fun _ => rfl) (fun h' => absurd (.inr h') h)
theorem fitsN_big {a k : Nat} {most : Int} (ha : 1 ≤ a) (hk : 6400 ≤ k) (hm : most ≤ 200) (h : fitsN a k most) : a = 1 := by
 rcases h with h | h
 ·exact h
 ·rcases Nat.lt_or_ge a 2 with h2 | h2
  ·omega
  ·exfalso
   have h3 := val_lt (limbs_lim (a ^ k))
   rw [val_limbs, pow32] at h3
   obtain ⟨B, hB⟩ : ∃ B, B = 6400 := ⟨_, rfl⟩
   have h4 : 2 ^ (32 * (limbs (a ^ k)).length) ≤ 2 ^ B := Nat.pow_le_pow_right (by decide) (by omega)
   have h5 : 2 ^ B ≤ 2 ^ k := Nat.pow_le_pow_right (by decide) (by omega)
   have h6 : 2 ^ k ≤ a ^ k := Nat.pow_le_pow_left h2 k
   exact absurd (Nat.lt_of_lt_of_le h3 (Nat.le_trans h4 (Nat.le_trans h5 h6))) (Nat.lt_irrefl _)
end
section
theorem lim_num {q : Rat} (h : ¬ limQ q) : q ≠ 0 := fun e => h (by rw [e]; exact ⟨rfl, .inl rfl⟩)
theorem beq_ne0 {n : Int} (h : n ≠ 0) : (n == 0) = false := beq_false_of_ne h
theorem pk_pos {n : Int} (h : 0 < n) : (pk n : Int) = n := by unfold pk; rw [if_neg (by omega)]; omega
theorem pk_neg {n : Int} (h : n < 0) (h1 : -9223372036854775808 ≤ n) : IntKind.i64.wrap (0 - (if -9223372036854775807 > n then -9223372036854775807 else n)) = (pk n : Int) := by
 unfold pk
 rw [if_pos h]
 by_cases h2 : n < -9223372036854775807
 ·rw [if_pos h2, if_pos (by omega)]; rfl
 ·rw [if_neg h2, if_neg (by omega), IntWalk.i64_in _ (by omega)]; omega
theorem pk_bd {n : Int} (h0 : n ≠ 0) (h1 : -9223372036854775808 ≤ n ∧ n < 9223372036854775808) : 0 < (pk n : Int) ∧ (pk n : Int) < 9223372036854775808 := by
 unfold pk
 split
 ·split <;> omega
 ·omega
theorem pb_ne {q : Rat} (n : Int) (h : ¬ limQ q) : pb q n ≠ 0 := by
 unfold pb
 have hq := lim_num h
 split
 ·intro e
  have := Rat.div_mul_cancel (a := 1) hq
  rw [e, Rat.zero_mul] at this
  exact absurd this (by decide)
 ·exact hq
theorem pb_sz {q : Rat} {k : Nat} (n : Int) (h : ¬ limQ q) (hk : Sz q k) : Sz (pb q n) (k + 1) := by
 unfold pb
 split
 ·exact (Sz_div (lim_num h) (i := 1) (j := k) ⟨by show (limbs 1).length ≤ 1; rw [limbs_1]; decide, by show (limbs 1).length ≤ 1; rw [limbs_1]; decide⟩ hk).mono (by omega)
 ·exact hk.mono (by omega)
theorem QPow_zero (q : Rat) (i : Nat) (most : Int) : AC Tryz.prog 181 [RA q.num i, .val (.int .i64 0), .val (.int .i64 most)] (.pure (.tup [RA 1 1, .val (.bool true)])) := by
 refine AC.of_body TTok Tryz.func181 rfl (enter_of Tryz.func181 (by kernel_rfl) (by kernel_rfl)) (noid3 (RA_noid _ _) (.val _) (.val _)) (.tup _ (noid2 (RA_noid _ _) (.val _))) (nbq rfl) ?_
 have hF := RatFrom_ok 1 (by decide)
 unfold RA at *
 repeat ((conv => whnf); (first | refine ⟨_, ‹_›, ?_⟩ | refine ⟨nbq rfl, _, ‹_›, ?_⟩ | refine ⟨by kernel_rfl, ?_⟩ | exact rfl | exact ⟨nbq rfl, rfl⟩ | refine ⟨by decide, ?_⟩))
theorem QPow_none (q : Rat) (i : Nat) (n most : Int) (hi : dn i = q.den) (hq : q = 0) (h0 : n < 0) : AC Tryz.prog 181 [RA q.num i, .val (.int .i64 n), .val (.int .i64 most)] (.pure (.tup [RA 0 0, .val (.bool false)])) := by
 refine RZ_res ?_
 refine AC.of_body TTok Tryz.func181 rfl (enter_of Tryz.func181 (by kernel_rfl) (by kernel_rfl)) (noid3 (RA_noid _ _) (.val _) (.val _)) (.tup _ (noid2 RZ_noid (.val _))) (nbq rfl) ?_
 have hL := Limited_ok q.num i
 have hS := RaSign_ok q.num i
 rw [decide_eq_true (show dn i = 1 ∧ (q.num.natAbs = 0 ∨ q.num.natAbs = 1) by rw [hi, hq]; exact ⟨rfl, .inl rfl⟩)] at hL
 rw [show sigW q.num = 0 by rw [hq]; rfl] at hS
 have e0 := beq_ne0 (show n ≠ 0 by omega)
 have eN : decide (n < 0) = true := decide_eq_true h0
 unfold RA at *
 conv => whnf
 refine cFq (e0) ?_
 conv => whnf
 refine ⟨_, hL, ?_⟩
 conv => whnf
 refine ⟨_, hS, ?_⟩
 conv => whnf
 refine cTq (eN) ?_
 repeat ((conv => whnf); (first | refine ⟨_, ‹_›, ?_⟩ | refine ⟨nbq rfl, _, ‹_›, ?_⟩ | refine ⟨by kernel_rfl, ?_⟩ | exact rfl | exact ⟨nbq rfl, rfl⟩ | refine ⟨by decide, ?_⟩))
theorem QPow_even (q : Rat) (i : Nat) (n most : Int) (hi : dn i = q.den) (lq : Sz q 300) (hl : limQ q) (h0 : n ≠ 0) (hz : ¬ (q = 0 ∧ n < 0)) (he : n % 2 = 0) : AC Tryz.prog 181 [RA q.num i, .val (.int .i64 n), .val (.int .i64 most)] (.pure (.tup [RA (q * q).num (q * q).den, .val (.bool true)])) := by
 refine AC.of_body TTok Tryz.func181 rfl (enter_of Tryz.func181 (by kernel_rfl) (by kernel_rfl)) (noid3 (RA_noid _ _) (.val _) (.val _)) (.tup _ (noid2 (RA_noid _ _) (.val _))) (nbq rfl) ?_
 have hL := Limited_ok q.num i
 have hS := RaSign_ok q.num i
 rw [hi, decide_eq_true (show q.den = 1 ∧ (q.num.natAbs = 0 ∨ q.num.natAbs = 1) from hl)] at hL
 have e0 := beq_ne0 h0
 have a0 := and1e n
 rw [decide_eq_true he] at a0
 have hT := QTimes1 q q i i hi hi (lq.mono (by decide)) (lq.mono (by decide))
 unfold rowR at hT
 simp only at hT
 by_cases hq : q = 0
 ·have eN : decide (n < 0) = false := decide_eq_false (fun h => hz ⟨hq, h⟩)
  rw [show sigW q.num = 0 by rw [hq]; rfl] at hS
  revert hT
  generalize q * q = r
  intro hT
  unfold RA at *
  conv => whnf
  refine cFq (e0) ?_
  conv => whnf
  refine ⟨_, hL, ?_⟩
  conv => whnf
  refine ⟨_, hS, ?_⟩
  conv => whnf
  refine cFq (eN) ?_
  conv => whnf
  refine cTq (a0) ?_
  repeat ((conv => whnf); (first | refine ⟨_, ‹_›, ?_⟩ | refine ⟨nbq rfl, _, ‹_›, ?_⟩ | refine ⟨by kernel_rfl, ?_⟩ | exact rfl | exact ⟨nbq rfl, rfl⟩ | refine ⟨by decide, ?_⟩))
 ·have eS : (sigW q.num == 0) = false := beq_false_of_ne (by unfold sigW; rw [if_neg (num_ne hq)]; split <;> decide)
  revert hT hS eS
  generalize q * q = r
  generalize sigW q.num = s
  intro hS hT eS
  unfold RA at *
  conv => whnf
  refine cFq (e0) ?_
  conv => whnf
  refine ⟨_, hL, ?_⟩
  conv => whnf
  refine ⟨_, hS, ?_⟩
  conv => whnf
  refine cFq (eS) ?_
  conv => whnf
  refine cTq (a0) ?_
  repeat ((conv => whnf); (first | refine ⟨_, ‹_›, ?_⟩ | refine ⟨nbq rfl, _, ‹_›, ?_⟩ | refine ⟨by kernel_rfl, ?_⟩ | exact rfl | exact ⟨nbq rfl, rfl⟩ | refine ⟨by decide, ?_⟩))
theorem QPow_odd (q : Rat) (i : Nat) (n most : Int) (hi : dn i = q.den) (hl : limQ q) (h0 : n ≠ 0) (hz : ¬ (q = 0 ∧ n < 0)) (he : ¬ n % 2 = 0) : AC Tryz.prog 181 [RA q.num i, .val (.int .i64 n), .val (.int .i64 most)] (.pure (.tup [RA q.num i, .val (.bool true)])) := by
 refine AC.of_body TTok Tryz.func181 rfl (enter_of Tryz.func181 (by kernel_rfl) (by kernel_rfl)) (noid3 (RA_noid _ _) (.val _) (.val _)) (.tup _ (noid2 (RA_noid _ _) (.val _))) (nbq rfl) ?_
 have hL := Limited_ok q.num i
 have hS := RaSign_ok q.num i
 rw [hi, decide_eq_true (show q.den = 1 ∧ (q.num.natAbs = 0 ∨ q.num.natAbs = 1) from hl)] at hL
 have e0 := beq_ne0 h0
 have a0 := and1e n
 rw [decide_eq_false he] at a0
 by_cases hq : q = 0
 ·have eN : decide (n < 0) = false := decide_eq_false (fun h => hz ⟨hq, h⟩)
  rw [show sigW q.num = 0 by rw [hq]; rfl] at hS
  unfold RA at *
  conv => whnf
  refine cFq (e0) ?_
  conv => whnf
  refine ⟨_, hL, ?_⟩
  conv => whnf
  refine ⟨_, hS, ?_⟩
  conv => whnf
  refine cFq (eN) ?_
  conv => whnf
  refine cFq (a0) ?_
  repeat ((conv => whnf); (first | refine ⟨_, ‹_›, ?_⟩ | refine ⟨nbq rfl, _, ‹_›, ?_⟩ | refine ⟨by kernel_rfl, ?_⟩ | exact rfl | exact ⟨nbq rfl, rfl⟩ | refine ⟨by decide, ?_⟩))
 ·have eS : (sigW q.num == 0) = false := beq_false_of_ne (by unfold sigW; rw [if_neg (num_ne hq)]; split <;> decide)
  revert hS eS
  generalize sigW q.num = s
  intro hS eS
  unfold RA at *
  conv => whnf
  refine cFq (e0) ?_
  conv => whnf
  refine ⟨_, hL, ?_⟩
  conv => whnf
  refine ⟨_, hS, ?_⟩
  conv => whnf
  refine cFq (eS) ?_
  conv => whnf
  refine cFq (a0) ?_
  repeat ((conv => whnf); (first | refine ⟨_, ‹_›, ?_⟩ | refine ⟨nbq rfl, _, ‹_›, ?_⟩ | refine ⟨by kernel_rfl, ?_⟩ | exact rfl | exact ⟨nbq rfl, rfl⟩ | refine ⟨by decide, ?_⟩))
theorem QPow_fit (q : Rat) (i : Nat) (n most : Int) (hi : dn i = q.den) (hn : -9223372036854775808 ≤ n ∧ n < 9223372036854775808) (hm : most ≤ 200) (lq : Sz q 300) (hl : ¬ limQ q) (h0 : n ≠ 0)
  (f1 : fitsN (pb q n).num.natAbs (pk n) most) (f2 : fitsN (pb q n).den (pk n) most) : AC Tryz.prog 181 [RA q.num i, .val (.int .i64 n), .val (.int .i64 most)] (.pure (.tup [RA (pb q n ^ pk n).num (pb q n ^ pk n).den, .val (.bool true)])) := by
 refine AC.of_body TTok Tryz.func181 rfl (enter_of Tryz.func181 (by kernel_rfl) (by kernel_rfl)) (noid3 (RA_noid _ _) (.val _) (.val _)) (.tup _ (noid2 (RA_noid _ _) (.val _))) (nbq rfl) ?_
 have hL := Limited_ok q.num i
 rw [hi, decide_eq_false (show ¬ (q.den = 1 ∧ (q.num.natAbs = 0 ∨ q.num.natAbs = 1)) from hl)] at hL
 have e0 := beq_ne0 h0
 have hF := RatFrom_ok 1 (by decide)
 have hB := By_ok 1 q 1 i rfl hi ⟨by show (limbs 1).length ≤ 1000; rw [limbs_1]; decide, by show (limbs 1).length ≤ 1000; rw [limbs_1]; decide⟩ (lq.mono (by decide)) (lim_num hl)
 rw [Rat.one_num] at hB
 have sp := pb_sz n hl lq
 have np := num_ne (pb_ne n hl)
 obtain ⟨k1, k2⟩ := pk_bd h0 hn
 obtain ⟨p, hp⟩ : ∃ p, p = pb q n := ⟨_, rfl⟩
 rw [← hp] at sp np f1 f2 ⊢
 have := sp.1; have := sp.2; have := p.den_nz
 have P1 := NPow_fit p.num.natAbs (pk n) most (by omega) k1 k2 hm (by omega) (by rw [Int.toNat_natCast]; exact f1)
 have P2 := NPow_fit p.den (pk n) most (by omega) k1 k2 hm (by omega) (by rw [Int.toNat_natCast]; exact f2)
 rw [Int.toNat_natCast] at P1 P2
 have hO1 := WOf_ok (decide ((pk n : Int) % 2 = 1)) (p.num.natAbs ^ pk n)
 have hO2 := WOf_ok false (p.num.natAbs ^ pk n)
 have hnum : (p ^ pk n).num = sgn (decide (p.num < 0) && decide ((pk n : Int) % 2 = 1)) (p.num.natAbs ^ pk n) := by rw [Rat.num_pow]; exact pow_sgn _ _
 rw [← and1o (pk n)] at hO1 hnum
 rw [hnum, Rat.den_pow]
 have hNeg := NegW_ok p.num
 clear hnum sp np f1 f2
 revert P1 P2 hO1 hO2
 generalize p.num.natAbs ^ pk n = X
 generalize p.den ^ pk n = Y
 intro P1 P2 hO1 hO2
 rcases Int.lt_or_le n 0 with hs | hs
 ·have hE := pk_neg hs hn.1
  have eN : decide (n < 0) = true := decide_eq_true hs
  rw [← show p = 1 / q by rw [hp]; unfold pb; rw [if_pos hs]] at hB
  have hD := down_ok p.num p.den
  rw [dn_den] at hD
  rw [← hE] at P1 P2 hO1 ⊢
  clear hE hp k1 k2
  unfold RA WI natA at *
  generalize decide (p.num < 0) = s at *
  cases s
  ·conv => whnf
   refine cFq (e0) ?_
   conv => whnf
   refine ⟨_, hL, ?_⟩
   conv => whnf
   refine cTq (eN) ?_
   repeat ((conv => whnf); (first | refine ⟨_, ‹_›, ?_⟩ | refine ⟨nbq rfl, _, ‹_›, ?_⟩ | refine ⟨by kernel_rfl, ?_⟩ | exact rfl | exact ⟨nbq rfl, rfl⟩ | refine ⟨by decide, ?_⟩))
  ·conv => whnf
   refine cFq (e0) ?_
   conv => whnf
   refine ⟨_, hL, ?_⟩
   conv => whnf
   refine cTq (eN) ?_
   repeat ((conv => whnf); (first | refine ⟨_, ‹_›, ?_⟩ | refine ⟨nbq rfl, _, ‹_›, ?_⟩ | refine ⟨by kernel_rfl, ?_⟩ | exact rfl | exact ⟨nbq rfl, rfl⟩ | refine ⟨by decide, ?_⟩))
 ·have hE := pk_pos (show 0 < n by omega)
  have eN : decide (n < 0) = false := decide_eq_false (by omega)
  have hpe : p = q := by rw [hp]; unfold pb; rw [if_neg (by omega)]
  clear hB hF hp
  subst hpe
  have hD := down_ok p.num i
  rw [hi] at hD
  rw [hE] at P1 P2 hO1 ⊢
  clear hE k1 k2
  unfold RA WI natA at *
  generalize decide (p.num < 0) = s at *
  cases s
  ·conv => whnf
   refine cFq (e0) ?_
   conv => whnf
   refine ⟨_, hL, ?_⟩
   conv => whnf
   refine cFq (eN) ?_
   repeat ((conv => whnf); (first | refine ⟨_, ‹_›, ?_⟩ | refine ⟨nbq rfl, _, ‹_›, ?_⟩ | refine ⟨by kernel_rfl, ?_⟩ | exact rfl | exact ⟨nbq rfl, rfl⟩ | refine ⟨by decide, ?_⟩))
  ·conv => whnf
   refine cFq (e0) ?_
   conv => whnf
   refine ⟨_, hL, ?_⟩
   conv => whnf
   refine cFq (eN) ?_
   repeat ((conv => whnf); (first | refine ⟨_, ‹_›, ?_⟩ | refine ⟨nbq rfl, _, ‹_›, ?_⟩ | refine ⟨by kernel_rfl, ?_⟩ | exact rfl | exact ⟨nbq rfl, rfl⟩ | refine ⟨by decide, ?_⟩))
theorem QPow_not (q : Rat) (i : Nat) (n most : Int) (hi : dn i = q.den) (hn : -9223372036854775808 ≤ n ∧ n < 9223372036854775808) (hm : most ≤ 200) (lq : Sz q 300) (hl : ¬ limQ q) (h0 : n ≠ 0)
  (hf : ¬ (fitsN (pb q n).num.natAbs (pk n) most ∧ fitsN (pb q n).den (pk n) most)) : AC Tryz.prog 181 [RA q.num i, .val (.int .i64 n), .val (.int .i64 most)] (.pure (.tup [RA 0 0, .val (.bool false)])) := by
 refine RZ_res ?_
 refine AC.of_body TTok Tryz.func181 rfl (enter_of Tryz.func181 (by kernel_rfl) (by kernel_rfl)) (noid3 (RA_noid _ _) (.val _) (.val _)) (.tup _ (noid2 RZ_noid (.val _))) (nbq rfl) ?_
 have hL := Limited_ok q.num i
 rw [hi, decide_eq_false (show ¬ (q.den = 1 ∧ (q.num.natAbs = 0 ∨ q.num.natAbs = 1)) from hl)] at hL
 have e0 := beq_ne0 h0
 have hF := RatFrom_ok 1 (by decide)
 have hB := By_ok 1 q 1 i rfl hi ⟨by show (limbs 1).length ≤ 1000; rw [limbs_1]; decide, by show (limbs 1).length ≤ 1000; rw [limbs_1]; decide⟩ (lq.mono (by decide)) (lim_num hl)
 rw [Rat.one_num] at hB
 have sp := pb_sz n hl lq
 have np := num_ne (pb_ne n hl)
 obtain ⟨k1, k2⟩ := pk_bd h0 hn
 obtain ⟨p, hp⟩ : ∃ p, p = pb q n := ⟨_, rfl⟩
 rw [← hp] at sp np hf
 have := sp.1; have := sp.2; have := p.den_nz
 have P : (∃ X, AC Tryz.prog 204 [natA p.num.natAbs, .val (.int .i64 (pk n)), .val (.int .i64 most)] (.pure (.tup [natA X, .val (.bool true)])) ∧ AC Tryz.prog 204 [natA p.den, .val (.int .i64 (pk n)), .val (.int .i64 most)] (.pure (.tup [.agg [.sl 0 [] true], .val (.bool false)])))
   ∨ AC Tryz.prog 204 [natA p.num.natAbs, .val (.int .i64 (pk n)), .val (.int .i64 most)] (.pure (.tup [.agg [.sl 0 [] true], .val (.bool false)])) ∧ ((∃ Y, AC Tryz.prog 204 [natA p.den, .val (.int .i64 (pk n)), .val (.int .i64 most)] (.pure (.tup [natA Y, .val (.bool true)]))) ∨ AC Tryz.prog 204 [natA p.den, .val (.int .i64 (pk n)), .val (.int .i64 most)] (.pure (.tup [.agg [.sl 0 [] true], .val (.bool false)]))) := by
  by_cases f1 : fitsN p.num.natAbs (pk n) most
  ·exact .inl ⟨_, NPow_fit p.num.natAbs (pk n) most (by omega) k1 k2 hm (by omega) (by rw [Int.toNat_natCast]; exact f1), NPow_not p.den (pk n) most (by omega) k1 k2 hm (by omega) (by rw [Int.toNat_natCast]; exact fun f2 => hf ⟨f1, f2⟩)⟩
  ·refine .inr ⟨NPow_not p.num.natAbs (pk n) most (by omega) k1 k2 hm (by omega) (by rw [Int.toNat_natCast]; exact f1), ?_⟩
   by_cases f2 : fitsN p.den (pk n) most
   ·exact .inl ⟨_, NPow_fit p.den (pk n) most (by omega) k1 k2 hm (by omega) (by rw [Int.toNat_natCast]; exact f2)⟩
   ·exact .inr (NPow_not p.den (pk n) most (by omega) k1 k2 hm (by omega) (by rw [Int.toNat_natCast]; exact f2))
 clear sp np hf
 rcases Int.lt_or_le n 0 with hs | hs
 ·have hE := pk_neg hs hn.1
  have eN : decide (n < 0) = true := decide_eq_true hs
  rw [← show p = 1 / q by rw [hp]; unfold pb; rw [if_pos hs]] at hB
  have hD := down_ok p.num p.den
  rw [dn_den] at hD
  rw [← hE] at P
  clear hE hp k1 k2
  unfold RA RZ natA at *
  rcases P with ⟨X, P1, P2⟩ | ⟨P1, ⟨Y, P2⟩ | P2⟩
  ·conv => whnf
   refine cFq (e0) ?_
   conv => whnf
   refine ⟨_, hL, ?_⟩
   conv => whnf
   refine cTq (eN) ?_
   repeat ((conv => whnf); (first | refine ⟨_, ‹_›, ?_⟩ | refine ⟨nbq rfl, _, ‹_›, ?_⟩ | refine ⟨by kernel_rfl, ?_⟩ | exact rfl | exact ⟨nbq rfl, rfl⟩ | refine ⟨by decide, ?_⟩))
  ·conv => whnf
   refine cFq (e0) ?_
   conv => whnf
   refine ⟨_, hL, ?_⟩
   conv => whnf
   refine cTq (eN) ?_
   repeat ((conv => whnf); (first | refine ⟨_, ‹_›, ?_⟩ | refine ⟨nbq rfl, _, ‹_›, ?_⟩ | refine ⟨by kernel_rfl, ?_⟩ | exact rfl | exact ⟨nbq rfl, rfl⟩ | refine ⟨by decide, ?_⟩))
  ·conv => whnf
   refine cFq (e0) ?_
   conv => whnf
   refine ⟨_, hL, ?_⟩
   conv => whnf
   refine cTq (eN) ?_
   repeat ((conv => whnf); (first | refine ⟨_, ‹_›, ?_⟩ | refine ⟨nbq rfl, _, ‹_›, ?_⟩ | refine ⟨by kernel_rfl, ?_⟩ | exact rfl | exact ⟨nbq rfl, rfl⟩ | refine ⟨by decide, ?_⟩))
 ·have hE := pk_pos (show 0 < n by omega)
  have eN : decide (n < 0) = false := decide_eq_false (by omega)
  have hpe : p = q := by rw [hp]; unfold pb; rw [if_neg (by omega)]
  clear hB hF hp
  subst hpe
  have hD := down_ok p.num i
  rw [hi] at hD
  rw [hE] at P
  clear hE k1 k2
  unfold RA RZ natA at *
  rcases P with ⟨X, P1, P2⟩ | ⟨P1, ⟨Y, P2⟩ | P2⟩
  ·conv => whnf
   refine cFq (e0) ?_
   conv => whnf
   refine ⟨_, hL, ?_⟩
   conv => whnf
   refine cFq (eN) ?_
   repeat ((conv => whnf); (first | refine ⟨_, ‹_›, ?_⟩ | refine ⟨nbq rfl, _, ‹_›, ?_⟩ | refine ⟨by kernel_rfl, ?_⟩ | exact rfl | exact ⟨nbq rfl, rfl⟩ | refine ⟨by decide, ?_⟩))
  ·conv => whnf
   refine cFq (e0) ?_
   conv => whnf
   refine ⟨_, hL, ?_⟩
   conv => whnf
   refine cFq (eN) ?_
   repeat ((conv => whnf); (first | refine ⟨_, ‹_›, ?_⟩ | refine ⟨nbq rfl, _, ‹_›, ?_⟩ | refine ⟨by kernel_rfl, ?_⟩ | exact rfl | exact ⟨nbq rfl, rfl⟩ | refine ⟨by decide, ?_⟩))
  ·conv => whnf
   refine cFq (e0) ?_
   conv => whnf
   refine ⟨_, hL, ?_⟩
   conv => whnf
   refine cFq (eN) ?_
   repeat ((conv => whnf); (first | refine ⟨_, ‹_›, ?_⟩ | refine ⟨nbq rfl, _, ‹_›, ?_⟩ | refine ⟨by kernel_rfl, ?_⟩ | exact rfl | exact ⟨nbq rfl, rfl⟩ | refine ⟨by decide, ?_⟩))
end
section
theorem inv_parts {q : Rat} (h : q ≠ 0) : (1 / q).num.natAbs = q.den ∧ (1 / q).den = q.num.natAbs := by
 rw [Rat.div_def, Rat.one_mul, Rat.num_inv, Rat.den_inv, if_neg (num_ne h)]
 refine ⟨?_, rfl⟩
 rw [Int.natAbs_mul, Int.natAbs_natCast]
 have : q.num.sign.natAbs = 1 := by
  rcases Int.lt_trichotomy q.num 0 with h' | h' | h'
  ·rw [Int.sign_eq_neg_one_of_neg h']; rfl
  ·exact absurd h' (num_ne h)
  ·rw [Int.sign_eq_one_of_pos h']; rfl
 rw [this, Nat.one_mul]
theorem fit_par {q : Rat} {n most : Int} (hl : ¬ limQ q) (h0 : n ≠ 0) (hn : -9223372036854775808 ≤ n ∧ n < 9223372036854775808) (hm : most ≤ 200) (f1 : fitsN (pb q n).num.natAbs (pk n) most) (f2 : fitsN (pb q n).den (pk n) most) :
  ((pk n : Int) % 2 = 1) ↔ n.tmod 2 ≠ 0 := by
 have e2 : n.tmod 2 ≠ 0 ↔ n % 2 = 1 := by
  rcases Int.lt_or_le n 0 with h | h
  ·obtain ⟨m, rfl⟩ : ∃ m : Nat, n = -(m : Int) := ⟨n.natAbs, by omega⟩
   rw [Int.neg_tmod, Int.tmod_eq_emod_of_nonneg (by omega)]
   omega
  ·rw [Int.tmod_eq_emod_of_nonneg h]; omega
 rw [e2]
 by_cases hb : n < -9223372036854775807
 ·exfalso
  have hp : pk n = 9223372036854775807 := by unfold pk; rw [if_pos (by omega), if_pos hb]
  have hpb : pb q n = 1 / q := by unfold pb; rw [if_pos (by omega)]
  have np := num_ne (pb_ne n hl)
  have g1 := fitsN_big (by omega) (by omega) hm f1
  have g2 := fitsN_big (by have := (pb q n).den_nz; omega) (by omega) hm f2
  rw [hpb] at g1 g2
  obtain ⟨i1, i2⟩ := inv_parts (lim_num hl)
  exact hl ⟨i1.symm.trans g1, .inr (i2.symm.trans g2)⟩
 ·unfold pk
  split
  ·omega
  ·omega
theorem tmod_b (n : Int) : ((n.tmod 2) != 0) = decide (n.tmod 2 ≠ 0) := bneD Iff.rfl
theorem SPow_zero (q : Rat) (most : Int) : AC Tryz.prog 215 [RN q.num q.den, .val (.int .i64 0), .val (.int .i64 most)] (.pure (.tup [RN 1 1, .val (.bool true)])) := by
 refine AC.of_body TTok Tryz.func215 rfl (enter_of Tryz.func215 (by kernel_rfl) (by kernel_rfl)) (noid3 (RN_noid _ _) (.val _) (.val _)) (.tup _ (noid2 (RN_noid _ _) (.val _))) (nbq rfl) ?_
 have hF := SFrom_ok 1 (by decide)
 unfold RN at *
 repeat ((conv => whnf); (first | refine ⟨_, ‹_›, ?_⟩ | refine ⟨nbq rfl, _, ‹_›, ?_⟩ | refine ⟨by kernel_rfl, ?_⟩ | exact rfl | exact ⟨nbq rfl, rfl⟩ | refine ⟨by decide, ?_⟩))
theorem SPow_none (q : Rat) (n most : Int) (hq : q = 0) (h0 : n < 0) : AC Tryz.prog 215 [RN q.num q.den, .val (.int .i64 n), .val (.int .i64 most)] (.pure (.tup [RN 0 1, .val (.bool false)])) := by
 refine AC.of_body TTok Tryz.func215 rfl (enter_of Tryz.func215 (by kernel_rfl) (by kernel_rfl)) (noid3 (RN_noid _ _) (.val _) (.val _)) (.tup _ (noid2 (RN_noid _ _) (.val _))) (nbq rfl) ?_
 have hZ := SZero_ok
 have i0 := is0 q.num.natAbs
 rw [decide_eq_true (by rw [hq]; rfl)] at i0
 have e0 := beq_ne0 (show n ≠ 0 by omega)
 have eN : decide (n < 0) = true := decide_eq_true h0
 unfold RN at *
 conv => whnf
 refine cFq (e0) ?_
 conv => whnf
 refine cTq (i0) ?_
 conv => whnf
 refine cTq (eN) ?_
 repeat ((conv => whnf); (first | refine ⟨_, ‹_›, ?_⟩ | refine ⟨nbq rfl, _, ‹_›, ?_⟩ | refine ⟨by kernel_rfl, ?_⟩ | exact rfl | exact ⟨nbq rfl, rfl⟩ | refine ⟨by decide, ?_⟩))
theorem lim_sq {q : Rat} (hl : limQ q) : (q * q).num = (q.num.natAbs : Int) ∧ (q * q).den = 1 := by
 obtain ⟨h1, h2⟩ := hl
 obtain ⟨n, rfl⟩ : ∃ n : Int, q = (n : Rat) := ⟨q.num, Rat.ext rfl h1⟩
 have hn : (n : Rat).num = n := rfl
 rw [hn] at h2 ⊢
 have : n = 0 ∨ n = 1 ∨ n = -1 := by omega
 rw [← Rat.intCast_mul]
 rcases this with rfl | rfl | rfl
 ·exact q2r
 ·exact q2r
 ·exact q2r
theorem SPow_lim (q : Rat) (n most : Int) (hl : limQ q) (h0 : n ≠ 0) (hz : ¬ (q = 0 ∧ n < 0)) : AC Tryz.prog 215 [RN q.num q.den, .val (.int .i64 n), .val (.int .i64 most)] (.pure (.tup [RN (if n % 2 = 0 then q * q else q).num (if n % 2 = 0 then q * q else q).den, .val (.bool true)])) := by
 refine AC.of_body TTok Tryz.func215 rfl (enter_of Tryz.func215 (by kernel_rfl) (by kernel_rfl)) (noid3 (RN_noid _ _) (.val _) (.val _)) (.tup _ (noid2 (RN_noid _ _) (.val _))) (nbq rfl) ?_
 have hL := SLimited_ok q.num q.den
 rw [decide_eq_true (show q.den = 1 ∧ (q.num.natAbs = 0 ∨ q.num.natAbs = 1) from hl)] at hL
 have i0 := is0 q.num.natAbs
 have e0 := beq_ne0 h0
 have e2 : n.tmod 2 ≠ 0 ↔ ¬ n % 2 = 0 := by
  rcases Int.lt_or_le n 0 with h | h
  ·obtain ⟨m, rfl⟩ : ∃ m : Nat, n = -(m : Int) := ⟨n.natAbs, by omega⟩
   rw [Int.neg_tmod, Int.tmod_eq_emod_of_nonneg (by omega)]
   omega
  ·rw [Int.tmod_eq_emod_of_nonneg h]
 have e3 := tmod_b n
 rw [decide_eq_decide.2 e2] at e3
 have hres : RN (if n % 2 = 0 then q * q else q).num (if n % 2 = 0 then q * q else q).den = .agg [.val (.bool (decide (q.num < 0) && ((n.tmod 2) != 0))), .val (.string (decS q.num.natAbs)), .val (.string { data := #[49] })] := by
  rw [e3]
  obtain ⟨s1, s2⟩ := lim_sq hl
  unfold RN
  by_cases he : n % 2 = 0
  ·rw [if_pos he, s1, s2, decS_one, decide_eq_false (show ¬ ((q.num.natAbs : Int)) < 0 by omega), decide_eq_false (show ¬ ¬ n % 2 = 0 from fun h => h he), Bool.and_false, Int.natAbs_natCast]
  ·rw [if_neg he, hl.1, decS_one, decide_eq_true he, Bool.and_true]
 rw [hres]
 clear e2 e3 hres
 by_cases hq : q = 0
 ·have eN : decide (n < 0) = false := decide_eq_false (fun h => hz ⟨hq, h⟩)
  rw [decide_eq_true (by rw [hq]; rfl)] at i0
  unfold RN at *
  generalize decide (q.num < 0) = s at *
  cases s
  ·conv => whnf
   refine cFq (e0) ?_
   conv => whnf
   refine cTq (i0) ?_
   conv => whnf
   refine cFq (eN) ?_
   repeat ((conv => whnf); (first | refine ⟨_, ‹_›, ?_⟩ | refine ⟨nbq rfl, _, ‹_›, ?_⟩ | refine ⟨by kernel_rfl, ?_⟩ | exact rfl | exact ⟨nbq rfl, rfl⟩ | refine ⟨by decide, ?_⟩))
  ·conv => whnf
   refine cFq (e0) ?_
   conv => whnf
   refine cTq (i0) ?_
   conv => whnf
   refine cFq (eN) ?_
   repeat ((conv => whnf); (first | refine ⟨_, ‹_›, ?_⟩ | refine ⟨nbq rfl, _, ‹_›, ?_⟩ | refine ⟨by kernel_rfl, ?_⟩ | exact rfl | exact ⟨nbq rfl, rfl⟩ | refine ⟨by decide, ?_⟩))
 ·rw [decide_eq_false (by have := num_ne hq; omega)] at i0
  unfold RN at *
  generalize decide (q.num < 0) = s at *
  cases s
  ·conv => whnf
   refine cFq (e0) ?_
   conv => whnf
   refine cFq (i0) ?_
   repeat ((conv => whnf); (first | refine ⟨_, ‹_›, ?_⟩ | refine ⟨nbq rfl, _, ‹_›, ?_⟩ | refine ⟨by kernel_rfl, ?_⟩ | exact rfl | exact ⟨nbq rfl, rfl⟩ | refine ⟨by decide, ?_⟩))
  ·conv => whnf
   refine cFq (e0) ?_
   conv => whnf
   refine cFq (i0) ?_
   repeat ((conv => whnf); (first | refine ⟨_, ‹_›, ?_⟩ | refine ⟨nbq rfl, _, ‹_›, ?_⟩ | refine ⟨by kernel_rfl, ?_⟩ | exact rfl | exact ⟨nbq rfl, rfl⟩ | refine ⟨by decide, ?_⟩))
theorem SPow_fit (q : Rat) (n most : Int) (hn : -9223372036854775808 ≤ n ∧ n < 9223372036854775808) (hm : most ≤ 200) (lq : Sz q 99) (hl : ¬ limQ q) (h0 : n ≠ 0)
  (f1 : fitsN (pb q n).num.natAbs (pk n) most) (f2 : fitsN (pb q n).den (pk n) most) : AC Tryz.prog 215 [RN q.num q.den, .val (.int .i64 n), .val (.int .i64 most)] (.pure (.tup [RN (pb q n ^ pk n).num (pb q n ^ pk n).den, .val (.bool true)])) := by
 refine AC.of_body TTok Tryz.func215 rfl (enter_of Tryz.func215 (by kernel_rfl) (by kernel_rfl)) (noid3 (RN_noid _ _) (.val _) (.val _)) (.tup _ (noid2 (RN_noid _ _) (.val _))) (nbq rfl) ?_
 have hL := SLimited_ok q.num q.den
 rw [decide_eq_false (show ¬ (q.den = 1 ∧ (q.num.natAbs = 0 ∨ q.num.natAbs = 1)) from hl)] at hL
 have i0 := is0 q.num.natAbs
 rw [decide_eq_false (by have := num_ne (lim_num hl); omega)] at i0
 have e0 := beq_ne0 h0
 have hF := SFrom_ok 1 (by decide)
 have hB := SDiv_ok 1 q ⟨by show (limbs 1).length ≤ 99; rw [limbs_1]; decide, by show (limbs 1).length ≤ 99; rw [limbs_1]; decide⟩ lq (lim_num hl)
 rw [Rat.one_num, Rat.one_den] at hB
 have hZ := SZero_ok
 have sp := pb_sz n hl lq
 have np := num_ne (pb_ne n hl)
 obtain ⟨k1, k2⟩ := pk_bd h0 hn
 have hpn : n < 0 → IntKind.i64.wrap (0 - (if n < -9223372036854775807 then -9223372036854775807 else n)) = (pk n : Int) := fun h => by
  have := pk_neg h hn.1
  by_cases h2 : n < -9223372036854775807
  ·rw [if_pos (show -9223372036854775807 > n from h2)] at this
   rw [if_pos h2]; exact this
  ·rw [if_neg (show ¬ -9223372036854775807 > n from h2)] at this
   rw [if_neg h2]; exact this
 have hpar := fit_par hl h0 hn hm f1 f2
 obtain ⟨p, hp⟩ : ∃ p, p = pb q n := ⟨_, rfl⟩
 rw [← hp] at sp np f1 f2 ⊢
 have := sp.1; have := sp.2; have := p.den_nz
 have P1 := RPow_fit p.num.natAbs (pk n) most (by omega) k1 k2 hm (by omega) (by rw [Int.toNat_natCast]; exact f1)
 have P2 := RPow_fit p.den (pk n) most (by omega) k1 k2 hm (by omega) (by rw [Int.toNat_natCast]; exact f2)
 rw [Int.toNat_natCast] at P1 P2
 have hx : 0 < p.num.natAbs ^ pk n := Nat.pow_pos (by omega)
 have hres : RN (p ^ pk n).num (p ^ pk n).den = .agg [.val (.bool (decide (p.num < 0) && ((n.tmod 2) != 0))), .val (.string (decS (p.num.natAbs ^ pk n))), .val (.string (decS (p.den ^ pk n)))] := by
  rw [tmod_b, show decide (n.tmod 2 ≠ 0) = decide ((pk n : Int) % 2 = 1) from decide_eq_decide.2 hpar.symm]
  unfold RN
  rw [Rat.num_pow, Rat.den_pow, pow_sgn, sgn_abs, sgn_neg, decide_eq_false (show ¬ p.num.natAbs ^ pk n = 0 by omega)]
  simp only [Bool.not_false, Bool.and_true]
 rw [hres]
 clear hres sp np f1 f2 hx hpar
 have hsg : n < 0 → decide (q.num < 0) = decide (p.num < 0) := fun h => by
  rw [hp]; unfold pb; rw [if_pos h, Rat.div_def, Rat.one_mul, Rat.num_inv]
  refine decide_eq_decide.2 ?_
  have := q.den_pos
  rcases Int.lt_trichotomy q.num 0 with h' | h' | h'
  ·rw [Int.sign_eq_neg_one_of_neg h']; omega
  ·exact absurd h' (num_ne (lim_num hl))
  ·rw [Int.sign_eq_one_of_pos h']; omega
 revert P1 P2
 generalize p.num.natAbs ^ pk n = X
 generalize p.den ^ pk n = Y
 intro P1 P2
 rcases Int.lt_or_le n 0 with hs | hs
 ·have hE := hpn hs
  have eN : decide (n < 0) = true := decide_eq_true hs
  rw [← show p = 1 / q by rw [hp]; unfold pb; rw [if_pos hs]] at hB
  by_cases hb : n < -9223372036854775807
  ·have eB : decide (n < -9223372036854775807) = true := decide_eq_true hb
   rw [if_pos hb] at hE
   rw [← hE] at P1 P2
   clear hE hp k1 k2 hpn
   have hsq : decide (q.num < 0) = decide (p.num < 0) := hsg hs
   clear hsg
   unfold RN at *
   rw [hsq] at hL hB ⊢
   generalize decide (p.num < 0) = s at *
   cases s
   ·conv => whnf
    refine cFq (e0) ?_
    conv => whnf
    refine cFq (i0) ?_
    conv => whnf
    refine ⟨by decide, ?_⟩
    conv => whnf
    refine ⟨_, hL, ?_⟩
    conv => whnf
    refine cTq (eN) ?_
    conv => whnf
    refine ⟨_, hF, ?_⟩
    conv => whnf
    refine ⟨_, hB, ?_⟩
    conv => whnf
    refine ⟨by kernel_rfl, ?_⟩
    conv => whnf
    refine cTq (eB) ?_
    repeat ((conv => whnf); (first | refine ⟨_, ‹_›, ?_⟩ | refine ⟨nbq rfl, _, ‹_›, ?_⟩ | refine ⟨by kernel_rfl, ?_⟩ | exact rfl | exact ⟨nbq rfl, rfl⟩ | refine ⟨by decide, ?_⟩))
   ·conv => whnf
    refine cFq (e0) ?_
    conv => whnf
    refine cFq (i0) ?_
    conv => whnf
    refine ⟨by decide, ?_⟩
    conv => whnf
    refine ⟨_, hL, ?_⟩
    conv => whnf
    refine cTq (eN) ?_
    conv => whnf
    refine ⟨_, hF, ?_⟩
    conv => whnf
    refine ⟨_, hB, ?_⟩
    conv => whnf
    refine ⟨by kernel_rfl, ?_⟩
    conv => whnf
    refine cTq (eB) ?_
    repeat ((conv => whnf); (first | refine ⟨_, ‹_›, ?_⟩ | refine ⟨nbq rfl, _, ‹_›, ?_⟩ | refine ⟨by kernel_rfl, ?_⟩ | exact rfl | exact ⟨nbq rfl, rfl⟩ | refine ⟨by decide, ?_⟩))
  ·have eB : decide (n < -9223372036854775807) = false := decide_eq_false hb
   rw [if_neg hb] at hE
   rw [← hE] at P1 P2
   clear hE hp k1 k2 hpn
   have hsq : decide (q.num < 0) = decide (p.num < 0) := hsg hs
   clear hsg
   unfold RN at *
   rw [hsq] at hL hB ⊢
   generalize decide (p.num < 0) = s at *
   cases s
   ·conv => whnf
    refine cFq (e0) ?_
    conv => whnf
    refine cFq (i0) ?_
    conv => whnf
    refine ⟨by decide, ?_⟩
    conv => whnf
    refine ⟨_, hL, ?_⟩
    conv => whnf
    refine cTq (eN) ?_
    conv => whnf
    refine ⟨_, hF, ?_⟩
    conv => whnf
    refine ⟨_, hB, ?_⟩
    conv => whnf
    refine ⟨by kernel_rfl, ?_⟩
    conv => whnf
    refine cFq (eB) ?_
    repeat ((conv => whnf); (first | refine ⟨_, ‹_›, ?_⟩ | refine ⟨nbq rfl, _, ‹_›, ?_⟩ | refine ⟨by kernel_rfl, ?_⟩ | exact rfl | exact ⟨nbq rfl, rfl⟩ | refine ⟨by decide, ?_⟩))
   ·conv => whnf
    refine cFq (e0) ?_
    conv => whnf
    refine cFq (i0) ?_
    conv => whnf
    refine ⟨by decide, ?_⟩
    conv => whnf
    refine ⟨_, hL, ?_⟩
    conv => whnf
    refine cTq (eN) ?_
    conv => whnf
    refine ⟨_, hF, ?_⟩
    conv => whnf
    refine ⟨_, hB, ?_⟩
    conv => whnf
    refine ⟨by kernel_rfl, ?_⟩
    conv => whnf
    refine cFq (eB) ?_
    repeat ((conv => whnf); (first | refine ⟨_, ‹_›, ?_⟩ | refine ⟨nbq rfl, _, ‹_›, ?_⟩ | refine ⟨by kernel_rfl, ?_⟩ | exact rfl | exact ⟨nbq rfl, rfl⟩ | refine ⟨by decide, ?_⟩))
 ·have hE := pk_pos (show 0 < n by omega)
  have eN : decide (n < 0) = false := decide_eq_false (by omega)
  have hpe : p = q := by rw [hp]; unfold pb; rw [if_neg (by omega)]
  clear hB hF hp
  subst hpe
  rw [hE] at P1 P2
  clear hE k1 k2 hpn
  clear hsg
  unfold RN at *
  generalize decide (p.num < 0) = s at *
  cases s
  ·conv => whnf
   refine cFq (e0) ?_
   conv => whnf
   refine cFq (i0) ?_
   conv => whnf
   refine ⟨by decide, ?_⟩
   conv => whnf
   refine ⟨_, hL, ?_⟩
   conv => whnf
   refine cFq (eN) ?_
   repeat ((conv => whnf); (first | refine ⟨_, ‹_›, ?_⟩ | refine ⟨nbq rfl, _, ‹_›, ?_⟩ | refine ⟨by kernel_rfl, ?_⟩ | exact rfl | exact ⟨nbq rfl, rfl⟩ | refine ⟨by decide, ?_⟩))
  ·conv => whnf
   refine cFq (e0) ?_
   conv => whnf
   refine cFq (i0) ?_
   conv => whnf
   refine ⟨by decide, ?_⟩
   conv => whnf
   refine ⟨_, hL, ?_⟩
   conv => whnf
   refine cFq (eN) ?_
   repeat ((conv => whnf); (first | refine ⟨_, ‹_›, ?_⟩ | refine ⟨nbq rfl, _, ‹_›, ?_⟩ | refine ⟨by kernel_rfl, ?_⟩ | exact rfl | exact ⟨nbq rfl, rfl⟩ | refine ⟨by decide, ?_⟩))
theorem SPow_not (q : Rat) (n most : Int) (hn : -9223372036854775808 ≤ n ∧ n < 9223372036854775808) (hm : most ≤ 200) (lq : Sz q 99) (hl : ¬ limQ q) (h0 : n ≠ 0)
  (hf : ¬ (fitsN (pb q n).num.natAbs (pk n) most ∧ fitsN (pb q n).den (pk n) most)) : AC Tryz.prog 215 [RN q.num q.den, .val (.int .i64 n), .val (.int .i64 most)] (.pure (.tup [RN 0 1, .val (.bool false)])) := by
 refine AC.of_body TTok Tryz.func215 rfl (enter_of Tryz.func215 (by kernel_rfl) (by kernel_rfl)) (noid3 (RN_noid _ _) (.val _) (.val _)) (.tup _ (noid2 (RN_noid _ _) (.val _))) (nbq rfl) ?_
 have hL := SLimited_ok q.num q.den
 rw [decide_eq_false (show ¬ (q.den = 1 ∧ (q.num.natAbs = 0 ∨ q.num.natAbs = 1)) from hl)] at hL
 have i0 := is0 q.num.natAbs
 rw [decide_eq_false (by have := num_ne (lim_num hl); omega)] at i0
 have e0 := beq_ne0 h0
 have hF := SFrom_ok 1 (by decide)
 have hB := SDiv_ok 1 q ⟨by show (limbs 1).length ≤ 99; rw [limbs_1]; decide, by show (limbs 1).length ≤ 99; rw [limbs_1]; decide⟩ lq (lim_num hl)
 rw [Rat.one_num, Rat.one_den] at hB
 have hZ := SZero_ok
 have sp := pb_sz n hl lq
 have np := num_ne (pb_ne n hl)
 obtain ⟨k1, k2⟩ := pk_bd h0 hn
 have hpn : n < 0 → IntKind.i64.wrap (0 - (if n < -9223372036854775807 then -9223372036854775807 else n)) = (pk n : Int) := fun h => by
  have := pk_neg h hn.1
  by_cases h2 : n < -9223372036854775807
  ·rw [if_pos (show -9223372036854775807 > n from h2)] at this
   rw [if_pos h2]; exact this
  ·rw [if_neg (show ¬ -9223372036854775807 > n from h2)] at this
   rw [if_neg h2]; exact this
 obtain ⟨p, hp⟩ : ∃ p, p = pb q n := ⟨_, rfl⟩
 rw [← hp] at sp np hf
 have := sp.1; have := sp.2; have := p.den_nz
 have P : ∃ X Y b1 b2, (b1 && b2) = false ∧ AC Tryz.prog 223 [.val (.string (decS p.num.natAbs)), .val (.int .i64 (pk n)), .val (.int .i64 most)] (.pure (.tup [.val (.string X), .val (.bool b1)])) ∧ AC Tryz.prog 223 [.val (.string (decS p.den)), .val (.int .i64 (pk n)), .val (.int .i64 most)] (.pure (.tup [.val (.string Y), .val (.bool b2)])) := by
  have g1 : ∃ X b1, (b1 = true → fitsN p.num.natAbs (pk n) most) ∧ AC Tryz.prog 223 [.val (.string (decS p.num.natAbs)), .val (.int .i64 (pk n)), .val (.int .i64 most)] (.pure (.tup [.val (.string X), .val (.bool b1)])) := by
   by_cases f1 : fitsN p.num.natAbs (pk n) most
   ·exact ⟨_, true, fun _ => f1, RPow_fit p.num.natAbs (pk n) most (by omega) k1 k2 hm (by omega) (by rw [Int.toNat_natCast]; exact f1)⟩
   ·exact ⟨_, false, fun h => Bool.noConfusion h, RPow_not p.num.natAbs (pk n) most (by omega) k1 k2 hm (by omega) (by rw [Int.toNat_natCast]; exact f1)⟩
  have g2 : ∃ Y b2, (b2 = true → fitsN p.den (pk n) most) ∧ AC Tryz.prog 223 [.val (.string (decS p.den)), .val (.int .i64 (pk n)), .val (.int .i64 most)] (.pure (.tup [.val (.string Y), .val (.bool b2)])) := by
   by_cases f1 : fitsN p.den (pk n) most
   ·exact ⟨_, true, fun _ => f1, RPow_fit p.den (pk n) most (by omega) k1 k2 hm (by omega) (by rw [Int.toNat_natCast]; exact f1)⟩
   ·exact ⟨_, false, fun h => Bool.noConfusion h, RPow_not p.den (pk n) most (by omega) k1 k2 hm (by omega) (by rw [Int.toNat_natCast]; exact f1)⟩
  obtain ⟨X, b1, x1, x2⟩ := g1
  obtain ⟨Y, b2, y1, y2⟩ := g2
  refine ⟨X, Y, b1, b2, ?_, x2, y2⟩
  cases b1
  ·rfl
  ·cases b2
   ·rfl
   ·exact absurd ⟨x1 rfl, y1 rfl⟩ hf
 obtain ⟨X, Y, b1, b2, hbb, P1, P2⟩ := P
 clear sp np hf
 rcases Int.lt_or_le n 0 with hs | hs
 ·have hE := hpn hs
  have eN : decide (n < 0) = true := decide_eq_true hs
  rw [← show p = 1 / q by rw [hp]; unfold pb; rw [if_pos hs]] at hB
  by_cases hb : n < -9223372036854775807
  ·have eB : decide (n < -9223372036854775807) = true := decide_eq_true hb
   rw [if_pos hb] at hE
   rw [← hE] at P1 P2
   clear hE hp k1 k2 hpn
   unfold RN at *
   cases b1
   ·conv => whnf
    refine cFq (e0) ?_
    conv => whnf
    refine cFq (i0) ?_
    conv => whnf
    refine ⟨by decide, ?_⟩
    conv => whnf
    refine ⟨_, hL, ?_⟩
    conv => whnf
    refine cTq (eN) ?_
    conv => whnf
    refine ⟨_, hF, ?_⟩
    conv => whnf
    refine ⟨_, hB, ?_⟩
    conv => whnf
    refine ⟨by kernel_rfl, ?_⟩
    conv => whnf
    refine cTq (eB) ?_
    repeat ((conv => whnf); (first | refine ⟨_, ‹_›, ?_⟩ | refine ⟨nbq rfl, _, ‹_›, ?_⟩ | refine ⟨by kernel_rfl, ?_⟩ | exact rfl | exact ⟨nbq rfl, rfl⟩ | refine ⟨by decide, ?_⟩))
   ·cases b2
    ·conv => whnf
     refine cFq (e0) ?_
     conv => whnf
     refine cFq (i0) ?_
     conv => whnf
     refine ⟨by decide, ?_⟩
     conv => whnf
     refine ⟨_, hL, ?_⟩
     conv => whnf
     refine cTq (eN) ?_
     conv => whnf
     refine ⟨_, hF, ?_⟩
     conv => whnf
     refine ⟨_, hB, ?_⟩
     conv => whnf
     refine ⟨by kernel_rfl, ?_⟩
     conv => whnf
     refine cTq (eB) ?_
     repeat ((conv => whnf); (first | refine ⟨_, ‹_›, ?_⟩ | refine ⟨nbq rfl, _, ‹_›, ?_⟩ | refine ⟨by kernel_rfl, ?_⟩ | exact rfl | exact ⟨nbq rfl, rfl⟩ | refine ⟨by decide, ?_⟩))
    ·cases hbb
  ·have eB : decide (n < -9223372036854775807) = false := decide_eq_false hb
   rw [if_neg hb] at hE
   rw [← hE] at P1 P2
   clear hE hp k1 k2 hpn
   unfold RN at *
   cases b1
   ·conv => whnf
    refine cFq (e0) ?_
    conv => whnf
    refine cFq (i0) ?_
    conv => whnf
    refine ⟨by decide, ?_⟩
    conv => whnf
    refine ⟨_, hL, ?_⟩
    conv => whnf
    refine cTq (eN) ?_
    conv => whnf
    refine ⟨_, hF, ?_⟩
    conv => whnf
    refine ⟨_, hB, ?_⟩
    conv => whnf
    refine ⟨by kernel_rfl, ?_⟩
    conv => whnf
    refine cFq (eB) ?_
    repeat ((conv => whnf); (first | refine ⟨_, ‹_›, ?_⟩ | refine ⟨nbq rfl, _, ‹_›, ?_⟩ | refine ⟨by kernel_rfl, ?_⟩ | exact rfl | exact ⟨nbq rfl, rfl⟩ | refine ⟨by decide, ?_⟩))
   ·cases b2
    ·conv => whnf
     refine cFq (e0) ?_
     conv => whnf
     refine cFq (i0) ?_
     conv => whnf
     refine ⟨by decide, ?_⟩
     conv => whnf
     refine ⟨_, hL, ?_⟩
     conv => whnf
     refine cTq (eN) ?_
     conv => whnf
     refine ⟨_, hF, ?_⟩
     conv => whnf
     refine ⟨_, hB, ?_⟩
     conv => whnf
     refine ⟨by kernel_rfl, ?_⟩
     conv => whnf
     refine cFq (eB) ?_
     repeat ((conv => whnf); (first | refine ⟨_, ‹_›, ?_⟩ | refine ⟨nbq rfl, _, ‹_›, ?_⟩ | refine ⟨by kernel_rfl, ?_⟩ | exact rfl | exact ⟨nbq rfl, rfl⟩ | refine ⟨by decide, ?_⟩))
    ·cases hbb
 ·have hE := pk_pos (show 0 < n by omega)
  have eN : decide (n < 0) = false := decide_eq_false (by omega)
  have hpe : p = q := by rw [hp]; unfold pb; rw [if_neg (by omega)]
  clear hB hF hp
  subst hpe
  rw [hE] at P1 P2
  clear hE k1 k2 hpn
  unfold RN at *
  cases b1
  ·conv => whnf
   refine cFq (e0) ?_
   conv => whnf
   refine cFq (i0) ?_
   conv => whnf
   refine ⟨by decide, ?_⟩
   conv => whnf
   refine ⟨_, hL, ?_⟩
   conv => whnf
   refine cFq (eN) ?_
   repeat ((conv => whnf); (first | refine ⟨_, ‹_›, ?_⟩ | refine ⟨nbq rfl, _, ‹_›, ?_⟩ | refine ⟨by kernel_rfl, ?_⟩ | exact rfl | exact ⟨nbq rfl, rfl⟩ | refine ⟨by decide, ?_⟩))
  ·cases b2
   ·conv => whnf
    refine cFq (e0) ?_
    conv => whnf
    refine cFq (i0) ?_
    conv => whnf
    refine ⟨by decide, ?_⟩
    conv => whnf
    refine ⟨_, hL, ?_⟩
    conv => whnf
    refine cFq (eN) ?_
    repeat ((conv => whnf); (first | refine ⟨_, ‹_›, ?_⟩ | refine ⟨nbq rfl, _, ‹_›, ?_⟩ | refine ⟨by kernel_rfl, ?_⟩ | exact rfl | exact ⟨nbq rfl, rfl⟩ | refine ⟨by decide, ?_⟩))
   ·cases hbb
end
section
theorem limbs_small {n : Nat} (h : n < 4294967296) : (limbs n).length ≤ 1 := limbs_len_le (k := 1) (by omega)
theorem Sz_small {q : Rat} (h1 : q.num.natAbs < 4294967296) (h2 : q.den < 4294967296) : Sz q 1 := ⟨limbs_small h1, limbs_small h2⟩
end
section
theorem RN_selfn (x : Bool) (s t : ByteArray) : (!((x == x) && ((s.toList == s.toList) && ((t.toList == t.toList) && true)))) = false := by simp
theorem NumS (q : Rat) (i : Nat) (hi : dn i = q.den) (h : Sz q 100000) : AC Tryz.prog 106 [RA q.num i] (.pure (RN q.num q.den)) := by
 have := Num_ok q.num i h.1 (by rw [hi]; exact h.2)
 rwa [hi] at this
theorem Sz_zero : Sz 0 1 := Sz_small (by decide) (by decide)
end
section
theorem pow_both (q : Rat) (i : Nat) (n most : Int) (hi : dn i = q.den) (hn : -9223372036854775808 ≤ n ∧ n < 9223372036854775808) (hm : most ≤ 200) (lq : Sz q 99) : ∃ (d : Nat), dn d = (powQ q n most).1.den ∧
  AC Tryz.prog 181 [RA q.num i, .val (.int .i64 n), .val (.int .i64 most)] (.pure (.tup [RA (powQ q n most).1.num d, .val (.bool (powQ q n most).2)])) ∧
  AC Tryz.prog 215 [RN q.num q.den, .val (.int .i64 n), .val (.int .i64 most)] (.pure (.tup [RN (powQ q n most).1.num (powQ q n most).1.den, .val (.bool (powQ q n most).2)])) := by
 unfold powQ
 by_cases h0 : n = 0
 ·subst h0
  exact ⟨1, rfl, QPow_zero q i most, SPow_zero q most⟩
 ·rw [if_neg h0]
  by_cases hl : limQ q
  ·rw [if_pos hl]
   by_cases hz : q = 0 ∧ n < 0
   ·rw [if_pos hz]
    exact ⟨0, rfl, QPow_none q i n most hi hz.1 hz.2, SPow_none q n most hz.1 hz.2⟩
   ·rw [if_neg hz]
    have hS := SPow_lim q n most hl h0 hz
    by_cases he : n % 2 = 0
    ·rw [if_pos he] at hS ⊢
     exact ⟨_, dn_den _, QPow_even q i n most hi (lq.mono (by decide)) hl h0 hz he, hS⟩
    ·rw [if_neg he] at hS ⊢
     exact ⟨_, hi, QPow_odd q i n most hi hl h0 hz he, hS⟩
  ·rw [if_neg hl]
   by_cases hf : fitsN (pb q n).num.natAbs (pk n) most ∧ fitsN (pb q n).den (pk n) most
   ·rw [if_pos hf]
    exact ⟨_, dn_den _, QPow_fit q i n most hi hn hm (lq.mono (by decide)) hl h0 hf.1 hf.2, SPow_fit q n most hn hm lq hl h0 hf.1 hf.2⟩
   ·rw [if_neg hf]
    exact ⟨0, rfl, QPow_not q i n most hi hn hm (lq.mono (by decide)) hl h0 hf, SPow_not q n most hn hm lq hl h0 hf⟩
end
end Go.Proofs.YtbdklokfijjifaaGreat

set_option linter.unusedSimpArgs false
namespace Go.AL
open Go Go.RowKit
theorem SW.cutM {P : Program} {TT : Nat → Option TI} (hT : TTok P TT) {α : Type} {x y : Code} {Q : Exit → St → Prop} {s : St} (ts : α → List (Nat × AV)) (hs : α → List (Nat × LB)) (n m : Nat) (hm : s.m = m) (J : α → Prop)
  (h : axp P TT x (loopQ Q fun s2 => ∃ (a : α) (σ : List (Nat × Nat)), J a ∧ okT s2 (σf σ) n (ts a) ∧ okH s2 (σf σ) n (hs a) ∧ distinct (((hs a).map (·.1)).map (σf σ)) = true) s)
  (hy : ∀ a, J a → SW P y Q (mkS (ts a) (hs a) n m)) : SW P (.seq x y) Q s := by
 refine SW.cut (fun s3 => ∃ a, J a ∧ s3 = mkS (ts a) (hs a) n m) (((axp_sound hT _ _ _ h).keep).mono fun e s' hq => ?_) ?_
 ·obtain ⟨hq, hms⟩ := hq
  cases e with
  | normal =>
   obtain ⟨a, σ, g2, g3, g4, g5⟩ := hq
   exact ⟨mkS (ts a) (hs a) n m, Wk.of _ _ _ _ _ (by rw [hms, hm]) g3 g4 g5, (by rw [hms, hm]; rfl), a, g2, rfl⟩
  | _ => exact hq
 ·rintro s3 hm3 ⟨a, hJ, rfl⟩
  exact hy a hJ
theorem SW.seqA {P : Program} {TT : Nat → Option TI} (hT : TTok P TT) {x y : Code} {Q : Exit → St → Prop} {s : St} (h : axp P TT x (seqQ P y Q) s) : SW P (.seq x y) Q s := SW.seq (axp_sound hT _ _ _ h)
end Go.AL

set_option linter.unusedSimpArgs false
namespace Go.AL
open Go Go.RowKit
theorem eqGuard_sl (t : TypeId) (x y : Operand) (A B : Option Addr) (n c m d : Nat) (P : Program) (w : World) : (eqGuard .eql t x y (.slice A n c) (.slice B m d)).run P w = .ok () w := by
 simp [eqGuard]
theorem run_eql_nil {P : Program} (t e : TypeId) (A : Option Addr) (n c : Nat) (w : World) (h : P.underlying t = some (.slice e)) : (binOp .eql t (.slice A n c) (.slice none 0 0)).run P w = .ok (.bool A.isNone) w := by
 simp only [binOp]
 simp [run_equal_slice_nil w t e A n c h]
theorem SW.region_nil {P : Program} {TT : Nat → Option TI} (hT : TTok P TT) {Q : Exit → St → Prop} {s : St} {id : Nat} {ops : Array Oper} (l1 : List Oper) (o : Oper) {t e x d : Nat} {yt : TypeId} {sz : Nat} {rows : List (List AV)} {tight : Bool}
  (hops : ops.toList = l1 ++ [o]) (hg : o.guard = none) (ho : o.op = .binOp .eql t (.tmp x) (.const (.slice none 0 0)) yt) (hd : o.dst = some d) (hu : P.underlying t = some (.slice e))
  (h : aops P TT ops.toList l1 0 (fun s1 => dstOk (some d) s1.m = true ∧ s1.t x = .sl sz rows tight ∧ x < 1000000 ∧ ∀ bv : Bool, (bv = true → rows = []) → Q .normal ⟨putT s1.t (some d) (.val (.bool bv)), s1.h, s1.n + 8 * ops.toList.length, s1.m⟩) s) : SW P (.region id ops false) Q s := by
 unfold SW
 intro gh w0 F0 a w hR
 obtain ⟨F, ρ, hR'⟩ := hR
 refine wp_region ?_
 have := aops_pre (Q := fun e a w => ∃ s', Q e s' ∧ s'.m = s.m ∧ RelE gh w0 F0 s' a w) hT (ops := ops) s.n s.m [o] (fun i s1 a1 w1 hi hk hn hm1 hx => ?_) l1 0 s a w F ρ (by simpa using hops) (by rw [hops]; simp) rfl rfl h (by simpa using hR')
 ·rw [show l1.length + [o].length = ops.size by rw [← Array.length_toList, hops]; simp] at this
  simpa [List.range_eq_range'] using this
 obtain ⟨F1, ρ1, h1⟩ := hx
 obtain ⟨hdst, hsx, hx6, hQ⟩ := hk
 have hoi : ops[i]? = some o := by
  have hl : i = l1.length := by rw [hops] at hi; simp at hi; omega
  rw [← Array.getElem?_toList, hops, hl]
  simp
 show wpOps P ops _ [i] a1 w1
 have hw : Region.wanted o (yielded ops a1.tmps) = true := by simp [Region.wanted, hg]
 simp only [wpOps, hoi]
 rw [if_pos hw]
 refine .inl ?_
 have hv := h1.vals x
 rw [hsx, gval_lt hx6] at hv
 generalize hvv : a1.tmps.getD x undef = vx at hv
 cases hv with
 | sl A n c _ _ _ bl off vals hn' hc ht hw' hA h0 h1' h2 hno =>
  have he : a1.eval (.tmp x) = .slice A n c := hvv
  have hn0 : A.isNone = true → rows = [] := fun hh => by
   cases rows with
   | nil => rfl
   | cons r rs =>
    rw [(hA (by simp)).1] at hh
    cases hh
  have hP : Post P o a1 w1 gh w0 F0 (fun id => s.n + 8 * i ≤ id) (s.n + 8 * i) { s1 with h := updsH s1.h [] } (.val (.bool A.isNone)) := by
   refine Post.val h1 ?_ (.val _)
   have e2 : a1.eval (.const (.slice none 0 0)) = .slice none 0 0 := rfl
   simp only [execOp, ho, he, e2, Sem.run_bind]
   rw [eqGuard_sl]
   show ((Sem.run P (binOp BinOp.eql t (Value.slice A n c) (Value.slice none 0 0)) w1).andThen fun a w' => Sem.run P (pure (Next.value a)) w') = _
   rw [run_eql_nil t e A n c w1 hu]
   rfl
  refine hP.wp fun v' w' hx => ?_
  obtain ⟨F', ρ', h3, h4⟩ := hx
  have h5 := h3.putd h4 o.dst (by rw [hd]; exact hdst)
  rw [hd] at h5 ⊢
  show ∃ s', Q .normal s' ∧ s'.m = s.m ∧ RelE gh w0 F0 s' _ w'
  refine ⟨_, hQ A.isNone hn0, hm1, F', ρ', ?_⟩
  have hl : i + 1 = ops.toList.length := hi
  have h6 := h5.mono_fr (fr' := fun id => s1.n + 8 * ops.toList.length ≤ id) (fun id hid => ⟨by rw [hn] at hid; omega, by rw [hn] at hid; omega⟩)
  exact ⟨h6.defers, h6.size, h6.mle, h6.below, h6.Fb, h6.F0F, h6.Fnew, h6.vals, h6.blks, h6.inj, h6.fresh⟩
theorem SW.regionNil {P : Program} {TT : Nat → Option TI} (hT : TTok P TT) {Q : Exit → St → Prop} {s : St} {id : Nat} {ops : Array Oper} (o : Oper) {t e x d : Nat} {yt : TypeId} {sz : Nat} {rows : List (List AV)} {tight : Bool}
  (hops : ops.toList = ops.toList.dropLast ++ [o]) (hg : o.guard = none) (ho : o.op = .binOp .eql t (.tmp x) (.const (.slice none 0 0)) yt) (hd : o.dst = some d) (hu : P.underlying t = some (.slice e))
  (h : aopsF P TT ops.toList ops.toList.dropLast 0 (fun s1 => dstOk (some d) s1.m = true ∧ s1.t x = .sl sz rows tight ∧ x < 1000000 ∧ ∀ bv : Bool, (bv = true → rows = []) → Q .normal ⟨putT s1.t (some d) (.val (.bool bv)), s1.h, s1.n + 8 * ops.toList.length, s1.m⟩) s) : SW P (.region id ops false) Q s :=
 SW.region_nil hT _ o hops hg ho hd hu (by rw [aopsF_eq] at h; exact h)
end Go.AL

set_option linter.unusedSimpArgs false
namespace Go.AL
open Go Go.RowKit
theorem VR.nil_own {w : World} {F : Nat → Prop} {ρ : Nat → Option BI} {v : Value} {sz0 id : Nat} {bi : BI} (h : VR w F ρ v (.sl sz0 [] true)) (hρ : ρ id = some bi) : VR w F ρ v (.own id 0 0) := by
 cases h with
 | sl A n c _ _ _ b o vals hn hc ht hw hA h0 h1 h2 hno =>
  have hn0 : n = 0 := hn
  have hc0 : c = 0 := by rw [ht rfl, hn0]
  subst hn0
  subst hc0
  exact .own A id 0 0 0 bi hρ (Nat.le_refl _) (fun h => absurd h (Nat.lt_irrefl 0))
theorem updH_at (h : Nat → Option LB) (i : Nat) (x : Option LB) : updH h i x i = x := by
 show (bif Nat.beq i i then x else h i) = x
 rw [Nat.beq_refl]; rfl
theorem updH_off (h : Nat → Option LB) {i j : Nat} (x : Option LB) (hn : j ≠ i) : updH h i x j = h j := by
 show (bif Nat.beq j i then x else h j) = h j
 cases e : Nat.beq j i with
 | true => exact absurd (Nat.eq_of_beq_eq_true e) hn
 | false => rfl
theorem Wk.nilC {s : St} (b k sz : Nat) {sz0 sz1 : Nat} {row : List AV} (hb : s.h b = some (.cells sz0 [row])) (hk : row[k]? = some (.sl sz1 [] true)) :
  Wk s ⟨s.t, updH (updH s.h s.n (some (.cells sz []))) b (some (.cells sz0 [row.set k (.own s.n 0 0)])), s.n + 8, s.m⟩ := by
 intro gh w0 F0 a w ⟨F, ρ, hR⟩
 have hbn : b ≠ s.n := by
  intro e
  obtain ⟨bi, e1, _⟩ := hR.blks b _ hb
  have := hR.fresh s.n (Nat.le_refl _)
  rw [← e, e1] at this
  cases this
 have h1 := hR.name s.n (Nat.le_refl _) ⟨0, 0, sz, 0⟩ (.cells sz []) ⟨rfl, (fun r hr => (nomatch hr)), fun _ => rfl, fun h => absurd h (Nat.lt_irrefl 0)⟩ (fun h => absurd h (Nat.lt_irrefl 0)) (fun h => absurd h (Nat.lt_irrefl 0))
 have hb' : (updH s.h s.n (some (.cells sz []))) b = some (.cells sz0 [row]) := by
  rw [updH_off _ _ hbn]; exact hb
 refine ⟨F, _, { h1 with blks := fun id lb hl => ?_, inj := fun id id' bi bi' x1 x2 => ?_, fresh := fun id hid => h1.fresh id ⟨by have : s.n + 8 ≤ id := hid; show s.n ≤ id; omega, by have : s.n + 8 ≤ id := hid; omega⟩ }⟩
 ·have hl : updH (updH s.h s.n (some (.cells sz []))) b (some (.cells sz0 [row.set k (.own s.n 0 0)])) id = some lb := hl
  by_cases e : id = b
  ·subst e
   have hl' : LB.cells sz0 [row.set k (.own s.n 0 0)] = lb := by
    rw [updH_at] at hl
    exact Option.some.inj hl
   subst hl'
   obtain ⟨bi, e1, ⟨g1, g2, g3, g4⟩, g5⟩ := h1.blks id _ hb'
   have hrow : row.length = sz0 := g2 row List.mem_cons_self
   refine ⟨bi, e1, ⟨g1, ?_, ?_, ?_⟩, g5⟩
   ·intro r hr
    have : r = row.set k (.own s.n 0 0) := by simpa using hr
    rw [this, List.length_set]; exact hrow
   ·intro h0
    have := g3 h0
    have hr0 : row = [] := by simpa using this
    rw [hr0] at hk; cases hk
   ·intro hp
    obtain ⟨cs, ty, q1, q2, q3, q4⟩ := g4 hp
    refine ⟨cs, ty, q1, q2, q3, fun j x hx => ?_⟩
    have hx : (row.set k (.own s.n 0 0))[j]? = some x := by simpa using hx
    by_cases ej : j = k
    ·subst ej
     obtain ⟨o1, o2⟩ := q4 j (.sl sz1 [] true) (by simpa using hk)
     rw [List.getElem?_set_self' ] at hx
     have hx' : x = .own s.n 0 0 := by
      rw [hk] at hx
      exact (Option.some.inj hx).symm
     subst hx'
     exact ⟨o1, o2.nil_own (bi := ⟨0, 0, sz, 0⟩) (by unfold putρ; rw [if_pos rfl])⟩
    ·rw [List.getElem?_set_ne (fun h => ej h.symm)] at hx
     exact q4 j x (by simpa using hx)
  ·refine h1.blks id lb ?_
   show (updH s.h s.n (some (.cells sz []))) id = some lb
   rw [updH_off _ _ e] at hl
   exact hl
 ·have key : ∀ i, (updH (updH s.h s.n (some (.cells sz []))) b (some (.cells sz0 [row.set k (.own s.n 0 0)])) i).isSome = true → (updH s.h s.n (some (.cells sz [])) i).isSome = true := fun i hi => by
   by_cases e : i = b
   ·rw [e, hb']; rfl
   ·rw [updH_off _ _ e] at hi
    exact hi
  exact h1.inj id id' bi bi' (key id x1) (key id' x2)
theorem SW.nilC {P : Program} {c : Code} {Q : Exit → St → Prop} {s : St} (b k sz : Nat) {sz0 sz1 : Nat} {row : List AV} (hb : s.h b = some (.cells sz0 [row])) (hk : row[k]? = some (.sl sz1 [] true))
  (hs : SW P c Q ⟨s.t, updH (updH s.h s.n (some (.cells sz []))) b (some (.cells sz0 [row.set k (.own s.n 0 0)])), s.n + 8, s.m⟩) : SW P c Q s := SW.weak (Wk.nilC b k sz hb hk) rfl hs
end Go.AL

namespace Go.Proofs.YtbdklokfijjifaaGreat
open Go Go.AL NM
section
def rowX : Option (Rat × Nat) → List AV
 | none => [.sl 0 [] true, .val (.bool false), .sl 0 [] true]
 | some p => rowR p
def valX : Option (Rat × Nat) → Rat
 | none => 0
 | some p => p.1
def okX : Option (Rat × Nat) → Prop
 | none => True
 | some p => dn p.2 = p.1.den
theorem rowX_noid (o : Option (Rat × Nat)) : ∀ x ∈ rowX o, NoId x := by
 cases o with
 | none => exact noid3 (.sl _ _ _ (fun r hr => nomatch hr)) (.val _) (.sl _ _ _ (fun r hr => nomatch hr))
 | some p => exact rowR_noid p
theorem rowsX_noid (l : List (Option (Rat × Nat))) : ∀ r ∈ l.map rowX, ∀ x ∈ r, NoId x := by
 intro r hr
 obtain ⟨o, _, rfl⟩ := List.mem_map.1 hr
 exact rowX_noid o
theorem slX_noid (l : List (Option (Rat × Nat))) : NoId (.sl 3 (l.map rowX) false) := .sl _ _ _ (rowsX_noid l)
def AA (sh : List Int) (ch : Bool) (tx : List Int) (ns : List (Option (Rat × Nat))) (made : Bool) : AV :=
 .agg [.sl 1 (irows .i64 sh) false, .val (.bool ch), .sl 1 (irows .i32 tx) false, .sl 3 (ns.map rowX) false, .val (.bool made)]
theorem noid5 {a b c d e : AV} (h1 : NoId a) (h2 : NoId b) (h3 : NoId c) (h4 : NoId d) (h5 : NoId e) : ∀ x ∈ [a, b, c, d, e], NoId x := by
 intro x hx
 simp only [List.mem_cons, List.not_mem_nil, or_false] at hx
 rcases hx with rfl | rfl | rfl | rfl | rfl <;> assumption
theorem noidF {a b c d : AV} (h1 : NoId a) (h2 : NoId b) (h3 : NoId c) (h4 : NoId d) : ∀ x ∈ [a, b, c, d], NoId x := by
 intro x hx
 simp only [List.mem_cons, List.not_mem_nil, or_false] at hx
 rcases hx with rfl | rfl | rfl | rfl <;> assumption
theorem AA_noid (sh : List Int) (ch : Bool) (tx : List Int) (ns : List (Option (Rat × Nat))) (made : Bool) : NoId (AA sh ch tx ns made) :=
 .agg _ (noid5 (noid_sl _ _ _) (.val _) (noid_sl _ _ _) (slX_noid _) (.val _))
def rowN (q : Rat) : List AV := [.val (.bool (decide (q.num < 0))), .val (.string (decS q.num.natAbs)), .val (.string (decS q.den))]
theorem rowN_noid (q : Rat) : ∀ x ∈ rowN q, NoId x := noid3 (.val _) (.val _) (.val _)
theorem rowsN_noid (l : List Rat) : ∀ r ∈ l.map rowN, ∀ x ∈ r, NoId x := by
 intro r hr
 obtain ⟨o, _, rfl⟩ := List.mem_map.1 hr
 exact rowN_noid o
theorem slN_noid (l : List Rat) : NoId (.sl 3 (l.map rowN) false) := .sl _ _ _ (rowsN_noid l)
def PA (sh : List Int) (ch : Bool) (tx : List Int) (qs : List Rat) : AV :=
 .agg [.sl 1 (irows .i64 sh) false, .val (.bool ch), .sl 1 (irows .i32 tx) false, .sl 3 (qs.map rowN) false]
theorem PA_noid (sh : List Int) (ch : Bool) (tx : List Int) (qs : List Rat) : NoId (PA sh ch tx qs) := .agg _ (noidF (noid_sl _ _ _) (.val _) (noid_sl _ _ _) (slN_noid _))
theorem le_nil (k : Nat) : AVle (.sl 0 [] true) (.sl k [] false) := .sl _ _ _
theorem le_agg4 {a b c d a' b' c' d' : AV} (h1 : AVle a a') (h2 : AVle b b') (h3 : AVle c c') (h4 : AVle d d') : AVle (.agg [a, b, c, d]) (.agg [a', b', c', d']) :=
 .agg _ _ rfl (fun i x y hx hy => by
  match i with
  | 0 => cases hx; cases hy; exact h1
  | 1 => cases hx; cases hy; exact h2
  | 2 => cases hx; cases hy; exact h3
  | 3 => cases hx; cases hy; exact h4
  | (i + 4) => cases hx)
theorem le_agg5 {a b c d e a' b' c' d' e' : AV} (h1 : AVle a a') (h2 : AVle b b') (h3 : AVle c c') (h4 : AVle d d') (h5 : AVle e e') : AVle (.agg [a, b, c, d, e]) (.agg [a', b', c', d', e']) :=
 .agg _ _ rfl (fun i x y hx hy => by
  match i with
  | 0 => cases hx; cases hy; exact h1
  | 1 => cases hx; cases hy; exact h2
  | 2 => cases hx; cases hy; exact h3
  | 3 => cases hx; cases hy; exact h4
  | 4 => cases hx; cases hy; exact h5
  | (i + 5) => cases hx)
def AZ : AV := .agg [.sl 0 [] true, .val (.bool false), .sl 0 [] true, .sl 0 [] true, .val (.bool false)]
theorem AZ_noid : NoId AZ := .agg _ (noid5 (.sl _ _ _ (fun r hr => nomatch hr)) (.val _) (.sl _ _ _ (fun r hr => nomatch hr)) (.sl _ _ _ (fun r hr => nomatch hr)) (.val _))
theorem AZ_le : AVle AZ (AA [] false [] [] false) := le_agg5 (le_nil 1) (.refl _) (le_nil 1) (le_nil 3) (.refl _)
def PZ : AV := .agg [.sl 0 [] true, .val (.bool false), .sl 0 [] true, .sl 0 [] true]
theorem CloneI_ok (l : List Int) (hb : l.length ≤ 1000000) : AC Tryz.prog 43 [.sl 1 (irows .i64 l) false] (.pure (.sl 1 (irows .i64 l) false)) := by
 refine AC.of_sw TTok Tryz.func43 rfl (enter_of Tryz.func43 (by kernel_rfl) (by kernel_rfl)) (noid1 (noid_sl _ _ _)) (noid_sl _ _ _) (nbq rfl) ?_
 have hlen : (irows .i64 l).length = l.length := irows_len _ _
 refine SW.seqA TTok ?_
 conv => whnf
 refine SW.seq (SW.seq ?_)
 refine SW.regionNil (sz := 1) (rows := irows .i64 l) (tight := false) TTok _ rfl rfl rfl rfl (show Tryz.prog.underlying 27 = some (.slice 3) by kernel_rfl) ?_
 conv => whnf
 refine ⟨rfl, rfl, by decide, fun bv hbv => ?_⟩
 conv => whnf
 cases bv with
 | true =>
  have he := hbv rfl
  rw [he]
  refine SW.cond (t := true) rfl (fun _ => ?_) (fun h => Bool.noConfusion h)
  refine SW.seqA TTok ?_
  conv => whnf
  refine SW.weak (Wk.le 2 rfl (le_nil 1)) rfl ?_
  refine axp_sound TTok _ _ _ ?_
  conv => whnf
  exact rfl
 | false =>
  refine SW.cond (t := false) rfl (fun h => Bool.noConfusion h) (fun _ => ?_)
  refine axp_sound TTok _ _ _ ?_
  conv => whnf
  refine axp_sound TTok _ _ _ ?_
  conv => whnf
  refine ⟨⟨Nat.le_refl _, by show (0 + (irows .i64 l).length) * 8 ≤ 140737488355328; omega⟩, ?_⟩
  conv => whnf
  refine ⟨by show 0 + (0 + (irows .i64 l).length) ≤ (irows .i64 l).length; omega, ?_⟩
  show AV.sl 1 ((irows .i64 l).take (0 + (irows .i64 l).length)) false = _
  rw [Nat.zero_add, List.take_length]
theorem CloneR_ok (l : List Int) (hb : l.length ≤ 1000000) : AC Tryz.prog 100 [.sl 1 (irows .i32 l) false] (.pure (.sl 1 (irows .i32 l) false)) := by
 refine AC.of_sw TTok Tryz.func100 rfl (enter_of Tryz.func100 (by kernel_rfl) (by kernel_rfl)) (noid1 (noid_sl _ _ _)) (noid_sl _ _ _) (nbq rfl) ?_
 have hlen : (irows .i32 l).length = l.length := irows_len _ _
 refine SW.seqA TTok ?_
 conv => whnf
 refine SW.seq (SW.seq ?_)
 refine SW.regionNil (sz := 1) (rows := irows .i32 l) (tight := false) TTok _ rfl rfl rfl rfl (show Tryz.prog.underlying 29 = some (.slice 21) by kernel_rfl) ?_
 conv => whnf
 refine ⟨rfl, rfl, by decide, fun bv hbv => ?_⟩
 conv => whnf
 cases bv with
 | true =>
  have he := hbv rfl
  rw [he]
  refine SW.cond (t := true) rfl (fun _ => ?_) (fun h => Bool.noConfusion h)
  refine SW.seqA TTok ?_
  conv => whnf
  refine SW.weak (Wk.le 2 rfl (le_nil 1)) rfl ?_
  refine axp_sound TTok _ _ _ ?_
  conv => whnf
  exact rfl
 | false =>
  refine SW.cond (t := false) rfl (fun h => Bool.noConfusion h) (fun _ => ?_)
  refine axp_sound TTok _ _ _ ?_
  conv => whnf
  refine axp_sound TTok _ _ _ ?_
  conv => whnf
  refine ⟨⟨Nat.le_refl _, by show (0 + (irows .i32 l).length) * 4 ≤ 140737488355328; omega⟩, ?_⟩
  conv => whnf
  refine ⟨by show 0 + (0 + (irows .i32 l).length) ≤ (irows .i32 l).length; omega, ?_⟩
  show AV.sl 1 ((irows .i32 l).take (0 + (irows .i32 l).length)) false = _
  rw [Nat.zero_add, List.take_length]
theorem CloneQ_ok (l : List (Option (Rat × Nat))) (hb : l.length ≤ 1000000) : AC Tryz.prog 44 [.sl 3 (l.map rowX) false] (.pure (.sl 3 (l.map rowX) false)) := by
 refine AC.of_sw TTok Tryz.func44 rfl (enter_of Tryz.func44 (by kernel_rfl) (by kernel_rfl)) (noid1 (slX_noid _)) (slX_noid _) (nbq rfl) ?_
 have hlen : (l.map rowX).length = l.length := List.length_map _
 refine SW.seqA TTok ?_
 conv => whnf
 refine SW.seq (SW.seq ?_)
 refine SW.regionNil (sz := 3) (rows := l.map rowX) (tight := false) TTok _ rfl rfl rfl rfl (show Tryz.prog.underlying 30 = some (.slice 45) by kernel_rfl) ?_
 conv => whnf
 refine ⟨rfl, rfl, by decide, fun bv hbv => ?_⟩
 conv => whnf
 cases bv with
 | true =>
  have he := hbv rfl
  rw [he]
  refine SW.cond (t := true) rfl (fun _ => ?_) (fun h => Bool.noConfusion h)
  refine SW.seqA TTok ?_
  conv => whnf
  refine SW.weak (Wk.le 2 rfl (le_nil 3)) rfl ?_
  refine axp_sound TTok _ _ _ ?_
  conv => whnf
  exact rfl
 | false =>
  refine SW.cond (t := false) rfl (fun h => Bool.noConfusion h) (fun _ => ?_)
  refine axp_sound TTok _ _ _ ?_
  conv => whnf
  refine axp_sound TTok _ _ _ ?_
  conv => whnf
  refine ⟨⟨Nat.le_refl _, by show (0 + (l.map rowX).length) * 56 ≤ 140737488355328; omega⟩, ?_⟩
  conv => whnf
  refine ⟨by show 0 + (0 + (l.map rowX).length) ≤ (l.map rowX).length; omega, ?_⟩
  show AV.sl 3 ((l.map rowX).take (0 + (l.map rowX).length)) false = _
  rw [Nat.zero_add, List.take_length]
theorem CloneQ_fresh (l : List (Option (Rat × Nat))) (hne : l ≠ []) (hb : l.length ≤ 1000000) : AC Tryz.prog 44 [.sl 3 (l.map rowX) false] (.fresh 3 (l.map rowX)) := by
 refine AC.of_sw TTok Tryz.func44 rfl (enter_of Tryz.func44 (by kernel_rfl) (by kernel_rfl)) (noid1 (slX_noid _)) (rowsX_noid _) (nbq rfl) ?_
 have hlen : (l.map rowX).length = l.length := List.length_map _
 refine SW.seqA TTok ?_
 conv => whnf
 refine SW.seq (SW.seq ?_)
 refine SW.regionNil (sz := 3) (rows := l.map rowX) (tight := false) TTok _ rfl rfl rfl rfl (show Tryz.prog.underlying 30 = some (.slice 45) by kernel_rfl) ?_
 conv => whnf
 refine ⟨rfl, rfl, by decide, fun bv hbv => ?_⟩
 conv => whnf
 cases bv with
 | true => exact absurd (List.map_eq_nil_iff.1 (hbv rfl)) hne
 | false =>
  refine SW.cond (t := false) rfl (fun h => Bool.noConfusion h) (fun _ => ?_)
  refine axp_sound TTok _ _ _ ?_
  conv => whnf
  refine axp_sound TTok _ _ _ ?_
  conv => whnf
  refine ⟨⟨Nat.le_refl _, by show (0 + (l.map rowX).length) * 56 ≤ 140737488355328; omega⟩, ?_⟩
  conv => whnf
  refine ⟨rfl, by show 0 + (0 + (l.map rowX).length) ≤ (l.map rowX).length; omega, ?_⟩
  show (l.map rowX).take (0 + (l.map rowX).length) = _
  rw [Nat.zero_add, List.take_length]
end
section
def pmI (sh : List Int) : Int := sh.foldl (fun n d => n * max 1 d) 1
def cntI (sh : List Int) : Int := if 0 ∈ sh then 0 else pmI sh
def vS (sh : List Int) : Prop := sh.length ≤ 8 ∧ (∀ d ∈ sh, 0 ≤ d) ∧ pmI sh ≤ 4096
instance (sh : List Int) : Decidable (vS sh) := inferInstanceAs (Decidable (_ ∧ _))
theorem take_snoc {α : Type} {l : List α} {k : Nat} (hk : k < l.length) : l.take (k + 1) = l.take k ++ [l[k]] := by rw [List.take_add_one, List.getElem?_eq_getElem hk]; rfl
theorem pm_snoc (a : List Int) (d : Int) : pmI (a ++ [d]) = pmI a * max 1 d := by unfold pmI; rw [List.foldl_append]; rfl
theorem pm_take {sh : List Int} {k : Nat} (hk : k < sh.length) : pmI (sh.take (k + 1)) = pmI (sh.take k) * max 1 sh[k] := by rw [take_snoc hk, pm_snoc]
theorem pm_pos (sh : List Int) : 1 ≤ pmI sh := by
 have : ∀ (l : List Int) (n : Int), 1 ≤ n → 1 ≤ l.foldl (fun n d => n * max 1 d) n := by
  intro l
  induction l with
  | nil => exact fun n h => h
  | cons d l ih =>
   intro n h
   refine ih _ ?_
   show 1 ≤ n * max 1 d
   have h1 : 1 ≤ max 1 d := by omega
   have := Int.mul_le_mul h h1 (by decide) (by omega)
   omega
 exact this sh 1 (Int.le_refl _)
theorem pm_grow (a : List Int) (d : Int) : pmI a ≤ pmI a * max 1 d := by
 have h := Int.mul_le_mul_of_nonneg_left (show (1 : Int) ≤ max 1 d by omega) (show 0 ≤ pmI a by have := pm_pos a; omega)
 omega
theorem pm_mono (sh : List Int) (k : Nat) : pmI (sh.take k) ≤ pmI sh := by
 have key : ∀ j, pmI (sh.take k) ≤ pmI (sh.take (k + j)) := by
  intro j
  induction j with
  | zero => exact Int.le_refl _
  | succ j ih =>
   by_cases h : k + j < sh.length
   ·have h1 := pm_grow (sh.take (k + j)) sh[k + j]
    rw [show k + (j + 1) = k + j + 1 by omega, pm_take h]
    omega
   ·rw [List.take_of_length_le (show sh.length ≤ k + (j + 1) by omega)]
    rw [List.take_of_length_le (show sh.length ≤ k + j by omega)] at ih
    exact ih
 have := key sh.length
 rwa [List.take_of_length_le (show sh.length ≤ k + sh.length by omega)] at this
theorem vS_not_neg {sh : List Int} {k : Nat} (hk : k < sh.length) (h : sh[k] < 0) : ¬ vS sh := fun hv => by
 have := hv.2.1 _ (List.getElem_mem hk)
 omega
theorem vS_not_big {sh : List Int} {k : Nat} (hk : k < sh.length) (h : 4096 < pmI (sh.take (k + 1))) : ¬ vS sh := fun hv => by
 have := pm_mono sh (k + 1)
 have := hv.2.2
 omega
def CNT (sh : List Int) : AV := .tup [.val (.int .i64 (if vS sh then cntI sh else 0)), .val (.bool (decide (vS sh)))]
theorem CNT_noid (sh : List Int) : NoId (CNT sh) := .tup _ (noid2 (.val _) (.val _))
theorem CNT_bad {sh : List Int} (h : ¬ vS sh) : CNT sh = .tup [.val (.int .i64 0), .val (.bool false)] := by unfold CNT; rw [if_neg h, decide_eq_false h]
theorem CNT_good {sh : List Int} (h : vS sh) : CNT sh = .tup [.val (.int .i64 (cntI sh)), .val (.bool true)] := by unfold CNT; rw [if_pos h, decide_eq_true h]
theorem quo_test {n d : Int} (hn : 1 ≤ n) (hd : 0 ≤ d) : d > IntKind.i64.wrap ((4096 : Int).tdiv n) ↔ 4096 < n * max 1 d ∧ 1 ≤ d ∨ (4096 < n ∧ 1 ≤ d) := by
 have h0 : (4096 : Int).tdiv n = 4096 / n := Int.tdiv_eq_ediv_of_nonneg (by decide)
 have h1 : 0 ≤ (4096 : Int) / n := Int.ediv_nonneg (by decide) (by omega)
 have h2 : (4096 : Int) / n ≤ 4096 := Int.ediv_le_self _ (by decide)
 rw [h0, IntWalk.i64_in _ (by omega)]
 have h3 : (4096 : Int) / n < d ↔ 4096 < d * n := Int.ediv_lt_iff_lt_mul (by omega)
 rw [gt_iff_lt, h3, Int.mul_comm d n]
 by_cases h4 : 1 ≤ d
 ·rw [show max 1 d = d by omega]
  constructor
  ·exact fun h => .inl ⟨h, h4⟩
  ·rintro (h | h)
   ·exact h.1
   ·have := Int.mul_le_mul_of_nonneg_left h4 (show 0 ≤ n by omega)
    omega
 ·have : d = 0 := by omega
  subst this
  simp
theorem Count_ok (sh : List Int) (hb : sh.length ≤ 1000000) : AC Tryz.prog 42 [.sl 1 (irows .i64 sh) false] (.pure (CNT sh)) := by
 refine AC.of_body TTok Tryz.func42 rfl (enter_of Tryz.func42 (by kernel_rfl) (by kernel_rfl)) (noid1 (noid_sl _ _ _)) (CNT_noid _) (nbq rfl) ?_
 have hlen := irows_len .i64 sh
 by_cases h8 : sh.length > 8
 ·have t8 : decide (((irows .i64 sh).length : Int) > 8) = true := decide_eq_true (by omega)
  rw [CNT_bad (fun hv => by have := hv.1; omega)]
  conv => whnf
  refine cTq (t8) ?_
  repeat ((conv => whnf); (first | refine ⟨_, ‹_›, ?_⟩ | refine ⟨nbq rfl, _, ‹_›, ?_⟩ | refine ⟨by kernel_rfl, ?_⟩ | exact rfl | exact ⟨nbq rfl, rfl⟩ | refine ⟨by decide, ?_⟩))
 have t8 : decide (((irows .i64 sh).length : Int) > 8) = false := decide_eq_false (by omega)
 conv => whnf
 refine cFq (t8) ?_
 conv => whnf
 refine SW.loopM TTok (fun i : Nat => [(4, .val (.int .i64 (pmI (sh.take i)))), (5, .val (.bool (decide (0 ∈ sh.take i)))), (11, .sl 1 (irows .i64 sh) false), (12, .val (.int .i64 ((irows .i64 sh).length : Int))), (13, .val (.int .i64 (i : Int)))]) (fun i => []) 96 37 rfl (fun i => sh.length - i) (fun i => i ≤ sh.length ∧ pmI (sh.take i) ≤ 4096 ∧ ∀ d ∈ sh.take i, 0 ≤ d) 0 [] ⟨Nat.zero_le _, (by show (1 : Int) ≤ 4096; decide), fun d hd => nomatch hd⟩
  ⟨q2r, q2r, q2r, q2r, q2r, trivial⟩ trivial rfl ?_
 intro i hJ
 have hi : i ≤ sh.length := hJ.1
 have hp : pmI (sh.take i) ≤ 4096 := hJ.2.1
 have hd : ∀ d ∈ sh.take i, 0 ≤ d := hJ.2.2
 clear hJ
 have hp1 := pm_pos (sh.take i)
 by_cases hlt : i < sh.length
 ·have hg := irows_get .i64 sh (List.getElem?_eq_getElem hlt)
  have eI : IntKind.i64.wrap ((i : Int) + 1) = ((i + 1 : Nat) : Int) := by rw [IntWalk.i64_in _ (by omega)]; omega
  have hs := pm_take hlt
  have hts := take_snoc hlt
  by_cases hneg : sh[i] < 0
  ·rw [CNT_bad (vS_not_neg hlt hneg)]
   conv => whnf
   first | refine oTq (by omega) ?_ | refine oFq (by omega) ?_ | refine oEq (by omega) ?_ | refine oNq (by omega) ?_
   conv => whnf
   refine ⟨_, ⟨by omega, hg⟩, ?_⟩
   conv => whnf
   first | refine oTq (by omega) ?_ | refine oFq (by omega) ?_ | refine oEq (by omega) ?_ | refine oNq (by omega) ?_
   repeat ((conv => whnf); (first | refine ⟨_, ‹_›, ?_⟩ | refine ⟨nbq rfl, _, ‹_›, ?_⟩ | refine ⟨by kernel_rfl, ?_⟩ | exact rfl | exact ⟨nbq rfl, rfl⟩ | refine ⟨by decide, ?_⟩))
  ·have hq := quo_test hp1 (Int.not_lt.1 hneg)
   have hnz : pmI (sh.take i) ≠ 0 := by omega
   by_cases hbig : 4096 < pmI (sh.take (i + 1))
   ·rw [CNT_bad (vS_not_big hlt hbig)]
    have h1 : 1 ≤ sh[i] := by
     rcases Int.lt_or_le sh[i] 1 with h | h
     ·rw [hs, show max 1 sh[i] = 1 by omega] at hbig
      omega
     ·exact h
    rw [hs] at hbig
    have tq : decide (sh[i] > IntKind.i64.wrap ((4096 : Int).tdiv (pmI (sh.take i)))) = true := decide_eq_true (hq.2 (.inl ⟨hbig, h1⟩))
    conv => whnf
    first | refine oTq (by omega) ?_ | refine oFq (by omega) ?_ | refine oEq (by omega) ?_ | refine oNq (by omega) ?_
    conv => whnf
    refine ⟨_, ⟨by omega, hg⟩, ?_⟩
    conv => whnf
    first | refine oTq (by omega) ?_ | refine oFq (by omega) ?_ | refine oEq (by omega) ?_ | refine oNq (by omega) ?_
    conv => whnf
    refine ⟨hnz, ?_⟩
    conv => whnf
    refine cTq (tq) ?_
    repeat ((conv => whnf); (first | refine ⟨_, ‹_›, ?_⟩ | refine ⟨nbq rfl, _, ‹_›, ?_⟩ | refine ⟨by kernel_rfl, ?_⟩ | exact rfl | exact ⟨nbq rfl, rfl⟩ | refine ⟨by decide, ?_⟩))
   ·rw [hs] at hbig
    have tq : decide (sh[i] > IntKind.i64.wrap ((4096 : Int).tdiv (pmI (sh.take i)))) = false := decide_eq_false (fun h => by
     rcases hq.1 h with h | h
     ·exact hbig h.1
     ·omega)
    have e4 : IntKind.i64.wrap (pmI (sh.take i) * (if sh[i] > 1 then sh[i] else 1)) = pmI (sh.take (i + 1)) := by
     rw [hs, show (if sh[i] > 1 then sh[i] else 1) = max 1 sh[i] by split <;> omega]
     have := pm_grow (sh.take i) sh[i]
     exact IntWalk.i64_in _ (by omega)
    have fin : ∀ b : Bool, b = decide (0 ∈ sh.take (i + 1)) → AV.val (.bool b) = AV.val (.bool (decide (0 ∈ sh.take (i + 1)))) := fun b h => by rw [h]
    have hd' : ∀ d ∈ sh.take (i + 1), 0 ≤ d := by
     rw [hts]
     intro d hdd
     rcases List.mem_append.1 hdd with h | h
     ·exact hd d h
     ·rw [List.mem_singleton.1 h]; omega
    have hbig' : pmI (sh.take (i + 1)) ≤ 4096 := by rw [hs]; omega
    cases hz : decide (0 ∈ sh.take i) with
    | true =>
     have hz' := of_decide_eq_true hz
     conv => whnf
     first | refine oTq (by omega) ?_ | refine oFq (by omega) ?_ | refine oEq (by omega) ?_ | refine oNq (by omega) ?_
     conv => whnf
     refine ⟨_, ⟨by omega, hg⟩, ?_⟩
     conv => whnf
     first | refine oTq (by omega) ?_ | refine oFq (by omega) ?_ | refine oEq (by omega) ?_ | refine oNq (by omega) ?_
     conv => whnf
     refine ⟨hnz, ?_⟩
     conv => whnf
     refine cFq (tq) ?_
     conv => whnf
     refine ⟨i + 1, [], (by show sh.length - (i + 1) < sh.length - i; omega), ⟨hlt, hbig', hd'⟩, ⟨⟨valI e4, rfl⟩, ⟨fin _ (by rw [hts]; exact (decide_eq_true (List.mem_append_left _ hz')).symm), rfl⟩, q2r, q2r, ⟨valI eI, rfl⟩, trivial⟩, trivial, rfl⟩
    | false =>
     have hz' := of_decide_eq_false hz
     conv => whnf
     first | refine oTq (by omega) ?_ | refine oFq (by omega) ?_ | refine oEq (by omega) ?_ | refine oNq (by omega) ?_
     conv => whnf
     refine ⟨_, ⟨by omega, hg⟩, ?_⟩
     conv => whnf
     first | refine oTq (by omega) ?_ | refine oFq (by omega) ?_ | refine oEq (by omega) ?_ | refine oNq (by omega) ?_
     conv => whnf
     refine ⟨hnz, ?_⟩
     conv => whnf
     refine cFq (tq) ?_
     conv => whnf
     refine ⟨i + 1, [], (by show sh.length - (i + 1) < sh.length - i; omega), ⟨hlt, hbig', hd'⟩, ⟨⟨valI e4, rfl⟩, ⟨fin _ ?_, rfl⟩, q2r, q2r, ⟨valI eI, rfl⟩, trivial⟩, trivial, rfl⟩
     rw [hts]
     by_cases h0 : sh[i] = 0
     ·rw [show (sh[i] == 0) = true by rw [h0]; rfl]
      exact (decide_eq_true (List.mem_append_right _ (List.mem_singleton.2 h0.symm))).symm
     ·rw [show (sh[i] == 0) = false from beq_false_of_ne h0]
      refine (decide_eq_false (fun h => ?_)).symm
      rcases List.mem_append.1 h with h | h
      ·exact hz' h
      ·exact h0 (List.mem_singleton.1 h).symm
 ·have hie : i = sh.length := by omega
  have hta : sh.take i = sh := by rw [hie, List.take_length]
  rw [hta] at hp hd ⊢
  have hv : vS sh := ⟨by omega, hd, hp⟩
  rw [CNT_good hv]
  unfold cntI
  by_cases h0 : 0 ∈ sh
  ·rw [if_pos h0, decide_eq_true h0]
   conv => whnf
   first | refine oTq (by omega) ?_ | refine oFq (by omega) ?_ | refine oEq (by omega) ?_ | refine oNq (by omega) ?_
   repeat ((conv => whnf); (first | refine ⟨_, ‹_›, ?_⟩ | refine ⟨nbq rfl, _, ‹_›, ?_⟩ | refine ⟨by kernel_rfl, ?_⟩ | exact rfl | exact ⟨nbq rfl, rfl⟩ | refine ⟨by decide, ?_⟩))
  ·rw [if_neg h0, decide_eq_false h0]
   conv => whnf
   first | refine oTq (by omega) ?_ | refine oFq (by omega) ?_ | refine oEq (by omega) ?_ | refine oNq (by omega) ?_
   repeat ((conv => whnf); (first | refine ⟨_, ‹_›, ?_⟩ | refine ⟨nbq rfl, _, ‹_›, ?_⟩ | refine ⟨by kernel_rfl, ?_⟩ | exact rfl | exact ⟨nbq rfl, rfl⟩ | refine ⟨by decide, ?_⟩))
end
section
end
section
theorem IntsSame_ok (a b : List Int) (ha : a.length ≤ 1000000) (hb : b.length ≤ 1000000) : AC Tryz.prog 26 [.sl 1 (irows .i64 a) false, .sl 1 (irows .i64 b) false] (.pure (.val (.bool (decide (a = b))))) := by
 refine AC.of_body TTok Tryz.func26 rfl (enter_of Tryz.func26 (by kernel_rfl) (by kernel_rfl)) (noid2 (noid_sl _ _ _) (noid_sl _ _ _)) (.val _) (nbq rfl) ?_
 have h1 := irows_len .i64 a
 have h2 := irows_len .i64 b
 by_cases hl : a.length = b.length
 ·have tl : (((irows .i64 a).length : Int) != ((irows .i64 b).length : Int)) = false := by rw [h1, h2, hl]; simp
  conv => whnf
  refine cFq (tl) ?_
  conv => whnf
  refine SW.loopM TTok (fun i : Nat => [(0, .sl 1 (irows .i64 a) false), (1, .sl 1 (irows .i64 b) false), (5, .val (.int .i64 (i : Int)))]) (fun i => []) 56 26 rfl (fun i => a.length - i) (fun i => i ≤ a.length ∧ a.take i = b.take i) 0 [] ⟨Nat.zero_le _, rfl⟩
   ⟨q2r, q2r, q2r, trivial⟩ trivial rfl ?_
  intro i hJ
  have hi : i ≤ a.length := hJ.1
  have ht : a.take i = b.take i := hJ.2
  clear hJ
  by_cases hlt : i < a.length
  ·have hlt' : i < b.length := by omega
   have g1 := irows_get .i64 a (List.getElem?_eq_getElem hlt)
   have g2 := irows_get .i64 b (List.getElem?_eq_getElem hlt')
   have eI : IntKind.i64.wrap ((i : Int) + 1) = ((i + 1 : Nat) : Int) := by rw [IntWalk.i64_in _ (by omega)]; omega
   by_cases he : a[i] = b[i]
   ·have te : (a[i] != b[i]) = false := by rw [he]; simp
    conv => whnf
    first | refine oTq (by omega) ?_ | refine oFq (by omega) ?_ | refine oEq (by omega) ?_ | refine oNq (by omega) ?_
    conv => whnf
    refine ⟨_, ⟨by omega, g1⟩, ?_⟩
    conv => whnf
    refine ⟨_, ⟨by omega, g2⟩, ?_⟩
    conv => whnf
    refine ⟨by kernel_rfl, ?_⟩
    conv => whnf
    refine cFq (te) ?_
    conv => whnf
    refine ⟨i + 1, [], (by show a.length - (i + 1) < a.length - i; omega), ⟨hlt, (by show a.take (i + 1) = b.take (i + 1); rw [take_snoc hlt, take_snoc hlt', ht, he])⟩, ⟨q2r, q2r, ⟨valI eI, rfl⟩, trivial⟩, trivial, rfl⟩
   ·have te : (a[i] != b[i]) = true := by simpa using he
    rw [decide_eq_false (fun e => he (by subst e; rfl))]
    conv => whnf
    first | refine oTq (by omega) ?_ | refine oFq (by omega) ?_ | refine oEq (by omega) ?_ | refine oNq (by omega) ?_
    conv => whnf
    refine ⟨_, ⟨by omega, g1⟩, ?_⟩
    conv => whnf
    refine ⟨_, ⟨by omega, g2⟩, ?_⟩
    conv => whnf
    refine ⟨by kernel_rfl, ?_⟩
    conv => whnf
    refine cTq (te) ?_
    repeat ((conv => whnf); (first | refine ⟨_, ‹_›, ?_⟩ | refine ⟨nbq rfl, _, ‹_›, ?_⟩ | refine ⟨by kernel_rfl, ?_⟩ | exact rfl | exact ⟨nbq rfl, rfl⟩ | refine ⟨by decide, ?_⟩))
  ·have hie : i = a.length := by omega
   rw [decide_eq_true (by rw [hie, List.take_length, hl, List.take_length] at ht; exact ht)]
   conv => whnf
   first | refine oTq (by omega) ?_ | refine oFq (by omega) ?_ | refine oEq (by omega) ?_ | refine oNq (by omega) ?_
   repeat ((conv => whnf); (first | refine ⟨_, ‹_›, ?_⟩ | refine ⟨nbq rfl, _, ‹_›, ?_⟩ | refine ⟨by kernel_rfl, ?_⟩ | exact rfl | exact ⟨nbq rfl, rfl⟩ | refine ⟨by decide, ?_⟩))
 ·have tl : (((irows .i64 a).length : Int) != ((irows .i64 b).length : Int)) = true := by rw [h1, h2]; simpa using (show ¬ (a.length : Int) = b.length by omega)
  rw [decide_eq_false (fun e => hl (by rw [e]))]
  conv => whnf
  refine cTq (tl) ?_
  repeat ((conv => whnf); (first | refine ⟨_, ‹_›, ?_⟩ | refine ⟨nbq rfl, _, ‹_›, ?_⟩ | refine ⟨by kernel_rfl, ?_⟩ | exact rfl | exact ⟨nbq rfl, rfl⟩ | refine ⟨by decide, ?_⟩))
theorem Runes_ok (a b : List Int) (ha : a.length ≤ 1000000) (hb : b.length ≤ 1000000) : AC Tryz.prog 104 [.sl 1 (irows .i32 a) false, .sl 1 (irows .i32 b) false] (.pure (.val (.bool (decide (a = b))))) := by
 refine AC.of_body TTok Tryz.func104 rfl (enter_of Tryz.func104 (by kernel_rfl) (by kernel_rfl)) (noid2 (noid_sl _ _ _) (noid_sl _ _ _)) (.val _) (nbq rfl) ?_
 have h1 := irows_len .i32 a
 have h2 := irows_len .i32 b
 by_cases hl : a.length = b.length
 ·have tl : (((irows .i32 a).length : Int) != ((irows .i32 b).length : Int)) = false := by rw [h1, h2, hl]; simp
  conv => whnf
  refine cFq (tl) ?_
  conv => whnf
  refine SW.loopM TTok (fun i : Nat => [(0, .sl 1 (irows .i32 a) false), (1, .sl 1 (irows .i32 b) false), (5, .val (.int .i64 (i : Int)))]) (fun i => []) 56 26 rfl (fun i => a.length - i) (fun i => i ≤ a.length ∧ a.take i = b.take i) 0 [] ⟨Nat.zero_le _, rfl⟩
   ⟨q2r, q2r, q2r, trivial⟩ trivial rfl ?_
  intro i hJ
  have hi : i ≤ a.length := hJ.1
  have ht : a.take i = b.take i := hJ.2
  clear hJ
  by_cases hlt : i < a.length
  ·have hlt' : i < b.length := by omega
   have g1 := irows_get .i32 a (List.getElem?_eq_getElem hlt)
   have g2 := irows_get .i32 b (List.getElem?_eq_getElem hlt')
   have eI : IntKind.i64.wrap ((i : Int) + 1) = ((i + 1 : Nat) : Int) := by rw [IntWalk.i64_in _ (by omega)]; omega
   by_cases he : a[i] = b[i]
   ·have te : (a[i] != b[i]) = false := by rw [he]; simp
    conv => whnf
    first | refine oTq (by omega) ?_ | refine oFq (by omega) ?_ | refine oEq (by omega) ?_ | refine oNq (by omega) ?_
    conv => whnf
    refine ⟨_, ⟨by omega, g1⟩, ?_⟩
    conv => whnf
    refine ⟨_, ⟨by omega, g2⟩, ?_⟩
    conv => whnf
    refine ⟨by kernel_rfl, ?_⟩
    conv => whnf
    refine cFq (te) ?_
    conv => whnf
    refine ⟨i + 1, [], (by show a.length - (i + 1) < a.length - i; omega), ⟨hlt, (by show a.take (i + 1) = b.take (i + 1); rw [take_snoc hlt, take_snoc hlt', ht, he])⟩, ⟨q2r, q2r, ⟨valI eI, rfl⟩, trivial⟩, trivial, rfl⟩
   ·have te : (a[i] != b[i]) = true := by simpa using he
    rw [decide_eq_false (fun e => he (by subst e; rfl))]
    conv => whnf
    first | refine oTq (by omega) ?_ | refine oFq (by omega) ?_ | refine oEq (by omega) ?_ | refine oNq (by omega) ?_
    conv => whnf
    refine ⟨_, ⟨by omega, g1⟩, ?_⟩
    conv => whnf
    refine ⟨_, ⟨by omega, g2⟩, ?_⟩
    conv => whnf
    refine ⟨by kernel_rfl, ?_⟩
    conv => whnf
    refine cTq (te) ?_
    repeat ((conv => whnf); (first | refine ⟨_, ‹_›, ?_⟩ | refine ⟨nbq rfl, _, ‹_›, ?_⟩ | refine ⟨by kernel_rfl, ?_⟩ | exact rfl | exact ⟨nbq rfl, rfl⟩ | refine ⟨by decide, ?_⟩))
  ·have hie : i = a.length := by omega
   rw [decide_eq_true (by rw [hie, List.take_length, hl, List.take_length] at ht; exact ht)]
   conv => whnf
   first | refine oTq (by omega) ?_ | refine oFq (by omega) ?_ | refine oEq (by omega) ?_ | refine oNq (by omega) ?_
   repeat ((conv => whnf); (first | refine ⟨_, ‹_›, ?_⟩ | refine ⟨nbq rfl, _, ‹_›, ?_⟩ | refine ⟨by kernel_rfl, ?_⟩ | exact rfl | exact ⟨nbq rfl, rfl⟩ | refine ⟨by decide, ?_⟩))
 ·have tl : (((irows .i32 a).length : Int) != ((irows .i32 b).length : Int)) = true := by rw [h1, h2]; simpa using (show ¬ (a.length : Int) = b.length by omega)
  rw [decide_eq_false (fun e => hl (by rw [e]))]
  conv => whnf
  refine cTq (tl) ?_
  repeat ((conv => whnf); (first | refine ⟨_, ‹_›, ?_⟩ | refine ⟨nbq rfl, _, ‹_›, ?_⟩ | refine ⟨by kernel_rfl, ?_⟩ | exact rfl | exact ⟨nbq rfl, rfl⟩ | refine ⟨by decide, ?_⟩))
theorem Equal_ok (a b : List Int) (ha : a.length ≤ 1000000) (hb : b.length ≤ 1000000) : AC Tryz.prog 71 [.sl 1 (irows .i64 a) false, .sl 1 (irows .i64 b) false] (.pure (.val (.bool (decide (a = b))))) := by
 refine AC.of_body TTok Tryz.func71 rfl (enter_of Tryz.func71 (by kernel_rfl) (by kernel_rfl)) (noid2 (noid_sl _ _ _) (noid_sl _ _ _)) (.val _) (nbq rfl) ?_
 have h1 := irows_len .i64 a
 have h2 := irows_len .i64 b
 by_cases hl : a.length = b.length
 ·have tl : (((irows .i64 a).length : Int) != ((irows .i64 b).length : Int)) = false := by rw [h1, h2, hl]; simp
  conv => whnf
  refine cFq (tl) ?_
  conv => whnf
  refine SW.loopM TTok (fun i : Nat => [(0, .sl 1 (irows .i64 a) false), (1, .sl 1 (irows .i64 b) false), (12, .val (.int .i64 ((irows .i64 a).length : Int))), (13, .val (.int .i64 (i : Int)))]) (fun i => []) 72 26 rfl (fun i => a.length - i) (fun i => i ≤ a.length ∧ a.take i = b.take i) 0 [] ⟨Nat.zero_le _, rfl⟩
   ⟨q2r, q2r, q2r, q2r, trivial⟩ trivial rfl ?_
  intro i hJ
  have hi : i ≤ a.length := hJ.1
  have ht : a.take i = b.take i := hJ.2
  clear hJ
  by_cases hlt : i < a.length
  ·have hlt' : i < b.length := by omega
   have g1 := irows_get .i64 a (List.getElem?_eq_getElem hlt)
   have g2 := irows_get .i64 b (List.getElem?_eq_getElem hlt')
   have eI : IntKind.i64.wrap ((i : Int) + 1) = ((i + 1 : Nat) : Int) := by rw [IntWalk.i64_in _ (by omega)]; omega
   by_cases he : a[i] = b[i]
   ·have te : (a[i] != b[i]) = false := by rw [he]; simp
    conv => whnf
    first | refine oTq (by omega) ?_ | refine oFq (by omega) ?_ | refine oEq (by omega) ?_ | refine oNq (by omega) ?_
    conv => whnf
    refine ⟨_, ⟨by omega, g1⟩, ?_⟩
    conv => whnf
    refine ⟨_, ⟨by omega, g2⟩, ?_⟩
    conv => whnf
    refine ⟨by kernel_rfl, ?_⟩
    conv => whnf
    refine cFq (te) ?_
    conv => whnf
    refine ⟨i + 1, [], (by show a.length - (i + 1) < a.length - i; omega), ⟨hlt, (by show a.take (i + 1) = b.take (i + 1); rw [take_snoc hlt, take_snoc hlt', ht, he])⟩, ⟨q2r, q2r, q2r, ⟨valI eI, rfl⟩, trivial⟩, trivial, rfl⟩
   ·have te : (a[i] != b[i]) = true := by simpa using he
    rw [decide_eq_false (fun e => he (by subst e; rfl))]
    conv => whnf
    first | refine oTq (by omega) ?_ | refine oFq (by omega) ?_ | refine oEq (by omega) ?_ | refine oNq (by omega) ?_
    conv => whnf
    refine ⟨_, ⟨by omega, g1⟩, ?_⟩
    conv => whnf
    refine ⟨_, ⟨by omega, g2⟩, ?_⟩
    conv => whnf
    refine ⟨by kernel_rfl, ?_⟩
    conv => whnf
    refine cTq (te) ?_
    repeat ((conv => whnf); (first | refine ⟨_, ‹_›, ?_⟩ | refine ⟨nbq rfl, _, ‹_›, ?_⟩ | refine ⟨by kernel_rfl, ?_⟩ | exact rfl | exact ⟨nbq rfl, rfl⟩ | refine ⟨by decide, ?_⟩))
  ·have hie : i = a.length := by omega
   rw [decide_eq_true (by rw [hie, List.take_length, hl, List.take_length] at ht; exact ht)]
   conv => whnf
   first | refine oTq (by omega) ?_ | refine oFq (by omega) ?_ | refine oEq (by omega) ?_ | refine oNq (by omega) ?_
   repeat ((conv => whnf); (first | refine ⟨_, ‹_›, ?_⟩ | refine ⟨nbq rfl, _, ‹_›, ?_⟩ | refine ⟨by kernel_rfl, ?_⟩ | exact rfl | exact ⟨nbq rfl, rfl⟩ | refine ⟨by decide, ?_⟩))
 ·have tl : (((irows .i64 a).length : Int) != ((irows .i64 b).length : Int)) = true := by rw [h1, h2]; simpa using (show ¬ (a.length : Int) = b.length by omega)
  rw [decide_eq_false (fun e => hl (by rw [e]))]
  conv => whnf
  refine cTq (tl) ?_
  repeat ((conv => whnf); (first | refine ⟨_, ‹_›, ?_⟩ | refine ⟨nbq rfl, _, ‹_›, ?_⟩ | refine ⟨by kernel_rfl, ?_⟩ | exact rfl | exact ⟨nbq rfl, rfl⟩ | refine ⟨by decide, ?_⟩))
theorem ShSame_ok (a b : List Int) (ha : a.length ≤ 1000000) (hb : b.length ≤ 1000000) : AC Tryz.prog 133 [.sl 1 (irows .i64 a) false, .sl 1 (irows .i64 b) false] (.pure (.val (.bool (decide (a = b))))) := by
 refine AC.of_body TTok Tryz.func133 rfl (enter_of Tryz.func133 (by kernel_rfl) (by kernel_rfl)) (noid2 (noid_sl _ _ _) (noid_sl _ _ _)) (.val _) (nbq rfl) ?_
 have h := Equal_ok a b ha hb
 repeat ((conv => whnf); (first | refine ⟨_, ‹_›, ?_⟩ | refine ⟨nbq rfl, _, ‹_›, ?_⟩ | refine ⟨by kernel_rfl, ?_⟩ | exact rfl | exact ⟨nbq rfl, rfl⟩ | refine ⟨by decide, ?_⟩))
section
variable (sh : List Int) (ch : Bool) (tx : List Int) (ns : List (Option (Rat × Nat))) (made : Bool)
theorem ALen_ok (h1 : tx.length ≤ 1000000) (h2 : ns.length ≤ 1000000) : AC Tryz.prog 57 [AA sh ch tx ns made] (.pure (.val (.int .i64 ((tx.length + ns.length : Nat) : Int)))) := by
 refine AC.of_body TTok Tryz.func57 rfl (enter_of Tryz.func57 (by kernel_rfl) (by kernel_rfl)) (noid1 (AA_noid _ _ _ _ _)) (.val _) (nbq rfl) ?_
 unfold AA
 conv => whnf
 exact valI (by rw [irows_len, List.length_map, IntWalk.i64_in _ (by omega)]; omega)
theorem IsChar_ok : AC Tryz.prog 83 [AA sh ch tx ns made] (.pure (.val (.bool ch))) := by
 refine AC.of_body TTok Tryz.func83 rfl (enter_of Tryz.func83 (by kernel_rfl) (by kernel_rfl)) (noid1 (AA_noid _ _ _ _ _)) (.val _) (nbq rfl) ?_
 unfold AA
 repeat ((conv => whnf); (first | refine ⟨_, ‹_›, ?_⟩ | refine ⟨nbq rfl, _, ‹_›, ?_⟩ | refine ⟨by kernel_rfl, ?_⟩ | exact rfl | exact ⟨nbq rfl, rfl⟩ | refine ⟨by decide, ?_⟩))
theorem Shape_ok (h : sh.length ≤ 1000000) : AC Tryz.prog 27 [AA sh ch tx ns true] (.pure (.sl 1 (irows .i64 sh) false)) := by
 refine AC.of_body TTok Tryz.func27 rfl (enter_of Tryz.func27 (by kernel_rfl) (by kernel_rfl)) (noid1 (AA_noid _ _ _ _ _)) (noid_sl _ _ _) (nbq rfl) ?_
 have hC := CloneI_ok sh h
 unfold AA
 repeat ((conv => whnf); (first | refine ⟨_, ‹_›, ?_⟩ | refine ⟨nbq rfl, _, ‹_›, ?_⟩ | refine ⟨by kernel_rfl, ?_⟩ | exact rfl | exact ⟨nbq rfl, rfl⟩ | refine ⟨by decide, ?_⟩))
theorem Rank_ok (h : sh.length ≤ 1000000) : AC Tryz.prog 36 [AA sh ch tx ns true] (.pure (.val (.int .i64 (sh.length : Nat)))) := by
 refine AC.of_body TTok Tryz.func36 rfl (enter_of Tryz.func36 (by kernel_rfl) (by kernel_rfl)) (noid1 (AA_noid _ _ _ _ _)) (.val _) (nbq rfl) ?_
 have hS := Shape_ok sh ch tx ns h
 unfold AA at *
 conv => whnf
 refine ⟨_, hS, ?_⟩
 conv => whnf
 exact valI (by rw [irows_len])
theorem Runes86_ok (h : tx.length ≤ 1000000) : AC Tryz.prog 105 [AA sh ch tx ns made] (.pure (.sl 1 (irows .i32 tx) false)) := by
 refine AC.of_body TTok Tryz.func105 rfl (enter_of Tryz.func105 (by kernel_rfl) (by kernel_rfl)) (noid1 (AA_noid _ _ _ _ _)) (noid_sl _ _ _) (nbq rfl) ?_
 have hC := CloneR_ok tx h
 unfold AA
 repeat ((conv => whnf); (first | refine ⟨_, ‹_›, ?_⟩ | refine ⟨nbq rfl, _, ‹_›, ?_⟩ | refine ⟨by kernel_rfl, ?_⟩ | exact rfl | exact ⟨nbq rfl, rfl⟩ | refine ⟨by decide, ?_⟩))
theorem RatI_ok (k : Nat) (hk : k < ns.length) (hb : ns.length ≤ 1000000) : AC Tryz.prog 15 [AA sh ch tx ns made, .val (.int .i64 (k : Int))] (.pure (.agg (rowX ns[k]))) := by
 refine AC.of_body TTok Tryz.func15 rfl (enter_of Tryz.func15 (by kernel_rfl) (by kernel_rfl)) (noid2 (AA_noid _ _ _ _ _) (.val _)) (.agg _ (rowX_noid _)) (nbq rfl) ?_
 have hlen : (ns.map rowX).length = ns.length := List.length_map _
 have hg : (ns.map rowX)[k]? = some (rowX ns[k]) := by rw [List.getElem?_map, List.getElem?_eq_getElem hk]; rfl
 unfold AA
 cases hr : ns[k] with
 | none =>
  have hg : (ns.map rowX)[k]? = some [.sl 0 [] true, .val (.bool false), .sl 0 [] true] := by rw [hg, hr]; rfl
  conv => whnf
  first | refine oTq (by omega) ?_ | refine oFq (by omega) ?_ | refine oEq (by omega) ?_ | refine oNq (by omega) ?_
  conv => whnf
  refine ⟨_, ⟨by omega, hg⟩, ?_⟩
  repeat ((conv => whnf); (first | refine ⟨_, ‹_›, ?_⟩ | refine ⟨nbq rfl, _, ‹_›, ?_⟩ | refine ⟨by kernel_rfl, ?_⟩ | exact rfl | exact ⟨nbq rfl, rfl⟩ | refine ⟨by decide, ?_⟩))
 | some p =>
  have hg : (ns.map rowX)[k]? = some [.sl 1 (irows .u32 (limbs p.1.num.natAbs)) false, .val (.bool (decide (p.1.num < 0))), .sl 1 (irows .u32 (limbs p.2)) false] := by rw [hg, hr]; rfl
  conv => whnf
  first | refine oTq (by omega) ?_ | refine oFq (by omega) ?_ | refine oEq (by omega) ?_ | refine oNq (by omega) ?_
  conv => whnf
  refine ⟨_, ⟨by omega, hg⟩, ?_⟩
  repeat ((conv => whnf); (first | refine ⟨_, ‹_›, ?_⟩ | refine ⟨nbq rfl, _, ‹_›, ?_⟩ | refine ⟨by kernel_rfl, ?_⟩ | exact rfl | exact ⟨nbq rfl, rfl⟩ | refine ⟨by decide, ?_⟩))
theorem RuneI_ok (k : Nat) (hk : k < tx.length) (hb : tx.length ≤ 1000000) : AC Tryz.prog 134 [AA sh ch tx ns made, .val (.int .i64 (k : Int))] (.pure (.val (.int .i32 tx[k]))) := by
 refine AC.of_body TTok Tryz.func134 rfl (enter_of Tryz.func134 (by kernel_rfl) (by kernel_rfl)) (noid2 (AA_noid _ _ _ _ _) (.val _)) (.val _) (nbq rfl) ?_
 have hlen := irows_len .i32 tx
 have hg := irows_get .i32 tx (List.getElem?_eq_getElem hk)
 unfold AA
 conv => whnf
 first | refine oTq (by omega) ?_ | refine oFq (by omega) ?_ | refine oEq (by omega) ?_ | refine oNq (by omega) ?_
 conv => whnf
 refine ⟨_, ⟨by omega, hg⟩, ?_⟩
 repeat ((conv => whnf); (first | refine ⟨_, ‹_›, ?_⟩ | refine ⟨nbq rfl, _, ‹_›, ?_⟩ | refine ⟨by kernel_rfl, ?_⟩ | exact rfl | exact ⟨nbq rfl, rfl⟩ | refine ⟨by decide, ?_⟩))
end
theorem at_ok (i : Int) (one : Bool) : AC Tryz.prog 113 [.val (.int .i64 i), .val (.bool one)] (.pure (.val (.int .i64 (if one then 0 else i)))) := by
 refine AC.of_body TTok Tryz.func113 rfl (enter_of Tryz.func113 (by kernel_rfl) (by kernel_rfl)) (noid2 (.val _) (.val _)) (.val _) (nbq rfl) ?_
 cases one
 ·repeat ((conv => whnf); (first | refine ⟨_, ‹_›, ?_⟩ | refine ⟨nbq rfl, _, ‹_›, ?_⟩ | refine ⟨by kernel_rfl, ?_⟩ | exact rfl | exact ⟨nbq rfl, rfl⟩ | refine ⟨by decide, ?_⟩))
 ·repeat ((conv => whnf); (first | refine ⟨_, ‹_›, ?_⟩ | refine ⟨nbq rfl, _, ‹_›, ?_⟩ | refine ⟨by kernel_rfl, ?_⟩ | exact rfl | exact ⟨nbq rfl, rfl⟩ | refine ⟨by decide, ?_⟩))
end
section
theorem Nums_ok (sh : List Int) (ns : List (Option (Rat × Nat))) (hv : vS sh) (hc : cntI sh = (ns.length : Int)) (hb : ns.length ≤ 1000000) : AC Tryz.prog 14 [.sl 1 (irows .i64 sh) false, .sl 3 (ns.map rowX) false] (.pure (.tup [AA sh false [] ns true, .val (.bool true)])) := by
 have h8 := hv.1
 have hC := Count_ok sh (by omega)
 rw [CNT_good hv, hc] at hC
 have h1 := CloneI_ok sh (by omega)
 have h2 := CloneQ_ok ns hb
 have hlen : (ns.map rowX).length = ns.length := List.length_map _
 refine AC.le_res (?_ : AC Tryz.prog 14 _ (.pure (.tup [.agg [.sl 1 (irows .i64 sh) false, .val (.bool false), .sl 0 [] true, .sl 3 (ns.map rowX) false, .val (.bool true)], .val (.bool true)]))) (.tup2 (le_agg5 (.refl _) (.refl _) (le_nil 1) (.refl _) (.refl _)) (.refl _)) (.tup _ (noid2 (AA_noid _ _ _ _ _) (.val _)))
 refine AC.of_body TTok Tryz.func14 rfl (enter_of Tryz.func14 (by kernel_rfl) (by kernel_rfl)) (noid2 (noid_sl _ _ _) (slX_noid _)) (.tup _ (noid2 (.agg _ (noid5 (noid_sl _ _ _) (.val _) (.sl _ _ _ (fun r hr => nomatch hr)) (slX_noid _) (.val _))) (.val _))) (nbq rfl) ?_
 have t1 : (((ns.length : Nat) : Int) != ((ns.map rowX).length : Int)) = false := by rw [hlen]; simp
 conv => whnf
 refine ⟨_, hC, ?_⟩
 conv => whnf
 refine cFq (t1) ?_
 repeat ((conv => whnf); (first | refine ⟨_, ‹_›, ?_⟩ | refine ⟨nbq rfl, _, ‹_›, ?_⟩ | refine ⟨by kernel_rfl, ?_⟩ | exact rfl | exact ⟨nbq rfl, rfl⟩ | refine ⟨by decide, ?_⟩))
theorem NumX_ok (o : Option (Rat × Nat)) (ho : okX o) (hs : Sz (valX o) 100000) : AC Tryz.prog 106 [.agg (rowX o)] (.pure (RN (valX o).num (valX o).den)) := by
 cases o with
 | none =>
  have hz : AC Tryz.prog 106 [RA 0 0] (.pure (RN 0 1)) := NumS 0 0 rfl ⟨by show (limbs 0).length ≤ _; rw [limbs_zero]; exact Nat.zero_le _, by show (limbs 1).length ≤ _; rw [limbs_1]; decide⟩
  exact AC.le_args hz rfl (fun i x y hx hy => by
   match i with
   | 0 => cases hx; cases hy; exact RZ_le
   | (i + 1) => cases hx) (noid1 RZ_noid)
 | some p => exact NumS p.1 p.2 ho hs
theorem Plain_ok (sh : List Int) (ch : Bool) (tx : List Int) (ns : List (Option (Rat × Nat))) (h1 : sh.length ≤ 1000) (h2 : tx.length ≤ 100000) (h3 : ns.length ≤ 100000) (ho : ∀ o ∈ ns, okX o ∧ Sz (valX o) 100000) :
  AC Tryz.prog 59 [AA sh ch tx ns true] (.pure (PA sh ch tx (ns.map valX))) := by
 refine AC.of_body TTok Tryz.func59 rfl (enter_of Tryz.func59 (by kernel_rfl) (by kernel_rfl)) (noid1 (AA_noid _ _ _ _ _)) (PA_noid _ _ _ _) (nbq rfl) ?_
 have hS := Shape_ok sh ch tx ns (by omega)
 have hR := Runes86_ok sh ch tx ns true (by omega)
 have hlen : (ns.map rowX).length = ns.length := List.length_map _
 unfold AA at *
 conv => whnf
 refine ⟨_, hS, ?_⟩
 conv => whnf
 refine ⟨_, hR, ?_⟩
 conv => whnf
 refine ⟨by kernel_rfl, ?_⟩
 conv => whnf
 refine SW.nilC 72 3 3 rfl rfl ?_
 refine SW.loopM TTok (fun i : Nat => [(2, .lp 8 0), (3, .lp 72 0), (14, .sl 3 (ns.map rowX) false), (15, .val (.int .i64 ((ns.map rowX).length : Int))), (16, .val (.int .i64 (i : Int)))])
  (fun i => [(8, .cells 4 [[.sl 0 [] true, .val (.bool false), .sl 0 [] true, .sl 0 [] true]]), (72, .cells 4 [[.sl 1 (irows .i64 sh) false, .val (.bool ch), .sl 1 (irows .i32 tx) false, .own 120 0 i]]), (120, .cells 3 (((ns.take i).map valX).map rowN))]) 128 29 rfl (fun i => ns.length - i) (fun i => i ≤ ns.length) 0 [] (Nat.zero_le _)
  ⟨q2r, q2r, q2r, q2r, q2r, trivial⟩ ⟨q3r, q3r, ⟨rfl, .inl ⟨rfl, rowsN_noid _⟩⟩, trivial⟩ rfl ?_
 intro i hi
 have hi : i ≤ ns.length := hi
 have hql : (((ns.take i).map valX).map rowN).length = i := by rw [List.length_map, List.length_map, List.length_take]; omega
 by_cases hlt : i < ns.length
 ·have eI : IntKind.i64.wrap ((i : Int) + 1) = ((i + 1 : Nat) : Int) := by rw [IntWalk.i64_in _ (by omega)]; omega
  have hg : (ns.map rowX)[i]? = some (rowX ns[i]) := by rw [List.getElem?_map, List.getElem?_eq_getElem hlt]; rfl
  obtain ⟨o1, o2⟩ := ho _ (List.getElem_mem hlt)
  have hN := NumX_ok ns[i] o1 o2
  have hsn : ((ns.take i).map valX).map rowN ++ [rowN (valX ns[i])] = ((ns.take (i + 1)).map valX).map rowN := by
   rw [take_snoc hlt, List.map_append, List.map_append]; rfl
  have hdt : (((ns.take i).map valX).map rowN).drop 0 = ((ns.take i).map valX).map rowN := rfl
  have htk : ((((ns.take i).map valX).map rowN).drop 0).take i = ((ns.take i).map valX).map rowN := by rw [hdt, List.take_of_length_le (by omega)]
  cases hr : ns[i] with
  | none =>
   rw [hr] at hg hN hsn
   have hg : (ns.map rowX)[i]? = some [.sl 0 [] true, .val (.bool false), .sl 0 [] true] := hg
   have hN : AC Tryz.prog 106 [.agg [.sl 0 [] true, .val (.bool false), .sl 0 [] true]] (.pure (.agg (rowN (valX none)))) := hN
   unfold rowN at hN
   conv => whnf
   first | refine oTq (by omega) ?_ | refine oFq (by omega) ?_ | refine oEq (by omega) ?_ | refine oNq (by omega) ?_
   conv => whnf
   refine ⟨_, ⟨by omega, hg⟩, ?_⟩
   conv => whnf
   refine ⟨_, hN, ?_⟩
   conv => whnf
   refine ⟨⟨by show 0 + i ≤ _; omega, by show (i + 1) * 40 ≤ 140737488355328; omega, nbq rfl⟩, ?_⟩
   conv => whnf
   refine ⟨by kernel_rfl, ?_⟩
   conv => whnf
   refine ⟨i + 1, [(120, 208)], (by show ns.length - (i + 1) < ns.length - i; omega), hlt, ⟨q2r, q2r, q2r, q2r, ⟨valI eI, rfl⟩, trivial⟩, ⟨q3r, q3r, ⟨rfl, .inl ⟨celE ?_, rowsN_noid _⟩⟩, trivial⟩, rfl⟩
   rw [← hsn]
   show List.take i (List.drop 0 (((ns.take i).map valX).map rowN)) ++ [rowN (valX none)] = _
   rw [htk]
  | some p =>
   rw [hr] at hg hN hsn
   have hg : (ns.map rowX)[i]? = some [.sl 1 (irows .u32 (limbs p.1.num.natAbs)) false, .val (.bool (decide (p.1.num < 0))), .sl 1 (irows .u32 (limbs p.2)) false] := hg
   have hN : AC Tryz.prog 106 [.agg [.sl 1 (irows .u32 (limbs p.1.num.natAbs)) false, .val (.bool (decide (p.1.num < 0))), .sl 1 (irows .u32 (limbs p.2)) false]] (.pure (.agg (rowN (valX (some p))))) := hN
   unfold rowN at hN
   conv => whnf
   first | refine oTq (by omega) ?_ | refine oFq (by omega) ?_ | refine oEq (by omega) ?_ | refine oNq (by omega) ?_
   conv => whnf
   refine ⟨_, ⟨by omega, hg⟩, ?_⟩
   conv => whnf
   refine ⟨_, hN, ?_⟩
   conv => whnf
   refine ⟨⟨by show 0 + i ≤ _; omega, by show (i + 1) * 40 ≤ 140737488355328; omega, nbq rfl⟩, ?_⟩
   conv => whnf
   refine ⟨by kernel_rfl, ?_⟩
   conv => whnf
   refine ⟨i + 1, [(120, 208)], (by show ns.length - (i + 1) < ns.length - i; omega), hlt, ⟨q2r, q2r, q2r, q2r, ⟨valI eI, rfl⟩, trivial⟩, ⟨q3r, q3r, ⟨rfl, .inl ⟨celE ?_, rowsN_noid _⟩⟩, trivial⟩, rfl⟩
   rw [← hsn]
   show List.take i (List.drop 0 (((ns.take i).map valX).map rowN)) ++ [rowN (valX (some p))] = _
   rw [htk]
 ·have hie : i = ns.length := by omega
  subst hie
  rw [List.take_length] at *
  conv => whnf
  first | refine oTq (by omega) ?_ | refine oFq (by omega) ?_ | refine oEq (by omega) ?_ | refine oNq (by omega) ?_
  conv => whnf
  refine ⟨by show 0 + ns.length ≤ _; omega, ?_⟩
  show AV.agg [_, _, _, AV.sl 3 (List.take ns.length (List.drop 0 ((ns.map valX).map rowN))) false] = _
  rw [List.drop_zero, List.take_of_length_le (by omega)]
  rfl
theorem Num_ok' (q : Rat) (d : Nat) : AC Tryz.prog 92 [RA q.num d] (.pure (AA [] false [] [some (q, d)] true)) := by
 refine AC.le_res (?_ : AC Tryz.prog 92 _ (.pure (.agg [.sl 0 [] true, .val (.bool false), .sl 0 [] true, .sl 3 [rowR (q, d)] false, .val (.bool true)]))) (le_agg5 (le_nil 1) (.refl _) (le_nil 1) (.refl _) (.refl _)) (AA_noid _ _ _ _ _)
 refine AC.of_body TTok Tryz.func92 rfl (enter_of Tryz.func92 (by kernel_rfl) (by kernel_rfl)) (noid1 (RA_noid _ _)) (.agg _ (noid5 (.sl _ _ _ (fun r hr => nomatch hr)) (.val _) (.sl _ _ _ (fun r hr => nomatch hr)) (slX_noid [some (q, d)]) (.val _))) (nbq rfl) ?_
 unfold RA rowR
 conv => whnf
 exact ⟨Nat.le_refl _, rfl⟩
theorem AInt_ok (n : Int) (hn : -9223372036854775808 ≤ n ∧ n < 9223372036854775808) : AC Tryz.prog 40 [.val (.int .i64 n)] (.pure (AA [] false [] [some ((n : Rat), 1)] true)) := by
 refine AC.of_body TTok Tryz.func40 rfl (enter_of Tryz.func40 (by kernel_rfl) (by kernel_rfl)) (noid1 (.val _)) (AA_noid _ _ _ _ _) (nbq rfl) ?_
 have h1 := RatFrom_ok n hn
 have h2 := Num_ok' (n : Rat) 1
 rw [Rat.num_intCast] at h2
 generalize some ((n : Rat), 1) = o at *
 unfold RA AA at *
 repeat ((conv => whnf); (first | refine ⟨_, ‹_›, ?_⟩ | refine ⟨nbq rfl, _, ‹_›, ?_⟩ | refine ⟨by kernel_rfl, ?_⟩ | exact rfl | exact ⟨nbq rfl, rfl⟩ | refine ⟨by decide, ?_⟩))
end
section
def intX (n : Int) : Option (Rat × Nat) := some ((n : Rat), 1)
def i64b (n : Int) : Prop := -9223372036854775808 ≤ n ∧ n < 9223372036854775808
theorem intX_row (n : Int) : rowX (intX n) = [.sl 1 (irows .u32 (limbs n.natAbs)) false, .val (.bool (decide (n < 0))), .sl 1 (irows .u32 (limbs 1)) false] := by
 show [AV.sl 1 (irows .u32 (limbs ((n : Rat)).num.natAbs)) false, AV.val (.bool (decide (((n : Rat)).num < 0))), AV.sl 1 (irows .u32 (limbs 1)) false] = _
 rw [Rat.num_intCast]
theorem intN_row (n : Int) : rowN (n : Rat) = [.val (.bool (decide (n < 0))), .val (.string (decS n.natAbs)), .val (.string (decS 1))] := by
 unfold rowN
 rw [Rat.num_intCast, Rat.den_intCast]
theorem noid_own5 (n : Int) (l : List (Option (Rat × Nat))) : NoId (.agg [.sl 1 [[.val (.int .i64 n)]] false, .val (.bool false), .sl 0 [] true, .sl 3 (l.map rowX) false, .val (.bool true)]) :=
 .agg _ (noid5 (noid_sl .i64 [n] false) (.val _) (.sl _ _ _ (fun r hr => nomatch hr)) (slX_noid _) (.val _))
theorem AInts_ok (l : List Int) (hb : l.length ≤ 100000) (hl : ∀ n ∈ l, i64b n) : AC Tryz.prog 13 [.sl 1 (irows .i64 l) false] (.pure (AA [(l.length : Int)] false [] (l.map intX) true)) := by
 have hlen := irows_len .i64 l
 refine AC.le_res (?_ : AC Tryz.prog 13 _ (.pure (.agg [.sl 1 [[.val (.int .i64 ((irows .i64 l).length : Int))]] false, .val (.bool false), .sl 0 [] true, .sl 3 ((l.map intX).map rowX) false, .val (.bool true)]))) (by rw [hlen]; exact le_agg5 (.refl _) (.refl _) (le_nil 1) (.refl _) (.refl _)) (AA_noid _ _ _ _ _)
 refine AC.of_body TTok Tryz.func13 rfl (enter_of Tryz.func13 (by kernel_rfl) (by kernel_rfl)) (noid1 (noid_sl _ _ _)) (noid_own5 _ _) (nbq rfl) ?_
 conv => whnf
 refine SW.nilC 40 3 3 rfl rfl ?_
 refine SW.loopM TTok (fun i : Nat => [(2, .lp 0 0), (3, .lp 40 0), (10, .sl 1 (irows .i64 l) false), (11, .val (.int .i64 ((irows .i64 l).length : Int))), (12, .val (.int .i64 (i : Int)))])
  (fun i => [(0, .cells 5 [[.sl 0 [] true, .val (.bool false), .sl 0 [] true, .sl 0 [] true, .val (.bool false)]]), (24, .cells 1 [[.val (.int .i64 ((irows .i64 l).length : Int))]]), (40, .cells 5 [[.own 24 0 1, .val (.bool false), .sl 0 [] true, .own 80 0 i, .val (.bool true)]]), (80, .cells 3 (((l.take i).map intX).map rowX))]) 88 25 rfl (fun i => l.length - i) (fun i => i ≤ l.length) 0 [] (Nat.zero_le _)
  ⟨q2r, q2r, q2r, q2r, q2r, trivial⟩ ⟨q3r, q3r, q3r, ⟨rfl, .inl ⟨rfl, rowsX_noid _⟩⟩, trivial⟩ rfl ?_
 intro i hi
 have hi : i ≤ l.length := hi
 have hql : (((l.take i).map intX).map rowX).length = i := by rw [List.length_map, List.length_map, List.length_take]; omega
 by_cases hlt : i < l.length
 ·have eI : IntKind.i64.wrap ((i : Int) + 1) = ((i + 1 : Nat) : Int) := by rw [IntWalk.i64_in _ (by omega)]; omega
  have hg := irows_get .i64 l (List.getElem?_eq_getElem hlt)
  have hF := RatFrom_ok l[i] (hl _ (List.getElem_mem hlt))
  have hsn : ((l.take i).map intX).map rowX ++ [rowX (intX l[i])] = ((l.take (i + 1)).map intX).map rowX := by
   rw [take_snoc hlt, List.map_append, List.map_append]; rfl
  have htk : ((((l.take i).map intX).map rowX).drop 0).take i = ((l.take i).map intX).map rowX := by rw [List.drop_zero, List.take_of_length_le (by omega)]
  unfold RA at hF
  conv => whnf
  first | refine oTq (by omega) ?_ | refine oFq (by omega) ?_ | refine oEq (by omega) ?_ | refine oNq (by omega) ?_
  conv => whnf
  refine ⟨_, ⟨by omega, hg⟩, ?_⟩
  conv => whnf
  refine ⟨_, hF, ?_⟩
  conv => whnf
  refine ⟨⟨by show 0 + i ≤ _; omega, by show (i + 1) * 56 ≤ 140737488355328; omega, nbq rfl⟩, ?_⟩
  conv => whnf
  refine ⟨by kernel_rfl, ?_⟩
  conv => whnf
  refine ⟨i + 1, [(80, 160)], (by show l.length - (i + 1) < l.length - i; omega), hlt, ⟨q2r, q2r, q2r, q2r, ⟨valI eI, rfl⟩, trivial⟩, ⟨q3r, q3r, q3r, ⟨rfl, .inl ⟨celE ?_, rowsX_noid _⟩⟩, trivial⟩, rfl⟩
  rw [← hsn, intX_row]
  show List.take i (List.drop 0 (((l.take i).map intX).map rowX)) ++ [_] = _
  rw [htk]; rfl
 ·have hie : i = l.length := by omega
  subst hie
  rw [List.take_length] at *
  conv => whnf
  first | refine oTq (by omega) ?_ | refine oFq (by omega) ?_ | refine oEq (by omega) ?_ | refine oNq (by omega) ?_
  conv => whnf
  refine ⟨⟨by first | exact Nat.le_refl _ | (show 0 + l.length ≤ _; omega), by first | exact Nat.le_refl _ | (show 0 + l.length ≤ _; omega)⟩, ?_⟩
  have e : List.take l.length (List.drop 0 ((l.map intX).map rowX)) = (l.map intX).map rowX := by rw [List.drop_zero, List.take_of_length_le (by omega)]
  show AV.agg [_, _, _, AV.sl 3 (List.take l.length (List.drop 0 ((l.map intX).map rowX))) false, _] = _
  rw [e]
  rfl
theorem noid_own4 (n : Int) (l : List Rat) : NoId (.agg [.sl 1 [[.val (.int .i64 n)]] false, .val (.bool false), .sl 0 [] true, .sl 3 (l.map rowN) false]) :=
 .agg _ (noidF (noid_sl .i64 [n] false) (.val _) (.sl _ _ _ (fun r hr => nomatch hr)) (slN_noid _))
theorem RInts_ok (l : List Int) (hb : l.length ≤ 100000) (hl : ∀ n ∈ l, i64b n) : AC Tryz.prog 34 [.sl 1 (irows .i64 l) false] (.pure (PA [(l.length : Int)] false [] (l.map fun n : Int => (n : Rat)))) := by
 have hlen := irows_len .i64 l
 refine AC.le_res (?_ : AC Tryz.prog 34 _ (.pure (.agg [.sl 1 [[.val (.int .i64 ((irows .i64 l).length : Int))]] false, .val (.bool false), .sl 0 [] true, .sl 3 ((l.map fun n : Int => (n : Rat)).map rowN) false]))) (by rw [hlen]; exact le_agg4 (.refl _) (.refl _) (le_nil 1) (.refl _)) (PA_noid _ _ _ _)
 refine AC.of_body TTok Tryz.func34 rfl (enter_of Tryz.func34 (by kernel_rfl) (by kernel_rfl)) (noid1 (noid_sl _ _ _)) (noid_own4 _ _) (nbq rfl) ?_
 conv => whnf
 refine SW.nilC 40 3 3 rfl rfl ?_
 refine SW.loopM TTok (fun i : Nat => [(0, .sl 1 (irows .i64 l) false), (2, .lp 0 0), (3, .lp 40 0), (4, .val (.int .i64 (i : Int)))])
  (fun i => [(0, .cells 4 [[.sl 0 [] true, .val (.bool false), .sl 0 [] true, .sl 0 [] true]]), (24, .cells 1 [[.val (.int .i64 ((irows .i64 l).length : Int))]]), (40, .cells 4 [[.own 24 0 1, .val (.bool false), .sl 0 [] true, .own 64 0 i]]), (64, .cells 3 (((l.take i).map fun n : Int => (n : Rat)).map rowN))]) 72 26 rfl (fun i => l.length - i) (fun i => i ≤ l.length) 0 [] (Nat.zero_le _)
  ⟨q2r, q2r, q2r, q2r, trivial⟩ ⟨q3r, q3r, q3r, ⟨rfl, .inl ⟨rfl, rowsN_noid _⟩⟩, trivial⟩ rfl ?_
 intro i hi
 have hi : i ≤ l.length := hi
 have hql : (((l.take i).map fun n : Int => (n : Rat)).map rowN).length = i := by rw [List.length_map, List.length_map, List.length_take]; omega
 by_cases hlt : i < l.length
 ·have eI : IntKind.i64.wrap ((i : Int) + 1) = ((i + 1 : Nat) : Int) := by rw [IntWalk.i64_in _ (by omega)]; omega
  have hg := irows_get .i64 l (List.getElem?_eq_getElem hlt)
  have hF := SFrom_ok l[i] (hl _ (List.getElem_mem hlt))
  have hsn : ((l.take i).map fun n : Int => (n : Rat)).map rowN ++ [rowN ((l[i] : Int) : Rat)] = ((l.take (i + 1)).map fun n : Int => (n : Rat)).map rowN := by
   rw [take_snoc hlt, List.map_append, List.map_append]; rfl
  have htk : ((((l.take i).map fun n : Int => (n : Rat)).map rowN).drop 0).take i = ((l.take i).map fun n : Int => (n : Rat)).map rowN := by rw [List.drop_zero, List.take_of_length_le (by omega)]
  unfold RN at hF
  conv => whnf
  first | refine oTq (by omega) ?_ | refine oFq (by omega) ?_ | refine oEq (by omega) ?_ | refine oNq (by omega) ?_
  conv => whnf
  refine ⟨_, ⟨by omega, hg⟩, ?_⟩
  conv => whnf
  refine ⟨_, hF, ?_⟩
  conv => whnf
  refine ⟨⟨by show 0 + i ≤ _; omega, by show (i + 1) * 40 ≤ 140737488355328; omega, nbq rfl⟩, ?_⟩
  conv => whnf
  refine ⟨by kernel_rfl, ?_⟩
  conv => whnf
  refine ⟨i + 1, [(64, 168)], (by show l.length - (i + 1) < l.length - i; omega), hlt, ⟨q2r, q2r, q2r, ⟨valI eI, rfl⟩, trivial⟩, ⟨q3r, q3r, q3r, ⟨rfl, .inl ⟨celE ?_, rowsN_noid _⟩⟩, trivial⟩, rfl⟩
  rw [← hsn, intN_row]
  show List.take i (List.drop 0 (((l.take i).map fun n : Int => (n : Rat)).map rowN)) ++ [_] = _
  rw [htk]; rfl
 ·have hie : i = l.length := by omega
  subst hie
  rw [List.take_length] at *
  conv => whnf
  first | refine oTq (by omega) ?_ | refine oFq (by omega) ?_ | refine oEq (by omega) ?_ | refine oNq (by omega) ?_
  conv => whnf
  refine ⟨⟨by first | exact Nat.le_refl _ | (show 0 + l.length ≤ _; omega), by first | exact Nat.le_refl _ | (show 0 + l.length ≤ _; omega)⟩, ?_⟩
  have e : List.take l.length (List.drop 0 ((l.map fun n : Int => (n : Rat)).map rowN)) = (l.map fun n : Int => (n : Rat)).map rowN := by rw [List.drop_zero, List.take_of_length_le (by omega)]
  show AV.agg [_, _, _, AV.sl 3 (List.take l.length (List.drop 0 ((l.map fun n : Int => (n : Rat)).map rowN))) false] = _
  rw [e]
  rfl
end
section
abbrev TX := Bool × List Int × List Int
def rowB (x : TX) : List AV := [.val (.bool x.1), .val (.string (strL x.2.1)), .val (.string (strL x.2.2))]
def PB (sh : List Int) (ch : Bool) (tx : List Int) (L : List TX) : AV :=
 .agg [.sl 1 (irows .i64 sh) false, .val (.bool ch), .sl 1 (irows .i32 tx) false, .sl 3 (L.map rowB) false]
def RQx (x : TX) : Prop := RQ x.1 x.2.1 x.2.2
def qX (x : TX) : Rat := qOf x.1 x.2.1 x.2.2
def bytX (x : TX) : Prop := Byt x.2.1 ∧ Byt x.2.2
def smX (x : TX) : Prop := x.2.1.length ≤ 40 ∧ x.2.2.length ≤ 40
def kinds (sh : List Int) (ch : Bool) (a b : Nat) : Prop := if ch then (a : Int) = cntI sh ∧ b = 0 else (b : Int) = cntI sh ∧ a = 0
open Classical in
noncomputable def goodB (sh : List Int) (ch : Bool) (tx : List Int) (L : List TX) : Bool := decide (vS sh ∧ kinds sh ch tx.length L.length ∧ ∀ x ∈ L, RQx x)
end
section
def QR (q : Rat) : Prop := ∃ b s t, RQ b s t ∧ Byt s ∧ Byt t ∧ s.length ≤ 40 ∧ t.length ≤ 40 ∧ q = qOf b s t
theorem QR.sz {q : Rat} (h : QR q) : Sz q 5 := by
 obtain ⟨b, s, t, h1, _, _, h4, h5, rfl⟩ := h
 exact RQ_sz h1 h4 h5 (by decide)
theorem QR.of {q : Rat} (h : QR q) : AC Tryz.prog 101 [RN q.num q.den] (.pure (.tup [RA q.num q.den, .val (.bool true)])) := by
 obtain ⟨b, s, t, h1, h2, h3, h4, h5, rfl⟩ := h
 have hO := SOf_ok b s t h2 h3 (by omega) (by omega) h1.1 h1.2.1 h1.2.2.2.2.1
 rw [decide_eq_true h1, RQ_is h1] at hO
 exact hO
theorem QR.right {q : Rat} (h : QR q) : AC Tryz.prog 127 [RN q.num q.den] (.pure (.val (.bool true))) := by
 obtain ⟨b, s, t, h1, h2, h3, h4, h5, rfl⟩ := h
 have hR := SRight_ok b s t h2 h3 (by omega) (by omega)
 rw [decide_eq_true h1, RQ_is h1] at hR
 exact hR
end
section
def ofX (q : Rat) : Option (Rat × Nat) := some (q, q.den)
end
section
theorem PSame_ok (sh : List Int) (ch : Bool) (tx : List Int) (qs : List Rat) (h1 : sh.length ≤ 1000) (h2 : tx.length ≤ 100000) (h3 : qs.length ≤ 100000) : AC Tryz.prog 58 [PA sh ch tx qs, PA sh ch tx qs] (.pure (.val (.bool true))) := by
 refine AC.of_body TTok Tryz.func58 rfl (enter_of Tryz.func58 (by kernel_rfl) (by kernel_rfl)) (noid2 (PA_noid _ _ _ _) (PA_noid _ _ _ _)) (.val _) (nbq rfl) ?_
 have hI := IntsSame_ok sh sh (by omega) (by omega)
 rw [decide_eq_true rfl] at hI
 have hR := Runes_ok tx tx (by omega) (by omega)
 rw [decide_eq_true rfl] at hR
 have l3 : (qs.map rowN).length = qs.length := List.length_map _
 have hbb : (!(ch == ch)) = false := by cases ch <;> rfl
 unfold PA
 conv => whnf
 refine cFq (hbb) ?_
 conv => whnf
 refine ⟨_, hI, ?_⟩
 conv => whnf
 refine ⟨_, hR, ?_⟩
 conv => whnf
 first | refine nTq (by omega) ?_ | refine nFq (by omega) ?_
 conv => whnf
 refine SW.loopM TTok (fun i : Nat => [(2, .lp 0 0), (3, .lp 8 0), (5, .val (.int .i64 (i : Int)))]) (fun i => [(0, .cells 4 [[.sl 1 (irows .i64 sh) false, .val (.bool ch), .sl 1 (irows .i32 tx) false, .sl 3 (qs.map rowN) false]]), (8, .cells 4 [[.sl 1 (irows .i64 sh) false, .val (.bool ch), .sl 1 (irows .i32 tx) false, .sl 3 (qs.map rowN) false]])]) 272 54 rfl (fun i => qs.length - i) (fun i => i ≤ qs.length) 0 [] (Nat.zero_le _)
  ⟨q2r, q2r, q2r, trivial⟩ ⟨q3r, q3r, trivial⟩ rfl ?_
 intro i hi
 have hi : i ≤ qs.length := hi
 by_cases hlt : i < qs.length
 ·have eI : IntKind.i64.wrap ((i : Int) + 1) = ((i + 1 : Nat) : Int) := by rw [IntWalk.i64_in _ (by omega)]; omega
  have hg : (qs.map rowN)[i]? = some [.val (.bool (decide (qs[i].num < 0))), .val (.string (decS qs[i].num.natAbs)), .val (.string (decS qs[i].den))] := by rw [List.getElem?_map, List.getElem?_eq_getElem hlt]; rfl
  conv => whnf
  first | refine oTq (by omega) ?_ | refine oFq (by omega) ?_ | refine oEq (by omega) ?_ | refine oNq (by omega) ?_
  conv => whnf
  refine ⟨_, ⟨by omega, hg⟩, ?_⟩
  conv => whnf
  refine ⟨_, ⟨by omega, hg⟩, ?_⟩
  conv => whnf
  refine ⟨by kernel_rfl, ?_⟩
  conv => whnf
  refine cFq (RN_selfn _ _ _) ?_
  conv => whnf
  refine ⟨i + 1, [], (by show qs.length - (i + 1) < qs.length - i; omega), hlt, ⟨q2r, q2r, ⟨valI eI, rfl⟩, trivial⟩, ⟨q3r, q3r, trivial⟩, rfl⟩
 ·conv => whnf
  first | refine oTq (by omega) ?_ | refine oFq (by omega) ?_ | refine oEq (by omega) ?_ | refine oNq (by omega) ?_
  repeat ((conv => whnf); (first | refine ⟨_, ‹_›, ?_⟩ | refine ⟨nbq rfl, _, ‹_›, ?_⟩ | refine ⟨by kernel_rfl, ?_⟩ | exact rfl | exact ⟨nbq rfl, rfl⟩ | refine ⟨by decide, ?_⟩))
def fitS (sa sb : List Int) (la lb : Nat) : List Int × Bool × Bool × Int :=
 if sa = sb then (sa, false, false, 0)
 else if la = 1 ∧ (lb ≠ 1 ∨ sa.length < sb.length) then (sb, true, false, 0)
 else if lb = 1 then (sa, false, true, 0)
 else if sa.length ≠ sb.length then ([], false, false, 23) else ([], false, false, 24)
def FV (x : List Int × Bool × Bool × Int) : AV := .tup [.sl 1 (irows .i64 x.1) false, .val (.bool x.2.1), .val (.bool x.2.2.1), .val (.int .i64 x.2.2.2)]
theorem FV_noid (x : List Int × Bool × Bool × Int) : NoId (FV x) := .tup _ (noidF (noid_sl _ _ _) (.val _) (.val _) (.val _))
theorem le_tup4 {a b c d a' : AV} (h1 : AVle a a') : AVle (.tup [a, b, c, d]) (.tup [a', b, c, d]) :=
 .tup _ _ rfl (fun i x y hx hy => by
  match i with
  | 0 => cases hx; cases hy; exact h1
  | 1 => cases hx; cases hy; exact .refl _
  | 2 => cases hx; cases hy; exact .refl _
  | 3 => cases hx; cases hy; exact .refl _
  | (i + 4) => cases hx)
theorem FV_err {P : Program} {f : FuncId} {args : List AV} {e : Int} (h : AC P f args (.pure (.tup [.sl 0 [] true, .val (.bool false), .val (.bool false), .val (.int .i64 e)]))) : AC P f args (.pure (FV ([], false, false, e))) :=
 AC.le_res h (le_tup4 (le_nil 1)) (FV_noid _)
theorem FE_noid (e : Int) : NoId (.tup [.sl 0 [] true, .val (.bool false), .val (.bool false), .val (.int .i64 e)]) := .tup _ (noidF (.sl _ _ _ (fun r hr => nomatch hr)) (.val _) (.val _) (.val _))
section
variable (sa sb : List Int) (ca cb : Bool) (ta tb : List Int)
theorem Fit_ok (na nb : List (Option (Rat × Nat))) (h1 : sa.length ≤ 1000) (h2 : sb.length ≤ 1000) (h3 : ta.length ≤ 100000) (h4 : tb.length ≤ 100000) (h5 : na.length ≤ 100000) (h6 : nb.length ≤ 100000) :
  AC Tryz.prog 110 [AA sa ca ta na true, AA sb cb tb nb true] (.pure (FV (fitS sa sb (ta.length + na.length) (tb.length + nb.length)))) := by
 have hLa := ALen_ok sa ca ta na true (by omega) (by omega)
 have hLb := ALen_ok sb cb tb nb true (by omega) (by omega)
 have hSa := Shape_ok sa ca ta na (by omega)
 have hSb := Shape_ok sb cb tb nb (by omega)
 have hRa := Rank_ok sa ca ta na (by omega)
 have hRb := Rank_ok sb cb tb nb (by omega)
 have hE := ShSame_ok sa sb (by omega) (by omega)
 have nd := noid2 (AA_noid sa ca ta na true) (AA_noid sb cb tb nb true)
 generalize ta.length + na.length = la at *
 generalize tb.length + nb.length = lb at *
 unfold fitS
 unfold AA at *
 by_cases hs : sa = sb
 ·rw [if_pos hs]
  rw [decide_eq_true hs] at hE
  refine AC.of_body TTok Tryz.func110 rfl (enter_of Tryz.func110 (by kernel_rfl) (by kernel_rfl)) nd (FV_noid _) (nbq rfl) ?_
  repeat ((conv => whnf); (first | refine ⟨_, ‹_›, ?_⟩ | refine ⟨nbq rfl, _, ‹_›, ?_⟩ | refine ⟨by kernel_rfl, ?_⟩ | exact rfl | exact ⟨nbq rfl, rfl⟩ | refine ⟨by decide, ?_⟩ | refine oTq (by omega) ?_ | refine oFq (by omega) ?_ | refine oEq (by omega) ?_ | refine oNq (by omega) ?_ | refine nTq (by omega) ?_ | refine nFq (by omega) ?_))
 ·rw [if_neg hs]
  rw [decide_eq_false hs] at hE
  by_cases hla : la = 1
  ·by_cases hx : lb ≠ 1 ∨ sa.length < sb.length
   ·rw [if_pos ⟨hla, hx⟩]
    refine AC.of_body TTok Tryz.func110 rfl (enter_of Tryz.func110 (by kernel_rfl) (by kernel_rfl)) nd (FV_noid _) (nbq rfl) ?_
    by_cases hlb : lb = 1
    ·have hx' := hx.resolve_left (fun h => h hlb)
     repeat ((conv => whnf); (first | refine ⟨_, ‹_›, ?_⟩ | refine ⟨nbq rfl, _, ‹_›, ?_⟩ | refine ⟨by kernel_rfl, ?_⟩ | exact rfl | exact ⟨nbq rfl, rfl⟩ | refine ⟨by decide, ?_⟩ | refine oTq (by omega) ?_ | refine oFq (by omega) ?_ | refine oEq (by omega) ?_ | refine oNq (by omega) ?_ | refine nTq (by omega) ?_ | refine nFq (by omega) ?_))
    ·repeat ((conv => whnf); (first | refine ⟨_, ‹_›, ?_⟩ | refine ⟨nbq rfl, _, ‹_›, ?_⟩ | refine ⟨by kernel_rfl, ?_⟩ | exact rfl | exact ⟨nbq rfl, rfl⟩ | refine ⟨by decide, ?_⟩ | refine oTq (by omega) ?_ | refine oFq (by omega) ?_ | refine oEq (by omega) ?_ | refine oNq (by omega) ?_ | refine nTq (by omega) ?_ | refine nFq (by omega) ?_))
   ·rw [if_neg (fun h => hx h.2)]
    have hlb : lb = 1 := Decidable.byContradiction fun h => hx (.inl h)
    rw [if_pos hlb]
    have hx' : ¬ sa.length < sb.length := fun h => hx (.inr h)
    refine AC.of_body TTok Tryz.func110 rfl (enter_of Tryz.func110 (by kernel_rfl) (by kernel_rfl)) nd (FV_noid _) (nbq rfl) ?_
    repeat ((conv => whnf); (first | refine ⟨_, ‹_›, ?_⟩ | refine ⟨nbq rfl, _, ‹_›, ?_⟩ | refine ⟨by kernel_rfl, ?_⟩ | exact rfl | exact ⟨nbq rfl, rfl⟩ | refine ⟨by decide, ?_⟩ | refine oTq (by omega) ?_ | refine oFq (by omega) ?_ | refine oEq (by omega) ?_ | refine oNq (by omega) ?_ | refine nTq (by omega) ?_ | refine nFq (by omega) ?_))
  ·rw [if_neg (fun h => hla h.1)]
   by_cases hlb : lb = 1
   ·rw [if_pos hlb]
    refine AC.of_body TTok Tryz.func110 rfl (enter_of Tryz.func110 (by kernel_rfl) (by kernel_rfl)) nd (FV_noid _) (nbq rfl) ?_
    repeat ((conv => whnf); (first | refine ⟨_, ‹_›, ?_⟩ | refine ⟨nbq rfl, _, ‹_›, ?_⟩ | refine ⟨by kernel_rfl, ?_⟩ | exact rfl | exact ⟨nbq rfl, rfl⟩ | refine ⟨by decide, ?_⟩ | refine oTq (by omega) ?_ | refine oFq (by omega) ?_ | refine oEq (by omega) ?_ | refine oNq (by omega) ?_ | refine nTq (by omega) ?_ | refine nFq (by omega) ?_))
   ·rw [if_neg hlb]
    by_cases hr : sa.length ≠ sb.length
    ·rw [if_pos hr]
     refine FV_err ?_
     refine AC.of_body TTok Tryz.func110 rfl (enter_of Tryz.func110 (by kernel_rfl) (by kernel_rfl)) nd (FE_noid _) (nbq rfl) ?_
     repeat ((conv => whnf); (first | refine ⟨_, ‹_›, ?_⟩ | refine ⟨nbq rfl, _, ‹_›, ?_⟩ | refine ⟨by kernel_rfl, ?_⟩ | exact rfl | exact ⟨nbq rfl, rfl⟩ | refine ⟨by decide, ?_⟩ | refine oTq (by omega) ?_ | refine oFq (by omega) ?_ | refine oEq (by omega) ?_ | refine oNq (by omega) ?_ | refine nTq (by omega) ?_ | refine nFq (by omega) ?_))
    ·rw [if_neg hr]
     refine FV_err ?_
     refine AC.of_body TTok Tryz.func110 rfl (enter_of Tryz.func110 (by kernel_rfl) (by kernel_rfl)) nd (FE_noid _) (nbq rfl) ?_
     repeat ((conv => whnf); (first | refine ⟨_, ‹_›, ?_⟩ | refine ⟨nbq rfl, _, ‹_›, ?_⟩ | refine ⟨by kernel_rfl, ?_⟩ | exact rfl | exact ⟨nbq rfl, rfl⟩ | refine ⟨by decide, ?_⟩ | refine oTq (by omega) ?_ | refine oFq (by omega) ?_ | refine oEq (by omega) ?_ | refine oNq (by omega) ?_ | refine nTq (by omega) ?_ | refine nFq (by omega) ?_))
end
end
section
def isOne (c : Int) : Prop := c = 43 ∨ c = 45 ∨ c = 215 ∨ c = 247 ∨ c = 8968 ∨ c = 8970 ∨ c = 124 ∨ c = 42 ∨ c = 33 ∨ c = 126 ∨ c = 9055 ∨ c = 9675
instance (c : Int) : Decidable (isOne c) := inferInstanceAs (Decidable (_ ∨ _ ∨ _ ∨ _ ∨ _ ∨ _ ∨ _ ∨ _ ∨ _ ∨ _ ∨ _ ∨ _))
def withQ (x : Rat) (most : Int) : Rat × Int := if most < (qLimbs x.num x.den : Nat) then (0, 26) else (x, 0)
def notQ (x : Rat) : Rat × Int := if x = 0 then (1, 0) else if x = 1 then (0, 0) else (0, 22)
end
section
def fac : Nat → Nat
 | 0 => 1
 | i + 1 => fac i * (i + 1)
def natQm (q : Rat) : Prop := q.den = 1 ∧ 0 ≤ q.num
instance (q : Rat) : Decidable (natQm q) := inferInstanceAs (Decidable (_ ∧ _))
def facQ (x : Rat) (most : Int) : Rat × Int := if natQm x then withQ (((fac x.num.toNat : Nat) : Int) : Rat) most else (0, 22)
end
section
def monoQ (c : Int) (x : Rat) (most : Int) : Rat × Int :=
 if c = 43 then withQ x most
 else if c = 45 then withQ (-x) most
 else if c = 215 then withQ ((sigW x.num : Int) : Rat) most
 else if c = 247 then (if x = 0 then (0, 22) else withQ (1 / x) most)
 else if c = 8968 then withQ ((x.ceil : Int) : Rat) most
 else if c = 8970 then withQ ((x.floor : Int) : Rat) most
 else if c = 124 then withQ (if x.num < 0 then -x else x) most
 else if c = 33 then facQ x most
 else if c = 126 then notQ x
 else if isOne c then (0, 22) else (0, 20)
end
section
end
section
def firstE : List (Rat × Int) → Int
 | [] => 0
 | x :: l => if x.2 = 0 then firstE l else x.2
theorem firstE_zero {l : List (Rat × Int)} (h : ∀ x ∈ l, x.2 = 0) : firstE l = 0 := by
 induction l with
 | nil => rfl
 | cons x l ih =>
  show (if x.2 = 0 then firstE l else x.2) = 0
  rw [if_pos (h x List.mem_cons_self), ih (fun y hy => h y (List.mem_cons_of_mem _ hy))]
theorem firstE_at {l : List (Rat × Int)} {i : Nat} (hi : i < l.length) (h : ∀ x ∈ l.take i, x.2 = 0) (hn : l[i].2 ≠ 0) : firstE l = l[i].2 := by
 induction l generalizing i with
 | nil => exact absurd hi (Nat.not_lt_zero _)
 | cons x l ih =>
  show (if x.2 = 0 then firstE l else x.2) = _
  cases i with
  | zero =>
   have hn : x.2 ≠ 0 := hn
   rw [if_neg hn]; rfl
  | succ i =>
   rw [if_pos (h x (by simp))]
   exact ih (by simpa using hi) (fun y hy => h y (by simp [hy])) hn
def resA (sh : List Int) (E : Int) (l : List (Option (Rat × Nat))) : AV := if E = 0 then .tup [AA sh false [] l true, .val (.int .i64 0)] else .tup [AA [] false [] [] false, .val (.int .i64 E)]
theorem resA_err {P : Program} {f : FuncId} {args : List AV} {e : Int} (sh : List Int) (l : List (Option (Rat × Nat))) (he : e ≠ 0) (h : AC P f args (.pure (.tup [AZ, .val (.int .i64 e)]))) : AC P f args (.pure (resA sh e l)) := by
 unfold resA
 rw [if_neg he]
 exact AC.le_res h (.tup2 AZ_le (.refl _)) (.tup _ (noid2 (AA_noid _ _ _ _ _) (.val _)))
theorem AZt_noid (e : Int) : NoId (.tup [AZ, .val (.int .i64 e)]) := .tup _ (noid2 AZ_noid (.val _))
theorem set_mid {α : Type} (a : List α) (x y : α) (b : List α) : (a ++ x :: b).set a.length y = a ++ y :: b := by
 rw [List.set_append_right _ _ (Nat.le_refl _), Nat.sub_self]; rfl
section
variable (c : Int) (sh : List Int) (ch : Bool) (tx : List Int) (qs : List Rat) (most : Int)
def oneE : Int := if isOne c then (if ch = true ∧ 0 < tx.length + qs.length then 22 else firstE (qs.map fun q => monoQ c q most)) else 20
end
end
section
theorem pick_all {α β : Type} [Inhabited β] {l : List α} {p : α → β → Prop} (h : ∀ a ∈ l, ∃ b, p a b) : ∃ f : α → β, ∀ a ∈ l, p a (f a) := by
 classical
 exact ⟨fun a => if ha : a ∈ l then Classical.choose (h a ha) else default, fun a ha => by show p a (if ha : a ∈ l then Classical.choose (h a ha) else default); rw [dif_pos ha]; exact Classical.choose_spec (h a ha)⟩
end
section
def resP (sh : List Int) (E : Int) (l : List Rat) : AV := if E = 0 then .tup [PA sh false [] l, .val (.int .i64 0)] else .tup [PA [] false [] [], .val (.int .i64 E)]
end
section
def isCmp (c : Int) : Prop := c = 60 ∨ c = 8804 ∨ c = 61 ∨ c = 8805 ∨ c = 62 ∨ c = 8800
instance (c : Int) : Decidable (isCmp c) := inferInstanceAs (Decidable (_ ∨ _ ∨ _ ∨ _ ∨ _ ∨ _))
def isJdg (c : Int) : Prop := c = 8743 ∨ c = 8744 ∨ c = 9074 ∨ c = 9073
instance (c : Int) : Decidable (isJdg c) := inferInstanceAs (Decidable (_ ∨ _ ∨ _ ∨ _))
def isRec (c : Int) : Prop := c = 43 ∨ c = 45 ∨ c = 215 ∨ c = 247 ∨ c = 8968 ∨ c = 8970 ∨ c = 124 ∨ c = 42 ∨ c = 33 ∨ c = 9055 ∨ c = 9675
instance (c : Int) : Decidable (isRec c) := inferInstanceAs (Decidable (_ ∨ _ ∨ _ ∨ _ ∨ _ ∨ _ ∨ _ ∨ _ ∨ _ ∨ _ ∨ _))
def isTwo (c : Int) : Prop := isRec c ∨ isCmp c ∨ isJdg c
instance (c : Int) : Decidable (isTwo c) := inferInstanceAs (Decidable (_ ∨ _))
theorem compares_ok (c : Int) : AC Tryz.prog 88 [.val (.int .i32 c)] (.pure (.val (.bool (decide (isCmp c))))) := by
 refine AC.of_body TTok Tryz.func88 rfl (enter_of Tryz.func88 (by kernel_rfl) (by kernel_rfl)) (noid1 (.val _)) (.val _) (nbq rfl) ?_
 by_cases h0 : c = 60
 ·subst h0
  rw [decide_eq_true (show isCmp 60 by decide)]
  repeat ((conv => whnf); (first | refine ⟨_, ‹_›, ?_⟩ | refine ⟨nbq rfl, _, ‹_›, ?_⟩ | refine ⟨by kernel_rfl, ?_⟩ | exact rfl | exact ⟨nbq rfl, rfl⟩ | refine ⟨by decide, ?_⟩))
 by_cases h1 : c = 8804
 ·subst h1
  rw [decide_eq_true (show isCmp 8804 by decide)]
  repeat ((conv => whnf); (first | refine ⟨_, ‹_›, ?_⟩ | refine ⟨nbq rfl, _, ‹_›, ?_⟩ | refine ⟨by kernel_rfl, ?_⟩ | exact rfl | exact ⟨nbq rfl, rfl⟩ | refine ⟨by decide, ?_⟩))
 by_cases h2 : c = 61
 ·subst h2
  rw [decide_eq_true (show isCmp 61 by decide)]
  repeat ((conv => whnf); (first | refine ⟨_, ‹_›, ?_⟩ | refine ⟨nbq rfl, _, ‹_›, ?_⟩ | refine ⟨by kernel_rfl, ?_⟩ | exact rfl | exact ⟨nbq rfl, rfl⟩ | refine ⟨by decide, ?_⟩))
 by_cases h3 : c = 8805
 ·subst h3
  rw [decide_eq_true (show isCmp 8805 by decide)]
  repeat ((conv => whnf); (first | refine ⟨_, ‹_›, ?_⟩ | refine ⟨nbq rfl, _, ‹_›, ?_⟩ | refine ⟨by kernel_rfl, ?_⟩ | exact rfl | exact ⟨nbq rfl, rfl⟩ | refine ⟨by decide, ?_⟩))
 by_cases h4 : c = 62
 ·subst h4
  rw [decide_eq_true (show isCmp 62 by decide)]
  repeat ((conv => whnf); (first | refine ⟨_, ‹_›, ?_⟩ | refine ⟨nbq rfl, _, ‹_›, ?_⟩ | refine ⟨by kernel_rfl, ?_⟩ | exact rfl | exact ⟨nbq rfl, rfl⟩ | refine ⟨by decide, ?_⟩))
 by_cases h5 : c = 8800
 ·subst h5
  rw [decide_eq_true (show isCmp 8800 by decide)]
  repeat ((conv => whnf); (first | refine ⟨_, ‹_›, ?_⟩ | refine ⟨nbq rfl, _, ‹_›, ?_⟩ | refine ⟨by kernel_rfl, ?_⟩ | exact rfl | exact ⟨nbq rfl, rfl⟩ | refine ⟨by decide, ?_⟩))
 have e0 : (c == 60) = false := beq_false_of_ne h0
 have e1 : (c == 8804) = false := beq_false_of_ne h1
 have e2 : (c == 61) = false := beq_false_of_ne h2
 have e3 : (c == 8805) = false := beq_false_of_ne h3
 have e4 : (c == 62) = false := beq_false_of_ne h4
 have e5 : (c == 8800) = false := beq_false_of_ne h5
 rw [decide_eq_false (show ¬ isCmp c by unfold isCmp; omega)]
 conv => whnf
 refine cFq (e0) ?_
 conv => whnf
 refine cFq (e1) ?_
 conv => whnf
 refine cFq (e2) ?_
 conv => whnf
 refine cFq (e3) ?_
 conv => whnf
 refine cFq (e4) ?_
 conv => whnf
 refine cFq (e5) ?_
 repeat ((conv => whnf); (first | refine ⟨_, ‹_›, ?_⟩ | refine ⟨nbq rfl, _, ‹_›, ?_⟩ | refine ⟨by kernel_rfl, ?_⟩ | exact rfl | exact ⟨nbq rfl, rfl⟩ | refine ⟨by decide, ?_⟩))
theorem judges_ok (c : Int) : AC Tryz.prog 89 [.val (.int .i32 c)] (.pure (.val (.bool (decide (isJdg c))))) := by
 refine AC.of_body TTok Tryz.func89 rfl (enter_of Tryz.func89 (by kernel_rfl) (by kernel_rfl)) (noid1 (.val _)) (.val _) (nbq rfl) ?_
 by_cases h0 : c = 8743
 ·subst h0
  rw [decide_eq_true (show isJdg 8743 by decide)]
  repeat ((conv => whnf); (first | refine ⟨_, ‹_›, ?_⟩ | refine ⟨nbq rfl, _, ‹_›, ?_⟩ | refine ⟨by kernel_rfl, ?_⟩ | exact rfl | exact ⟨nbq rfl, rfl⟩ | refine ⟨by decide, ?_⟩))
 by_cases h1 : c = 8744
 ·subst h1
  rw [decide_eq_true (show isJdg 8744 by decide)]
  repeat ((conv => whnf); (first | refine ⟨_, ‹_›, ?_⟩ | refine ⟨nbq rfl, _, ‹_›, ?_⟩ | refine ⟨by kernel_rfl, ?_⟩ | exact rfl | exact ⟨nbq rfl, rfl⟩ | refine ⟨by decide, ?_⟩))
 by_cases h2 : c = 9074
 ·subst h2
  rw [decide_eq_true (show isJdg 9074 by decide)]
  repeat ((conv => whnf); (first | refine ⟨_, ‹_›, ?_⟩ | refine ⟨nbq rfl, _, ‹_›, ?_⟩ | refine ⟨by kernel_rfl, ?_⟩ | exact rfl | exact ⟨nbq rfl, rfl⟩ | refine ⟨by decide, ?_⟩))
 by_cases h3 : c = 9073
 ·subst h3
  rw [decide_eq_true (show isJdg 9073 by decide)]
  repeat ((conv => whnf); (first | refine ⟨_, ‹_›, ?_⟩ | refine ⟨nbq rfl, _, ‹_›, ?_⟩ | refine ⟨by kernel_rfl, ?_⟩ | exact rfl | exact ⟨nbq rfl, rfl⟩ | refine ⟨by decide, ?_⟩))
 have e0 : (c == 8743) = false := beq_false_of_ne h0
 have e1 : (c == 8744) = false := beq_false_of_ne h1
 have e2 : (c == 9074) = false := beq_false_of_ne h2
 have e3 : (c == 9073) = false := beq_false_of_ne h3
 rw [decide_eq_false (show ¬ isJdg c by unfold isJdg; omega)]
 conv => whnf
 refine cFq (e0) ?_
 conv => whnf
 refine cFq (e1) ?_
 conv => whnf
 refine cFq (e2) ?_
 conv => whnf
 refine cFq (e3) ?_
 repeat ((conv => whnf); (first | refine ⟨_, ‹_›, ?_⟩ | refine ⟨nbq rfl, _, ‹_›, ?_⟩ | refine ⟨by kernel_rfl, ?_⟩ | exact rfl | exact ⟨nbq rfl, rfl⟩ | refine ⟨by decide, ?_⟩))
theorem reckons_ok (c : Int) : AC Tryz.prog 87 [.val (.int .i32 c)] (.pure (.val (.bool (decide (isRec c))))) := by
 refine AC.of_body TTok Tryz.func87 rfl (enter_of Tryz.func87 (by kernel_rfl) (by kernel_rfl)) (noid1 (.val _)) (.val _) (nbq rfl) ?_
 by_cases h0 : c = 43
 ·subst h0
  rw [decide_eq_true (show isRec 43 by decide)]
  repeat ((conv => whnf); (first | refine ⟨_, ‹_›, ?_⟩ | refine ⟨nbq rfl, _, ‹_›, ?_⟩ | refine ⟨by kernel_rfl, ?_⟩ | exact rfl | exact ⟨nbq rfl, rfl⟩ | refine ⟨by decide, ?_⟩))
 by_cases h1 : c = 45
 ·subst h1
  rw [decide_eq_true (show isRec 45 by decide)]
  repeat ((conv => whnf); (first | refine ⟨_, ‹_›, ?_⟩ | refine ⟨nbq rfl, _, ‹_›, ?_⟩ | refine ⟨by kernel_rfl, ?_⟩ | exact rfl | exact ⟨nbq rfl, rfl⟩ | refine ⟨by decide, ?_⟩))
 by_cases h2 : c = 215
 ·subst h2
  rw [decide_eq_true (show isRec 215 by decide)]
  repeat ((conv => whnf); (first | refine ⟨_, ‹_›, ?_⟩ | refine ⟨nbq rfl, _, ‹_›, ?_⟩ | refine ⟨by kernel_rfl, ?_⟩ | exact rfl | exact ⟨nbq rfl, rfl⟩ | refine ⟨by decide, ?_⟩))
 by_cases h3 : c = 247
 ·subst h3
  rw [decide_eq_true (show isRec 247 by decide)]
  repeat ((conv => whnf); (first | refine ⟨_, ‹_›, ?_⟩ | refine ⟨nbq rfl, _, ‹_›, ?_⟩ | refine ⟨by kernel_rfl, ?_⟩ | exact rfl | exact ⟨nbq rfl, rfl⟩ | refine ⟨by decide, ?_⟩))
 by_cases h4 : c = 8968
 ·subst h4
  rw [decide_eq_true (show isRec 8968 by decide)]
  repeat ((conv => whnf); (first | refine ⟨_, ‹_›, ?_⟩ | refine ⟨nbq rfl, _, ‹_›, ?_⟩ | refine ⟨by kernel_rfl, ?_⟩ | exact rfl | exact ⟨nbq rfl, rfl⟩ | refine ⟨by decide, ?_⟩))
 by_cases h5 : c = 8970
 ·subst h5
  rw [decide_eq_true (show isRec 8970 by decide)]
  repeat ((conv => whnf); (first | refine ⟨_, ‹_›, ?_⟩ | refine ⟨nbq rfl, _, ‹_›, ?_⟩ | refine ⟨by kernel_rfl, ?_⟩ | exact rfl | exact ⟨nbq rfl, rfl⟩ | refine ⟨by decide, ?_⟩))
 by_cases h6 : c = 124
 ·subst h6
  rw [decide_eq_true (show isRec 124 by decide)]
  repeat ((conv => whnf); (first | refine ⟨_, ‹_›, ?_⟩ | refine ⟨nbq rfl, _, ‹_›, ?_⟩ | refine ⟨by kernel_rfl, ?_⟩ | exact rfl | exact ⟨nbq rfl, rfl⟩ | refine ⟨by decide, ?_⟩))
 by_cases h7 : c = 42
 ·subst h7
  rw [decide_eq_true (show isRec 42 by decide)]
  repeat ((conv => whnf); (first | refine ⟨_, ‹_›, ?_⟩ | refine ⟨nbq rfl, _, ‹_›, ?_⟩ | refine ⟨by kernel_rfl, ?_⟩ | exact rfl | exact ⟨nbq rfl, rfl⟩ | refine ⟨by decide, ?_⟩))
 by_cases h8 : c = 33
 ·subst h8
  rw [decide_eq_true (show isRec 33 by decide)]
  repeat ((conv => whnf); (first | refine ⟨_, ‹_›, ?_⟩ | refine ⟨nbq rfl, _, ‹_›, ?_⟩ | refine ⟨by kernel_rfl, ?_⟩ | exact rfl | exact ⟨nbq rfl, rfl⟩ | refine ⟨by decide, ?_⟩))
 by_cases h9 : c = 9055
 ·subst h9
  rw [decide_eq_true (show isRec 9055 by decide)]
  repeat ((conv => whnf); (first | refine ⟨_, ‹_›, ?_⟩ | refine ⟨nbq rfl, _, ‹_›, ?_⟩ | refine ⟨by kernel_rfl, ?_⟩ | exact rfl | exact ⟨nbq rfl, rfl⟩ | refine ⟨by decide, ?_⟩))
 by_cases h10 : c = 9675
 ·subst h10
  rw [decide_eq_true (show isRec 9675 by decide)]
  repeat ((conv => whnf); (first | refine ⟨_, ‹_›, ?_⟩ | refine ⟨nbq rfl, _, ‹_›, ?_⟩ | refine ⟨by kernel_rfl, ?_⟩ | exact rfl | exact ⟨nbq rfl, rfl⟩ | refine ⟨by decide, ?_⟩))
 have e0 : (c == 43) = false := beq_false_of_ne h0
 have e1 : (c == 45) = false := beq_false_of_ne h1
 have e2 : (c == 215) = false := beq_false_of_ne h2
 have e3 : (c == 247) = false := beq_false_of_ne h3
 have e4 : (c == 8968) = false := beq_false_of_ne h4
 have e5 : (c == 8970) = false := beq_false_of_ne h5
 have e6 : (c == 124) = false := beq_false_of_ne h6
 have e7 : (c == 42) = false := beq_false_of_ne h7
 have e8 : (c == 33) = false := beq_false_of_ne h8
 have e9 : (c == 9055) = false := beq_false_of_ne h9
 have e10 : (c == 9675) = false := beq_false_of_ne h10
 rw [decide_eq_false (show ¬ isRec c by unfold isRec; omega)]
 conv => whnf
 refine cFq (e0) ?_
 conv => whnf
 refine cFq (e1) ?_
 conv => whnf
 refine cFq (e2) ?_
 conv => whnf
 refine cFq (e3) ?_
 conv => whnf
 refine cFq (e4) ?_
 conv => whnf
 refine cFq (e5) ?_
 conv => whnf
 refine cFq (e6) ?_
 conv => whnf
 refine cFq (e7) ?_
 conv => whnf
 refine cFq (e8) ?_
 conv => whnf
 refine cFq (e9) ?_
 conv => whnf
 refine cFq (e10) ?_
 repeat ((conv => whnf); (first | refine ⟨_, ‹_›, ?_⟩ | refine ⟨nbq rfl, _, ‹_›, ?_⟩ | refine ⟨by kernel_rfl, ?_⟩ | exact rfl | exact ⟨nbq rfl, rfl⟩ | refine ⟨by decide, ?_⟩))
theorem Has_ok (c : Int) : AC Tryz.prog 35 [.val (.int .i32 c)] (.pure (.val (.bool (decide (isTwo c))))) := by
 refine AC.of_body TTok Tryz.func35 rfl (enter_of Tryz.func35 (by kernel_rfl) (by kernel_rfl)) (noid1 (.val _)) (.val _) (nbq rfl) ?_
 have hR := reckons_ok c
 have hC := compares_ok c
 have hJ := judges_ok c
 rw [show decide (isTwo c) = (decide (isRec c) || (decide (isCmp c) || decide (isJdg c))) by
  by_cases h1 : isRec c
  ·rw [decide_eq_true h1, decide_eq_true (show isTwo c from .inl h1)]; rfl
  ·by_cases h2 : isCmp c
   ·rw [decide_eq_true h2, decide_eq_true (show isTwo c from .inr (.inl h2)), Bool.true_or, Bool.or_true]
   ·by_cases h3 : isJdg c
    ·rw [decide_eq_true h3, decide_eq_true (show isTwo c from .inr (.inr h3)), Bool.or_true, Bool.or_true]
    ·rw [decide_eq_false h1, decide_eq_false h2, decide_eq_false h3, decide_eq_false (show ¬ isTwo c from fun h => h.elim h1 (fun h => h.elim h2 h3))]; rfl]
 generalize decide (isRec c) = r at *
 generalize decide (isCmp c) = s at *
 generalize decide (isJdg c) = t at *
 cases r
 ·cases s
  ·repeat ((conv => whnf); (first | refine ⟨_, ‹_›, ?_⟩ | refine ⟨nbq rfl, _, ‹_›, ?_⟩ | refine ⟨by kernel_rfl, ?_⟩ | exact rfl | exact ⟨nbq rfl, rfl⟩ | refine ⟨by decide, ?_⟩))
  ·repeat ((conv => whnf); (first | refine ⟨_, ‹_›, ?_⟩ | refine ⟨nbq rfl, _, ‹_›, ?_⟩ | refine ⟨by kernel_rfl, ?_⟩ | exact rfl | exact ⟨nbq rfl, rfl⟩ | refine ⟨by decide, ?_⟩))
 ·repeat ((conv => whnf); (first | refine ⟨_, ‹_›, ?_⟩ | refine ⟨nbq rfl, _, ‹_›, ?_⟩ | refine ⟨by kernel_rfl, ?_⟩ | exact rfl | exact ⟨nbq rfl, rfl⟩ | refine ⟨by decide, ?_⟩))
def signs : List Int := [43, 45, 215, 247, 8968, 8970, 124, 42, 33, 9055, 9675, 60, 8804, 61, 8805, 62, 8800, 8743, 8744, 9074, 9073]
end
section
def cmpS (c n : Int) : Bool :=
 if c = 60 then decide (n < 0) else if c = 8804 then decide (n ≤ 0) else if c = 61 then n == 0 else if c = 8805 then decide (n ≥ 0) else if c = 62 then decide (n > 0) else n != 0
theorem Compare_ok (c n : Int) : AC Tryz.prog 136 [.val (.int .i32 c), .val (.int .i64 n)] (.pure (.val (.bool (cmpS c n)))) := by
 refine AC.of_body TTok Tryz.func136 rfl (enter_of Tryz.func136 (by kernel_rfl) (by kernel_rfl)) (noid2 (.val _) (.val _)) (.val _) (nbq rfl) ?_
 by_cases h0 : c = 60
 ·subst h0
  rw [show cmpS 60 n = decide (n < 0) from rfl]
  repeat ((conv => whnf); (first | refine ⟨_, ‹_›, ?_⟩ | refine ⟨nbq rfl, _, ‹_›, ?_⟩ | refine ⟨by kernel_rfl, ?_⟩ | exact rfl | exact ⟨nbq rfl, rfl⟩ | refine ⟨by decide, ?_⟩))
 by_cases h1 : c = 8804
 ·subst h1
  rw [show cmpS 8804 n = decide (n ≤ 0) from rfl]
  repeat ((conv => whnf); (first | refine ⟨_, ‹_›, ?_⟩ | refine ⟨nbq rfl, _, ‹_›, ?_⟩ | refine ⟨by kernel_rfl, ?_⟩ | exact rfl | exact ⟨nbq rfl, rfl⟩ | refine ⟨by decide, ?_⟩))
 by_cases h2 : c = 61
 ·subst h2
  rw [show cmpS 61 n = (n == 0) from rfl]
  repeat ((conv => whnf); (first | refine ⟨_, ‹_›, ?_⟩ | refine ⟨nbq rfl, _, ‹_›, ?_⟩ | refine ⟨by kernel_rfl, ?_⟩ | exact rfl | exact ⟨nbq rfl, rfl⟩ | refine ⟨by decide, ?_⟩))
 by_cases h3 : c = 8805
 ·subst h3
  rw [show cmpS 8805 n = decide (n ≥ 0) from rfl]
  repeat ((conv => whnf); (first | refine ⟨_, ‹_›, ?_⟩ | refine ⟨nbq rfl, _, ‹_›, ?_⟩ | refine ⟨by kernel_rfl, ?_⟩ | exact rfl | exact ⟨nbq rfl, rfl⟩ | refine ⟨by decide, ?_⟩))
 by_cases h4 : c = 62
 ·subst h4
  rw [show cmpS 62 n = decide (n > 0) from rfl]
  repeat ((conv => whnf); (first | refine ⟨_, ‹_›, ?_⟩ | refine ⟨nbq rfl, _, ‹_›, ?_⟩ | refine ⟨by kernel_rfl, ?_⟩ | exact rfl | exact ⟨nbq rfl, rfl⟩ | refine ⟨by decide, ?_⟩))
 have e0 : (c == 60) = false := beq_false_of_ne h0
 have e1 : (c == 8804) = false := beq_false_of_ne h1
 have e2 : (c == 61) = false := beq_false_of_ne h2
 have e3 : (c == 8805) = false := beq_false_of_ne h3
 have e4 : (c == 62) = false := beq_false_of_ne h4
 rw [show cmpS c n = (n != 0) by unfold cmpS; rw [if_neg h0, if_neg h1, if_neg h2, if_neg h3, if_neg h4]]
 conv => whnf
 refine cFq (e0) ?_
 conv => whnf
 refine cFq (e1) ?_
 conv => whnf
 refine cFq (e2) ?_
 conv => whnf
 refine cFq (e3) ?_
 conv => whnf
 refine cFq (e4) ?_
 repeat ((conv => whnf); (first | refine ⟨_, ‹_›, ?_⟩ | refine ⟨nbq rfl, _, ‹_›, ?_⟩ | refine ⟨by kernel_rfl, ?_⟩ | exact rfl | exact ⟨nbq rfl, rfl⟩ | refine ⟨by decide, ?_⟩))
def tq (t : Bool) : Rat := if t then 1 else 0
def td (t : Bool) : Nat := if t then 1 else 0
theorem td_dn (t : Bool) : dn (td t) = (tq t).den := by cases t <;> rfl
theorem tq_sz (t : Bool) : Sz (tq t) 1 := by cases t; exact Sz_zero; exact Sz_small (q := 1) (by decide) (by decide)
theorem truth_ok (t : Bool) : AC Tryz.prog 135 [.val (.bool t)] (.pure (RA (tq t).num (td t))) := by
 cases t
 ·refine AC.le_res (v := RZ) ?_ RZ_le (RA_noid _ _)
  refine AC.of_body TTok Tryz.func135 rfl (enter_of Tryz.func135 (by kernel_rfl) (by kernel_rfl)) (noid1 (.val _)) RZ_noid (nbq rfl) ?_
  unfold RZ
  repeat ((conv => whnf); (first | refine ⟨_, ‹_›, ?_⟩ | refine ⟨nbq rfl, _, ‹_›, ?_⟩ | refine ⟨by kernel_rfl, ?_⟩ | exact rfl | exact ⟨nbq rfl, rfl⟩ | refine ⟨by decide, ?_⟩))
 ·show AC Tryz.prog 135 [.val (.bool true)] (.pure (RA 1 1))
  refine AC.of_body TTok Tryz.func135 rfl (enter_of Tryz.func135 (by kernel_rfl) (by kernel_rfl)) (noid1 (.val _)) (RA_noid _ _) (nbq rfl) ?_
  have hF := RatFrom_ok 1 (by decide)
  unfold RA at *
  repeat ((conv => whnf); (first | refine ⟨_, ‹_›, ?_⟩ | refine ⟨nbq rfl, _, ‹_›, ?_⟩ | refine ⟨by kernel_rfl, ?_⟩ | exact rfl | exact ⟨nbq rfl, rfl⟩ | refine ⟨by decide, ?_⟩))
def bitQ (q : Rat) : Option Bool := if q = 0 then some false else if q = 1 then some true else none
def jdgB (c : Int) (x y : Bool) : Bool := if c = 8743 then x && y else if c = 8744 then x || y else if c = 9074 then !(x && y) else !(x || y)
theorem bit_int {q : Rat} (t : Bool) (h : bitQ q = some t) : q = (if t then 1 else 0) := by
 unfold bitQ at h
 split at h
 ·cases h; assumption
 ·split at h
  ·cases h; assumption
  ·cases h
def intV (q : Rat) : Int := if fitQ q.num q.den then q.num else 0
theorem intV_fit (q : Rat) : fit (intV q) := by
 unfold intV
 split
 ·rename_i h; exact h.2
 ·decide
theorem intV_none {q : Rat} (hb : bitQ q = none) : decide (fitQ q.num q.den) = false ∨ intV q < 0 ∨ 1 < intV q := by
 unfold intV
 by_cases h : fitQ q.num q.den
 ·rw [if_pos h]
  right
  have : q = (q.num : Rat) := Rat.ext rfl h.1
  unfold bitQ at hb
  have n0 : q.num ≠ 0 := fun e => by rw [if_pos (Rat.num_eq_zero.1 e)] at hb; cases hb
  have n1 : q.num ≠ 1 := fun e => by
   rw [e] at this
   by_cases h0 : q = 0
   ·rw [if_pos h0] at hb; cases hb
   ·rw [if_neg h0, if_pos (show q = 1 from this)] at hb; cases hb
  omega
 ·exact .inl (decide_eq_false h)
theorem intV_bit (q : Rat) (t : Bool) (ht : bitQ q = some t) : decide (fitQ q.num q.den) = true ∧ intV q = if t then 1 else 0 := by
 rw [bit_int t ht]
 cases t
 ·exact q2r
 ·exact q2r
theorem int_prog (q : Rat) (i : Nat) (hi : dn i = q.den) (lq : Sz q 1000) : ∃ (v : Int) (ok : Bool), fit v ∧ (bitQ q = none → ok = false ∨ v < 0 ∨ 1 < v) ∧ (∀ t, bitQ q = some t → ok = true ∧ v = if t then 1 else 0) ∧
  AC Tryz.prog 132 [RA q.num i] (.pure (.tup [.val (.int .i64 v), .val (.bool ok)])) := by
 have h1 := RInt_ok q.num i
 rw [hi] at h1
 exact ⟨intV q, _, intV_fit q, intV_none, intV_bit q, h1⟩
def judgeQ (c : Int) (a b : Rat) : Rat × Int :=
 match bitQ a, bitQ b with
 | some x, some y => (tq (jdgB c x y), 0)
 | _, _ => (0, 22)
theorem jcases {a b : Rat} {v w : Int} {ok is : Bool} (nv : bitQ a = none → ok = false ∨ v < 0 ∨ 1 < v) (nw : bitQ b = none → is = false ∨ w < 0 ∨ 1 < w) (h : bitQ a = none ∨ bitQ b = none) :
  ok = false ∨ (ok = true ∧ is = false) ∨ (ok = true ∧ is = true ∧ ((v < 0 ∨ 1 < v) ∨ (0 ≤ v ∧ v ≤ 1 ∧ (w < 0 ∨ 1 < w)))) := by
 cases ok
 ·exact .inl rfl
 ·cases is
  ·exact .inr (.inl q2r)
  ·refine .inr (.inr ⟨rfl, rfl, ?_⟩)
   rcases h with h | h
   ·rcases nv h with h' | h'
    ·cases h'
    ·exact .inl h'
   ·rcases nw h with h' | h'
    ·cases h'
    ·by_cases h2 : v < 0 ∨ 1 < v
     ·exact .inl h2
     ·exact .inr ⟨by omega, by omega, h'⟩
theorem judge_bad (c : Int) (a b : Rat) (i j : Nat) (hi : dn i = a.den) (hj : dn j = b.den) (la : Sz a 1000) (lb : Sz b 1000) (h : bitQ a = none ∨ bitQ b = none) : AC Tryz.prog 137 [.val (.int .i32 c), RA a.num i, RA b.num j] (.pure (.tup [RA 0 0, .val (.int .i64 22)])) := by
 obtain ⟨v, ok, fv, nv, _, A1⟩ := int_prog a i hi la
 obtain ⟨w, is, fw, nw, _, B1⟩ := int_prog b j hj lb
 have cs := jcases nv nw h
 refine AC.le_res (v := .tup [RZ, .val (.int .i64 22)]) ?_ (.tup2 RZ_le (.refl _)) (.tup _ (noid2 (RA_noid _ _) (.val _)))
 refine AC.of_body TTok Tryz.func137 rfl (enter_of Tryz.func137 (by kernel_rfl) (by kernel_rfl)) (noid3 (.val _) (RA_noid _ _) (RA_noid _ _)) (.tup _ (noid2 RZ_noid (.val _))) (nbq rfl) ?_
 unfold RA RZ at *
 rcases cs with rfl | ⟨rfl, rfl⟩ | ⟨rfl, rfl, hv | ⟨v0, v1, hw⟩⟩
 ·repeat ((conv => whnf); (first | refine ⟨_, ‹_›, ?_⟩ | refine ⟨nbq rfl, _, ‹_›, ?_⟩ | refine ⟨by kernel_rfl, ?_⟩ | exact rfl | exact ⟨nbq rfl, rfl⟩ | refine ⟨by decide, ?_⟩))
 ·repeat ((conv => whnf); (first | refine ⟨_, ‹_›, ?_⟩ | refine ⟨nbq rfl, _, ‹_›, ?_⟩ | refine ⟨by kernel_rfl, ?_⟩ | exact rfl | exact ⟨nbq rfl, rfl⟩ | refine ⟨by decide, ?_⟩))
 ·by_cases h0 : v < 0
  ·have f1 : decide (v < 0) = true := decide_eq_true h0
   conv => whnf
   refine ⟨_, A1, ?_⟩
   conv => whnf
   refine ⟨_, B1, ?_⟩
   conv => whnf
   refine cTq (f1) ?_
   repeat ((conv => whnf); (first | refine ⟨_, ‹_›, ?_⟩ | refine ⟨nbq rfl, _, ‹_›, ?_⟩ | refine ⟨by kernel_rfl, ?_⟩ | exact rfl | exact ⟨nbq rfl, rfl⟩ | refine ⟨by decide, ?_⟩))
  ·have f1 : decide (v < 0) = false := decide_eq_false h0
   have f2 : decide (v > 1) = true := decide_eq_true (by omega)
   conv => whnf
   refine ⟨_, A1, ?_⟩
   conv => whnf
   refine ⟨_, B1, ?_⟩
   conv => whnf
   refine cFq (f1) ?_
   conv => whnf
   refine cTq (f2) ?_
   repeat ((conv => whnf); (first | refine ⟨_, ‹_›, ?_⟩ | refine ⟨nbq rfl, _, ‹_›, ?_⟩ | refine ⟨by kernel_rfl, ?_⟩ | exact rfl | exact ⟨nbq rfl, rfl⟩ | refine ⟨by decide, ?_⟩))
 ·have f1 : decide (v < 0) = false := decide_eq_false (by omega)
  have f2 : decide (v > 1) = false := decide_eq_false (by omega)
  by_cases h0 : w < 0
  ·have f3 : decide (w < 0) = true := decide_eq_true h0
   conv => whnf
   refine ⟨_, A1, ?_⟩
   conv => whnf
   refine ⟨_, B1, ?_⟩
   conv => whnf
   refine cFq (f1) ?_
   conv => whnf
   refine cFq (f2) ?_
   conv => whnf
   refine cTq (f3) ?_
   repeat ((conv => whnf); (first | refine ⟨_, ‹_›, ?_⟩ | refine ⟨nbq rfl, _, ‹_›, ?_⟩ | refine ⟨by kernel_rfl, ?_⟩ | exact rfl | exact ⟨nbq rfl, rfl⟩ | refine ⟨by decide, ?_⟩))
  ·have f3 : decide (w < 0) = false := decide_eq_false h0
   have f4 : decide (w > 1) = true := decide_eq_true (by omega)
   conv => whnf
   refine ⟨_, A1, ?_⟩
   conv => whnf
   refine ⟨_, B1, ?_⟩
   conv => whnf
   refine cFq (f1) ?_
   conv => whnf
   refine cFq (f2) ?_
   conv => whnf
   refine cFq (f3) ?_
   conv => whnf
   refine cTq (f4) ?_
   repeat ((conv => whnf); (first | refine ⟨_, ‹_›, ?_⟩ | refine ⟨nbq rfl, _, ‹_›, ?_⟩ | refine ⟨by kernel_rfl, ?_⟩ | exact rfl | exact ⟨nbq rfl, rfl⟩ | refine ⟨by decide, ?_⟩))
set_option maxRecDepth 100000 in
theorem judge_good (c : Int) (hc : isJdg c) (a b : Rat) (i j : Nat) (hi : dn i = a.den) (hj : dn j = b.den) (la : Sz a 1000) (lb : Sz b 1000) (x y : Bool) (hx : bitQ a = some x) (hy : bitQ b = some y) :
  AC Tryz.prog 137 [.val (.int .i32 c), RA a.num i, RA b.num j] (.pure (.tup [RA (tq (jdgB c x y)).num (td (jdgB c x y)), .val (.int .i64 0)])) := by
 obtain ⟨v, ok, _, _, nv, A1⟩ := int_prog a i hi la
 obtain ⟨w, is, _, _, nw, B1⟩ := int_prog b j hj lb
 obtain ⟨rfl, rfl⟩ := nv x hx
 obtain ⟨rfl, rfl⟩ := nw y hy
 have T0 := truth_ok false
 have T1 := truth_ok true
 refine AC.of_body TTok Tryz.func137 rfl (enter_of Tryz.func137 (by kernel_rfl) (by kernel_rfl)) (noid3 (.val _) (RA_noid _ _) (RA_noid _ _)) (.tup _ (noid2 (RA_noid _ _) (.val _))) (nbq rfl) ?_
 clear hx hy nv nw
 unfold RA at *
 cases x <;> cases y <;> rcases hc with rfl | rfl | rfl | rfl
 all_goals
  repeat ((conv => whnf); (first | refine ⟨_, ‹_›, ?_⟩ | refine ⟨nbq rfl, _, ‹_›, ?_⟩ | refine ⟨by kernel_rfl, ?_⟩ | exact rfl | exact ⟨nbq rfl, rfl⟩ | refine ⟨by decide, ?_⟩))
theorem judge_ok (c : Int) (hc : isJdg c) (a b : Rat) (i j : Nat) (hi : dn i = a.den) (hj : dn j = b.den) (la : Sz a 1000) (lb : Sz b 1000) : ∃ d, dn d = (judgeQ c a b).1.den ∧
  AC Tryz.prog 137 [.val (.int .i32 c), RA a.num i, RA b.num j] (.pure (.tup [RA (judgeQ c a b).1.num d, .val (.int .i64 (judgeQ c a b).2)])) := by
 unfold judgeQ
 cases hx : bitQ a with
 | none => exact ⟨0, rfl, judge_bad c a b i j hi hj la lb (.inl hx)⟩
 | some x =>
  cases hy : bitQ b with
  | none => exact ⟨0, rfl, judge_bad c a b i j hi hj la lb (.inr hy)⟩
  | some y => exact ⟨_, td_dn _, judge_good c hc a b i j hi hj la lb x y hx hy⟩
end
section
def powerQ (a b : Rat) (most : Int) : Rat × Int :=
 if b.den ≠ 1 ∨ (a = 0 ∧ b.num < 0) then (0, 22)
 else if limQ a ∧ b.num ≠ 0 then (if a.num < 0 ∧ b.num.natAbs % 2 = 0 then -a else a, 0)
 else if ¬ fit b.num then (0, 26)
 else ((powQ a b.num most).1, if (powQ a b.num most).2 then 0 else 26)
theorem sig_lit (t : Int) : (t < 0 ∧ sigW t = -1) ∨ (t = 0 ∧ sigW t = 0) ∨ (0 < t ∧ sigW t = 1) := by
 unfold sigW
 rcases Int.lt_trichotomy t 0 with h | h | h
 ·left; rw [if_neg (by omega), if_pos h]; exact ⟨h, rfl⟩
 ·right; left; rw [if_pos h]; exact ⟨h, rfl⟩
 ·right; right; rw [if_neg (by omega), if_neg (by omega)]; exact ⟨h, rfl⟩
theorem RZ22 {P : Program} {f : FuncId} {args : List AV} {e : Int} (h : AC P f args (.pure (.tup [RZ, .val (.int .i64 e)]))) : AC P f args (.pure (.tup [RA 0 0, .val (.int .i64 e)])) :=
 AC.le_res h (.tup2 RZ_le (.refl _)) (.tup _ (noid2 (RA_noid _ _) (.val _)))
theorem Power_ok (a b : Rat) (i j : Nat) (most : Int) (hi : dn i = a.den) (hj : dn j = b.den) (hm : most ≤ 200) (la : Sz a 99) : ∃ d, dn d = (powerQ a b most).1.den ∧ AC Tryz.prog 158 [RA a.num i, RA b.num j, .val (.int .i64 most)] (.pure (.tup [RA (powerQ a b most).1.num d, .val (.int .i64 (powerQ a b most).2)])) := by
 have hW := IsWhole_ok b.num j
 have hSa := RaSign_ok a.num i
 have hSb := RaSign_ok b.num j
 have hL := Limited_ok a.num i
 have hT := RTop_ok b.num j
 have hE := Even_ok b.num.natAbs
 have hM := QMinus_ok a.num i
 have hI := RInt_ok b.num j
 rw [hj] at hW hI
 rw [hi] at hL hM
 unfold powerQ
 by_cases hd : b.den = 1
 rotate_left
 ·rw [if_pos (.inl hd)]
  rw [decide_eq_false hd] at hW
  refine ⟨0, rfl, RZ22 ?_⟩
  refine AC.of_body TTok Tryz.func158 rfl (enter_of Tryz.func158 (by kernel_rfl) (by kernel_rfl)) (noid3 (RA_noid _ _) (RA_noid _ _) (.val _)) (.tup _ (noid2 RZ_noid (.val _))) (nbq rfl) ?_
  unfold RA RZ at *
  repeat ((conv => whnf); (first | refine ⟨_, ‹_›, ?_⟩ | refine ⟨nbq rfl, _, ‹_›, ?_⟩ | refine ⟨by kernel_rfl, ?_⟩ | exact rfl | exact ⟨nbq rfl, rfl⟩ | refine ⟨by decide, ?_⟩))
 rw [decide_eq_true hd] at hW
 by_cases hz : a = 0 ∧ b.num < 0
 ·rw [if_pos (.inr hz)]
  rw [show sigW a.num = 0 by rw [hz.1]; rfl] at hSa
  rw [show sigW b.num = -1 by unfold sigW; rw [if_neg (by omega), if_pos hz.2]] at hSb
  refine ⟨0, rfl, RZ22 ?_⟩
  refine AC.of_body TTok Tryz.func158 rfl (enter_of Tryz.func158 (by kernel_rfl) (by kernel_rfl)) (noid3 (RA_noid _ _) (RA_noid _ _) (.val _)) (.tup _ (noid2 RZ_noid (.val _))) (nbq rfl) ?_
  unfold RA RZ at *
  repeat ((conv => whnf); (first | refine ⟨_, ‹_›, ?_⟩ | refine ⟨nbq rfl, _, ‹_›, ?_⟩ | refine ⟨by kernel_rfl, ?_⟩ | exact rfl | exact ⟨nbq rfl, rfl⟩ | refine ⟨by decide, ?_⟩))
 rw [if_neg (fun h => h.elim (fun h => h hd) hz)]
 have hz' : ¬ (a.num = 0 ∧ b.num < 0) := fun h => hz ⟨Rat.num_eq_zero.1 h.1, h.2⟩
 by_cases hl : limQ a ∧ b.num ≠ 0
 ·have hb0 := hl.2
  rw [if_pos hl]
  rw [decide_eq_true (show a.den = 1 ∧ (a.num.natAbs = 0 ∨ a.num.natAbs = 1) from hl.1)] at hL
  by_cases he : a.num < 0 ∧ b.num.natAbs % 2 = 0
  ·rw [if_pos he]
   rw [show sigW a.num = -1 by unfold sigW; rw [if_neg (by omega), if_pos he.1]] at hSa
   rw [decide_eq_true he.2] at hE
   refine ⟨a.den, dn_self a.den_nz, ?_⟩
   refine AC.of_body TTok Tryz.func158 rfl (enter_of Tryz.func158 (by kernel_rfl) (by kernel_rfl)) (noid3 (RA_noid _ _) (RA_noid _ _) (.val _)) (.tup _ (noid2 (RA_noid _ _) (.val _))) (nbq rfl) ?_
   have hM' : AC Tryz.prog 153 [RA a.num i] (.pure (RA (-a).num a.den)) := hM
   clear hM
   rcases sig_lit b.num with ⟨_, e⟩ | ⟨e0, _⟩ | ⟨_, e⟩
   ·rw [e] at hSb
    unfold RA WI natA at *
    repeat ((conv => whnf); (first | refine ⟨_, ‹_›, ?_⟩ | refine ⟨nbq rfl, _, ‹_›, ?_⟩ | refine ⟨by kernel_rfl, ?_⟩ | exact rfl | exact ⟨nbq rfl, rfl⟩ | refine ⟨by decide, ?_⟩))
   ·exact absurd e0 hb0
   ·rw [e] at hSb
    unfold RA WI natA at *
    repeat ((conv => whnf); (first | refine ⟨_, ‹_›, ?_⟩ | refine ⟨nbq rfl, _, ‹_›, ?_⟩ | refine ⟨by kernel_rfl, ?_⟩ | exact rfl | exact ⟨nbq rfl, rfl⟩ | refine ⟨by decide, ?_⟩))
  ·rw [if_neg he]
   refine ⟨i, hi, ?_⟩
   refine AC.of_body TTok Tryz.func158 rfl (enter_of Tryz.func158 (by kernel_rfl) (by kernel_rfl)) (noid3 (RA_noid _ _) (RA_noid _ _) (.val _)) (.tup _ (noid2 (RA_noid _ _) (.val _))) (nbq rfl) ?_
   rcases sig_lit a.num with ⟨h1, e1⟩ | ⟨h1, e1⟩ | ⟨h1, e1⟩ <;> rcases sig_lit b.num with ⟨h2, e2⟩ | ⟨h2, e2⟩ | ⟨h2, e2⟩
   all_goals first
    | (exfalso; omega)
    | skip
   all_goals
    rw [e1] at hSa
    rw [e2] at hSb
    first
     | rw [decide_eq_false (show ¬ b.num.natAbs % 2 = 0 from fun h => he ⟨h1, h⟩)] at hE
     | skip
    unfold RA WI natA at *
    repeat ((conv => whnf); (first | refine ⟨_, ‹_›, ?_⟩ | refine ⟨nbq rfl, _, ‹_›, ?_⟩ | refine ⟨by kernel_rfl, ?_⟩ | exact rfl | exact ⟨nbq rfl, rfl⟩ | refine ⟨by decide, ?_⟩))
 rw [if_neg hl]
 have hs : (if decide (a.den = 1 ∧ (a.num.natAbs = 0 ∨ a.num.natAbs = 1)) = true then b.num else 0) = 0 := by
  split
  ·rename_i h
   have h' := of_decide_eq_true h
   exact Decidable.of_not_not (fun hb => hl ⟨h', hb⟩)
  ·rfl
 by_cases hf : fit b.num
 rotate_left
 ·rw [if_pos hf]
  refine ⟨0, rfl, RZ22 ?_⟩
  rw [if_neg (fun h : fitQ b.num b.den => hf h.2), decide_eq_false (fun h : fitQ b.num b.den => hf h.2)] at hI
  refine AC.of_body TTok Tryz.func158 rfl (enter_of Tryz.func158 (by kernel_rfl) (by kernel_rfl)) (noid3 (RA_noid _ _) (RA_noid _ _) (.val _)) (.tup _ (noid2 RZ_noid (.val _))) (nbq rfl) ?_
  generalize decide (a.den = 1 ∧ (a.num.natAbs = 0 ∨ a.num.natAbs = 1)) = s at *
  rcases sig_lit a.num with ⟨h1, e1⟩ | ⟨h1, e1⟩ | ⟨h1, e1⟩ <;> rcases sig_lit b.num with ⟨h2, e2⟩ | ⟨h2, e2⟩ | ⟨h2, e2⟩ <;> cases s
  all_goals simp only [Bool.false_eq_true, if_false, if_true] at hs
  all_goals first
   | (exfalso; omega)
   | skip
  all_goals
   rw [e1] at hSa
   rw [e2] at hSb
   unfold RA RZ at *
   repeat ((conv => whnf); (first | refine ⟨_, ‹_›, ?_⟩ | refine ⟨nbq rfl, _, ‹_›, ?_⟩ | refine ⟨by kernel_rfl, ?_⟩ | exact rfl | exact ⟨nbq rfl, rfl⟩ | refine ⟨by decide, ?_⟩))
 rw [if_neg (fun h => h hf)]
 have hfq : fitQ b.num b.den := ⟨hd, hf⟩
 rw [if_pos hfq, decide_eq_true hfq] at hI
 obtain ⟨d, hd', hP, _⟩ := pow_both a i b.num most hi hf hm la
 refine ⟨d, hd', ?_⟩
 refine AC.of_body TTok Tryz.func158 rfl (enter_of Tryz.func158 (by kernel_rfl) (by kernel_rfl)) (noid3 (RA_noid _ _) (RA_noid _ _) (.val _)) (.tup _ (noid2 (RA_noid _ _) (.val _))) (nbq rfl) ?_
 revert hP
 generalize (powQ a b.num most).1 = r
 generalize (powQ a b.num most).2 = g
 intro hP
 generalize decide (a.den = 1 ∧ (a.num.natAbs = 0 ∨ a.num.natAbs = 1)) = s at *
 rcases sig_lit a.num with ⟨h1, e1⟩ | ⟨h1, e1⟩ | ⟨h1, e1⟩ <;> rcases sig_lit b.num with ⟨h2, e2⟩ | ⟨h2, e2⟩ | ⟨h2, e2⟩ <;> cases s <;> cases g
 all_goals simp only [Bool.false_eq_true, if_false, if_true] at hs
 all_goals first
  | (exfalso; omega)
  | skip
 all_goals
  rw [e1] at hSa
  rw [e2] at hSb
  unfold RA at *
  repeat ((conv => whnf); (first | refine ⟨_, ‹_›, ?_⟩ | refine ⟨nbq rfl, _, ‹_›, ?_⟩ | refine ⟨by kernel_rfl, ?_⟩ | exact rfl | exact ⟨nbq rfl, rfl⟩ | refine ⟨by decide, ?_⟩))
end
section
end
section
def chs (r : Nat) : Nat → Nat
 | 0 => 1
 | i + 1 => chs r i * (r + (i + 1)) / (i + 1)
theorem chs_succ (r i : Nat) : chs r (i + 1) = chs r i * (r + (i + 1)) / (i + 1) := rfl
theorem chs_mono1 (r i : Nat) : chs r i ≤ chs r (i + 1) := by
 rw [chs_succ, Nat.le_div_iff_mul_le (by omega)]
 exact Nat.mul_le_mul_left _ (by omega)
theorem chs_mono (r : Nat) {i j : Nat} (h : i ≤ j) : chs r i ≤ chs r j := by
 induction h with
 | refl => exact Nat.le_refl _
 | step _ ih => exact Nat.le_trans ih (chs_mono1 r _)
theorem chs_big (r : Nat) : ∀ i, i ≤ r → 2 ^ i ≤ chs r i
 | 0, _ => Nat.le_refl _
 | i + 1, h => by
  have ih := chs_big r i (by omega)
  rw [chs_succ, Nat.le_div_iff_mul_le (by omega), Nat.pow_succ, Nat.mul_assoc]
  exact Nat.mul_le_mul ih (by omega)
theorem chs_bound {r i : Nat} (h : i ≤ r) (hl : (limbs (chs r i)).length ≤ 200) : i ≤ 6400 := by
 have h1 := chs_big r i h
 have h2 := val_lt (limbs_lim (chs r i))
 rw [val_limbs, pow32] at h2
 have h3 : 2 ^ i < 2 ^ (32 * (limbs (chs r i)).length) := Nat.lt_of_le_of_lt h1 h2
 have := (Nat.pow_lt_pow_iff_right (by decide : 1 < 2)).1 h3
 omega
def chsOk (k r : Nat) (most : Int) : Prop := k = 0 ∨ ((limbs (chs r k)).length : Int) ≤ most
instance (k r : Nat) (most : Int) : Decidable (chsOk k r most) := inferInstanceAs (Decidable (_ ∨ _))
def natQ (q : Rat) : Prop := q.den = 1 ∧ 0 ≤ q.num
instance (q : Rat) : Decidable (natQ q) := inferInstanceAs (Decidable (_ ∧ _))
def chooseQ (a b : Rat) (most : Int) : Rat × Int :=
 if ¬ (natQ a ∧ natQ b) then (0, 22)
 else if b.num < a.num then (0, 0)
 else if chsOk (min a.num (b.num - a.num)).toNat (max a.num (b.num - a.num)).toNat most then (((chs (max a.num (b.num - a.num)).toNat (min a.num (b.num - a.num)).toNat : Nat) : Int), 0)
 else (0, 26)
theorem int_of {q : Rat} (h : q.den = 1) : q = ((q.num : Int) : Rat) := Rat.ext rfl h
theorem sub_int {a b : Rat} (ha : a.den = 1) (hb : b.den = 1) : (b + -a).num = b.num - a.num ∧ (b + -a).den = 1 := by
 have e : b + -a = ((b.num - a.num : Int) : Rat) := by
  rw [Rat.intCast_sub, ← int_of ha, ← int_of hb, Rat.sub_eq_add_neg]
 rw [e]
 exact q2r
theorem floor_nat (x i : Nat) (hi : 0 < i) (hx : (limbs x).length < 1000000) (hl : (limbs i).length < 1000000) : ∃ r, AC Tryz.prog 182 [WI (x : Int), WI (i : Int)] (.pure (.tup [WI ((x / i : Nat) : Int), WI r, .val (.bool true)])) := by
 have h := Floor_ok (x : Int) (i : Int) (by omega) (by rw [Int.natAbs_natCast]; omega) (by rw [Int.natAbs_natCast]; omega) (DivMod_ok _ _ (by rw [Int.natAbs_natCast]; exact hi) (by rw [Int.natAbs_natCast]; omega) (by rw [Int.natAbs_natCast]; omega))
 rw [flQ_ediv _ _ (by omega)] at h
 exact ⟨_, h⟩
theorem Choose_none (a b : Rat) (i j : Nat) (most : Int) (hi : dn i = a.den) (hj : dn j = b.den) (h : ¬ (natQ a ∧ natQ b)) : AC Tryz.prog 159 [RA a.num i, RA b.num j, .val (.int .i64 most)] (.pure (.tup [RA 0 0, .val (.int .i64 22)])) := by
 refine RZ22 ?_
 have hWa := IsWhole_ok a.num i
 have hWb := IsWhole_ok b.num j
 have hSa := RaSign_ok a.num i
 have hSb := RaSign_ok b.num j
 rw [hi] at hWa
 rw [hj] at hWb
 refine AC.of_body TTok Tryz.func159 rfl (enter_of Tryz.func159 (by kernel_rfl) (by kernel_rfl)) (noid3 (RA_noid _ _) (RA_noid _ _) (.val _)) (.tup _ (noid2 RZ_noid (.val _))) (nbq rfl) ?_
 by_cases da : a.den = 1
 ·rw [decide_eq_true da] at hWa
  by_cases db : b.den = 1
  ·rw [decide_eq_true db] at hWb
   by_cases na : a.num < 0
   ·rw [show sigW a.num = -1 by unfold sigW; rw [if_neg (by omega), if_pos na]] at hSa
    unfold RA RZ at *
    repeat ((conv => whnf); (first | refine ⟨_, ‹_›, ?_⟩ | refine ⟨nbq rfl, _, ‹_›, ?_⟩ | refine ⟨by kernel_rfl, ?_⟩ | exact rfl | exact ⟨nbq rfl, rfl⟩ | refine ⟨by decide, ?_⟩))
   ·have nb : b.num < 0 := Decidable.of_not_not (fun hb => h ⟨⟨da, by omega⟩, ⟨db, by omega⟩⟩)
    rw [show sigW b.num = -1 by unfold sigW; rw [if_neg (by omega), if_pos nb]] at hSb
    rcases sig_lit a.num with ⟨h1, e1⟩ | ⟨h1, e1⟩ | ⟨h1, e1⟩
    ·omega
    ·rw [e1] at hSa
     unfold RA RZ at *
     repeat ((conv => whnf); (first | refine ⟨_, ‹_›, ?_⟩ | refine ⟨nbq rfl, _, ‹_›, ?_⟩ | refine ⟨by kernel_rfl, ?_⟩ | exact rfl | exact ⟨nbq rfl, rfl⟩ | refine ⟨by decide, ?_⟩))
    ·rw [e1] at hSa
     unfold RA RZ at *
     repeat ((conv => whnf); (first | refine ⟨_, ‹_›, ?_⟩ | refine ⟨nbq rfl, _, ‹_›, ?_⟩ | refine ⟨by kernel_rfl, ?_⟩ | exact rfl | exact ⟨nbq rfl, rfl⟩ | refine ⟨by decide, ?_⟩))
  ·rw [decide_eq_false db] at hWb
   unfold RA RZ at *
   repeat ((conv => whnf); (first | refine ⟨_, ‹_›, ?_⟩ | refine ⟨nbq rfl, _, ‹_›, ?_⟩ | refine ⟨by kernel_rfl, ?_⟩ | exact rfl | exact ⟨nbq rfl, rfl⟩ | refine ⟨by decide, ?_⟩))
 ·rw [decide_eq_false da] at hWa
  unfold RA RZ at *
  repeat ((conv => whnf); (first | refine ⟨_, ‹_›, ?_⟩ | refine ⟨nbq rfl, _, ‹_›, ?_⟩ | refine ⟨by kernel_rfl, ?_⟩ | exact rfl | exact ⟨nbq rfl, rfl⟩ | refine ⟨by decide, ?_⟩))
section
variable (a b : Rat) (i j : Nat) (most : Int) (hi : dn i = a.den) (hj : dn j = b.den) (hm : most ≤ 200) (la : Sz a 90) (lb : Sz b 90) (na : natQ a) (nb : natQ b)
include hi hj la lb na nb
theorem Choose_less (h : b.num < a.num) : AC Tryz.prog 159 [RA a.num i, RA b.num j, .val (.int .i64 most)] (.pure (.tup [RA 0 0, .val (.int .i64 0)])) := by
 refine RZ22 ?_
 have hWa := IsWhole_ok a.num i
 have hWb := IsWhole_ok b.num j
 have hSa := RaSign_ok a.num i
 have hSb := RaSign_ok b.num j
 have hM := QMinus_ok a.num i
 have hP := QPlus1 b (-a) j a.den hj (dn_den a) (lb.mono (by decide)) ((Sz_neg la).mono (by decide))
 have hSr := RaSign_ok (b + -a).num (b + -a).den
 rw [hi, decide_eq_true na.1] at hWa
 rw [hj, decide_eq_true nb.1] at hWb
 rw [hi] at hM
 have hM : AC Tryz.prog 153 [RA a.num i] (.pure (RA (-a).num a.den)) := hM
 have e1 : sigW a.num = 0 ∨ sigW a.num = 1 := by
  rcases sig_lit a.num with ⟨h1, e1⟩ | ⟨h1, e1⟩ | ⟨h1, e1⟩
  ·exact absurd na.2 (by omega)
  ·exact .inl e1
  ·exact .inr e1
 have e2 : sigW b.num = 0 ∨ sigW b.num = 1 := by
  rcases sig_lit b.num with ⟨h1, e1⟩ | ⟨h1, e1⟩ | ⟨h1, e1⟩
  ·exact absurd nb.2 (by omega)
  ·exact .inl e1
  ·exact .inr e1
 obtain ⟨s1, s2⟩ := sub_int na.1 nb.1
 rw [show sigW (b + -a).num = -1 by unfold sigW; rw [if_neg (by omega), if_pos (by omega)]] at hSr
 refine AC.of_body TTok Tryz.func159 rfl (enter_of Tryz.func159 (by kernel_rfl) (by kernel_rfl)) (noid3 (RA_noid _ _) (RA_noid _ _) (.val _)) (.tup _ (noid2 RZ_noid (.val _))) (nbq rfl) ?_
 clear s1 s2
 revert hP hSr
 generalize b + -a = r
 intro hP hSr
 rcases e1 with e1 | e1 <;> rcases e2 with e2 | e2
 all_goals
  rw [e1] at hSa
  rw [e2] at hSb
  unfold RA RZ rowR at *
  repeat ((conv => whnf); (first | refine ⟨_, ‹_›, ?_⟩ | refine ⟨nbq rfl, _, ‹_›, ?_⟩ | refine ⟨by kernel_rfl, ?_⟩ | exact rfl | exact ⟨nbq rfl, rfl⟩ | refine ⟨by decide, ?_⟩))
include hm
theorem Choose_gen (h : a.num ≤ b.num) (res : AV) (hno : NoId res)
  (r1 : ¬ chsOk (min a.num (b.num - a.num)).toNat (max a.num (b.num - a.num)).toNat most → AV.tup [RZ, .val (.int .i64 26)] = res)
  (r2 : chsOk (min a.num (b.num - a.num)).toNat (max a.num (b.num - a.num)).toNat most → AV.tup [RA ((chs (max a.num (b.num - a.num)).toNat (min a.num (b.num - a.num)).toNat : Nat) : Int) 1, .val (.int .i64 0)] = res) :
  AC Tryz.prog 159 [RA a.num i, RA b.num j, .val (.int .i64 most)] (.pure res) := by
 have hWa := IsWhole_ok a.num i
 have hWb := IsWhole_ok b.num j
 have hSa := RaSign_ok a.num i
 have hSb := RaSign_ok b.num j
 have hM := QMinus_ok a.num i
 have hP := QPlus1 b (-a) j a.den hj (dn_den a) (lb.mono (by decide)) ((Sz_neg la).mono (by decide))
 have hSr := RaSign_ok (b + -a).num (b + -a).den
 rw [hi, decide_eq_true na.1] at hWa
 rw [hj, decide_eq_true nb.1] at hWb
 rw [hi] at hM
 have hM : AC Tryz.prog 153 [RA a.num i] (.pure (RA (-a).num a.den)) := hM
 have e1 : sigW a.num = 0 ∨ sigW a.num = 1 := by
  rcases sig_lit a.num with ⟨h1, e1⟩ | ⟨h1, e1⟩ | ⟨h1, e1⟩
  ·exact absurd na.2 (by omega)
  ·exact .inl e1
  ·exact .inr e1
 have e2 : sigW b.num = 0 ∨ sigW b.num = 1 := by
  rcases sig_lit b.num with ⟨h1, e1⟩ | ⟨h1, e1⟩ | ⟨h1, e1⟩
  ·exact absurd nb.2 (by omega)
  ·exact .inl e1
  ·exact .inr e1
 obtain ⟨s1, s2⟩ := sub_int na.1 nb.1
 have sR : Sz (b + -a) 361 := (Sz_add lb (Sz_neg la)).mono (by decide)
 have hC := QCmp_ok (b + -a) a (b + -a).den i (dn_den _) hi (sR.mono (by decide)) (la.mono (by decide))
 have eR : sigW (b + -a).num = 0 ∨ sigW (b + -a).num = 1 := by
  rcases sig_lit (b + -a).num with ⟨h1, e1⟩ | ⟨h1, e1⟩ | ⟨h1, e1⟩
  ·omega
  ·exact .inl e1
  ·exact .inr e1
 refine AC.of_body TTok Tryz.func159 rfl (enter_of Tryz.func159 (by kernel_rfl) (by kernel_rfl)) (noid3 (RA_noid _ _) (RA_noid _ _) (.val _)) hno (nbq rfl) ?_
 have hlt : cmpQ (b + -a) a < 0 ↔ b.num - a.num < a.num := by
  rw [cmpQ_neg, Rat.lt_iff, s1, s2, na.1]
  simp
 have hdR : dn (b + -a).den = 1 := by rw [dn_den, s2]
 rw [na.1] at hi
 obtain ⟨dr, hdr⟩ : ∃ d, d = (b + -a).den := ⟨_, rfl⟩
 obtain ⟨nr, hnr⟩ : ∃ n, n = (b + -a).num := ⟨_, rfl⟩
 rw [← hdr] at hP hSr hC hdR
 rw [← hnr] at hP hSr hC eR s1
 have f1 : decide (sigW a.num < 0) = false := decide_eq_false (by rcases e1 with e | e <;> rw [e] <;> decide)
 have f2 : decide (sigW b.num < 0) = false := decide_eq_false (by rcases e2 with e | e <;> rw [e] <;> decide)
 have fR : decide (sigW nr < 0) = false := decide_eq_false (by rcases eR with e | e <;> rw [e] <;> decide)
 have lnr := sR.1
 rw [← hnr] at lnr
 clear sR e1 e2 eR
 have han := na.2
 have lan := la.1
 clear na nb la lb
 by_cases hs : b.num - a.num < a.num
 ·have fs : decide (cmpQ (b + -a) a < 0) = true := decide_eq_true (hlt.2 hs)
  clear hlt
  generalize cmpQ (b + -a) a = cq at hC fs
  clear hnr hdr
  generalize (b + -a) = qr at hP hC
  generalize -a = qn at hM hP
  generalize sigW a.num = g1 at *
  generalize sigW b.num = g2 at *
  generalize sigW nr = g3 at *
  have hTop := RTop_ok a.num i
  have hI := RInt_ok nr dr
  rw [hdR] at hI
  obtain ⟨k, hk⟩ : ∃ k : Nat, nr = (k : Int) := ⟨(nr).toNat, by omega⟩
  obtain ⟨r, hr⟩ : ∃ r : Nat, a.num = (r : Int) := ⟨(a.num).toNat, by omega⟩
  rw [show (min a.num (b.num - a.num)).toNat = k by omega, show (max a.num (b.num - a.num)).toNat = r by omega] at r1 r2
  have hkr : k ≤ r := by omega
  have lr : (limbs r).length ≤ 400 := by
   have := lan
   rw [show r = (a.num).natAbs by omega]
   omega
  obtain ⟨v, ok, hI, hv⟩ : ∃ v ok, AC Tryz.prog 132 [RA nr dr] (.pure (.tup [.val (.int .i64 v), .val (.bool ok)])) ∧ ((ok = true ∧ v = (k : Int)) ∨ (ok = false ∧ 6500 < k)) := by
   by_cases hf : fit nr
   ·rw [if_pos ⟨rfl, hf⟩, decide_eq_true (show fitQ nr 1 from ⟨rfl, hf⟩)] at hI
    exact ⟨_, _, hI, .inl ⟨rfl, hk⟩⟩
   ·rw [if_neg (fun h => hf h.2), decide_eq_false (show ¬ fitQ nr 1 from fun h => hf h.2)] at hI
    exact ⟨_, _, hI, .inr ⟨rfl, by unfold fit at hf; omega⟩⟩
  have hF1 := From_ok 1 (by decide)
  have hWh := Whole_ok ((chs r k : Nat) : Int)
  unfold RA WI rowR at *
  conv => whnf
  refine ⟨_, hWa, ?_⟩
  conv => whnf
  refine ⟨_, hWb, ?_⟩
  conv => whnf
  refine ⟨_, hSa, ?_⟩
  conv => whnf
  refine cFq (f1) ?_
  conv => whnf
  refine ⟨_, hSb, ?_⟩
  conv => whnf
  refine cFq (f2) ?_
  conv => whnf
  refine ⟨_, hM, ?_⟩
  conv => whnf
  refine ⟨(nbq rfl), _, hP, ?_⟩
  conv => whnf
  refine ⟨by kernel_rfl, ?_⟩
  conv => whnf
  refine ⟨_, hSr, ?_⟩
  conv => whnf
  refine cFq (fR) ?_
  conv => whnf
  refine ⟨_, hC, ?_⟩
  conv => whnf
  refine cTq (fs) ?_
  conv => whnf
  refine ⟨_, hI, ?_⟩
  conv => whnf
  refine ⟨_, hF1, ?_⟩
  conv => whnf
  refine SW.loopM TTok (fun j : Nat => [(2, .val (.int .i64 most)), (6, .lp 16 0), (8, .lp 216 0), (9, .val (.int .i64 v)), (10, .val (.bool ok)), (11, .lp 384 0), (12, .val (.int .i64 ((j : Int) + 1)))])
   (fun j => [(16, .cells 3 [[.sl 0 [] true, .val (.bool false), .sl 0 [] true]]), (216, .cells 3 [[.sl 1 (irows .u32 (limbs (a.num).natAbs)) false, .val (.bool (decide (a.num < 0))), .sl 1 (irows .u32 (limbs i)) false]]), (384, .cells 2 [[.sl 1 (irows .u32 (limbs ((chs r j : Nat) : Int).natAbs)) false, .val (.bool (decide (((chs r j : Nat) : Int) < 0)))]])]) 408 86 rfl (fun j => 6500 - j)
   (fun j => j ≤ k ∧ (j = 0 ∨ ((limbs (chs r j)).length : Int) ≤ most)) 0 [] ⟨Nat.zero_le _, .inl rfl⟩
   ⟨q2r, q2r, q2r, q2r, q2r, q2r, q2r, trivial⟩ ⟨q3r, q3r, q3r, trivial⟩ rfl ?_
  intro j hJ
  have hj1 : j ≤ k := hJ.1
  have hj2 : j = 0 ∨ ((limbs (chs r j)).length : Int) ≤ most := hJ.2
  clear hJ
  have lc : (limbs (chs r j)).length ≤ 200 := by
   rcases hj2 with h | h
   ·subst h; exact Nat.le_trans (limbs_small (n := 1) (by decide)) (by decide)
   ·omega
  have hjb := chs_bound (Nat.le_trans hj1 hkr) lc
  have lj : (limbs (j + 1)).length ≤ 1 := limbs_small (by omega)
  have hFr := From_ok ((j : Int) + 1) (by omega)
  have lrj := limbs_abs_add (r : Int) ((j : Int) + 1)
  rw [Int.natAbs_natCast, show ((j : Int) + 1).natAbs = j + 1 by omega] at lrj
  have hPl := Plus1 (r : Int) ((j : Int) + 1) (by rw [Int.natAbs_natCast]; omega) (by rw [show ((j : Int) + 1).natAbs = j + 1 by omega]; omega) (by omega)
  have lcr := limbs_abs_mul ((chs r j : Nat) : Int) ((r : Int) + ((j : Int) + 1))
  rw [Int.natAbs_natCast] at lcr
  have ec : ((chs r j : Nat) : Int) * ((r : Int) + ((j : Int) + 1)) = ((chs r j * (r + (j + 1)) : Nat) : Int) := by rw [Int.natCast_mul, Int.natCast_add, Int.natCast_add]; rfl
  have hTi := Times1 ((chs r j : Nat) : Int) ((r : Int) + ((j : Int) + 1)) (by rw [Int.natAbs_natCast]; omega) (by omega) (by omega)
  rw [ec] at hTi lcr
  rw [Int.natAbs_natCast] at lcr
  obtain ⟨w, hFl⟩ := floor_nat (chs r j * (r + (j + 1))) (j + 1) (by omega) (by omega) (by omega)
  rw [← chs_succ, show ((j + 1 : Nat) : Int) = (j : Int) + 1 from rfl] at hFl
  have hLim := Limbs_ok ((chs r (j + 1) : Nat) : Int).natAbs
  rw [← hr] at hPl hTi
  clear ec lcr lrj lj lc
  revert hPl hTi hFl
  generalize ((chs r j * (r + (j + 1)) : Nat) : Int) = y
  generalize a.num + ((j : Int) + 1) = z
  intro hPl hTi hFl
  unfold WI rowW natA at *
  rcases hv with ⟨rfl, rfl⟩ | ⟨rfl, hbig⟩
  ·conv => whnf
   refine caseb (fun h4 => ?_) (fun h4 => ?_)
   ·have h4' : (j : Int) + 1 ≤ (k : Int) := of_decide_eq_true h4
    conv => whnf
    refine ⟨_, hTop, ?_⟩
    conv => whnf
    refine ⟨_, hFr, ?_⟩
    conv => whnf
    refine ⟨(nbq rfl), _, hPl, ?_⟩
    conv => whnf
    refine ⟨(nbq rfl), _, hTi, ?_⟩
    conv => whnf
    refine ⟨_, hFr, ?_⟩
    conv => whnf
    refine ⟨_, hFl, ?_⟩
    conv => whnf
    refine ⟨by kernel_rfl, ?_⟩
    conv => whnf
    refine ⟨_, hLim, ?_⟩
    conv => whnf
    refine caseb (fun h5 => ?_) (fun h5 => ?_)
    ·have h5' : ((limbs (chs r (j + 1))).length : Int) > most := of_decide_eq_true h5
     have hmo := limbs_len_mono (chs_mono r (show j + 1 ≤ k by omega))
     conv => whnf
     exact r1 (fun hc => by rcases hc with hc | hc <;> omega)
    ·have h5' : ¬ ((limbs (chs r (j + 1))).length : Int) > most := of_decide_eq_false h5
     conv => whnf
     refine ⟨j + 1, [], (by show 6500 - (j + 1) < 6500 - j; omega), ⟨(by show j + 1 ≤ k; omega), .inr (by show ((limbs (chs r (j + 1))).length : Int) ≤ most; omega)⟩, ⟨q2r, q2r, q2r, q2r, q2r, q2r, ⟨valI ?_, rfl⟩, trivial⟩, ⟨q3r, q3r, q3r, trivial⟩, rfl⟩
     show IntKind.i64.wrap ((j : Int) + 1 + 1) = ((j + 1 : Nat) : Int) + 1
     rw [IntWalk.i64_in _ (by omega)]; omega
   ·have h4' : ¬ (j : Int) + 1 ≤ (k : Int) := of_decide_eq_false h4
    have hjk : j = k := by omega
    rw [hjk] at hj2 ⊢
    conv => whnf
    refine ⟨_, hWh, ?_⟩
    conv => whnf
    exact r2 (by rcases hj2 with h | h; exact .inl h; exact .inr h)
  ·have h4' : (j : Int) + 1 ≤ (k : Int) := by omega
   conv => whnf
   refine ⟨_, hTop, ?_⟩
   conv => whnf
   refine ⟨_, hFr, ?_⟩
   conv => whnf
   refine ⟨(nbq rfl), _, hPl, ?_⟩
   conv => whnf
   refine ⟨(nbq rfl), _, hTi, ?_⟩
   conv => whnf
   refine ⟨_, hFr, ?_⟩
   conv => whnf
   refine ⟨_, hFl, ?_⟩
   conv => whnf
   refine ⟨by kernel_rfl, ?_⟩
   conv => whnf
   refine ⟨_, hLim, ?_⟩
   conv => whnf
   refine caseb (fun h5 => ?_) (fun h5 => ?_)
   ·have h5' : ((limbs (chs r (j + 1))).length : Int) > most := of_decide_eq_true h5
    have hmo := limbs_len_mono (chs_mono r (show j + 1 ≤ k by omega))
    conv => whnf
    exact r1 (fun hc => by rcases hc with hc | hc <;> omega)
   ·have h5' : ¬ ((limbs (chs r (j + 1))).length : Int) > most := of_decide_eq_false h5
    conv => whnf
    refine ⟨j + 1, [], (by show 6500 - (j + 1) < 6500 - j; omega), ⟨(by show j + 1 ≤ k; omega), .inr (by show ((limbs (chs r (j + 1))).length : Int) ≤ most; omega)⟩, ⟨q2r, q2r, q2r, q2r, q2r, q2r, ⟨valI ?_, rfl⟩, trivial⟩, ⟨q3r, q3r, q3r, trivial⟩, rfl⟩
    show IntKind.i64.wrap ((j : Int) + 1 + 1) = ((j + 1 : Nat) : Int) + 1
    rw [IntWalk.i64_in _ (by omega)]; omega
 ·have fs : decide (cmpQ (b + -a) a < 0) = false := decide_eq_false (fun h => hs (hlt.1 h))
  clear hlt
  generalize cmpQ (b + -a) a = cq at hC fs
  clear hnr hdr
  generalize (b + -a) = qr at hP hC
  generalize -a = qn at hM hP
  generalize sigW a.num = g1 at *
  generalize sigW b.num = g2 at *
  generalize sigW nr = g3 at *
  have hTop := RTop_ok nr dr
  have hI := RInt_ok a.num i
  rw [hi] at hI
  obtain ⟨k, hk⟩ : ∃ k : Nat, a.num = (k : Int) := ⟨(a.num).toNat, by omega⟩
  obtain ⟨r, hr⟩ : ∃ r : Nat, nr = (r : Int) := ⟨(nr).toNat, by omega⟩
  rw [show (min a.num (b.num - a.num)).toNat = k by omega, show (max a.num (b.num - a.num)).toNat = r by omega] at r1 r2
  have hkr : k ≤ r := by omega
  have lr : (limbs r).length ≤ 400 := by
   have := lnr
   rw [show r = (nr).natAbs by omega]
   omega
  obtain ⟨v, ok, hI, hv⟩ : ∃ v ok, AC Tryz.prog 132 [RA a.num i] (.pure (.tup [.val (.int .i64 v), .val (.bool ok)])) ∧ ((ok = true ∧ v = (k : Int)) ∨ (ok = false ∧ 6500 < k)) := by
   by_cases hf : fit a.num
   ·rw [if_pos ⟨rfl, hf⟩, decide_eq_true (show fitQ a.num 1 from ⟨rfl, hf⟩)] at hI
    exact ⟨_, _, hI, .inl ⟨rfl, hk⟩⟩
   ·rw [if_neg (fun h => hf h.2), decide_eq_false (show ¬ fitQ a.num 1 from fun h => hf h.2)] at hI
    exact ⟨_, _, hI, .inr ⟨rfl, by unfold fit at hf; omega⟩⟩
  have hF1 := From_ok 1 (by decide)
  have hWh := Whole_ok ((chs r k : Nat) : Int)
  unfold RA WI rowR at *
  conv => whnf
  refine ⟨_, hWa, ?_⟩
  conv => whnf
  refine ⟨_, hWb, ?_⟩
  conv => whnf
  refine ⟨_, hSa, ?_⟩
  conv => whnf
  refine cFq (f1) ?_
  conv => whnf
  refine ⟨_, hSb, ?_⟩
  conv => whnf
  refine cFq (f2) ?_
  conv => whnf
  refine ⟨_, hM, ?_⟩
  conv => whnf
  refine ⟨(nbq rfl), _, hP, ?_⟩
  conv => whnf
  refine ⟨by kernel_rfl, ?_⟩
  conv => whnf
  refine ⟨_, hSr, ?_⟩
  conv => whnf
  refine cFq (fR) ?_
  conv => whnf
  refine ⟨_, hC, ?_⟩
  conv => whnf
  refine cFq (fs) ?_
  conv => whnf
  refine ⟨_, hI, ?_⟩
  conv => whnf
  refine ⟨_, hF1, ?_⟩
  conv => whnf
  refine SW.loopM TTok (fun j : Nat => [(2, .val (.int .i64 most)), (6, .lp 16 0), (8, .lp 216 0), (9, .val (.int .i64 v)), (10, .val (.bool ok)), (11, .lp 352 0), (12, .val (.int .i64 ((j : Int) + 1)))])
   (fun j => [(16, .cells 3 [[.sl 0 [] true, .val (.bool false), .sl 0 [] true]]), (216, .cells 3 [[.sl 1 (irows .u32 (limbs (nr).natAbs)) false, .val (.bool (decide (nr < 0))), .sl 1 (irows .u32 (limbs dr)) false]]), (352, .cells 2 [[.sl 1 (irows .u32 (limbs ((chs r j : Nat) : Int).natAbs)) false, .val (.bool (decide (((chs r j : Nat) : Int) < 0)))]])]) 376 86 rfl (fun j => 6500 - j)
   (fun j => j ≤ k ∧ (j = 0 ∨ ((limbs (chs r j)).length : Int) ≤ most)) 0 [] ⟨Nat.zero_le _, .inl rfl⟩
   ⟨q2r, q2r, q2r, q2r, q2r, q2r, q2r, trivial⟩ ⟨q3r, q3r, q3r, trivial⟩ rfl ?_
  intro j hJ
  have hj1 : j ≤ k := hJ.1
  have hj2 : j = 0 ∨ ((limbs (chs r j)).length : Int) ≤ most := hJ.2
  clear hJ
  have lc : (limbs (chs r j)).length ≤ 200 := by
   rcases hj2 with h | h
   ·subst h; exact Nat.le_trans (limbs_small (n := 1) (by decide)) (by decide)
   ·omega
  have hjb := chs_bound (Nat.le_trans hj1 hkr) lc
  have lj : (limbs (j + 1)).length ≤ 1 := limbs_small (by omega)
  have hFr := From_ok ((j : Int) + 1) (by omega)
  have lrj := limbs_abs_add (r : Int) ((j : Int) + 1)
  rw [Int.natAbs_natCast, show ((j : Int) + 1).natAbs = j + 1 by omega] at lrj
  have hPl := Plus1 (r : Int) ((j : Int) + 1) (by rw [Int.natAbs_natCast]; omega) (by rw [show ((j : Int) + 1).natAbs = j + 1 by omega]; omega) (by omega)
  have lcr := limbs_abs_mul ((chs r j : Nat) : Int) ((r : Int) + ((j : Int) + 1))
  rw [Int.natAbs_natCast] at lcr
  have ec : ((chs r j : Nat) : Int) * ((r : Int) + ((j : Int) + 1)) = ((chs r j * (r + (j + 1)) : Nat) : Int) := by rw [Int.natCast_mul, Int.natCast_add, Int.natCast_add]; rfl
  have hTi := Times1 ((chs r j : Nat) : Int) ((r : Int) + ((j : Int) + 1)) (by rw [Int.natAbs_natCast]; omega) (by omega) (by omega)
  rw [ec] at hTi lcr
  rw [Int.natAbs_natCast] at lcr
  obtain ⟨w, hFl⟩ := floor_nat (chs r j * (r + (j + 1))) (j + 1) (by omega) (by omega) (by omega)
  rw [← chs_succ, show ((j + 1 : Nat) : Int) = (j : Int) + 1 from rfl] at hFl
  have hLim := Limbs_ok ((chs r (j + 1) : Nat) : Int).natAbs
  rw [← hr] at hPl hTi
  clear ec lcr lrj lj lc
  revert hPl hTi hFl
  generalize ((chs r j * (r + (j + 1)) : Nat) : Int) = y
  generalize nr + ((j : Int) + 1) = z
  intro hPl hTi hFl
  unfold WI rowW natA at *
  rcases hv with ⟨rfl, rfl⟩ | ⟨rfl, hbig⟩
  ·conv => whnf
   refine caseb (fun h4 => ?_) (fun h4 => ?_)
   ·have h4' : (j : Int) + 1 ≤ (k : Int) := of_decide_eq_true h4
    conv => whnf
    refine ⟨_, hTop, ?_⟩
    conv => whnf
    refine ⟨_, hFr, ?_⟩
    conv => whnf
    refine ⟨(nbq rfl), _, hPl, ?_⟩
    conv => whnf
    refine ⟨(nbq rfl), _, hTi, ?_⟩
    conv => whnf
    refine ⟨_, hFr, ?_⟩
    conv => whnf
    refine ⟨_, hFl, ?_⟩
    conv => whnf
    refine ⟨by kernel_rfl, ?_⟩
    conv => whnf
    refine ⟨_, hLim, ?_⟩
    conv => whnf
    refine caseb (fun h5 => ?_) (fun h5 => ?_)
    ·have h5' : ((limbs (chs r (j + 1))).length : Int) > most := of_decide_eq_true h5
     have hmo := limbs_len_mono (chs_mono r (show j + 1 ≤ k by omega))
     conv => whnf
     exact r1 (fun hc => by rcases hc with hc | hc <;> omega)
    ·have h5' : ¬ ((limbs (chs r (j + 1))).length : Int) > most := of_decide_eq_false h5
     conv => whnf
     refine ⟨j + 1, [], (by show 6500 - (j + 1) < 6500 - j; omega), ⟨(by show j + 1 ≤ k; omega), .inr (by show ((limbs (chs r (j + 1))).length : Int) ≤ most; omega)⟩, ⟨q2r, q2r, q2r, q2r, q2r, q2r, ⟨valI ?_, rfl⟩, trivial⟩, ⟨q3r, q3r, q3r, trivial⟩, rfl⟩
     show IntKind.i64.wrap ((j : Int) + 1 + 1) = ((j + 1 : Nat) : Int) + 1
     rw [IntWalk.i64_in _ (by omega)]; omega
   ·have h4' : ¬ (j : Int) + 1 ≤ (k : Int) := of_decide_eq_false h4
    have hjk : j = k := by omega
    rw [hjk] at hj2 ⊢
    conv => whnf
    refine ⟨_, hWh, ?_⟩
    conv => whnf
    exact r2 (by rcases hj2 with h | h; exact .inl h; exact .inr h)
  ·have h4' : (j : Int) + 1 ≤ (k : Int) := by omega
   conv => whnf
   refine ⟨_, hTop, ?_⟩
   conv => whnf
   refine ⟨_, hFr, ?_⟩
   conv => whnf
   refine ⟨(nbq rfl), _, hPl, ?_⟩
   conv => whnf
   refine ⟨(nbq rfl), _, hTi, ?_⟩
   conv => whnf
   refine ⟨_, hFr, ?_⟩
   conv => whnf
   refine ⟨_, hFl, ?_⟩
   conv => whnf
   refine ⟨by kernel_rfl, ?_⟩
   conv => whnf
   refine ⟨_, hLim, ?_⟩
   conv => whnf
   refine caseb (fun h5 => ?_) (fun h5 => ?_)
   ·have h5' : ((limbs (chs r (j + 1))).length : Int) > most := of_decide_eq_true h5
    have hmo := limbs_len_mono (chs_mono r (show j + 1 ≤ k by omega))
    conv => whnf
    exact r1 (fun hc => by rcases hc with hc | hc <;> omega)
   ·have h5' : ¬ ((limbs (chs r (j + 1))).length : Int) > most := of_decide_eq_false h5
    conv => whnf
    refine ⟨j + 1, [], (by show 6500 - (j + 1) < 6500 - j; omega), ⟨(by show j + 1 ≤ k; omega), .inr (by show ((limbs (chs r (j + 1))).length : Int) ≤ most; omega)⟩, ⟨q2r, q2r, q2r, q2r, q2r, q2r, ⟨valI ?_, rfl⟩, trivial⟩, ⟨q3r, q3r, q3r, trivial⟩, rfl⟩
    show IntKind.i64.wrap ((j : Int) + 1 + 1) = ((j + 1 : Nat) : Int) + 1
    rw [IntWalk.i64_in _ (by omega)]; omega
end
theorem Choose_ok (a b : Rat) (i j : Nat) (most : Int) (hi : dn i = a.den) (hj : dn j = b.den) (hm : most ≤ 200) (la : Sz a 90) (lb : Sz b 90) : ∃ d, dn d = (chooseQ a b most).1.den ∧
  AC Tryz.prog 159 [RA a.num i, RA b.num j, .val (.int .i64 most)] (.pure (.tup [RA (chooseQ a b most).1.num d, .val (.int .i64 (chooseQ a b most).2)])) := by
 unfold chooseQ
 by_cases hn : natQ a ∧ natQ b
 ·rw [if_neg (fun h => h hn)]
  by_cases hl : b.num < a.num
  ·rw [if_pos hl]
   exact ⟨0, rfl, Choose_less a b i j most hi hj la lb hn.1 hn.2 hl⟩
  ·rw [if_neg hl]
   by_cases hc : chsOk (min a.num (b.num - a.num)).toNat (max a.num (b.num - a.num)).toNat most
   ·rw [if_pos hc]
    exact ⟨1, rfl, Choose_gen a b i j most hi hj hm la lb hn.1 hn.2 (by omega) _ (.tup _ (noid2 (RA_noid _ _) (.val _))) (fun h => absurd hc h) (fun _ => rfl)⟩
   ·rw [if_neg hc]
    exact ⟨0, rfl, RZ22 (Choose_gen a b i j most hi hj hm la lb hn.1 hn.2 (by omega) _ (.tup _ (noid2 RZ_noid (.val _))) (fun _ => rfl) (fun h => absurd h hc))⟩
 ·rw [if_pos hn]
  exact ⟨0, rfl, Choose_none a b i j most hi hj hn⟩
end
section
end
section
def reckonQ (c : Int) (a b : Rat) (most : Int) : Rat × Int :=
 if c = 43 then (a + b, 0)
 else if c = 45 then (a + -b, 0)
 else if c = 215 then (a * b, 0)
 else if c = 247 then (if b ≠ 0 then (a / b, 0) else if a = 0 then (1, 0) else (0, 22))
 else if c = 8968 then (if a < b then b else a, 0)
 else if c = 8970 then (if a < b then a else b, 0)
 else if c = 124 then (restQ a b, 0)
 else if c = 42 then powerQ a b most
 else if c = 33 then chooseQ a b most
 else (0, 22)
theorem noid4 {a b c d : AV} (ha : NoId a) (hb : NoId b) (hc : NoId c) (hd : NoId d) : ∀ x ∈ [a, b, c, d], NoId x := by
 intro x hx
 simp only [List.mem_cons, List.not_mem_nil, or_false] at hx
 rcases hx with rfl | rfl | rfl | rfl <;> assumption
theorem sig_ne {q : Rat} (h : q ≠ 0) : (sigW q.num == 0) = false := beq_false_of_ne (by unfold sigW; rw [if_neg (num_ne h)]; split <;> decide)
theorem sig_z {q : Rat} (h : q = 0) : (sigW q.num == 0) = true := by rw [h]; rfl
theorem cmp_lt {a b : Rat} (h : a < b) : cmpQ a b = -1 := if_pos h
theorem cmp_ge {a b : Rat} (h : ¬ a < b) : decide (cmpQ a b < 0) = false := decide_eq_false (fun e => h (cmpQ_neg.1 e))
theorem Rec43 (a b : Rat) (i j : Nat) (most : Int) (hi : dn i = a.den) (hj : dn j = b.den) (hm : most ≤ 200) (la : Sz a 20) (lb : Sz b 20) : ∃ d, dn d = (reckonQ 43 a b most).1.den ∧ AC Tryz.prog 138 [.val (.int .i32 43), RA a.num i, RA b.num j, .val (.int .i64 most)] (.pure (.tup [RA (reckonQ 43 a b most).1.num d, .val (.int .i64 (reckonQ 43 a b most).2)])) := by
 rw [show reckonQ 43 a b most = (a + b, 0) from rfl]
 have hP := QPlus1 a b i j hi hj (la.mono (by decide)) (lb.mono (by decide))
 refine ⟨_, dn_den _, ?_⟩
 refine AC.of_body TTok Tryz.func138 rfl (enter_of Tryz.func138 (by kernel_rfl) (by kernel_rfl)) (noid4 (.val _) (RA_noid _ _) (RA_noid _ _) (.val _)) (.tup _ (noid2 (RA_noid _ _) (.val _))) (nbq rfl) ?_
 revert hP
 generalize a + b = r
 intro hP
 unfold RA rowR at *
 repeat ((conv => whnf); (first | refine ⟨_, ‹_›, ?_⟩ | refine ⟨nbq rfl, _, ‹_›, ?_⟩ | refine ⟨by kernel_rfl, ?_⟩ | exact rfl | exact ⟨nbq rfl, rfl⟩ | refine ⟨by decide, ?_⟩))
theorem Rec45 (a b : Rat) (i j : Nat) (most : Int) (hi : dn i = a.den) (hj : dn j = b.den) (hm : most ≤ 200) (la : Sz a 20) (lb : Sz b 20) : ∃ d, dn d = (reckonQ 45 a b most).1.den ∧ AC Tryz.prog 138 [.val (.int .i32 45), RA a.num i, RA b.num j, .val (.int .i64 most)] (.pure (.tup [RA (reckonQ 45 a b most).1.num d, .val (.int .i64 (reckonQ 45 a b most).2)])) := by
 rw [show reckonQ 45 a b most = (a + -b, 0) from rfl]
 have hM := QMinus_ok b.num j
 rw [hj] at hM
 have hM : AC Tryz.prog 153 [RA b.num j] (.pure (RA (-b).num b.den)) := hM
 have hP := QPlus1 a (-b) i b.den hi (dn_den b) (la.mono (by decide)) ((Sz_neg lb).mono (by decide))
 refine ⟨_, dn_den _, ?_⟩
 refine AC.of_body TTok Tryz.func138 rfl (enter_of Tryz.func138 (by kernel_rfl) (by kernel_rfl)) (noid4 (.val _) (RA_noid _ _) (RA_noid _ _) (.val _)) (.tup _ (noid2 (RA_noid _ _) (.val _))) (nbq rfl) ?_
 revert hP
 generalize a + -b = r
 intro hP
 generalize -b = nb at *
 unfold RA rowR at *
 repeat ((conv => whnf); (first | refine ⟨_, ‹_›, ?_⟩ | refine ⟨nbq rfl, _, ‹_›, ?_⟩ | refine ⟨by kernel_rfl, ?_⟩ | exact rfl | exact ⟨nbq rfl, rfl⟩ | refine ⟨by decide, ?_⟩))
theorem Rec215 (a b : Rat) (i j : Nat) (most : Int) (hi : dn i = a.den) (hj : dn j = b.den) (hm : most ≤ 200) (la : Sz a 20) (lb : Sz b 20) : ∃ d, dn d = (reckonQ 215 a b most).1.den ∧ AC Tryz.prog 138 [.val (.int .i32 215), RA a.num i, RA b.num j, .val (.int .i64 most)] (.pure (.tup [RA (reckonQ 215 a b most).1.num d, .val (.int .i64 (reckonQ 215 a b most).2)])) := by
 rw [show reckonQ 215 a b most = (a * b, 0) from rfl]
 have hP := QTimes1 a b i j hi hj (la.mono (by decide)) (lb.mono (by decide))
 refine ⟨_, dn_den _, ?_⟩
 refine AC.of_body TTok Tryz.func138 rfl (enter_of Tryz.func138 (by kernel_rfl) (by kernel_rfl)) (noid4 (.val _) (RA_noid _ _) (RA_noid _ _) (.val _)) (.tup _ (noid2 (RA_noid _ _) (.val _))) (nbq rfl) ?_
 revert hP
 generalize a * b = r
 intro hP
 unfold RA rowR at *
 repeat ((conv => whnf); (first | refine ⟨_, ‹_›, ?_⟩ | refine ⟨nbq rfl, _, ‹_›, ?_⟩ | refine ⟨by kernel_rfl, ?_⟩ | exact rfl | exact ⟨nbq rfl, rfl⟩ | refine ⟨by decide, ?_⟩))
theorem Rec247 (a b : Rat) (i j : Nat) (most : Int) (hi : dn i = a.den) (hj : dn j = b.den) (hm : most ≤ 200) (la : Sz a 20) (lb : Sz b 20) : ∃ d, dn d = (reckonQ 247 a b most).1.den ∧ AC Tryz.prog 138 [.val (.int .i32 247), RA a.num i, RA b.num j, .val (.int .i64 most)] (.pure (.tup [RA (reckonQ 247 a b most).1.num d, .val (.int .i64 (reckonQ 247 a b most).2)])) := by
 rw [show reckonQ 247 a b most = (if b ≠ 0 then (a / b, 0) else if a = 0 then (1, 0) else (0, 22)) from rfl]
 have hSa := RaSign_ok a.num i
 have hSb := RaSign_ok b.num j
 by_cases hb : b = 0
 ·rw [if_neg (fun h => h hb)]
  have fb := sig_z hb
  by_cases ha : a = 0
  ·rw [if_pos ha]
   have fa := sig_z ha
   have hF := RatFrom_ok 1 (by decide)
   refine ⟨1, rfl, ?_⟩
   show AC Tryz.prog 138 _ (.pure (.tup [RA 1 1, .val (.int .i64 0)]))
   refine AC.of_body TTok Tryz.func138 rfl (enter_of Tryz.func138 (by kernel_rfl) (by kernel_rfl)) (noid4 (.val _) (RA_noid _ _) (RA_noid _ _) (.val _)) (.tup _ (noid2 (RA_noid _ _) (.val _))) (nbq rfl) ?_
   generalize sigW a.num = s at *
   generalize sigW b.num = t at *
   unfold RA at *
   conv => whnf
   refine ⟨_, hSa, ?_⟩
   conv => whnf
   refine cTq (fa) ?_
   conv => whnf
   refine ⟨_, hSb, ?_⟩
   conv => whnf
   refine cTq (fb) ?_
   repeat ((conv => whnf); (first | refine ⟨_, ‹_›, ?_⟩ | refine ⟨nbq rfl, _, ‹_›, ?_⟩ | refine ⟨by kernel_rfl, ?_⟩ | exact rfl | exact ⟨nbq rfl, rfl⟩ | refine ⟨by decide, ?_⟩))
  ·rw [if_neg ha]
   have fa := sig_ne ha
   have hB := By_zero a i j hi (by rw [hj, hb]) (la.mono (by decide))
   rw [← hb] at hB
   refine ⟨0, rfl, ?_⟩
   show AC Tryz.prog 138 _ (.pure (.tup [RA 0 0, .val (.int .i64 22)]))
   refine AC.of_body TTok Tryz.func138 rfl (enter_of Tryz.func138 (by kernel_rfl) (by kernel_rfl)) (noid4 (.val _) (RA_noid _ _) (RA_noid _ _) (.val _)) (.tup _ (noid2 (RA_noid _ _) (.val _))) (nbq rfl) ?_
   generalize sigW a.num = s at *
   unfold RA at *
   conv => whnf
   refine ⟨_, hSa, ?_⟩
   conv => whnf
   refine cFq (fa) ?_
   repeat ((conv => whnf); (first | refine ⟨_, ‹_›, ?_⟩ | refine ⟨nbq rfl, _, ‹_›, ?_⟩ | refine ⟨by kernel_rfl, ?_⟩ | exact rfl | exact ⟨nbq rfl, rfl⟩ | refine ⟨by decide, ?_⟩))
 ·rw [if_pos hb]
  have fb := sig_ne hb
  have hB := By_ok a b i j hi hj (la.mono (by decide)) (lb.mono (by decide)) hb
  refine ⟨_, dn_den _, ?_⟩
  refine AC.of_body TTok Tryz.func138 rfl (enter_of Tryz.func138 (by kernel_rfl) (by kernel_rfl)) (noid4 (.val _) (RA_noid _ _) (RA_noid _ _) (.val _)) (.tup _ (noid2 (RA_noid _ _) (.val _))) (nbq rfl) ?_
  revert hB
  generalize a / b = r
  intro hB
  by_cases ha : a = 0
  ·have fa := sig_z ha
   generalize sigW a.num = s at *
   generalize sigW b.num = t at *
   unfold RA at *
   conv => whnf
   refine ⟨_, hSa, ?_⟩
   conv => whnf
   refine cTq (fa) ?_
   conv => whnf
   refine ⟨_, hSb, ?_⟩
   conv => whnf
   refine cFq (fb) ?_
   repeat ((conv => whnf); (first | refine ⟨_, ‹_›, ?_⟩ | refine ⟨nbq rfl, _, ‹_›, ?_⟩ | refine ⟨by kernel_rfl, ?_⟩ | exact rfl | exact ⟨nbq rfl, rfl⟩ | refine ⟨by decide, ?_⟩))
  ·have fa := sig_ne ha
   generalize sigW a.num = s at *
   unfold RA at *
   conv => whnf
   refine ⟨_, hSa, ?_⟩
   conv => whnf
   refine cFq (fa) ?_
   repeat ((conv => whnf); (first | refine ⟨_, ‹_›, ?_⟩ | refine ⟨nbq rfl, _, ‹_›, ?_⟩ | refine ⟨by kernel_rfl, ?_⟩ | exact rfl | exact ⟨nbq rfl, rfl⟩ | refine ⟨by decide, ?_⟩))
theorem Rec8968 (a b : Rat) (i j : Nat) (most : Int) (hi : dn i = a.den) (hj : dn j = b.den) (hm : most ≤ 200) (la : Sz a 20) (lb : Sz b 20) : ∃ d, dn d = (reckonQ 8968 a b most).1.den ∧ AC Tryz.prog 138 [.val (.int .i32 8968), RA a.num i, RA b.num j, .val (.int .i64 most)] (.pure (.tup [RA (reckonQ 8968 a b most).1.num d, .val (.int .i64 (reckonQ 8968 a b most).2)])) := by
 rw [show reckonQ 8968 a b most = (if a < b then b else a, 0) from rfl]
 have hC := QCmp_ok a b i j hi hj (la.mono (by decide)) (lb.mono (by decide))
 by_cases h : a < b
 ·rw [if_pos h]
  rw [cmp_lt h] at hC
  refine ⟨j, hj, ?_⟩
  refine AC.of_body TTok Tryz.func138 rfl (enter_of Tryz.func138 (by kernel_rfl) (by kernel_rfl)) (noid4 (.val _) (RA_noid _ _) (RA_noid _ _) (.val _)) (.tup _ (noid2 (RA_noid _ _) (.val _))) (nbq rfl) ?_
  unfold RA at *
  repeat ((conv => whnf); (first | refine ⟨_, ‹_›, ?_⟩ | refine ⟨nbq rfl, _, ‹_›, ?_⟩ | refine ⟨by kernel_rfl, ?_⟩ | exact rfl | exact ⟨nbq rfl, rfl⟩ | refine ⟨by decide, ?_⟩))
 ·rw [if_neg h]
  have f1 := cmp_ge h
  refine ⟨i, hi, ?_⟩
  refine AC.of_body TTok Tryz.func138 rfl (enter_of Tryz.func138 (by kernel_rfl) (by kernel_rfl)) (noid4 (.val _) (RA_noid _ _) (RA_noid _ _) (.val _)) (.tup _ (noid2 (RA_noid _ _) (.val _))) (nbq rfl) ?_
  generalize cmpQ a b = s at *
  unfold RA at *
  conv => whnf
  refine ⟨_, hC, ?_⟩
  conv => whnf
  refine cFq (f1) ?_
  repeat ((conv => whnf); (first | refine ⟨_, ‹_›, ?_⟩ | refine ⟨nbq rfl, _, ‹_›, ?_⟩ | refine ⟨by kernel_rfl, ?_⟩ | exact rfl | exact ⟨nbq rfl, rfl⟩ | refine ⟨by decide, ?_⟩))
theorem Rec8970 (a b : Rat) (i j : Nat) (most : Int) (hi : dn i = a.den) (hj : dn j = b.den) (hm : most ≤ 200) (la : Sz a 20) (lb : Sz b 20) : ∃ d, dn d = (reckonQ 8970 a b most).1.den ∧ AC Tryz.prog 138 [.val (.int .i32 8970), RA a.num i, RA b.num j, .val (.int .i64 most)] (.pure (.tup [RA (reckonQ 8970 a b most).1.num d, .val (.int .i64 (reckonQ 8970 a b most).2)])) := by
 rw [show reckonQ 8970 a b most = (if a < b then a else b, 0) from rfl]
 have hC := QCmp_ok a b i j hi hj (la.mono (by decide)) (lb.mono (by decide))
 by_cases h : a < b
 ·rw [if_pos h]
  rw [cmp_lt h] at hC
  refine ⟨i, hi, ?_⟩
  refine AC.of_body TTok Tryz.func138 rfl (enter_of Tryz.func138 (by kernel_rfl) (by kernel_rfl)) (noid4 (.val _) (RA_noid _ _) (RA_noid _ _) (.val _)) (.tup _ (noid2 (RA_noid _ _) (.val _))) (nbq rfl) ?_
  unfold RA at *
  repeat ((conv => whnf); (first | refine ⟨_, ‹_›, ?_⟩ | refine ⟨nbq rfl, _, ‹_›, ?_⟩ | refine ⟨by kernel_rfl, ?_⟩ | exact rfl | exact ⟨nbq rfl, rfl⟩ | refine ⟨by decide, ?_⟩))
 ·rw [if_neg h]
  by_cases he : a = b
  ·have hC0 : cmpQ a b = 0 := cmpQ_eq.2 he
   rw [hC0] at hC
   refine ⟨i, by rw [hi, he], ?_⟩
   rw [show RA b.num i = RA a.num i by rw [he]]
   refine AC.of_body TTok Tryz.func138 rfl (enter_of Tryz.func138 (by kernel_rfl) (by kernel_rfl)) (noid4 (.val _) (RA_noid _ _) (RA_noid _ _) (.val _)) (.tup _ (noid2 (RA_noid _ _) (.val _))) (nbq rfl) ?_
   unfold RA at *
   repeat ((conv => whnf); (first | refine ⟨_, ‹_›, ?_⟩ | refine ⟨nbq rfl, _, ‹_›, ?_⟩ | refine ⟨by kernel_rfl, ?_⟩ | exact rfl | exact ⟨nbq rfl, rfl⟩ | refine ⟨by decide, ?_⟩))
  ·have hC1 : cmpQ a b = 1 := by unfold cmpQ; rw [if_neg h, if_neg he]
   rw [hC1] at hC
   refine ⟨j, hj, ?_⟩
   refine AC.of_body TTok Tryz.func138 rfl (enter_of Tryz.func138 (by kernel_rfl) (by kernel_rfl)) (noid4 (.val _) (RA_noid _ _) (RA_noid _ _) (.val _)) (.tup _ (noid2 (RA_noid _ _) (.val _))) (nbq rfl) ?_
   unfold RA at *
   repeat ((conv => whnf); (first | refine ⟨_, ‹_›, ?_⟩ | refine ⟨nbq rfl, _, ‹_›, ?_⟩ | refine ⟨by kernel_rfl, ?_⟩ | exact rfl | exact ⟨nbq rfl, rfl⟩ | refine ⟨by decide, ?_⟩))
theorem Rec124 (a b : Rat) (i j : Nat) (most : Int) (hi : dn i = a.den) (hj : dn j = b.den) (hm : most ≤ 200) (la : Sz a 20) (lb : Sz b 20) : ∃ d, dn d = (reckonQ 124 a b most).1.den ∧ AC Tryz.prog 138 [.val (.int .i32 124), RA a.num i, RA b.num j, .val (.int .i64 most)] (.pure (.tup [RA (reckonQ 124 a b most).1.num d, .val (.int .i64 (reckonQ 124 a b most).2)])) := by
 rw [show reckonQ 124 a b most = (restQ a b, 0) from rfl]
 by_cases h : a = 0
 ·have hR := Rest_zero b i j (by rw [hi, h]) hj (lb.mono (by decide))
  rw [← h] at hR
  rw [show restQ a b = b from if_pos h]
  refine ⟨j, hj, ?_⟩
  refine AC.of_body TTok Tryz.func138 rfl (enter_of Tryz.func138 (by kernel_rfl) (by kernel_rfl)) (noid4 (.val _) (RA_noid _ _) (RA_noid _ _) (.val _)) (.tup _ (noid2 (RA_noid _ _) (.val _))) (nbq rfl) ?_
  unfold RA at *
  repeat ((conv => whnf); (first | refine ⟨_, ‹_›, ?_⟩ | refine ⟨nbq rfl, _, ‹_›, ?_⟩ | refine ⟨by kernel_rfl, ?_⟩ | exact rfl | exact ⟨nbq rfl, rfl⟩ | refine ⟨by decide, ?_⟩))
 ·have hR := Rest_ok a b i j h hi hj la lb
  refine ⟨_, dn_den _, ?_⟩
  refine AC.of_body TTok Tryz.func138 rfl (enter_of Tryz.func138 (by kernel_rfl) (by kernel_rfl)) (noid4 (.val _) (RA_noid _ _) (RA_noid _ _) (.val _)) (.tup _ (noid2 (RA_noid _ _) (.val _))) (nbq rfl) ?_
  revert hR
  generalize restQ a b = r
  intro hR
  unfold RA at *
  repeat ((conv => whnf); (first | refine ⟨_, ‹_›, ?_⟩ | refine ⟨nbq rfl, _, ‹_›, ?_⟩ | refine ⟨by kernel_rfl, ?_⟩ | exact rfl | exact ⟨nbq rfl, rfl⟩ | refine ⟨by decide, ?_⟩))
theorem Rec42 (a b : Rat) (i j : Nat) (most : Int) (hi : dn i = a.den) (hj : dn j = b.den) (hm : most ≤ 200) (la : Sz a 20) (lb : Sz b 20) : ∃ d, dn d = (reckonQ 42 a b most).1.den ∧ AC Tryz.prog 138 [.val (.int .i32 42), RA a.num i, RA b.num j, .val (.int .i64 most)] (.pure (.tup [RA (reckonQ 42 a b most).1.num d, .val (.int .i64 (reckonQ 42 a b most).2)])) := by
 rw [show reckonQ 42 a b most = powerQ a b most from rfl]
 obtain ⟨d, hd, hP⟩ := Power_ok a b i j most hi hj hm (la.mono (by decide))
 refine ⟨d, hd, ?_⟩
 refine AC.of_body TTok Tryz.func138 rfl (enter_of Tryz.func138 (by kernel_rfl) (by kernel_rfl)) (noid4 (.val _) (RA_noid _ _) (RA_noid _ _) (.val _)) (.tup _ (noid2 (RA_noid _ _) (.val _))) (nbq rfl) ?_
 revert hP
 generalize (powerQ a b most).1 = r
 generalize (powerQ a b most).2 = e
 intro hP
 unfold RA at *
 repeat ((conv => whnf); (first | refine ⟨_, ‹_›, ?_⟩ | refine ⟨nbq rfl, _, ‹_›, ?_⟩ | refine ⟨by kernel_rfl, ?_⟩ | exact rfl | exact ⟨nbq rfl, rfl⟩ | refine ⟨by decide, ?_⟩))
theorem Rec33 (a b : Rat) (i j : Nat) (most : Int) (hi : dn i = a.den) (hj : dn j = b.den) (hm : most ≤ 200) (la : Sz a 20) (lb : Sz b 20) : ∃ d, dn d = (reckonQ 33 a b most).1.den ∧ AC Tryz.prog 138 [.val (.int .i32 33), RA a.num i, RA b.num j, .val (.int .i64 most)] (.pure (.tup [RA (reckonQ 33 a b most).1.num d, .val (.int .i64 (reckonQ 33 a b most).2)])) := by
 rw [show reckonQ 33 a b most = chooseQ a b most from rfl]
 obtain ⟨d, hd, hP⟩ := Choose_ok a b i j most hi hj hm (la.mono (by decide)) (lb.mono (by decide))
 refine ⟨d, hd, ?_⟩
 refine AC.of_body TTok Tryz.func138 rfl (enter_of Tryz.func138 (by kernel_rfl) (by kernel_rfl)) (noid4 (.val _) (RA_noid _ _) (RA_noid _ _) (.val _)) (.tup _ (noid2 (RA_noid _ _) (.val _))) (nbq rfl) ?_
 revert hP
 generalize (chooseQ a b most).1 = r
 generalize (chooseQ a b most).2 = e
 intro hP
 unfold RA at *
 repeat ((conv => whnf); (first | refine ⟨_, ‹_›, ?_⟩ | refine ⟨nbq rfl, _, ‹_›, ?_⟩ | refine ⟨by kernel_rfl, ?_⟩ | exact rfl | exact ⟨nbq rfl, rfl⟩ | refine ⟨by decide, ?_⟩))
theorem Rec9055 (a b : Rat) (i j : Nat) (most : Int) (hi : dn i = a.den) (hj : dn j = b.den) (hm : most ≤ 200) (la : Sz a 20) (lb : Sz b 20) : ∃ d, dn d = (reckonQ 9055 a b most).1.den ∧ AC Tryz.prog 138 [.val (.int .i32 9055), RA a.num i, RA b.num j, .val (.int .i64 most)] (.pure (.tup [RA (reckonQ 9055 a b most).1.num d, .val (.int .i64 (reckonQ 9055 a b most).2)])) := by
 refine ⟨0, rfl, RZ22 ?_⟩
 refine AC.of_body TTok Tryz.func138 rfl (enter_of Tryz.func138 (by kernel_rfl) (by kernel_rfl)) (noid4 (.val _) (RA_noid _ _) (RA_noid _ _) (.val _)) (.tup _ (noid2 RZ_noid (.val _))) (nbq rfl) ?_
 unfold RZ
 repeat ((conv => whnf); (first | refine ⟨_, ‹_›, ?_⟩ | refine ⟨nbq rfl, _, ‹_›, ?_⟩ | refine ⟨by kernel_rfl, ?_⟩ | exact rfl | exact ⟨nbq rfl, rfl⟩ | refine ⟨by decide, ?_⟩))
theorem Rec9675 (a b : Rat) (i j : Nat) (most : Int) (hi : dn i = a.den) (hj : dn j = b.den) (hm : most ≤ 200) (la : Sz a 20) (lb : Sz b 20) : ∃ d, dn d = (reckonQ 9675 a b most).1.den ∧ AC Tryz.prog 138 [.val (.int .i32 9675), RA a.num i, RA b.num j, .val (.int .i64 most)] (.pure (.tup [RA (reckonQ 9675 a b most).1.num d, .val (.int .i64 (reckonQ 9675 a b most).2)])) := by
 refine ⟨0, rfl, RZ22 ?_⟩
 refine AC.of_body TTok Tryz.func138 rfl (enter_of Tryz.func138 (by kernel_rfl) (by kernel_rfl)) (noid4 (.val _) (RA_noid _ _) (RA_noid _ _) (.val _)) (.tup _ (noid2 RZ_noid (.val _))) (nbq rfl) ?_
 unfold RZ
 repeat ((conv => whnf); (first | refine ⟨_, ‹_›, ?_⟩ | refine ⟨nbq rfl, _, ‹_›, ?_⟩ | refine ⟨by kernel_rfl, ?_⟩ | exact rfl | exact ⟨nbq rfl, rfl⟩ | refine ⟨by decide, ?_⟩))
theorem Reckon_ok (a b : Rat) (i j : Nat) (most : Int) (hi : dn i = a.den) (hj : dn j = b.den) (hm : most ≤ 200) (la : Sz a 20) (lb : Sz b 20) (c : Int) (hc : isRec c) : ∃ d, dn d = (reckonQ c a b most).1.den ∧ AC Tryz.prog 138 [.val (.int .i32 c), RA a.num i, RA b.num j, .val (.int .i64 most)] (.pure (.tup [RA (reckonQ c a b most).1.num d, .val (.int .i64 (reckonQ c a b most).2)])) := by
 rcases hc with rfl | rfl | rfl | rfl | rfl | rfl | rfl | rfl | rfl | rfl | rfl
 ·exact Rec43 a b i j most hi hj hm la lb
 ·exact Rec45 a b i j most hi hj hm la lb
 ·exact Rec215 a b i j most hi hj hm la lb
 ·exact Rec247 a b i j most hi hj hm la lb
 ·exact Rec8968 a b i j most hi hj hm la lb
 ·exact Rec8970 a b i j most hi hj hm la lb
 ·exact Rec124 a b i j most hi hj hm la lb
 ·exact Rec42 a b i j most hi hj hm la lb
 ·exact Rec33 a b i j most hi hj hm la lb
 ·exact Rec9055 a b i j most hi hj hm la lb
 ·exact Rec9675 a b i j most hi hj hm la lb
end
section
def twoQ (c : Int) (a b : Rat) (most : Int) : Rat × Int :=
 if isCmp c then (tq (cmpS c (cmpQ a b)), 0)
 else if isJdg c then judgeQ c a b
 else if ¬ isRec c then (0, 20)
 else if (reckonQ c a b most).2 ≠ 0 then (0, (reckonQ c a b most).2)
 else if most < (qLimbs (reckonQ c a b most).1.num (reckonQ c a b most).1.den : Nat) then (0, 26)
 else ((reckonQ c a b most).1, 0)
theorem Sz_one : Sz 1 1 := Sz_small (by decide) (by decide)
section
variable (c : Int) (a b : Rat) (i j : Nat) (most : Int) (hi : dn i = a.den) (hj : dn j = b.den) (hm : most ≤ 200) (la : Sz a 20) (lb : Sz b 20)
include hi hj hm la lb
theorem Two_ok : ∃ d, dn d = (twoQ c a b most).1.den ∧ AC Tryz.prog 112 [.val (.int .i32 c), RA a.num i, RA b.num j, .val (.int .i64 most)] (.pure (.tup [RA (twoQ c a b most).1.num d, .val (.int .i64 (twoQ c a b most).2)])) := by
 unfold twoQ
 have hC := compares_ok c
 have hJ := judges_ok c
 have hR := reckons_ok c
 by_cases h1 : isCmp c
 ·rw [if_pos h1]
  rw [decide_eq_true h1] at hC
  have hQ := QCmp_ok a b i j hi hj (la.mono (by decide)) (lb.mono (by decide))
  have hS := Compare_ok c (cmpQ a b)
  have hT := truth_ok (cmpS c (cmpQ a b))
  refine ⟨_, td_dn _, ?_⟩
  refine AC.of_body TTok Tryz.func112 rfl (enter_of Tryz.func112 (by kernel_rfl) (by kernel_rfl)) (noid4 (.val _) (RA_noid _ _) (RA_noid _ _) (.val _)) (.tup _ (noid2 (RA_noid _ _) (.val _))) (nbq rfl) ?_
  revert hQ hS hT
  generalize cmpS c (cmpQ a b) = t
  generalize cmpQ a b = n
  intro hQ hS hT
  generalize td t = e at *
  generalize (tq t).num = f at *
  unfold RA at *
  repeat ((conv => whnf); (first | refine ⟨_, ‹_›, ?_⟩ | refine ⟨nbq rfl, _, ‹_›, ?_⟩ | refine ⟨by kernel_rfl, ?_⟩ | exact rfl | exact ⟨nbq rfl, rfl⟩ | refine ⟨by decide, ?_⟩))
 rw [if_neg h1]
 rw [decide_eq_false h1] at hC
 by_cases h2 : isJdg c
 ·rw [if_pos h2]
  rw [decide_eq_true h2] at hJ
  obtain ⟨d, hd, hP⟩ := judge_ok c h2 a b i j hi hj (la.mono (by decide)) (lb.mono (by decide))
  refine ⟨d, hd, ?_⟩
  refine AC.of_body TTok Tryz.func112 rfl (enter_of Tryz.func112 (by kernel_rfl) (by kernel_rfl)) (noid4 (.val _) (RA_noid _ _) (RA_noid _ _) (.val _)) (.tup _ (noid2 (RA_noid _ _) (.val _))) (nbq rfl) ?_
  revert hP
  generalize (judgeQ c a b).1 = r
  generalize (judgeQ c a b).2 = e
  intro hP
  unfold RA at *
  repeat ((conv => whnf); (first | refine ⟨_, ‹_›, ?_⟩ | refine ⟨nbq rfl, _, ‹_›, ?_⟩ | refine ⟨by kernel_rfl, ?_⟩ | exact rfl | exact ⟨nbq rfl, rfl⟩ | refine ⟨by decide, ?_⟩))
 rw [if_neg h2]
 rw [decide_eq_false h2] at hJ
 by_cases h3 : isRec c
 rotate_left
 ·rw [if_pos h3]
  rw [decide_eq_false h3] at hR
  refine ⟨0, rfl, RZ22 ?_⟩
  refine AC.of_body TTok Tryz.func112 rfl (enter_of Tryz.func112 (by kernel_rfl) (by kernel_rfl)) (noid4 (.val _) (RA_noid _ _) (RA_noid _ _) (.val _)) (.tup _ (noid2 RZ_noid (.val _))) (nbq rfl) ?_
  unfold RA RZ at *
  repeat ((conv => whnf); (first | refine ⟨_, ‹_›, ?_⟩ | refine ⟨nbq rfl, _, ‹_›, ?_⟩ | refine ⟨by kernel_rfl, ?_⟩ | exact rfl | exact ⟨nbq rfl, rfl⟩ | refine ⟨by decide, ?_⟩))
 rw [if_neg (fun h => h h3)]
 rw [decide_eq_true h3] at hR
 obtain ⟨d, hd, hP⟩ := Reckon_ok a b i j most hi hj hm la lb c h3
 have hL := QLimbs_ok (reckonQ c a b most).1.num d
 rw [hd] at hL
 revert hd hP hL
 generalize (reckonQ c a b most).1 = r
 generalize (reckonQ c a b most).2 = e
 intro hd hP hL
 by_cases he : e = 0
 rotate_left
 ·rw [if_pos he]
  have f1 : (e == 0) = false := beq_false_of_ne he
  have f2 : (e != 0) = true := by rw [bne, f1]; rfl
  refine ⟨0, rfl, RZ22 ?_⟩
  refine AC.of_body TTok Tryz.func112 rfl (enter_of Tryz.func112 (by kernel_rfl) (by kernel_rfl)) (noid4 (.val _) (RA_noid _ _) (RA_noid _ _) (.val _)) (.tup _ (noid2 RZ_noid (.val _))) (nbq rfl) ?_
  unfold RA RZ at *
  conv => whnf
  refine ⟨_, hC, ?_⟩
  conv => whnf
  refine ⟨_, hJ, ?_⟩
  conv => whnf
  refine ⟨_, hR, ?_⟩
  conv => whnf
  refine ⟨_, hP, ?_⟩
  conv => whnf
  refine cFq (f1) ?_
  conv => whnf
  refine cTq (f2) ?_
  repeat ((conv => whnf); (first | refine ⟨_, ‹_›, ?_⟩ | refine ⟨nbq rfl, _, ‹_›, ?_⟩ | refine ⟨by kernel_rfl, ?_⟩ | exact rfl | exact ⟨nbq rfl, rfl⟩ | refine ⟨by decide, ?_⟩))
 rw [if_neg (fun h => h he)]
 subst he
 by_cases hq : most < (qLimbs r.num r.den : Nat)
 ·rw [if_pos hq]
  have f1 : decide (((qLimbs r.num r.den : Nat) : Int) > most) = true := decide_eq_true hq
  refine ⟨0, rfl, RZ22 ?_⟩
  refine AC.of_body TTok Tryz.func112 rfl (enter_of Tryz.func112 (by kernel_rfl) (by kernel_rfl)) (noid4 (.val _) (RA_noid _ _) (RA_noid _ _) (.val _)) (.tup _ (noid2 RZ_noid (.val _))) (nbq rfl) ?_
  generalize ((qLimbs r.num r.den : Nat) : Int) = n at *
  unfold RA RZ at *
  conv => whnf
  refine ⟨_, hC, ?_⟩
  conv => whnf
  refine ⟨_, hJ, ?_⟩
  conv => whnf
  refine ⟨_, hR, ?_⟩
  conv => whnf
  refine ⟨_, hP, ?_⟩
  conv => whnf
  refine ⟨_, hL, ?_⟩
  conv => whnf
  refine cTq (f1) ?_
  repeat ((conv => whnf); (first | refine ⟨_, ‹_›, ?_⟩ | refine ⟨nbq rfl, _, ‹_›, ?_⟩ | refine ⟨by kernel_rfl, ?_⟩ | exact rfl | exact ⟨nbq rfl, rfl⟩ | refine ⟨by decide, ?_⟩))
 ·rw [if_neg hq]
  have f1 : decide (((qLimbs r.num r.den : Nat) : Int) > most) = false := decide_eq_false hq
  refine ⟨d, hd, ?_⟩
  refine AC.of_body TTok Tryz.func112 rfl (enter_of Tryz.func112 (by kernel_rfl) (by kernel_rfl)) (noid4 (.val _) (RA_noid _ _) (RA_noid _ _) (.val _)) (.tup _ (noid2 (RA_noid _ _) (.val _))) (nbq rfl) ?_
  generalize ((qLimbs r.num r.den : Nat) : Int) = n at *
  unfold RA at *
  conv => whnf
  refine ⟨_, hC, ?_⟩
  conv => whnf
  refine ⟨_, hJ, ?_⟩
  conv => whnf
  refine ⟨_, hR, ?_⟩
  conv => whnf
  refine ⟨_, hP, ?_⟩
  conv => whnf
  refine ⟨_, hL, ?_⟩
  conv => whnf
  refine cFq (f1) ?_
  repeat ((conv => whnf); (first | refine ⟨_, ‹_›, ?_⟩ | refine ⟨nbq rfl, _, ‹_›, ?_⟩ | refine ⟨by kernel_rfl, ?_⟩ | exact rfl | exact ⟨nbq rfl, rfl⟩ | refine ⟨by decide, ?_⟩))
end
end
section
theorem kinds_len {sh : List Int} {ch : Bool} {a b : Nat} (h : kinds sh ch a b) : ((a + b : Nat) : Int) = cntI sh ∧ (if ch then a else b) = a + b := by
 unfold kinds at h
 cases ch with
 | true =>
  have h : (a : Int) = cntI sh ∧ b = 0 := h
  exact ⟨by omega, by show a = a + b; omega⟩
 | false =>
  have h : (b : Int) = cntI sh ∧ a = 0 := h
  exact ⟨by omega, by show b = a + b; omega⟩
def ix (one : Bool) (i : Nat) : Nat := if one then 0 else i
theorem fit_idx {sa sb : List Int} {la lb : Nat} (ha : (la : Int) = cntI sa) (hb : (lb : Int) = cntI sb) (va : vS sa) (vb : vS sb) (he : (fitS sa sb la lb).2.2.2 = 0) :
  vS (fitS sa sb la lb).1 ∧ (cntI (fitS sa sb la lb).1 = la ∨ cntI (fitS sa sb la lb).1 = lb) ∧ ∀ i : Nat, (i : Int) < cntI (fitS sa sb la lb).1 → ix (fitS sa sb la lb).2.1 i < la ∧ ix (fitS sa sb la lb).2.2.1 i < lb := by
 unfold fitS at *
 by_cases hs : sa = sb
 ·rw [if_pos hs] at he ⊢
  subst hs
  exact ⟨va, .inl ha.symm, fun i hi => ⟨by have hi : (i : Int) < cntI sa := hi; show i < la; omega, by have hi : (i : Int) < cntI sa := hi; show i < lb; omega⟩⟩
 ·rw [if_neg hs] at he ⊢
  by_cases h1 : la = 1 ∧ (lb ≠ 1 ∨ sa.length < sb.length)
  ·rw [if_pos h1] at he ⊢
   exact ⟨vb, .inr hb.symm, fun i hi => ⟨by show 0 < la; omega, by have hi : (i : Int) < cntI sb := hi; show i < lb; omega⟩⟩
  ·rw [if_neg h1] at he ⊢
   by_cases h2 : lb = 1
   ·rw [if_pos h2] at he ⊢
    exact ⟨va, .inl ha.symm, fun i hi => ⟨by have hi : (i : Int) < cntI sa := hi; show i < la; omega, by show 0 < lb; omega⟩⟩
   ·rw [if_neg h2] at he
    split at he
    ·exact absurd he (by decide)
    ·exact absurd he (by decide)
def denX : Option (Rat × Nat) → Nat
 | none => 0
 | some p => p.2
theorem denX_ok {o : Option (Rat × Nat)} (h : okX o) : dn (denX o) = (valX o).den := by
 cases o with
 | none => rfl
 | some p => exact h
theorem rowX_le (o : Option (Rat × Nat)) : AVle (.agg (rowX o)) (RA (valX o).num (denX o)) := by
 cases o with
 | none => exact RZ_le
 | some p => exact .refl _
theorem getD_val (na : List (Option (Rat × Nat))) (k : Nat) : (na.map valX).getD k 0 = valX (na.getD k none) := by
 rw [List.getD_eq_getElem?_getD, List.getD_eq_getElem?_getD, List.getElem?_map]
 cases na[k]? <;> rfl
theorem RatY_ok (sh : List Int) (ch : Bool) (tx : List Int) (na : List (Option (Rat × Nat))) (k : Nat) (hk : k < na.length) (hb : na.length ≤ 1000) : AC Tryz.prog 15 [AA sh ch tx na true, .val (.int .i64 (k : Int))] (.pure (RA ((na.map valX).getD k 0).num (denX (na.getD k none)))) := by
 have h := RatI_ok sh ch tx na true k hk (by omega)
 rw [getD_val, List.getD_eq_getElem?_getD, List.getElem?_eq_getElem hk]
 exact AC.le_res h (rowX_le _) (RA_noid _ _)
theorem RuneX_ok (sh : List Int) (ch : Bool) (tx : List Int) (ns : List (Option (Rat × Nat))) (k : Nat) (hk : k < tx.length) (hb : tx.length ≤ 1000) : AC Tryz.prog 134 [AA sh ch tx ns true, .val (.int .i64 (k : Int))] (.pure (.val (.int .i32 (tx.getD k 0)))) := by
 have h := RuneI_ok sh ch tx ns true k hk (by omega)
 rw [List.getD_eq_getElem?_getD, List.getElem?_eq_getElem hk]
 exact h
theorem atX_ok (i : Nat) (one : Bool) : AC Tryz.prog 113 [.val (.int .i64 (i : Int)), .val (.bool one)] (.pure (.val (.int .i64 ((ix one i : Nat) : Int)))) := by
 have h := at_ok (i : Int) one
 cases one
 ·exact h
 ·exact h
def elemF (c : Int) (ca cb : Bool) (ta tb : List Int) (qa qb : List Rat) (one two : Bool) (most : Int) (i : Nat) : Rat × Int :=
 if ca = true ∨ cb = true then
  if c = 61 ∨ c = 8800 then (if (ca && cb && decide (ta.getD (ix one i) 0 = tb.getD (ix two i) 0)) = decide (c = 61) then 1 else 0, 0) else (0, 22)
 else twoQ c (qa.getD (ix one i) 0) (qb.getD (ix two i) 0) most
end
section
theorem rep_drop {α : Type} (x : α) (n i : Nat) (h : i < n) : (List.replicate (n - i) x) = x :: List.replicate (n - (i + 1)) x := by
 rw [show n - i = (n - (i + 1)) + 1 by omega, List.replicate_succ]
theorem rowsM_noid (l : List (Option (Rat × Nat))) (k : Nat) : ∀ r ∈ l.map rowX ++ List.replicate k (rowX none), ∀ x ∈ r, NoId x := by
 intro r hr
 rcases List.mem_append.1 hr with h | h
 ·exact rowsX_noid l r h
 ·refine rowsX_noid [none] r ?_
  rw [(List.mem_replicate.1 h).2]
  exact List.mem_singleton.2 rfl
theorem Two_loop (c : Int) (hc : isTwo c) (sa sb : List Int) (ta tb : List Int) (na nb : List (Option (Rat × Nat))) (qa qb : List Rat) (na1 : na.map valX = qa) (nb1 : nb.map valX = qb) (most : Int) (s : List Int) (one two : Bool) (n : Nat) (hn : n ≤ 1000) (hv : vS s) (hcn : cntI s = (n : Int))
  (hfit : AC Tryz.prog 110 [AA sa false ta na true, AA sb false tb nb true] (.pure (FV (s, one, two, 0))))
  (hix : ∀ i : Nat, i < n → ix one i < qa.length ∧ ix two i < qb.length) (la : qa.length ≤ 1000) (lb : qb.length ≤ 1000)
  (D : Nat → Nat) (f : Nat → Rat × Int)
  (hD : ∀ i < n, dn (D i) = (f i).1.den ∧ AC Tryz.prog 112 [.val (.int .i32 c), RA (qa.getD (ix one i) 0).num (denX (na.getD (ix one i) none)), RA (qb.getD (ix two i) 0).num (denX (nb.getD (ix two i) none)), .val (.int .i64 most)] (.pure (.tup [RA (f i).1.num (D i), .val (.int .i64 (f i).2)])))
  (E : Int) (hE : E = firstE ((List.range n).map f)) :
  AC Tryz.prog 66 [.val (.int .i32 c), AA sa false ta na true, AA sb false tb nb true, .val (.int .i64 most)] (.pure (if E = 0 then .tup [AA s false [] ((List.range n).map fun i => some ((f i).1, D i)) true, .val (.int .i64 0)] else .tup [AZ, .val (.int .i64 E)])) := by
 have hH := Has_ok c
 rw [decide_eq_true hc] at hH
 have hIa := IsChar_ok sa false ta na true
 have hIb := IsChar_ok sb false tb nb true
 have hC := Count_ok s (by have := hv.1; omega)
 rw [CNT_good hv, hcn] at hC
 obtain ⟨Y, hY⟩ : ∃ Y : List (Option (Rat × Nat)), Y = (List.range n).map fun i => some ((f i).1, D i) := ⟨_, rfl⟩
 rw [← hY]
 have l1 : Y.length = n := by rw [hY, List.length_map, List.length_range]
 have hYi : ∀ i (h : i < n), Y[i]'(by omega) = some ((f i).1, D i) := fun i h => by subst hY; rw [List.getElem_map, List.getElem_range]
 have hN := Nums_ok s Y hv (by rw [l1]; exact hcn) (by omega)
 obtain ⟨res, hres⟩ : ∃ res : AV, res = if E = 0 then .tup [AA s false [] Y true, .val (.int .i64 0)] else .tup [AZ, .val (.int .i64 E)] := ⟨_, rfl⟩
 rw [← hres]
 have hnr : NoId res := by
  rw [hres]; split
  ·exact .tup _ (noid2 (AA_noid _ _ _ _ _) (.val _))
  ·exact AZt_noid _
 refine AC.of_body TTok Tryz.func66 rfl (enter_of Tryz.func66 (by kernel_rfl) (by kernel_rfl)) (noidF (.val _) (AA_noid _ _ _ _ _) (AA_noid _ _ _ _ _) (.val _)) hnr (nbq rfl) ?_
 have lrep : ∀ k, (List.replicate k (rowX none)).length = k := fun k => List.length_replicate
 have hA1 : ∀ i < n, AC Tryz.prog 15 [AA sa false ta na true, .val (.int .i64 ((ix one i : Nat) : Int))] (.pure (RA (qa.getD (ix one i) 0).num (denX (na.getD (ix one i) none)))) := fun i hi => by
  have h := RatY_ok sa false ta na (ix one i) (by have := (hix i hi).1; rw [← na1, List.length_map] at this; exact this) (by rw [← na1, List.length_map] at la; exact la)
  rw [na1] at h; exact h
 have hB1 : ∀ i < n, AC Tryz.prog 15 [AA sb false tb nb true, .val (.int .i64 ((ix two i : Nat) : Int))] (.pure (RA (qb.getD (ix two i) 0).num (denX (nb.getD (ix two i) none)))) := fun i hi => by
  have h := RatY_ok sb false tb nb (ix two i) (by have := (hix i hi).2; rw [← nb1, List.length_map] at this; exact this) (by rw [← nb1, List.length_map] at lb; exact lb)
  rw [nb1] at h; exact h
 unfold FV AA at hfit
 unfold AA at hIa hIb hA1 hB1 ⊢
 have start : ∀ (P : Prop), P → P := fun _ h => h
 by_cases hn0 : n = 0
 ·subst hn0
  have hY0 : Y = [] := List.length_eq_zero_iff.1 l1
  have hE0 : E = 0 := by rw [hE]; rfl
  rw [if_pos hE0] at hres
  subst hres
  rw [hY0] at hN ⊢
  conv => whnf
  refine ⟨_, hH, ?_⟩
  conv => whnf
  refine ⟨_, hfit, ?_⟩
  conv => whnf
  refine ⟨_, hC, ?_⟩
  conv => whnf
  refine ⟨by decide, ?_⟩
  conv => whnf
  refine SW.loopM TTok (fun _ : Unit => [(8, .lp 16 0), (10, .sl 1 (irows .i64 s) false), (16, .own 312 0 0), (65, .val (.int .i64 0)), (66, .val (.int .i64 0))]) (fun _ => [(16, .cells 5 [[.sl 0 [] true, .val (.bool false), .sl 0 [] true, .sl 0 [] true, .val (.bool false)]]), (312, .cells 3 [])]) 352 101 rfl (fun _ => 0) (fun _ => True) () [] trivial
   ⟨q2r, q2r, q2r, q2r, q2r, trivial⟩ ⟨q3r, q3r, trivial⟩ rfl ?_
  intro _ _
  unfold AA at hN ⊢
  conv => whnf
  refine ⟨Nat.le_refl _, _, hN, ?_⟩
  repeat ((conv => whnf); (first | refine ⟨_, ‹_›, ?_⟩ | refine ⟨nbq rfl, _, ‹_›, ?_⟩ | refine ⟨by kernel_rfl, ?_⟩ | exact rfl | exact ⟨nbq rfl, rfl⟩ | refine ⟨by decide, ?_⟩))
 ·conv => whnf
  refine ⟨_, hH, ?_⟩
  conv => whnf
  refine ⟨_, hfit, ?_⟩
  conv => whnf
  refine ⟨_, hC, ?_⟩
  conv => whnf
  first | refine oTq (by omega) ?_ | refine oFq (by omega) ?_ | refine oEq (by omega) ?_ | refine oNq (by omega) ?_
  conv => whnf
  refine ⟨_, hIa, ?_⟩
  conv => whnf
  refine ⟨_, hIb, ?_⟩
  conv => whnf
  refine ⟨by show 0 ≤ (n:Int) ∧ (n:Int) ≤ n ∧ (n:Int) * 56 ≤ 140737488355328; omega, ?_⟩
  conv => whnf
  refine SW.loopM TTok (fun i : Nat => [(0, .val (.int .i32 c)), (3, .val (.int .i64 most)), (5, .lp 0 0), (6, .lp 8 0), (8, .lp 16 0), (10, .sl 1 (irows .i64 s) false), (11, .val (.bool one)), (12, .val (.bool two)), (16, .own 312 0 n), (65, .val (.int .i64 (n : Int))), (66, .val (.int .i64 (i : Int)))])
   (fun i => [(0, .cells 5 [[.sl 1 (irows .i64 sa) false, .val (.bool false), .sl 1 (irows .i32 ta) false, .sl 3 (na.map rowX) false, .val (.bool true)]]), (8, .cells 5 [[.sl 1 (irows .i64 sb) false, .val (.bool false), .sl 1 (irows .i32 tb) false, .sl 3 (nb.map rowX) false, .val (.bool true)]]), (16, .cells 5 [[.sl 0 [] true, .val (.bool false), .sl 0 [] true, .sl 0 [] true, .val (.bool false)]]), (312, .cells 3 ((Y.take i).map rowX ++ List.replicate (n - i) (rowX none)))]) 352 101 rfl (fun i => n - i) (fun i => i ≤ n ∧ ∀ j < i, (f j).2 = 0) 0 [] ⟨Nat.zero_le _, fun x hx => absurd hx (Nat.not_lt_zero _)⟩
   ⟨q2r, q2r, q2r, q2r, q2r, q2r, q2r, q2r, q2r, q2r, q2r, trivial⟩ ⟨q3r, q3r, q3r, ⟨rfl, .inl ⟨rfl, rowsM_noid _ _⟩⟩, trivial⟩ rfl ?_
  intro i hJ
  have hi : i ≤ n := hJ.1
  have hz : ∀ j < i, (f j).2 = 0 := hJ.2
  clear hJ
  have ltk : ((Y.take i).map rowX).length = i := by rw [List.length_map, List.length_take]; omega
  have lr : ((Y.take i).map rowX ++ List.replicate (n - i) (rowX none)).length = n := by
   rw [List.length_append, ltk, List.length_replicate]; omega
  by_cases hlt : i < n
  ·have eI : IntKind.i64.wrap ((i : Int) + 1) = ((i + 1 : Nat) : Int) := by rw [IntWalk.i64_in _ (by omega)]; omega
   have hA := hA1 i hlt
   have hB := hB1 i hlt
   have hta := atX_ok i one
   have htb := atX_ok i two
   obtain ⟨d1, d2⟩ := hD i hlt
   have hset : ((Y.take i).map rowX ++ List.replicate (n - i) (rowX none)).set i (rowX (some ((f i).1, D i))) = (Y.take (i + 1)).map rowX ++ List.replicate (n - (i + 1)) (rowX none) := by
    rw [rep_drop _ n i hlt, take_snoc (show i < Y.length by omega), hYi i hlt]
    have := set_mid ((Y.take i).map rowX) (rowX none) (rowX (some ((f i).1, D i))) (List.replicate (n - (i + 1)) (rowX none))
    rw [ltk] at this
    rw [this]; simp
   by_cases he : (f i).2 = 0
   ·rw [he] at d2
    unfold RA at d2 hA hB
    conv => whnf
    first | refine oTq (by omega) ?_ | refine oFq (by omega) ?_ | refine oEq (by omega) ?_ | refine oNq (by omega) ?_
    conv => whnf
    refine ⟨_, hta, ?_⟩
    conv => whnf
    refine ⟨_, hA, ?_⟩
    conv => whnf
    refine ⟨_, htb, ?_⟩
    conv => whnf
    refine ⟨_, hB, ?_⟩
    conv => whnf
    refine ⟨_, d2, ?_⟩
    conv => whnf
    refine ⟨by kernel_rfl, ?_⟩
    conv => whnf
    refine ⟨by omega, ?_⟩
    conv => whnf
    refine ⟨by rw [Nat.zero_add, Int.toNat_natCast]; omega, ?_⟩
    conv => whnf
    refine ⟨i + 1, [], (by show n - (i + 1) < n - i; omega), ⟨hlt, fun j hj => ?_⟩, ⟨q2r, q2r, q2r, q2r, q2r, q2r, q2r, q2r, q2r, q2r, ⟨valI eI, rfl⟩, trivial⟩, ⟨q3r, q3r, q3r, ⟨rfl, .inl ⟨celE ?_, rowsM_noid _ _⟩⟩, trivial⟩, rfl⟩
    ·by_cases hji : j = i
     ·rw [hji]; exact he
     ·exact hz j (by omega)
    ·rw [← hset]
     show List.set _ (0 + (i : Int).toNat) _ = _
     rw [Nat.zero_add, Int.toNat_natCast]
     rfl
   ·have hEe : E = (f i).2 := by
     rw [hE]
     have := firstE_at (l := (List.range n).map f) (i := i) (by rw [List.length_map, List.length_range]; exact hlt) (fun x hx => by
      rw [← List.map_take] at hx
      obtain ⟨q, hq, rfl⟩ := List.mem_map.1 hx
      refine hz q ?_
      rw [List.take_range] at hq
      have := List.mem_range.1 hq
      omega) (by rw [List.getElem_map, List.getElem_range]; exact he)
     rw [this, List.getElem_map, List.getElem_range]
    rw [if_neg (by rw [hEe]; exact he), hEe] at hres
    subst hres
    unfold RA at d2 hA hB
    conv => whnf
    first | refine oTq (by omega) ?_ | refine oFq (by omega) ?_ | refine oEq (by omega) ?_ | refine oNq (by omega) ?_
    conv => whnf
    refine ⟨_, hta, ?_⟩
    conv => whnf
    refine ⟨_, hA, ?_⟩
    conv => whnf
    refine ⟨_, htb, ?_⟩
    conv => whnf
    refine ⟨_, hB, ?_⟩
    conv => whnf
    refine ⟨_, d2, ?_⟩
    conv => whnf
    refine ⟨by kernel_rfl, ?_⟩
    conv => whnf
    first | refine nTq (by omega) ?_ | refine nFq (by omega) ?_
    repeat ((conv => whnf); (first | refine ⟨_, ‹_›, ?_⟩ | refine ⟨nbq rfl, _, ‹_›, ?_⟩ | refine ⟨by kernel_rfl, ?_⟩ | exact rfl | exact ⟨nbq rfl, rfl⟩ | refine ⟨by decide, ?_⟩))
  ·have hie : i = n := by omega
   have hE0 : E = 0 := by
    rw [hE]
    refine firstE_zero (fun x hx => ?_)
    obtain ⟨q, hq, rfl⟩ := List.mem_map.1 hx
    exact hz q (by have := List.mem_range.1 hq; omega)
   rw [if_pos hE0] at hres
   subst hres
   have e1 : (Y.take i).map rowX ++ List.replicate (n - i) (rowX none) = Y.map rowX := by
    rw [hie, List.take_of_length_le (by omega), Nat.sub_self, List.replicate_zero, List.append_nil]
   rw [e1]
   have key : List.take n (List.drop 0 (Y.map rowX)) = Y.map rowX := by rw [List.drop_zero, List.take_of_length_le (by rw [List.length_map]; omega)]
   conv => whnf
   first | refine oTq (by omega) ?_ | refine oFq (by omega) ?_ | refine oEq (by omega) ?_ | refine oNq (by omega) ?_
   conv => whnf
   rw [key]
   have lY : (Y.map rowX).length = n := by rw [List.length_map]; exact l1
   unfold AA at *
   refine ⟨by show 0 + n ≤ (Y.map rowX).length; omega, _, hN, ?_⟩
   repeat ((conv => whnf); (first | refine ⟨_, ‹_›, ?_⟩ | refine ⟨nbq rfl, _, ‹_›, ?_⟩ | refine ⟨by kernel_rfl, ?_⟩ | exact rfl | exact ⟨nbq rfl, rfl⟩ | refine ⟨by decide, ?_⟩))
end
section
def smE (ca cb : Bool) (ta tb : List Int) (one two : Bool) (i : Nat) : Bool := ca && cb && decide (ta.getD (ix one i) 0 = tb.getD (ix two i) 0)
def chE (c : Int) (ca cb : Bool) (ta tb : List Int) (one two : Bool) (i : Nat) : Option (Rat × Nat) := if smE ca cb ta tb one two i = decide (c = 61) then some (1, 1) else none
theorem noid6 {a b c d e f : AV} (h1 : NoId a) (h2 : NoId b) (h3 : NoId c) (h4 : NoId d) (h5 : NoId e) (h6 : NoId f) : ∀ x ∈ [a, b, c, d, e, f], NoId x := by
 intro x hx
 simp only [List.mem_cons, List.not_mem_nil, or_false] at hx
 rcases hx with rfl | rfl | rfl | rfl | rfl | rfl <;> assumption
theorem chars_61 (sa sb : List Int) (ca cb : Bool) (ta tb : List Int) (na nb : List (Option (Rat × Nat))) (s : List Int) (one two : Bool) (n : Nat) (hn : n ≤ 5000) (hv : vS s) (hcn : cntI s = (n : Int))
  (hix : ∀ i : Nat, i < n → (ca = true → ix one i < ta.length) ∧ (cb = true → ix two i < tb.length)) (la : ta.length ≤ 1000) (lb : tb.length ≤ 1000) :
  AC Tryz.prog 111 [.val (.int .i32 61), AA sa ca ta na true, AA sb cb tb nb true, .sl 1 (irows .i64 s) false, .val (.bool one), .val (.bool two)] (.pure (.tup [AA s false [] ((List.range n).map (chE 61 ca cb ta tb one two)) true, .val (.int .i64 0)])) := by
 have hIa := IsChar_ok sa ca ta na true
 have hIb := IsChar_ok sb cb tb nb true
 have hC := Count_ok s (by have := hv.1; omega)
 rw [CNT_good hv, hcn] at hC
 obtain ⟨Y, hY⟩ : ∃ Y : List (Option (Rat × Nat)), Y = (List.range n).map (chE 61 ca cb ta tb one two) := ⟨_, rfl⟩
 rw [← hY]
 have l1 : Y.length = n := by rw [hY, List.length_map, List.length_range]
 have hYi : ∀ i (h : i < n), Y[i]'(by omega) = chE 61 ca cb ta tb one two i := fun i h => by subst hY; rw [List.getElem_map, List.getElem_range]
 have hN := Nums_ok s Y hv (by rw [l1]; exact hcn) (by omega)
 have hF := RatFrom_ok 1 (by decide)
 refine AC.of_body TTok Tryz.func111 rfl (enter_of Tryz.func111 (by kernel_rfl) (by kernel_rfl)) (noid6 (.val _) (AA_noid _ _ _ _ _) (AA_noid _ _ _ _ _) (noid_sl _ _ _) (.val _) (.val _)) (.tup _ (noid2 (AA_noid _ _ _ _ _) (.val _))) (nbq rfl) ?_
 have hA1 : ∀ i < n, ca = true → AC Tryz.prog 134 [AA sa ca ta na true, .val (.int .i64 ((ix one i : Nat) : Int))] (.pure (.val (.int .i32 (ta.getD (ix one i) 0)))) := fun i hi h => RuneX_ok sa ca ta na _ ((hix i hi).1 h) la
 have hB1 : ∀ i < n, cb = true → AC Tryz.prog 134 [AA sb cb tb nb true, .val (.int .i64 ((ix two i : Nat) : Int))] (.pure (.val (.int .i32 (tb.getD (ix two i) 0)))) := fun i hi h => RuneX_ok sb cb tb nb _ ((hix i hi).2 h) lb
 have u1 : AA sa ca ta na true = .agg [.sl 1 (irows .i64 sa) false, .val (.bool ca), .sl 1 (irows .i32 ta) false, .sl 3 (na.map rowX) false, .val (.bool true)] := rfl
 have u2 : AA sb cb tb nb true = .agg [.sl 1 (irows .i64 sb) false, .val (.bool cb), .sl 1 (irows .i32 tb) false, .sl 3 (nb.map rowX) false, .val (.bool true)] := rfl
 rw [u1] at hIa hA1 ⊢
 rw [u2] at hIb hB1 ⊢
 unfold RA at hF
 conv => whnf
 refine ⟨_, hC, ?_⟩
 conv => whnf
 refine ⟨by show 0 ≤ (n:Int) ∧ (n:Int) ≤ n ∧ (n:Int) * 56 ≤ 140737488355328; omega, ?_⟩
 conv => whnf
 refine SW.loopM TTok (fun i : Nat => [(0, .val (.int .i32 61)), (3, .sl 1 (irows .i64 s) false), (4, .val (.bool one)), (5, .val (.bool two)), (7, .lp 0 0), (8, .lp 8 0), (12, .lp 16 0), (16, .own 144 0 n), (36, .val (.int .i64 (n : Int))), (37, .val (.int .i64 (i : Int)))])
   (fun i => [(0, .cells 5 [[.sl 1 (irows .i64 sa) false, .val (.bool ca), .sl 1 (irows .i32 ta) false, .sl 3 (na.map rowX) false, .val (.bool true)]]), (8, .cells 5 [[.sl 1 (irows .i64 sb) false, .val (.bool cb), .sl 1 (irows .i32 tb) false, .sl 3 (nb.map rowX) false, .val (.bool true)]]), (16, .cells 5 [[.sl 0 [] true, .val (.bool false), .sl 0 [] true, .sl 0 [] true, .val (.bool false)]]), (144, .cells 3 ((Y.take i).map rowX ++ List.replicate (n - i) (rowX none)))]) 184 75 rfl (fun i => n - i) (fun i => i ≤ n) 0 [] (Nat.zero_le _)
   ⟨q2r, q2r, q2r, q2r, q2r, q2r, q2r, q2r, q2r, q2r, trivial⟩ ⟨q3r, q3r, q3r, ⟨rfl, .inl ⟨rfl, rowsM_noid _ _⟩⟩, trivial⟩ rfl ?_
 intro i hJ
 have hi : i ≤ n := hJ
 clear hJ
 have ltk : ((Y.take i).map rowX).length = i := by rw [List.length_map, List.length_take]; omega
 have lr : ((Y.take i).map rowX ++ List.replicate (n - i) (rowX none)).length = n := by
  rw [List.length_append, ltk, List.length_replicate]; omega
 by_cases hlt : i < n
 ·have eI : IntKind.i64.wrap ((i : Int) + 1) = ((i + 1 : Nat) : Int) := by rw [IntWalk.i64_in _ (by omega)]; omega
  have hA := hA1 i hlt
  have hB := hB1 i hlt
  have hta := atX_ok i one
  have htb := atX_ok i two
  have hset : ∀ o, chE 61 ca cb ta tb one two i = o → ((Y.take i).map rowX ++ List.replicate (n - i) (rowX none)).set i (rowX o) = (Y.take (i + 1)).map rowX ++ List.replicate (n - (i + 1)) (rowX none) := fun o ho => by
   rw [rep_drop _ n i hlt, take_snoc (show i < Y.length by omega), hYi i hlt, ho]
   have := set_mid ((Y.take i).map rowX) (rowX none) (rowX o) (List.replicate (n - (i + 1)) (rowX none))
   rw [ltk] at this
   rw [this]; simp
  have hstay : chE 61 ca cb ta tb one two i = none → (Y.take i).map rowX ++ List.replicate (n - i) (rowX none) = (Y.take (i + 1)).map rowX ++ List.replicate (n - (i + 1)) (rowX none) := fun ho => by
   rw [rep_drop _ n i hlt, take_snoc (show i < Y.length by omega), hYi i hlt, ho]; simp
  obtain ⟨x, hx⟩ : ∃ x, x = ta.getD (ix one i) 0 := ⟨_, rfl⟩
  obtain ⟨y, hy⟩ : ∃ y, y = tb.getD (ix two i) 0 := ⟨_, rfl⟩
  rw [← hx] at hA
  rw [← hy] at hB
  cases ca
  ·cases cb
   ·conv => whnf
    first | refine oTq (by omega) ?_ | refine oFq (by omega) ?_ | refine oEq (by omega) ?_ | refine oNq (by omega) ?_
    conv => whnf
    refine ⟨_, hIa, ?_⟩
    conv => whnf
    refine ⟨by kernel_rfl, ?_⟩
    conv => whnf
    refine ⟨i + 1, [], (by show n - (i + 1) < n - i; omega), hlt, ⟨q2r, q2r, q2r, q2r, q2r, q2r, q2r, q2r, q2r, ⟨valI eI, rfl⟩, trivial⟩, ⟨q3r, q3r, q3r, ⟨rfl, .inl ⟨celE ?_, rowsM_noid _ _⟩⟩, trivial⟩, rfl⟩
    exact hstay (by unfold chE smE; simp)
   ·conv => whnf
    first | refine oTq (by omega) ?_ | refine oFq (by omega) ?_ | refine oEq (by omega) ?_ | refine oNq (by omega) ?_
    conv => whnf
    refine ⟨_, hIa, ?_⟩
    conv => whnf
    refine ⟨by kernel_rfl, ?_⟩
    conv => whnf
    refine ⟨i + 1, [], (by show n - (i + 1) < n - i; omega), hlt, ⟨q2r, q2r, q2r, q2r, q2r, q2r, q2r, q2r, q2r, ⟨valI eI, rfl⟩, trivial⟩, ⟨q3r, q3r, q3r, ⟨rfl, .inl ⟨celE ?_, rowsM_noid _ _⟩⟩, trivial⟩, rfl⟩
    exact hstay (by unfold chE smE; simp)
  ·cases cb
   ·conv => whnf
    first | refine oTq (by omega) ?_ | refine oFq (by omega) ?_ | refine oEq (by omega) ?_ | refine oNq (by omega) ?_
    conv => whnf
    refine ⟨_, hIa, ?_⟩
    conv => whnf
    refine ⟨_, hIb, ?_⟩
    conv => whnf
    refine ⟨by kernel_rfl, ?_⟩
    conv => whnf
    refine ⟨i + 1, [], (by show n - (i + 1) < n - i; omega), hlt, ⟨q2r, q2r, q2r, q2r, q2r, q2r, q2r, q2r, q2r, ⟨valI eI, rfl⟩, trivial⟩, ⟨q3r, q3r, q3r, ⟨rfl, .inl ⟨celE ?_, rowsM_noid _ _⟩⟩, trivial⟩, rfl⟩
    exact hstay (by unfold chE smE; simp)
   ·replace hA := hA rfl
    replace hB := hB rfl
    by_cases hxy : x = y
    ·have hs : ((x == y) == true) = true := by simp [hxy]
     conv => whnf
     first | refine oTq (by omega) ?_ | refine oFq (by omega) ?_ | refine oEq (by omega) ?_ | refine oNq (by omega) ?_
     conv => whnf
     refine ⟨_, hIa, ?_⟩
     conv => whnf
     refine ⟨_, hIb, ?_⟩
     conv => whnf
     refine ⟨_, hta, ?_⟩
     conv => whnf
     refine ⟨_, hA, ?_⟩
     conv => whnf
     refine ⟨_, htb, ?_⟩
     conv => whnf
     refine ⟨_, hB, ?_⟩
     conv => whnf
     refine ⟨by kernel_rfl, ?_⟩
     conv => whnf
     refine cTq (hs) ?_
     conv => whnf
     refine ⟨_, hF, ?_⟩
     conv => whnf
     refine ⟨by omega, ?_⟩
     conv => whnf
     refine ⟨by rw [Nat.zero_add, Int.toNat_natCast]; omega, ?_⟩
     conv => whnf
     refine ⟨i + 1, [], (by show n - (i + 1) < n - i; omega), hlt, ⟨q2r, q2r, q2r, q2r, q2r, q2r, q2r, q2r, q2r, ⟨valI eI, rfl⟩, trivial⟩, ⟨q3r, q3r, q3r, ⟨rfl, .inl ⟨celE ?_, rowsM_noid _ _⟩⟩, trivial⟩, rfl⟩
     rw [← hset (some (1, 1)) (by unfold chE smE; rw [← hx, ← hy]; simp [hxy])]
     show List.set _ (0 + (i : Int).toNat) _ = _
     rw [Nat.zero_add, Int.toNat_natCast]
     rfl
    ·have hs : ((x == y) == true) = false := by simp [hxy]
     conv => whnf
     first | refine oTq (by omega) ?_ | refine oFq (by omega) ?_ | refine oEq (by omega) ?_ | refine oNq (by omega) ?_
     conv => whnf
     refine ⟨_, hIa, ?_⟩
     conv => whnf
     refine ⟨_, hIb, ?_⟩
     conv => whnf
     refine ⟨_, hta, ?_⟩
     conv => whnf
     refine ⟨_, hA, ?_⟩
     conv => whnf
     refine ⟨_, htb, ?_⟩
     conv => whnf
     refine ⟨_, hB, ?_⟩
     conv => whnf
     refine ⟨by kernel_rfl, ?_⟩
     conv => whnf
     refine cFq (hs) ?_
     conv => whnf
     refine ⟨i + 1, [], (by show n - (i + 1) < n - i; omega), hlt, ⟨q2r, q2r, q2r, q2r, q2r, q2r, q2r, q2r, q2r, ⟨valI eI, rfl⟩, trivial⟩, ⟨q3r, q3r, q3r, ⟨rfl, .inl ⟨celE ?_, rowsM_noid _ _⟩⟩, trivial⟩, rfl⟩
     exact hstay (by unfold chE smE; rw [← hx, ← hy]; simp [hxy])
 ·have hie : i = n := by omega
  have e1 : (Y.take i).map rowX ++ List.replicate (n - i) (rowX none) = Y.map rowX := by
   rw [hie, List.take_of_length_le (by omega), Nat.sub_self, List.replicate_zero, List.append_nil]
  rw [e1]
  have key : List.take n (List.drop 0 (Y.map rowX)) = Y.map rowX := by rw [List.drop_zero, List.take_of_length_le (by rw [List.length_map]; omega)]
  conv => whnf
  first | refine oTq (by omega) ?_ | refine oFq (by omega) ?_ | refine oEq (by omega) ?_ | refine oNq (by omega) ?_
  conv => whnf
  rw [key]
  have lY : (Y.map rowX).length = n := by rw [List.length_map]; exact l1
  unfold AA at *
  refine ⟨by show 0 + n ≤ (Y.map rowX).length; omega, _, hN, ?_⟩
  repeat ((conv => whnf); (first | refine ⟨_, ‹_›, ?_⟩ | refine ⟨nbq rfl, _, ‹_›, ?_⟩ | refine ⟨by kernel_rfl, ?_⟩ | exact rfl | exact ⟨nbq rfl, rfl⟩ | refine ⟨by decide, ?_⟩))
theorem chars_8800 (sa sb : List Int) (ca cb : Bool) (ta tb : List Int) (na nb : List (Option (Rat × Nat))) (s : List Int) (one two : Bool) (n : Nat) (hn : n ≤ 5000) (hv : vS s) (hcn : cntI s = (n : Int))
  (hix : ∀ i : Nat, i < n → (ca = true → ix one i < ta.length) ∧ (cb = true → ix two i < tb.length)) (la : ta.length ≤ 1000) (lb : tb.length ≤ 1000) :
  AC Tryz.prog 111 [.val (.int .i32 8800), AA sa ca ta na true, AA sb cb tb nb true, .sl 1 (irows .i64 s) false, .val (.bool one), .val (.bool two)] (.pure (.tup [AA s false [] ((List.range n).map (chE 8800 ca cb ta tb one two)) true, .val (.int .i64 0)])) := by
 have hIa := IsChar_ok sa ca ta na true
 have hIb := IsChar_ok sb cb tb nb true
 have hC := Count_ok s (by have := hv.1; omega)
 rw [CNT_good hv, hcn] at hC
 obtain ⟨Y, hY⟩ : ∃ Y : List (Option (Rat × Nat)), Y = (List.range n).map (chE 8800 ca cb ta tb one two) := ⟨_, rfl⟩
 rw [← hY]
 have l1 : Y.length = n := by rw [hY, List.length_map, List.length_range]
 have hYi : ∀ i (h : i < n), Y[i]'(by omega) = chE 8800 ca cb ta tb one two i := fun i h => by subst hY; rw [List.getElem_map, List.getElem_range]
 have hN := Nums_ok s Y hv (by rw [l1]; exact hcn) (by omega)
 have hF := RatFrom_ok 1 (by decide)
 refine AC.of_body TTok Tryz.func111 rfl (enter_of Tryz.func111 (by kernel_rfl) (by kernel_rfl)) (noid6 (.val _) (AA_noid _ _ _ _ _) (AA_noid _ _ _ _ _) (noid_sl _ _ _) (.val _) (.val _)) (.tup _ (noid2 (AA_noid _ _ _ _ _) (.val _))) (nbq rfl) ?_
 have hA1 : ∀ i < n, ca = true → AC Tryz.prog 134 [AA sa ca ta na true, .val (.int .i64 ((ix one i : Nat) : Int))] (.pure (.val (.int .i32 (ta.getD (ix one i) 0)))) := fun i hi h => RuneX_ok sa ca ta na _ ((hix i hi).1 h) la
 have hB1 : ∀ i < n, cb = true → AC Tryz.prog 134 [AA sb cb tb nb true, .val (.int .i64 ((ix two i : Nat) : Int))] (.pure (.val (.int .i32 (tb.getD (ix two i) 0)))) := fun i hi h => RuneX_ok sb cb tb nb _ ((hix i hi).2 h) lb
 have u1 : AA sa ca ta na true = .agg [.sl 1 (irows .i64 sa) false, .val (.bool ca), .sl 1 (irows .i32 ta) false, .sl 3 (na.map rowX) false, .val (.bool true)] := rfl
 have u2 : AA sb cb tb nb true = .agg [.sl 1 (irows .i64 sb) false, .val (.bool cb), .sl 1 (irows .i32 tb) false, .sl 3 (nb.map rowX) false, .val (.bool true)] := rfl
 rw [u1] at hIa hA1 ⊢
 rw [u2] at hIb hB1 ⊢
 unfold RA at hF
 conv => whnf
 refine ⟨_, hC, ?_⟩
 conv => whnf
 refine ⟨by show 0 ≤ (n:Int) ∧ (n:Int) ≤ n ∧ (n:Int) * 56 ≤ 140737488355328; omega, ?_⟩
 conv => whnf
 refine SW.loopM TTok (fun i : Nat => [(0, .val (.int .i32 8800)), (3, .sl 1 (irows .i64 s) false), (4, .val (.bool one)), (5, .val (.bool two)), (7, .lp 0 0), (8, .lp 8 0), (12, .lp 16 0), (16, .own 144 0 n), (36, .val (.int .i64 (n : Int))), (37, .val (.int .i64 (i : Int)))])
   (fun i => [(0, .cells 5 [[.sl 1 (irows .i64 sa) false, .val (.bool ca), .sl 1 (irows .i32 ta) false, .sl 3 (na.map rowX) false, .val (.bool true)]]), (8, .cells 5 [[.sl 1 (irows .i64 sb) false, .val (.bool cb), .sl 1 (irows .i32 tb) false, .sl 3 (nb.map rowX) false, .val (.bool true)]]), (16, .cells 5 [[.sl 0 [] true, .val (.bool false), .sl 0 [] true, .sl 0 [] true, .val (.bool false)]]), (144, .cells 3 ((Y.take i).map rowX ++ List.replicate (n - i) (rowX none)))]) 184 75 rfl (fun i => n - i) (fun i => i ≤ n) 0 [] (Nat.zero_le _)
   ⟨q2r, q2r, q2r, q2r, q2r, q2r, q2r, q2r, q2r, q2r, trivial⟩ ⟨q3r, q3r, q3r, ⟨rfl, .inl ⟨rfl, rowsM_noid _ _⟩⟩, trivial⟩ rfl ?_
 intro i hJ
 have hi : i ≤ n := hJ
 clear hJ
 have ltk : ((Y.take i).map rowX).length = i := by rw [List.length_map, List.length_take]; omega
 have lr : ((Y.take i).map rowX ++ List.replicate (n - i) (rowX none)).length = n := by
  rw [List.length_append, ltk, List.length_replicate]; omega
 by_cases hlt : i < n
 ·have eI : IntKind.i64.wrap ((i : Int) + 1) = ((i + 1 : Nat) : Int) := by rw [IntWalk.i64_in _ (by omega)]; omega
  have hA := hA1 i hlt
  have hB := hB1 i hlt
  have hta := atX_ok i one
  have htb := atX_ok i two
  have hset : ∀ o, chE 8800 ca cb ta tb one two i = o → ((Y.take i).map rowX ++ List.replicate (n - i) (rowX none)).set i (rowX o) = (Y.take (i + 1)).map rowX ++ List.replicate (n - (i + 1)) (rowX none) := fun o ho => by
   rw [rep_drop _ n i hlt, take_snoc (show i < Y.length by omega), hYi i hlt, ho]
   have := set_mid ((Y.take i).map rowX) (rowX none) (rowX o) (List.replicate (n - (i + 1)) (rowX none))
   rw [ltk] at this
   rw [this]; simp
  have hstay : chE 8800 ca cb ta tb one two i = none → (Y.take i).map rowX ++ List.replicate (n - i) (rowX none) = (Y.take (i + 1)).map rowX ++ List.replicate (n - (i + 1)) (rowX none) := fun ho => by
   rw [rep_drop _ n i hlt, take_snoc (show i < Y.length by omega), hYi i hlt, ho]; simp
  obtain ⟨x, hx⟩ : ∃ x, x = ta.getD (ix one i) 0 := ⟨_, rfl⟩
  obtain ⟨y, hy⟩ : ∃ y, y = tb.getD (ix two i) 0 := ⟨_, rfl⟩
  rw [← hx] at hA
  rw [← hy] at hB
  cases ca
  ·cases cb
   ·conv => whnf
    first | refine oTq (by omega) ?_ | refine oFq (by omega) ?_ | refine oEq (by omega) ?_ | refine oNq (by omega) ?_
    conv => whnf
    refine ⟨_, hIa, ?_⟩
    conv => whnf
    refine ⟨by kernel_rfl, ?_⟩
    conv => whnf
    refine ⟨_, hF, ?_⟩
    conv => whnf
    refine ⟨by omega, ?_⟩
    conv => whnf
    refine ⟨by rw [Nat.zero_add, Int.toNat_natCast]; omega, ?_⟩
    conv => whnf
    refine ⟨i + 1, [], (by show n - (i + 1) < n - i; omega), hlt, ⟨q2r, q2r, q2r, q2r, q2r, q2r, q2r, q2r, q2r, ⟨valI eI, rfl⟩, trivial⟩, ⟨q3r, q3r, q3r, ⟨rfl, .inl ⟨celE ?_, rowsM_noid _ _⟩⟩, trivial⟩, rfl⟩
    rw [← hset (some (1, 1)) (by unfold chE smE; simp)]
    show List.set _ (0 + (i : Int).toNat) _ = _
    rw [Nat.zero_add, Int.toNat_natCast]
    rfl
   ·conv => whnf
    first | refine oTq (by omega) ?_ | refine oFq (by omega) ?_ | refine oEq (by omega) ?_ | refine oNq (by omega) ?_
    conv => whnf
    refine ⟨_, hIa, ?_⟩
    conv => whnf
    refine ⟨by kernel_rfl, ?_⟩
    conv => whnf
    refine ⟨_, hF, ?_⟩
    conv => whnf
    refine ⟨by omega, ?_⟩
    conv => whnf
    refine ⟨by rw [Nat.zero_add, Int.toNat_natCast]; omega, ?_⟩
    conv => whnf
    refine ⟨i + 1, [], (by show n - (i + 1) < n - i; omega), hlt, ⟨q2r, q2r, q2r, q2r, q2r, q2r, q2r, q2r, q2r, ⟨valI eI, rfl⟩, trivial⟩, ⟨q3r, q3r, q3r, ⟨rfl, .inl ⟨celE ?_, rowsM_noid _ _⟩⟩, trivial⟩, rfl⟩
    rw [← hset (some (1, 1)) (by unfold chE smE; simp)]
    show List.set _ (0 + (i : Int).toNat) _ = _
    rw [Nat.zero_add, Int.toNat_natCast]
    rfl
  ·cases cb
   ·conv => whnf
    first | refine oTq (by omega) ?_ | refine oFq (by omega) ?_ | refine oEq (by omega) ?_ | refine oNq (by omega) ?_
    conv => whnf
    refine ⟨_, hIa, ?_⟩
    conv => whnf
    refine ⟨_, hIb, ?_⟩
    conv => whnf
    refine ⟨by kernel_rfl, ?_⟩
    conv => whnf
    refine ⟨_, hF, ?_⟩
    conv => whnf
    refine ⟨by omega, ?_⟩
    conv => whnf
    refine ⟨by rw [Nat.zero_add, Int.toNat_natCast]; omega, ?_⟩
    conv => whnf
    refine ⟨i + 1, [], (by show n - (i + 1) < n - i; omega), hlt, ⟨q2r, q2r, q2r, q2r, q2r, q2r, q2r, q2r, q2r, ⟨valI eI, rfl⟩, trivial⟩, ⟨q3r, q3r, q3r, ⟨rfl, .inl ⟨celE ?_, rowsM_noid _ _⟩⟩, trivial⟩, rfl⟩
    rw [← hset (some (1, 1)) (by unfold chE smE; simp)]
    show List.set _ (0 + (i : Int).toNat) _ = _
    rw [Nat.zero_add, Int.toNat_natCast]
    rfl
   ·replace hA := hA rfl
    replace hB := hB rfl
    by_cases hxy : x = y
    ·have hs : ((x == y) == false) = false := by simp [hxy]
     conv => whnf
     first | refine oTq (by omega) ?_ | refine oFq (by omega) ?_ | refine oEq (by omega) ?_ | refine oNq (by omega) ?_
     conv => whnf
     refine ⟨_, hIa, ?_⟩
     conv => whnf
     refine ⟨_, hIb, ?_⟩
     conv => whnf
     refine ⟨_, hta, ?_⟩
     conv => whnf
     refine ⟨_, hA, ?_⟩
     conv => whnf
     refine ⟨_, htb, ?_⟩
     conv => whnf
     refine ⟨_, hB, ?_⟩
     conv => whnf
     refine ⟨by kernel_rfl, ?_⟩
     conv => whnf
     refine cFq (hs) ?_
     conv => whnf
     refine ⟨i + 1, [], (by show n - (i + 1) < n - i; omega), hlt, ⟨q2r, q2r, q2r, q2r, q2r, q2r, q2r, q2r, q2r, ⟨valI eI, rfl⟩, trivial⟩, ⟨q3r, q3r, q3r, ⟨rfl, .inl ⟨celE ?_, rowsM_noid _ _⟩⟩, trivial⟩, rfl⟩
     exact hstay (by unfold chE smE; rw [← hx, ← hy]; simp [hxy])
    ·have hs : ((x == y) == false) = true := by simp [hxy]
     conv => whnf
     first | refine oTq (by omega) ?_ | refine oFq (by omega) ?_ | refine oEq (by omega) ?_ | refine oNq (by omega) ?_
     conv => whnf
     refine ⟨_, hIa, ?_⟩
     conv => whnf
     refine ⟨_, hIb, ?_⟩
     conv => whnf
     refine ⟨_, hta, ?_⟩
     conv => whnf
     refine ⟨_, hA, ?_⟩
     conv => whnf
     refine ⟨_, htb, ?_⟩
     conv => whnf
     refine ⟨_, hB, ?_⟩
     conv => whnf
     refine ⟨by kernel_rfl, ?_⟩
     conv => whnf
     refine cTq (hs) ?_
     conv => whnf
     refine ⟨_, hF, ?_⟩
     conv => whnf
     refine ⟨by omega, ?_⟩
     conv => whnf
     refine ⟨by rw [Nat.zero_add, Int.toNat_natCast]; omega, ?_⟩
     conv => whnf
     refine ⟨i + 1, [], (by show n - (i + 1) < n - i; omega), hlt, ⟨q2r, q2r, q2r, q2r, q2r, q2r, q2r, q2r, q2r, ⟨valI eI, rfl⟩, trivial⟩, ⟨q3r, q3r, q3r, ⟨rfl, .inl ⟨celE ?_, rowsM_noid _ _⟩⟩, trivial⟩, rfl⟩
     rw [← hset (some (1, 1)) (by unfold chE smE; rw [← hx, ← hy]; simp [hxy])]
     show List.set _ (0 + (i : Int).toNat) _ = _
     rw [Nat.zero_add, Int.toNat_natCast]
     rfl
 ·have hie : i = n := by omega
  have e1 : (Y.take i).map rowX ++ List.replicate (n - i) (rowX none) = Y.map rowX := by
   rw [hie, List.take_of_length_le (by omega), Nat.sub_self, List.replicate_zero, List.append_nil]
  rw [e1]
  have key : List.take n (List.drop 0 (Y.map rowX)) = Y.map rowX := by rw [List.drop_zero, List.take_of_length_le (by rw [List.length_map]; omega)]
  conv => whnf
  first | refine oTq (by omega) ?_ | refine oFq (by omega) ?_ | refine oEq (by omega) ?_ | refine oNq (by omega) ?_
  conv => whnf
  rw [key]
  have lY : (Y.map rowX).length = n := by rw [List.length_map]; exact l1
  unfold AA at *
  refine ⟨by show 0 + n ≤ (Y.map rowX).length; omega, _, hN, ?_⟩
  repeat ((conv => whnf); (first | refine ⟨_, ‹_›, ?_⟩ | refine ⟨nbq rfl, _, ‹_›, ?_⟩ | refine ⟨by kernel_rfl, ?_⟩ | exact rfl | exact ⟨nbq rfl, rfl⟩ | refine ⟨by decide, ?_⟩))
end
section
section
variable (c : Int) (sa sb : List Int) (ca cb : Bool) (ta tb : List Int)
theorem Two_not (h : ¬ isTwo c) (na nb : List (Option (Rat × Nat))) (most : Int) : AC Tryz.prog 66 [.val (.int .i32 c), AA sa ca ta na true, AA sb cb tb nb true, .val (.int .i64 most)] (.pure (.tup [AZ, .val (.int .i64 20)])) := by
 have hH := Has_ok c
 rw [decide_eq_false h] at hH
 refine AC.of_body TTok Tryz.func66 rfl (enter_of Tryz.func66 (by kernel_rfl) (by kernel_rfl)) (noidF (.val _) (AA_noid _ _ _ _ _) (AA_noid _ _ _ _ _) (.val _)) (AZt_noid _) (nbq rfl) ?_
 unfold AA
 repeat ((conv => whnf); (first | refine ⟨_, ‹_›, ?_⟩ | refine ⟨nbq rfl, _, ‹_›, ?_⟩ | refine ⟨by kernel_rfl, ?_⟩ | exact rfl | exact ⟨nbq rfl, rfl⟩ | refine ⟨by decide, ?_⟩))
theorem Two_unfit (h : isTwo c) (na nb : List (Option (Rat × Nat))) (most : Int) (x : List Int × Bool × Bool × Int) (he : x.2.2.2 ≠ 0) (hF : AC Tryz.prog 110 [AA sa ca ta na true, AA sb cb tb nb true] (.pure (FV x))) :
  AC Tryz.prog 66 [.val (.int .i32 c), AA sa ca ta na true, AA sb cb tb nb true, .val (.int .i64 most)] (.pure (.tup [AZ, .val (.int .i64 x.2.2.2)])) := by
 have hH := Has_ok c
 rw [decide_eq_true h] at hH
 obtain ⟨s, one, two, e⟩ := x
 refine AC.of_body TTok Tryz.func66 rfl (enter_of Tryz.func66 (by kernel_rfl) (by kernel_rfl)) (noidF (.val _) (AA_noid _ _ _ _ _) (AA_noid _ _ _ _ _) (.val _)) (AZt_noid _) (nbq rfl) ?_
 unfold FV at hF
 have he : e ≠ 0 := he
 have hF : AC Tryz.prog 110 [AA sa ca ta na true, AA sb cb tb nb true] (.pure (.tup [.sl 1 (irows .i64 s) false, .val (.bool one), .val (.bool two), .val (.int .i64 e)])) := hF
 unfold AA at *
 conv => whnf
 refine ⟨_, hH, ?_⟩
 conv => whnf
 refine ⟨_, hF, ?_⟩
 conv => whnf
 first | refine nTq (by omega) ?_ | refine nFq (by omega) ?_
 repeat ((conv => whnf); (first | refine ⟨_, ‹_›, ?_⟩ | refine ⟨nbq rfl, _, ‹_›, ?_⟩ | refine ⟨by kernel_rfl, ?_⟩ | exact rfl | exact ⟨nbq rfl, rfl⟩ | refine ⟨by decide, ?_⟩))
theorem Two_nil (h : isTwo c) (na nb : List (Option (Rat × Nat))) (most : Int) (s : List Int) (one two : Bool) (hv : vS s) (hcn : cntI s = 0) (hF : AC Tryz.prog 110 [AA sa ca ta na true, AA sb cb tb nb true] (.pure (FV (s, one, two, 0)))) :
  AC Tryz.prog 66 [.val (.int .i32 c), AA sa ca ta na true, AA sb cb tb nb true, .val (.int .i64 most)] (.pure (.tup [AA s false [] [] true, .val (.int .i64 0)])) := by
 have hH := Has_ok c
 rw [decide_eq_true h] at hH
 have hC := Count_ok s (by have := hv.1; omega)
 rw [CNT_good hv, hcn] at hC
 have hN := Nums_ok s [] hv (by rw [hcn]; rfl) (by decide)
 refine AC.of_body TTok Tryz.func66 rfl (enter_of Tryz.func66 (by kernel_rfl) (by kernel_rfl)) (noidF (.val _) (AA_noid _ _ _ _ _) (AA_noid _ _ _ _ _) (.val _)) (.tup _ (noid2 (AA_noid _ _ _ _ _) (.val _))) (nbq rfl) ?_
 unfold FV AA at hF
 unfold AA
 conv => whnf
 refine ⟨_, hH, ?_⟩
 conv => whnf
 refine ⟨_, hF, ?_⟩
 conv => whnf
 refine ⟨_, hC, ?_⟩
 conv => whnf
 refine ⟨by decide, ?_⟩
 conv => whnf
 refine SW.loopM TTok (fun _ : Unit => [(8, .lp 16 0), (10, .sl 1 (irows .i64 s) false), (16, .own 312 0 0), (65, .val (.int .i64 0)), (66, .val (.int .i64 0))]) (fun _ => [(16, .cells 5 [[.sl 0 [] true, .val (.bool false), .sl 0 [] true, .sl 0 [] true, .val (.bool false)]]), (312, .cells 3 [])]) 352 101 rfl (fun _ => 0) (fun _ => True) () [] trivial
  ⟨q2r, q2r, q2r, q2r, q2r, trivial⟩ ⟨q3r, q3r, trivial⟩ rfl ?_
 intro _ _
 unfold AA at hN
 conv => whnf
 refine ⟨Nat.le_refl _, _, hN, ?_⟩
 repeat ((conv => whnf); (first | refine ⟨_, ‹_›, ?_⟩ | refine ⟨nbq rfl, _, ‹_›, ?_⟩ | refine ⟨by kernel_rfl, ?_⟩ | exact rfl | exact ⟨nbq rfl, rfl⟩ | refine ⟨by decide, ?_⟩))
theorem Two_chars (h : isTwo c) (hch : ca = true ∨ cb = true) (na nb : List (Option (Rat × Nat))) (most : Int) (s : List Int) (one two : Bool) (n : Nat) (hn : 0 < n) (hv : vS s) (hcn : cntI s = (n : Int)) (hF : AC Tryz.prog 110 [AA sa ca ta na true, AA sb cb tb nb true] (.pure (FV (s, one, two, 0))))
  (e : Int) (k1 k3 k4 : Nat) (l1 l3 l4 : List (List AV)) (z1 z3 z4 : Bool) (v2 v5 : Value) (hnr : NoId (.tup [.agg [.sl k1 l1 z1, .val v2, .sl k3 l3 z3, .sl k4 l4 z4, .val v5], .val (.int .i64 e)]))
  (hX : AC Tryz.prog 111 [.val (.int .i32 c), AA sa ca ta na true, AA sb cb tb nb true, .sl 1 (irows .i64 s) false, .val (.bool one), .val (.bool two)] (.pure (.tup [.agg [.sl k1 l1 z1, .val v2, .sl k3 l3 z3, .sl k4 l4 z4, .val v5], .val (.int .i64 e)]))) :
  AC Tryz.prog 66 [.val (.int .i32 c), AA sa ca ta na true, AA sb cb tb nb true, .val (.int .i64 most)] (.pure (.tup [.agg [.sl k1 l1 z1, .val v2, .sl k3 l3 z3, .sl k4 l4 z4, .val v5], .val (.int .i64 e)])) := by
 have hH := Has_ok c
 rw [decide_eq_true h] at hH
 have hC := Count_ok s (by have := hv.1; omega)
 rw [CNT_good hv, hcn] at hC
 have hIa := IsChar_ok sa ca ta na true
 have hIb := IsChar_ok sb cb tb nb true
 refine AC.of_body TTok Tryz.func66 rfl (enter_of Tryz.func66 (by kernel_rfl) (by kernel_rfl)) (noidF (.val _) (AA_noid _ _ _ _ _) (AA_noid _ _ _ _ _) (.val _)) hnr (nbq rfl) ?_
 unfold FV AA at hF
 unfold AA at *
 cases ca
 ·have hcb : cb = true := hch.resolve_left Bool.false_ne_true
  subst hcb
  conv => whnf
  refine ⟨_, hH, ?_⟩
  conv => whnf
  refine ⟨_, hF, ?_⟩
  conv => whnf
  refine ⟨_, hC, ?_⟩
  conv => whnf
  first | refine oTq (by omega) ?_ | refine oFq (by omega) ?_ | refine oEq (by omega) ?_ | refine oNq (by omega) ?_
  conv => whnf
  refine ⟨_, hIa, ?_⟩
  conv => whnf
  refine ⟨_, hIb, ?_⟩
  conv => whnf
  refine ⟨_, hX, ?_⟩
  repeat ((conv => whnf); (first | refine ⟨_, ‹_›, ?_⟩ | refine ⟨nbq rfl, _, ‹_›, ?_⟩ | refine ⟨by kernel_rfl, ?_⟩ | exact rfl | exact ⟨nbq rfl, rfl⟩ | refine ⟨by decide, ?_⟩))
 ·conv => whnf
  refine ⟨_, hH, ?_⟩
  conv => whnf
  refine ⟨_, hF, ?_⟩
  conv => whnf
  refine ⟨_, hC, ?_⟩
  conv => whnf
  first | refine oTq (by omega) ?_ | refine oFq (by omega) ?_ | refine oEq (by omega) ?_ | refine oNq (by omega) ?_
  conv => whnf
  refine ⟨_, hIa, ?_⟩
  conv => whnf
  refine ⟨_, hX, ?_⟩
  repeat ((conv => whnf); (first | refine ⟨_, ‹_›, ?_⟩ | refine ⟨nbq rfl, _, ‹_›, ?_⟩ | refine ⟨by kernel_rfl, ?_⟩ | exact rfl | exact ⟨nbq rfl, rfl⟩ | refine ⟨by decide, ?_⟩))
theorem chars_not (h1 : c ≠ 61) (h2 : c ≠ 8800) (na nb : List (Option (Rat × Nat))) (s : List Int) (one two : Bool) :
  AC Tryz.prog 111 [.val (.int .i32 c), AA sa ca ta na true, AA sb cb tb nb true, .sl 1 (irows .i64 s) false, .val (.bool one), .val (.bool two)] (.pure (.tup [AZ, .val (.int .i64 22)])) := by
 refine AC.of_body TTok Tryz.func111 rfl (enter_of Tryz.func111 (by kernel_rfl) (by kernel_rfl)) (noid6 (.val _) (AA_noid _ _ _ _ _) (AA_noid _ _ _ _ _) (noid_sl _ _ _) (.val _) (.val _)) (AZt_noid _) (nbq rfl) ?_
 unfold AA
 conv => whnf
 first | refine nTq (by omega) ?_ | refine nFq (by omega) ?_
 conv => whnf
 first | refine nTq (by omega) ?_ | refine nFq (by omega) ?_
 repeat ((conv => whnf); (first | refine ⟨_, ‹_›, ?_⟩ | refine ⟨nbq rfl, _, ‹_›, ?_⟩ | refine ⟨by kernel_rfl, ?_⟩ | exact rfl | exact ⟨nbq rfl, rfl⟩ | refine ⟨by decide, ?_⟩))
end
end
end Go.Proofs.YtbdklokfijjifaaGreat
