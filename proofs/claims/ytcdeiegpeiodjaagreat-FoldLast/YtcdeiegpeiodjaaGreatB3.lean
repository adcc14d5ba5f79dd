/- Contracts of nat: what is no number. -/
import Derived.Test.YtcdeiegpeiodjaaGreatB2
import Derived.Laws.Cover3
set_option linter.unusedVariables false
namespace Go.Proofs.YtcdeiegpeiodjaaGreat
open Go Go.AL NM
section
theorem Parse_bad (l : List Int) (hB : Byt l) (hne : l ≠ []) (hb : l.length ≤ 2000) (hbad : ¬ Dig l) : AC Tryz.prog 105 [.val (.string (strL l))] (.pure (.tup [natA 0, .val (.bool false)])) := by
 refine AC.le_res (v := .tup [.agg [.sl 0 [] true], .val (.bool false)]) ?_ (.tup2 zero_le (.refl _)) (.tup _ (noid2 (natA_noid _) (.val _)))
 refine AC.of_body TTok Tryz.func105 rfl (enter_of Tryz.func105 (by kernel_rfl) (by kernel_rfl)) (noid1 (.val _)) (.tup _ (noid2 zero_noid (.val _))) (nbq rfl) ?_
 conv => whnf
 refine caseb (fun h1 => ?_) (fun h1 => ?_)
 ·have h1' := str_beq hB (b := []) (fun x hx => (nomatch hx))
  rw [decide_eq_false hne] at h1'
  rw [show ((strL l).toList == (strL []).toList) = true from h1] at h1'
  cases h1'
 conv => whnf
 refine caseb (fun h2 => ?_) (fun h2 => ?_)
 ·have h2' : ((strL l).size : Int) > 2000 := of_decide_eq_true h2
  rw [strL_size] at h2'
  omega
 conv => whnf
 refine SW.weak (Wk.leB 72 rfl (y := .sl 1 (irows .u32 (limbs 0)) false) (by rw [limbs_zero]; exact .sl _ _ _)) rfl ?_
 refine SW.loopM TTok (fun x : Nat × List Int => [(0, .val (.string (strL x.2))), (2, .lp 0 0), (4, .lp 72 0)])
  (fun x => [(0, .cells 1 [[.sl 0 [] true]]), (72, .cells 1 [[.sl 1 (irows .u32 (limbs x.1)) false]])]) 80 60 rfl (fun x => x.2.length)
  (fun x => Byt x.2 ∧ x.2.length ≤ l.length ∧ x.1 < 10 ^ (l.length - x.2.length) ∧ (Dig x.2 → Dig l)) (0, l) [] ⟨hB, Nat.le_refl _, by simp, fun h => h⟩
  ⟨q2r, q2r, q2r, trivial⟩ ⟨q3r, q3r, trivial⟩ rfl ?_
 rintro ⟨v, r⟩ ⟨hr, hrl, hv, hval⟩
 have hr : Byt r := hr
 have hrl : r.length ≤ l.length := hrl
 have hv : v < 10 ^ (l.length - r.length) := hv
 have hval : Dig r → Dig l := hval
 have hsz := strL_size r
 conv => whnf
 refine caseb (fun h3 => ?_) (fun h3 => ?_)
 ·have h3' : ((strL r).size : Int) > 0 := of_decide_eq_true h3
  rw [hsz] at h3'
  have ek : (if ((strL r).size : Int) < 9 then ((strL r).size : Int) else 9) = ((min 9 r.length : Nat) : Int) := by
   rw [hsz]; split <;> omega
  have hk9 : min 9 r.length ≤ 9 := Nat.min_le_left _ _
  have hkr : min 9 r.length ≤ r.length := Nat.min_le_right _ _
  have hk0 : 0 < min 9 r.length := by omega
  generalize min 9 r.length = k at *
  have es : bytesL ((strL r).extract 0 (if ((strL r).size : Int) < 9 then ((strL r).size : Int) else 9).toNat) = r.take k := by
   rw [ek, strL_extract, Int.toNat_natCast, List.drop_zero, bytesL_strL (hr.take k)]
  conv => whnf
  refine ⟨⟨by rw [ek]; omega, by rw [ek, hsz]; omega⟩, ?_⟩
  conv => whnf
  refine SW.loopM TTok (fun x : Nat => [(0, .val (.string (strL r))), (2, .lp 0 0), (4, .lp 72 0), (5, .val (.int .i64 k)), (6, .val (.int .u64 (valL (r.take x)))), (7, .val (.int .u64 (10 ^ x : Nat))), (27, .sl 1 (irows .u8 (r.take k)) false), (28, .val (.int .i64 k)), (29, .val (.int .i64 x))])
   (fun x => [(0, .cells 1 [[.sl 0 [] true]]), (72, .cells 1 [[.sl 1 (irows .u32 (limbs v)) false]])]) 200 60 rfl (fun x => k - x)
   (fun x => x ≤ k ∧ Dig (r.take x)) 0 [] ⟨Nat.zero_le _, fun y hy => by simp at hy⟩
   ⟨q2r, q2r, q2r, ⟨valI ek, rfl⟩, q2r, q2r, ⟨slE ?_, rfl⟩, ⟨valI ?_, rfl⟩, q2r, trivial⟩ ⟨q3r, q3r, trivial⟩ rfl ?_
  ·rw [es]
  ·rw [es, irows_len, List.length_take, Nat.min_eq_left hkr]
  rintro i ⟨hi, hdi⟩
  have hX : valL (r.take i) < 10 ^ i := by
   have := valL_lt hdi
   rwa [List.length_take, Nat.min_eq_left (by omega)] at this
  have hp : 10 ^ i ≤ 1000000000 := Nat.le_trans (Nat.pow_le_pow_right (by decide) (show i ≤ 9 by omega)) (by decide)
  conv => whnf
  refine caseb (fun h4 => ?_) (fun h4 => ?_)
  ·have h4' : (i : Int) < (k : Int) := of_decide_eq_true h4
   have hir : i < r.length := by omega
   have hc := hr (r[i]'hir) (List.getElem_mem _)
   conv => whnf
   refine ⟨[.val (.int .u8 (r[i]'hir))], ⟨by omega, irows_get _ _ (by rw [List.getElem?_take_of_lt (by omega)]; exact List.getElem?_eq_getElem hir)⟩, ?_⟩
   conv => whnf
   refine caseb (fun h5 => ?_) (fun h5 => ?_)
   ·conv => whnf
    exact rfl
   have h5' : ¬ r[i]'hir < 48 := of_decide_eq_false h5
   conv => whnf
   refine caseb (fun h6 => ?_) (fun h6 => ?_)
   ·conv => whnf
    exact rfl
   have h6' : ¬ r[i]'hir > 57 := of_decide_eq_false h6
   conv => whnf
   refine ⟨i + 1, [], (by show k - (i + 1) < k - i; omega), ⟨(by omega), ?_⟩,
    ⟨q2r, q2r, q2r, q2r, ⟨valI ?_, rfl⟩, ⟨valI ?_, rfl⟩, q2r, q2r, ⟨valI ?_, rfl⟩, trivial⟩, ⟨q3r, q3r, trivial⟩, rfl⟩
   ·intro y hy
    rw [List.take_succ_eq_append_getElem hir] at hy
    rcases List.mem_append.1 hy with hy | hy
    ·exact hdi y hy
    ·simp at hy; subst hy; omega
   ·rw [valL_take_succ hir, IntKind.wrap_u8]
    simp only [IntKind.wrap_u64]
    omega
   ·rw [Nat.pow_succ]
    simp only [IntKind.wrap_u64]
    omega
   ·show IntKind.i64.wrap ((i : Int) + 1) = ((i + 1 : Nat) : Int)
    rw [IntWalk.i64_in _ (by omega)]; omega
  ·have h4' : ¬ (i : Int) < (k : Int) := of_decide_eq_false h4
   have hik : i = k := by omega
   subst hik
   have hvl : (limbs v).length ≤ 2000 := Nat.le_trans (limbs_ten hv) (by omega)
   have hsl : (limbs (10 ^ i)).length ≤ 2 := limbs_len_le (by omega)
   have hxl : (limbs (valL (r.take i))).length ≤ 2 := limbs_len_le (by omega)
   have hnew : v * 10 ^ i + valL (r.take i) < 10 ^ (l.length - (r.drop i).length) := by
    rw [List.length_drop, show l.length - (r.length - i) = (l.length - r.length) + i by omega, Nat.pow_add]
    have : (v + 1) * 10 ^ i ≤ 10 ^ (l.length - r.length) * 10 ^ i := Nat.mul_le_mul_right _ hv
    rw [Nat.add_mul] at this
    omega
   have hml : (limbs (v * 10 ^ i)).length ≤ 2000 := by
    refine Nat.le_trans (limbs_len_mono (b := v * 10 ^ i + valL (r.take i)) (by omega)) (Nat.le_trans (limbs_ten hnew) ?_)
    omega
   conv => whnf
   refine ⟨_, Of_ok (10 ^ i) (by omega), ?_⟩
   conv => whnf
   refine ⟨_, Mul_ok v (10 ^ i) (by omega), ?_⟩
   conv => whnf
   refine ⟨_, Of_ok (valL (r.take i)) (by omega), ?_⟩
   conv => whnf
   refine ⟨_, Add_ok (v * 10 ^ i) (valL (r.take i)) (by omega), ?_⟩
   conv => whnf
   refine ⟨by kernel_rfl, ?_⟩
   conv => whnf
   refine ⟨⟨by omega, by rw [hsz]; omega⟩, ?_⟩
   conv => whnf
   refine ⟨(v * 10 ^ i + valL (r.take i), r.drop i), [], (by show (r.drop i).length < r.length; rw [List.length_drop]; omega), ⟨hr.drop i, (by show (r.drop i).length ≤ l.length; rw [List.length_drop]; omega), hnew, ?_⟩,
    ⟨⟨strE ?_, rfl⟩, q2r, q2r, trivial⟩, ⟨q3r, q3r, trivial⟩, rfl⟩
   ·intro hdr
    refine hval fun y hy => ?_
    rw [← List.take_append_drop i r] at hy
    rcases List.mem_append.1 hy with hy | hy
    ·exact hdi y hy
    ·exact hdr y hy
   ·show (strL r).extract ((i : Int).toNat) (strL r).size = strL (r.drop i)
    rw [strL_extract, hsz, List.take_of_length_le (Nat.le_refl _), Int.toNat_natCast]
 ·have h3' : ¬ ((strL r).size : Int) > 0 := of_decide_eq_false h3
  rw [hsz] at h3'
  have hr0 : r = [] := List.eq_nil_of_length_eq_zero (by omega)
  subst hr0
  exact absurd (hval (fun y hy => (nomatch hy))) hbad
theorem Parse_empty : AC Tryz.prog 105 [.val (.string (strL []))] (.pure (.tup [natA 0, .val (.bool false)])) := by
 refine AC.le_res (v := .tup [.agg [.sl 0 [] true], .val (.bool false)]) ?_ (.tup2 zero_le (.refl _)) (.tup _ (noid2 (natA_noid _) (.val _)))
 refine AC.of_body TTok Tryz.func105 rfl (enter_of Tryz.func105 (by kernel_rfl) (by kernel_rfl)) (noid1 (.val _)) (.tup _ (noid2 zero_noid (.val _))) (nbq rfl) ?_
 have h0 : ((strL []).toList == (strL []).toList) = true := beq_self_eq_true _
 conv => whnf
 refine caseb (fun _ => ?_) (fun h => Bool.noConfusion (h0.symm.trans h))
 conv => whnf
 exact rfl
theorem Parse_long (l : List Int) (hB : Byt l) (hl : 2000 < l.length) : AC Tryz.prog 105 [.val (.string (strL l))] (.pure (.tup [natA 0, .val (.bool false)])) := by
 refine AC.le_res (v := .tup [.agg [.sl 0 [] true], .val (.bool false)]) ?_ (.tup2 zero_le (.refl _)) (.tup _ (noid2 (natA_noid _) (.val _)))
 refine AC.of_body TTok Tryz.func105 rfl (enter_of Tryz.func105 (by kernel_rfl) (by kernel_rfl)) (noid1 (.val _)) (.tup _ (noid2 zero_noid (.val _))) (nbq rfl) ?_
 conv => whnf
 refine caseb (fun h1 => ?_) (fun h1 => ?_)
 ·conv => whnf
  exact rfl
 conv => whnf
 refine caseb (fun h2 => ?_) (fun h2 => ?_)
 ·conv => whnf
  exact rfl
 ·have h2' : ¬ ((strL l).size : Int) > 2000 := of_decide_eq_false h2
  rw [strL_size] at h2'
  omega
theorem Parse_any (l : List Int) (hB : Byt l) : AC Tryz.prog 105 [.val (.string (strL l))] (.pure (.tup [natA (if right l = true then valL l else 0), .val (.bool (right l))])) := by
 cases h : right l with
 | true =>
  obtain ⟨h1, h2, h3⟩ := right_dig h
  rw [if_pos rfl]
  exact Parse_ok l h1 h2 h3
 | false =>
  rw [if_neg (by decide)]
  by_cases h0 : l = []
  ·subst h0; exact Parse_empty
  ·rcases Nat.lt_or_ge 2000 l.length with h3 | h3
   ·exact Parse_long l hB h3
   ·refine Parse_bad l hB h0 h3 fun hd => ?_
    have : right l = true := by
     unfold right
     have hp := List.length_pos_iff.2 h0
     rw [decide_eq_true (by omega), Bool.true_and, List.all_eq_true]
     intro x hx
     have := hd x hx
     simp only [isDig, decide_eq_true_eq]
     exact this
    rw [this] at h
    cases h
end
section
theorem u8_lt {x y : Int} (hx : 48 ≤ x ∧ x < 58) (hy : 48 ≤ y ∧ y < 58) : (UInt8.ofNat x.toNat < UInt8.ofNat y.toNat) ↔ x < y := by
 rw [UInt8.lt_iff_toNat_lt, UInt8.toNat_ofNat', UInt8.toNat_ofNat']
 omega
theorem u8_eq {x y : Int} (hx : 48 ≤ x ∧ x < 58) (hy : 48 ≤ y ∧ y < 58) : (UInt8.ofNat x.toNat = UInt8.ofNat y.toNat) ↔ x = y := by
 constructor
 ·intro h
  have := congrArg UInt8.toNat h
  rw [UInt8.toNat_ofNat', UInt8.toNat_ofNat'] at this
  omega
 ·rintro rfl; rfl
theorem less_dig : ∀ (a b : List Int), Dig a → Dig b → a.length = b.length → Op.bytesLess (a.map fun n => UInt8.ofNat n.toNat) (b.map fun n => UInt8.ofNat n.toNat) = decide (valL a < valL b)
 | [], [], _, _, _ => rfl
 | [], _ :: _, _, _, h => by cases h
 | _ :: _, [], _, _, h => by cases h
 | x :: a, y :: b, ha, hb, hl => by
  have hl' : a.length = b.length := by simpa using hl
  have ih := less_dig a b ha.cons.2 hb.cons.2 hl'
  have hx := ha.cons.1
  have hy := hb.cons.1
  have h1 := valL_lt ha.cons.2
  have h2 := valL_lt hb.cons.2
  simp only [List.map_cons, Op.bytesLess, ih]
  rw [valL_cons, valL_cons, hl']
  rw [hl'] at h1
  by_cases hlt : x < y
  ·have hm : ((x - 48).toNat + 1) * 10 ^ b.length ≤ (y - 48).toNat * 10 ^ b.length := Nat.mul_le_mul_right _ (by omega)
   rw [Nat.add_mul] at hm
   rw [decide_eq_true ((u8_lt hx hy).2 hlt), Bool.true_or, decide_eq_true (by omega)]
  ·rw [decide_eq_false (fun h => hlt ((u8_lt hx hy).1 h)), Bool.false_or]
   by_cases heq : x = y
   ·subst heq
    simp
   ·have hm : ((y - 48).toNat + 1) * 10 ^ b.length ≤ (x - 48).toNat * 10 ^ b.length := Nat.mul_le_mul_right _ (by omega)
    rw [Nat.add_mul] at hm
    have hne : ¬ (UInt8.ofNat x.toNat = UInt8.ofNat y.toNat) := fun h => heq ((u8_eq hx hy).1 h)
    rw [beq_eq_false_iff_ne.2 hne, Bool.false_and, decide_eq_false (by omega)]
theorem less_str {a b : List Int} (ha : Dig a) (hb : Dig b) (hl : a.length = b.length) : Op.bytesLess (strL a).toList (strL b).toList = decide (valL a < valL b) := by
 rw [ByteArray.toList_eq, ByteArray.toList_eq]
 have := less_dig a b ha hb hl
 simpa [strL] using this
theorem decL_len_lt {n m : Nat} (h : (decL n).length < (decL m).length) : n < m := by
 rcases Nat.lt_or_ge n m with h' | h'
 ·exact h'
 ·exfalso
  have h1 := valL_lt (decL_byt n)
  rw [valL_decL] at h1
  have hm0 : m ≠ 0 := by
   rintro rfl
   have := List.length_pos_iff.2 (decL_ne n)
   have : (decL 0).length = 1 := rfl
   omega
  have h2 : (decR m).length ≤ (decL n).length := decR_len (by omega)
  have h3 : (decL m).length = (decR m).length := by unfold decL; rw [if_neg hm0, List.length_reverse]
  omega
theorem RCmp_ok (n m : Nat) : AC Tryz.prog 158 [.val (.string (decS n)), .val (.string (decS m))] (.pure (.val (.int .i64 (cmpN n m)))) := by
 refine AC.of_body TTok Tryz.func158 rfl (enter_of Tryz.func158 (by kernel_rfl) (by kernel_rfl)) (noid2 (.val _) (.val _)) (.val _) (nbq rfl) ?_
 have z1 : (decS n).size = (decL n).length := strL_size _
 have z2 : (decS m).size = (decL m).length := strL_size _
 have heq : ((decS n).toList == (decS m).toList) = decide (decL n = decL m) := decS_is n (decL m) (fun x hx => by have := decL_byt m x hx; omega)
 conv => whnf
 refine caseb (fun h1 => ?_) (fun h1 => ?_)
 ·have h1' : ((decS n).size : Int) ≠ ((decS m).size : Int) := bne_iff_ne.1 h1
  rw [z1, z2] at h1'
  conv => whnf
  refine caseb (fun h2 => ?_) (fun h2 => ?_)
  ·have h2' : ((decS n).size : Int) < ((decS m).size : Int) := of_decide_eq_true h2
   rw [z1, z2] at h2'
   conv => whnf
   refine valI ?_
   rw [cmpN_lt (decL_len_lt (by omega))]
  ·have h2' : ¬ ((decS n).size : Int) < ((decS m).size : Int) := of_decide_eq_false h2
   rw [z1, z2] at h2'
   conv => whnf
   refine valI ?_
   rw [cmpN_gt (decL_len_lt (by omega))]
 ·have h1' : ((decS n).size : Int) = ((decS m).size : Int) := by
   refine Decidable.byContradiction fun h => ?_
   have := bne_iff_ne.2 h
   rw [show ((((decS n).size : Nat) : Int) != (((decS m).size : Nat) : Int)) = false from h1] at this
   cases this
  rw [z1, z2] at h1'
  have hless : Op.bytesLess (decS n).toList (decS m).toList = decide (n < m) := by
   have := less_str (decL_byt n) (decL_byt m) (by omega)
   rwa [valL_decL, valL_decL] at this
  conv => whnf
  refine caseb (fun h2 => ?_) (fun h2 => ?_)
  ·have h2' : decL n = decL m := of_decide_eq_true (heq.symm.trans h2)
   have hnm : n = m := by rw [← valL_decL n, h2', valL_decL]
   conv => whnf
   refine valI ?_
   rw [hnm, cmpN_eq]
  ·have h2' : ¬ decL n = decL m := of_decide_eq_false (heq.symm.trans h2)
   have hnm : n ≠ m := fun h => h2' (by rw [h])
   conv => whnf
   refine caseb (fun h3 => ?_) (fun h3 => ?_)
   ·have h3' : n < m := of_decide_eq_true (hless.symm.trans h3)
    conv => whnf
    refine valI ?_
    rw [cmpN_lt h3']
   ·have h3' : ¬ n < m := of_decide_eq_false (hless.symm.trans h3)
    conv => whnf
    refine valI ?_
    rw [cmpN_gt (by omega)]
end
section
end
section
def digE (l : List Int) (i : Nat) : Int := if i < l.length then l.reverse.getD i 0 - 48 else 0
theorem digit_ok (l : List Int) (hd : Dig l) (i : Nat) (hb : l.length < 140737488355328) : AC Tryz.prog 176 [.val (.string (strL l)), .val (.int .i64 i)] (.pure (.val (.int .i64 (digE l i)))) := by
 refine AC.of_body TTok Tryz.func176 rfl (enter_of Tryz.func176 (by kernel_rfl) (by kernel_rfl)) (noid2 (.val _) (.val _)) (.val _) (nbq rfl) ?_
 have hsz := strL_size l
 conv => whnf
 refine caseb (fun h1 => ?_) (fun h1 => ?_)
 ·have h1' : (i : Int) ≥ ((strL l).size : Int) := of_decide_eq_true h1
  rw [hsz] at h1'
  conv => whnf
  refine valI ?_
  unfold digE
  rw [if_neg (by omega)]
 ·have h1' : ¬ (i : Int) ≥ ((strL l).size : Int) := of_decide_eq_false h1
  rw [hsz] at h1'
  have hlt : l.length - 1 - i < l.length := by omega
  have hx := hd (l[l.length - 1 - i]'hlt) (List.getElem_mem _)
  have ei : IntKind.i64.wrap (IntKind.i64.wrap (((strL l).size : Int) - 1) - (i : Int)) = ((l.length - 1 - i : Nat) : Int) := by
   rw [hsz, IntWalk.i64_in ((l.length : Int) - 1) (by omega), IntWalk.i64_in _ (by omega)]; omega
  have hby : byteAt (strL l) ((l.length - 1 - i : Nat) : Int) = l[l.length - 1 - i]'hlt := byteAt_strL (Dig.byt hd) (by omega) (by rw [Int.toNat_natCast]; exact List.getElem?_eq_getElem hlt)
  conv => whnf
  refine ⟨⟨by rw [ei]; omega, by rw [ei, hsz]; omega⟩, ?_⟩
  conv => whnf
  refine valI ?_
  rw [ei, hby, IntKind.wrap_u8, IntWalk.i64_in _ (by omega)]
  unfold digE
  rw [if_pos (by omega), List.getD, List.getElem?_eq_getElem (by simp; omega), Option.getD_some, List.getElem_reverse]
  omega
end
section
theorem borrow_bits (x y d : BitVec 32) : (((~~~ x &&& y) ||| (~~~ (x ^^^ y) &&& d)).toNat / 2147483648) = if ((!x.msb && y.msb) || (!(x.msb ^^ y.msb) && d.msb)) = true then 1 else 0 := by
 have h : ∀ z : BitVec 32, z.toNat / 2147483648 = if z.msb = true then 1 else 0 := by
  intro z
  have hz := z.isLt
  rw [BitVec.msb_eq_decide]
  by_cases hc : 2 ^ (32 - 1) ≤ z.toNat
  ·rw [if_pos (by simpa using hc)]
   simp at hc
   omega
  ·rw [if_neg (by simpa using hc)]
   simp at hc
   omega
 rw [h, BitVec.msb_or, BitVec.msb_and, BitVec.msb_and, BitVec.msb_not, BitVec.msb_not, BitVec.msb_xor]
 rfl
theorem msb_int {x : Int} (h : 0 ≤ x ∧ x < 4294967296) : (BitVec.ofInt 32 x).msb = decide (2147483648 ≤ x) := by
 rw [BitVec.msb_eq_decide, BitVec.toNat_ofInt]
 apply decide_eq_decide.2
 omega
theorem ofw (z : BitVec 32) : BitVec.ofInt 32 (IntKind.u32.wrap (z.toNat : Int)) = z := by
 have hz := z.isLt
 rw [IntKind.wrap_u32, show (z.toNat : Int) % 4294967296 = (z.toNat : Int) by omega, BitVec.ofInt_natCast, BitVec.ofNat_toNat, BitVec.setWidth_eq]
theorem ones_xor (z : BitVec 32) : BitVec.ofInt 32 4294967295 ^^^ z = ~~~ z := by
 rw [show BitVec.ofInt 32 4294967295 = BitVec.allOnes 32 by decide, BitVec.allOnes_xor]
theorem Sub32_ok (x y c : Int) (hx : 0 ≤ x ∧ x < 4294967296) (hy : 0 ≤ y ∧ y < 4294967296) (hc : 0 ≤ c ∧ c ≤ 1) : AC Tryz.prog 178 [.val (.int .u32 x), .val (.int .u32 y), .val (.int .u32 c)] (.pure (.tup [.val (.int .u32 ((x - y - c) % 4294967296)), .val (.int .u32 (if x < y + c then 1 else 0))])) := by
 refine AC.of_body TTok Tryz.func178 rfl (enter_of Tryz.func178 (by kernel_rfl) (by kernel_rfl)) (by intro z hz; simp at hz; rcases hz with rfl | rfl | rfl <;> exact .val _) (.tup _ (noid2 (.val _) (.val _))) (nbq rfl) ?_
 conv => whnf
 refine ⟨by decide, ?_⟩
 conv => whnf
 refine tup2 (valI ?_) (valI ?_)
 ·simp only [IntKind.wrap_u32]; omega
 ·show (IntKind.u32.wrap ((BitVec.ofInt 32 (IntKind.u32.wrap ((BitVec.ofInt 32 (IntKind.u32.wrap ((BitVec.ofInt 32 4294967295 ^^^ BitVec.ofInt 32 x).toNat : Int)) &&& BitVec.ofInt 32 y).toNat : Int)) |||
   BitVec.ofInt 32 (IntKind.u32.wrap ((BitVec.ofInt 32 (IntKind.u32.wrap ((BitVec.ofInt 32 4294967295 ^^^ BitVec.ofInt 32 (IntKind.u32.wrap ((BitVec.ofInt 32 x ^^^ BitVec.ofInt 32 y).toNat : Int))).toNat : Int)) &&&
    BitVec.ofInt 32 (IntKind.u32.wrap (IntKind.u32.wrap (x - y) - c))).toNat : Int))).toNat : Int)).fdiv 2147483648 = _
  simp only [ofw, ones_xor]
  have hb := borrow_bits (BitVec.ofInt 32 x) (BitVec.ofInt 32 y) (BitVec.ofInt 32 (IntKind.u32.wrap (IntKind.u32.wrap (x - y) - c)))
  generalize hZ : ((~~~ BitVec.ofInt 32 x &&& BitVec.ofInt 32 y) ||| (~~~ (BitVec.ofInt 32 x ^^^ BitVec.ofInt 32 y) &&& BitVec.ofInt 32 (IntKind.u32.wrap (IntKind.u32.wrap (x - y) - c)))) = Z at *
  have hz := Z.isLt
  rw [Int.fdiv_eq_ediv_of_nonneg _ (by decide), IntKind.wrap_u32]
  have hd : 0 ≤ IntKind.u32.wrap (IntKind.u32.wrap (x - y) - c) ∧ IntKind.u32.wrap (IntKind.u32.wrap (x - y) - c) < 4294967296 := by
   simp only [IntKind.wrap_u32]; omega
  rw [msb_int hx, msb_int hy, msb_int hd] at hb
  have hd2 : IntKind.u32.wrap (IntKind.u32.wrap (x - y) - c) = (x - y - c) % 4294967296 := by simp only [IntKind.wrap_u32]; omega
  rw [hd2] at hb
  by_cases p : 2147483648 ≤ x <;> by_cases q : 2147483648 ≤ y <;> by_cases r : 2147483648 ≤ (x - y - c) % 4294967296 <;> by_cases u : x < y + c <;>
   simp [p, q, r] at hb <;> simp only [u, if_true, if_false] <;> omega
end
section
theorem Sub_ge (n m : Nat) (hnm : m ≤ n) (hb : (limbs n).length < 4000000000) : AC Tryz.prog 181 [natA n, natA m] (.pure (.tup [natA (n - m), .val (.bool true)])) := by
 refine AC.of_body TTok Tryz.func181 rfl (enter_of Tryz.func181 (by kernel_rfl) (by kernel_rfl)) (noid2 (natA_noid n) (natA_noid m)) (.tup _ (noid2 (natA_noid _) (.val _))) (nbq rfl) ?_
 have hlm := limbs_len_mono hnm
 have hcmp := Cmp_ok n m hb (by omega)
 have hcn : ¬ cmpN n m < 0 := by
  unfold cmpN
  rw [if_neg (by omega)]
  split <;> decide
 generalize cmpN n m = cc at *
 unfold natA at hcmp
 unfold natA
 have hva := val_limbs n
 have hvb := val_limbs m
 have hLa := limbs_lim n
 have hLb := limbs_lim m
 generalize limbs n = a at *
 generalize limbs m = b at *
 subst hva
 subst hvb
 conv => whnf
 refine ⟨_, hcmp, ?_⟩
 conv => whnf
 refine caseb (fun h1 => absurd (of_decide_eq_true h1) hcn) (fun _ => ?_)
 conv => whnf
 refine ⟨⟨by rw [irows_len]; omega, by rw [irows_len]; omega, ?_⟩, ?_⟩
 ·rw [irows_len]; show (a.length : Int) * 4 ≤ _; omega
 conv => whnf
 refine SW.loopM TTok (fun z : Nat × Nat × List Int => [(2, .lp 0 0), (3, .lp 8 0), (4, .lp 16 0), (6, .own 88 0 a.length), (7, .val (.int .u32 z.2.1)), (21, .val (.int .i64 a.length)), (22, .val (.int .i64 z.1))])
  (fun z => [(0, .cells 1 [[.sl 1 (irows .u32 a) false]]), (8, .cells 1 [[.sl 1 (irows .u32 b) false]]), (16, .cells 1 [[.sl 0 [] true]]), (88, .cells 1 (irows .u32 z.2.2))]) 144 52 rfl (fun z => a.length - z.1)
  (fun z => z.1 ≤ a.length ∧ z.2.1 ≤ 1 ∧ z.2.2.length = a.length ∧ Lim z.2.2 ∧ val z.2.2 + val (b.take z.1) = val (a.take z.1) + z.2.1 * 4294967296 ^ z.1 ∧ ∀ k, z.1 ≤ k → k < z.2.2.length → z.2.2[k]? = some 0)
  (0, 0, List.replicate a.length 0) [] ⟨Nat.zero_le _, Nat.zero_le _, by simp, Lim.rep _, by simp [val_rep, val], fun k _ hk => by simp at hk; simp [hk]⟩
  ⟨q2r, q2r, q2r, ⟨ownE rfl ?_, rfl⟩, q2r, ⟨valI ?_, rfl⟩, q2r, trivial⟩
  ⟨q3r, q3r, q3r, ⟨rfl, .inl ⟨celE ?_, irows_noid _ _⟩⟩, trivial⟩ rfl ?_
 ·rw [irows_len]; omega
 ·rw [irows_len]
 ·rw [irows_len, Int.toNat_natCast, ← irows_rep]; rfl
 rintro ⟨i, c, out⟩ ⟨hi, hc, hl, hL, hv, hz⟩
 have hi : i ≤ a.length := hi
 have hc : c ≤ 1 := hc
 have hl : out.length = a.length := hl
 have hL : Lim out := hL
 have hv : val out + val (b.take i) = val (a.take i) + c * 4294967296 ^ i := hv
 have hz : ∀ k, i ≤ k → k < out.length → out[k]? = some 0 := hz
 conv => whnf
 refine caseb (fun h1 => ?_) (fun h1 => ?_)
 ·have h1' : (i : Int) < (a.length : Int) := of_decide_eq_true h1
  have hlt : i < a.length := by omega
  have hklt : i < out.length := by omega
  have h0 : out[i]'hklt = 0 := by
   have := List.getElem?_eq_getElem (l := out) (i := i) hklt
   rw [hz i (Nat.le_refl _) hklt] at this
   injection this with this
   exact this.symm
  have hx := hLa (a[i]'hlt) (List.getElem_mem _)
  conv => whnf
  refine caseb (fun h2 => ?_) (fun h2 => ?_)
  ·have h2' : (i : Int) < ((irows .u32 b).length : Int) := of_decide_eq_true h2
   rw [irows_len] at h2'
   have hylt : i < b.length := by omega
   have hy := hLb (b[i]'hylt) (List.getElem_mem _)
   have hys : val (b.take (i + 1)) = val (b.take i) + (b[i]'hylt).toNat * 4294967296 ^ i := val_take_succ hylt
   conv => whnf
   refine ⟨[.val (.int .u32 (b[i]'hylt))], ⟨by omega, irows_get _ _ (List.getElem?_eq_getElem hylt)⟩, ?_⟩
   conv => whnf
   refine ⟨[.val (.int .u32 (a[i]'hlt))], ⟨by omega, irows_get _ _ (List.getElem?_eq_getElem hlt)⟩, ?_⟩
   conv => whnf
   refine ⟨_, Sub32_ok (a[i]'hlt) (b[i]'hylt) (c : Int) hx hy ⟨by omega, by omega⟩, ?_⟩
   conv => whnf
   refine ⟨⟨by omega, by omega⟩, ?_⟩
   conv => whnf
   refine ⟨by rw [irows_len, hl]; omega, ?_⟩
   conv => whnf
   have hO : 0 ≤ (b[i]'hylt) ∧ (b[i]'hylt) < 4294967296 := hy
   obtain ⟨d, hd⟩ : ∃ d : Nat, (d : Int) = (a[i]'hlt - (b[i]'hylt) - (c : Int)) % 4294967296 := ⟨((a[i]'hlt - (b[i]'hylt) - (c : Int)) % 4294967296).toNat, by omega⟩
   obtain ⟨c', hc'⟩ : ∃ c' : Nat, (c' : Int) = (if a[i]'hlt < (b[i]'hylt) + (c : Int) then 1 else 0) := ⟨if a[i]'hlt < (b[i]'hylt) + (c : Int) then 1 else 0, by split <;> rfl⟩
   have hc1 : c' ≤ 1 := by split at hc' <;> omega
   have hdd : d + ((b[i]'hylt) : Int).toNat + c = (a[i]'hlt).toNat + c' * 4294967296 := by split at hc' <;> omega
   have hs := val_set out i (d : Int) hklt
   rw [h0] at hs
   simp only [Int.toNat_zero, Nat.zero_mul, Nat.add_zero, Int.toNat_natCast] at hs
   refine ⟨(i + 1, c', out.set i (d : Int)), [], (by show a.length - (i + 1) < a.length - i; omega), ⟨(by show i + 1 ≤ a.length; omega), hc1, ?_, ?_, ?_, ?_⟩,
    ⟨q2r, q2r, q2r, q2r, ⟨valI hc'.symm, rfl⟩, q2r, ⟨valI ?_, rfl⟩, trivial⟩,
    ⟨q3r, q3r, q3r, ⟨rfl, .inl ⟨celE ?_, irows_noid _ _⟩⟩, trivial⟩, rfl⟩
   ·show (out.set i (d : Int)).length = _
    rw [List.length_set, hl]
   ·exact hL.set ⟨by omega, by omega⟩
   ·show val (out.set i (d : Int)) + val (b.take (i + 1)) = val (a.take (i + 1)) + c' * 4294967296 ^ (i + 1)
    rw [hs, val_take_succ hlt, hys, Nat.pow_succ, Nat.mul_comm (4294967296 ^ i) 4294967296, ← Nat.mul_assoc]
    have h9 : (d + ((b[i]'hylt) : Int).toNat + c) * 4294967296 ^ i = ((a[i]'hlt).toNat + c' * 4294967296) * 4294967296 ^ i := by rw [hdd]
    rw [Nat.add_mul, Nat.add_mul, Nat.add_mul] at h9
    omega
   ·show ∀ k, i + 1 ≤ k → k < (out.set i (d : Int)).length → (out.set i (d : Int))[k]? = some 0
    intro k hk1 hk2
    rw [List.length_set] at hk2
    rw [List.getElem?_set_ne (by omega)]
    exact hz k (by omega) hk2
   ·show IntKind.i64.wrap ((i : Int) + 1) = ((i + 1 : Nat) : Int)
    rw [IntWalk.i64_in _ (by omega)]; omega
   ·show (irows .u32 out).set (0 + (i : Int).toNat) [AV.val (.int .u32 ((a[i]'hlt - (b[i]'hylt) - (c : Int)) % 4294967296))] = _
    rw [← hd, Nat.zero_add, Int.toNat_natCast, ← irows_set]
  ·have h2' : ¬ (i : Int) < ((irows .u32 b).length : Int) := of_decide_eq_false h2
   rw [irows_len] at h2'
   have hys : val (b.take (i + 1)) = val (b.take i) + (0 : Int).toNat * 4294967296 ^ i := by
    rw [List.take_of_length_le (by omega), List.take_of_length_le (by omega)]
    simp
   conv => whnf
   refine ⟨[.val (.int .u32 (a[i]'hlt))], ⟨by omega, irows_get _ _ (List.getElem?_eq_getElem hlt)⟩, ?_⟩
   conv => whnf
   refine ⟨_, Sub32_ok (a[i]'hlt) (0 : Int) (c : Int) hx ⟨by decide, by decide⟩ ⟨by omega, by omega⟩, ?_⟩
   conv => whnf
   refine ⟨⟨by omega, by omega⟩, ?_⟩
   conv => whnf
   refine ⟨by rw [irows_len, hl]; omega, ?_⟩
   conv => whnf
   have hO : 0 ≤ (0 : Int) ∧ (0 : Int) < 4294967296 := ⟨by decide, by decide⟩
   obtain ⟨d, hd⟩ : ∃ d : Nat, (d : Int) = (a[i]'hlt - (0 : Int) - (c : Int)) % 4294967296 := ⟨((a[i]'hlt - (0 : Int) - (c : Int)) % 4294967296).toNat, by omega⟩
   obtain ⟨c', hc'⟩ : ∃ c' : Nat, (c' : Int) = (if a[i]'hlt < (0 : Int) + (c : Int) then 1 else 0) := ⟨if a[i]'hlt < (0 : Int) + (c : Int) then 1 else 0, by split <;> rfl⟩
   have hc1 : c' ≤ 1 := by split at hc' <;> omega
   have hdd : d + ((0 : Int) : Int).toNat + c = (a[i]'hlt).toNat + c' * 4294967296 := by split at hc' <;> omega
   have hs := val_set out i (d : Int) hklt
   rw [h0] at hs
   simp only [Int.toNat_zero, Nat.zero_mul, Nat.add_zero, Int.toNat_natCast] at hs
   refine ⟨(i + 1, c', out.set i (d : Int)), [], (by show a.length - (i + 1) < a.length - i; omega), ⟨(by show i + 1 ≤ a.length; omega), hc1, ?_, ?_, ?_, ?_⟩,
    ⟨q2r, q2r, q2r, q2r, ⟨valI hc'.symm, rfl⟩, q2r, ⟨valI ?_, rfl⟩, trivial⟩,
    ⟨q3r, q3r, q3r, ⟨rfl, .inl ⟨celE ?_, irows_noid _ _⟩⟩, trivial⟩, rfl⟩
   ·show (out.set i (d : Int)).length = _
    rw [List.length_set, hl]
   ·exact hL.set ⟨by omega, by omega⟩
   ·show val (out.set i (d : Int)) + val (b.take (i + 1)) = val (a.take (i + 1)) + c' * 4294967296 ^ (i + 1)
    rw [hs, val_take_succ hlt, hys, Nat.pow_succ, Nat.mul_comm (4294967296 ^ i) 4294967296, ← Nat.mul_assoc]
    have h9 : (d + ((0 : Int) : Int).toNat + c) * 4294967296 ^ i = ((a[i]'hlt).toNat + c' * 4294967296) * 4294967296 ^ i := by rw [hdd]
    rw [Nat.add_mul, Nat.add_mul, Nat.add_mul] at h9
    omega
   ·show ∀ k, i + 1 ≤ k → k < (out.set i (d : Int)).length → (out.set i (d : Int))[k]? = some 0
    intro k hk1 hk2
    rw [List.length_set] at hk2
    rw [List.getElem?_set_ne (by omega)]
    exact hz k (by omega) hk2
   ·show IntKind.i64.wrap ((i : Int) + 1) = ((i + 1 : Nat) : Int)
    rw [IntWalk.i64_in _ (by omega)]; omega
   ·show (irows .u32 out).set (0 + (i : Int).toNat) [AV.val (.int .u32 ((a[i]'hlt - (0 : Int) - (c : Int)) % 4294967296))] = _
    rw [← hd, Nat.zero_add, Int.toNat_natCast, ← irows_set]
 ·have h1' : ¬ (i : Int) < (a.length : Int) := of_decide_eq_false h1
  have hia : i = a.length := by omega
  rw [hia, List.take_of_length_le (Nat.le_refl _), List.take_of_length_le (by omega)] at hv
  have hvl := val_lt hL
  rw [hl] at hvl
  have hc0 : c = 0 := by
   rcases Nat.eq_zero_or_pos c with h | h
   ·exact h
   ·have : c = 1 := by omega
    rw [this] at hv
    omega
  rw [hc0] at hv
  have ht := trim_ok out hL (by omega)
  rw [show val out = val a - val b by omega] at ht
  conv => whnf
  refine ⟨by show 0 + a.length ≤ (irows .u32 out).length; rw [irows_len]; omega, .pure (natA (val a - val b)), ?_, ?_⟩
  ·show AC Tryz.prog 117 [.sl 1 (List.take a.length (List.drop 0 (irows .u32 out))) false] _
   rw [List.drop_zero, List.take_of_length_le (by rw [irows_len, hl]; exact Nat.le_refl _)]
   exact ht
  conv => whnf
  exact rfl
theorem Sub_lt (n m : Nat) (hnm : n < m) (hb : (limbs n).length < 4000000000) (hb' : (limbs m).length < 4000000000) : AC Tryz.prog 181 [natA n, natA m] (.pure (.tup [natA 0, .val (.bool false)])) := by
 refine AC.le_res (v := .tup [.agg [.sl 0 [] true], .val (.bool false)]) ?_ (.tup2 zero_le (.refl _)) (.tup _ (noid2 (natA_noid _) (.val _)))
 refine AC.of_body TTok Tryz.func181 rfl (enter_of Tryz.func181 (by kernel_rfl) (by kernel_rfl)) (noid2 (natA_noid n) (natA_noid m)) (.tup _ (noid2 zero_noid (.val _))) (nbq rfl) ?_
 have hcmp := Cmp_ok n m hb hb'
 rw [cmpN_lt hnm] at hcmp
 conv => whnf
 refine ⟨_, hcmp, ?_⟩
 conv => whnf
 exact rfl
end
section
theorem decR_get (n i : Nat) : (decR n).getD i 48 = ((48 + n / 10 ^ i % 10 : Nat) : Int) := by
 induction i generalizing n with
 | zero =>
  by_cases h : n = 0
  ·subst h; rw [decR_zero]; rfl
  ·rw [decR_pos (by omega)]; simp
 | succ i ih =>
  by_cases h : n = 0
  ·subst h; rw [decR_zero]; simp
  ·rw [decR_pos (by omega), List.getD_cons_succ, ih, Nat.pow_succ, Nat.mul_comm, Nat.div_div_eq_div_mul]
theorem digE_dec (n i : Nat) : digE (decL n) i = ((n / 10 ^ i % 10 : Nat) : Int) := by
 have hg := decR_get n i
 by_cases h0 : n = 0
 ·subst h0
  unfold digE decL
  rw [if_pos rfl]
  rcases i with _ | i
  ·rfl
  ·simp
 ·unfold digE decL
  rw [if_neg h0, List.reverse_reverse, List.length_reverse]
  split
  ·rename_i h
   rw [List.getD, List.getElem?_eq_getElem h, Option.getD_some] at *
   omega
  ·rename_i h
   rw [List.getD, List.getElem?_eq_none (by omega), Option.getD_none] at hg
   omega
end
section
theorem decR_lt (n : Nat) : n < 10 ^ (decR n).length := by
 induction n using Nat.strongRecOn with
 | _ n ih =>
  by_cases h : n = 0
  ·subst h; rw [decR_zero]; decide
  ·have := ih (n / 10) (by omega)
   rw [decR_pos (by omega), List.length_cons, Nat.pow_succ]
   omega
theorem decL_lt (n : Nat) : n < 10 ^ (decL n).length := by
 unfold decL
 split
 ·rename_i h; subst h; decide
 ·rw [List.length_reverse]; exact decR_lt n
theorem decL_div {n i : Nat} (h : (decL n).length ≤ i) : n / 10 ^ i = 0 :=
 Nat.div_eq_of_lt (Nat.lt_of_lt_of_le (decL_lt n) (Nat.pow_le_pow_right (by decide) h))
theorem div_pow_succ (n i : Nat) : n / 10 ^ i = n / 10 ^ i % 10 + 10 * (n / 10 ^ (i + 1)) := by
 rw [Nat.pow_succ, ← Nat.div_div_eq_div_mul]
 omega
end
section
theorem valD_lt {l : List Int} (h : Dg l) : valD l < 10 ^ l.length := by
 induction l with
 | nil => decide
 | cons x l ih =>
  have h1 := h x List.mem_cons_self
  have h2 := ih (fun y hy => h y (List.mem_cons_of_mem _ hy))
  rw [valD, List.length_cons, Nat.pow_succ]
  omega
theorem RSub_ok (n m : Nat) (hnm : m ≤ n) (hb : (decL n).length + (decL m).length < 1000000000) : AC Tryz.prog 159 [.val (.string (decS n)), .val (.string (decS m))] (.pure (.val (.string (decS (n - m))))) := by
 refine AC.of_body TTok Tryz.func159 rfl (enter_of Tryz.func159 (by kernel_rfl) (by kernel_rfl)) (noid2 (.val _) (.val _)) (.val _) (nbq rfl) ?_
 have z1 : (decS n).size = (decL n).length := strL_size _
 have dn : ∀ i, AC Tryz.prog 176 [.val (.string (decS n)), .val (.int .i64 (i : Nat))] (.pure (.val (.int .i64 (n / 10 ^ i % 10 : Nat)))) := fun i => by
  have := digit_ok (decL n) (decL_byt n) i (by omega)
  rwa [digE_dec] at this
 have dm : ∀ i, AC Tryz.prog 176 [.val (.string (decS m)), .val (.int .i64 (i : Nat))] (.pure (.val (.int .i64 (m / 10 ^ i % 10 : Nat)))) := fun i => by
  have := digit_ok (decL m) (decL_byt m) i (by omega)
  rwa [digE_dec] at this
 conv => whnf
 refine SW.nil 5 1 rfl ?_
 refine SW.loopM TTok (fun x : Nat × Nat × List Int => [(0, .val (.string (decS n))), (1, .val (.string (decS m))), (5, .own 32 0 x.2.2.length), (6, .val (.int .i64 x.2.1)), (7, .val (.int .i64 x.1))])
  (fun x => [(32, .cells 1 (irows .i64 x.2.2))]) 40 34 rfl (fun x => (decL n).length - x.1)
  (fun x => x.1 ≤ (decL n).length ∧ x.2.1 ≤ 1 ∧ Dg x.2.2 ∧ x.2.2.length = x.1 ∧ valD x.2.2 + 10 ^ x.1 * (n / 10 ^ x.1) = (n - m) + 10 ^ x.1 * (m / 10 ^ x.1 + x.2.1)) (0, 0, []) [] ⟨Nat.zero_le _, Nat.zero_le _, (fun x hx => (nomatch hx)), rfl, by simp [valD]; omega⟩
  ⟨q2r, q2r, q2r, q2r, q2r, trivial⟩ ⟨q3r, trivial⟩ rfl ?_
 rintro ⟨i, c, out⟩ ⟨hi, hc, hD, hl, hv⟩
 have hi : i ≤ (decL n).length := hi
 have hc : c ≤ 1 := hc
 have hD : Dg out := hD
 have hl : out.length = i := hl
 have hv : valD out + 10 ^ i * (n / 10 ^ i) = (n - m) + 10 ^ i * (m / 10 ^ i + c) := hv
 have hle : 0 + out.length ≤ (irows .i64 out).length := by rw [irows_len]; omega
 have fin : (decL n).length ≤ i → ∃ r, AC Tryz.prog 140 [.sl 1 ((irows .i64 out).take out.length) false] (.pure r) ∧ r = .val (.string (decS (n - m))) := fun h1 => by
  refine ⟨_, ?_, rfl⟩
  have := written_ok out hD (by omega)
  have e : valD out = n - m := by
   have h2 := valD_lt hD
   rw [hl] at h2
   rw [decL_div h1, Nat.div_eq_of_lt (Nat.lt_of_le_of_lt hnm (Nat.lt_of_lt_of_le (decL_lt n) (Nat.pow_le_pow_right (by decide) h1)))] at hv
   rcases Nat.eq_zero_or_pos c with h0 | h0
   ·subst h0; omega
   ·have : 10 ^ i ≤ 10 ^ i * (0 + c) := Nat.le_mul_of_pos_right _ (by omega)
    omega
  rw [e] at this
  rw [List.take_of_length_le (by rw [irows_len]; exact Nat.le_refl _)]
  exact this
 have step : ∀ d c' : Nat, d ≤ 9 → c' ≤ 1 → d + m / 10 ^ i % 10 + c = n / 10 ^ i % 10 + 10 * c' → Dg (out ++ [(d : Int)]) ∧ valD (out ++ [(d : Int)]) + 10 ^ (i + 1) * (n / 10 ^ (i + 1)) = (n - m) + 10 ^ (i + 1) * (m / 10 ^ (i + 1) + c') := fun d c' h9 hc1 he => by
  refine ⟨?_, ?_⟩
  ·intro x hx
   rcases List.mem_append.1 hx with hx | hx
   ·exact hD x hx
   ·simp at hx; omega
  ·rw [div_pow_succ n i, div_pow_succ m i] at hv
   rw [valD_snoc, hl]
   revert hv
   generalize n / 10 ^ (i + 1) = a
   generalize m / 10 ^ (i + 1) = b
   rw [Nat.pow_succ, Nat.mul_assoc, Nat.mul_assoc]
   generalize n / 10 ^ i % 10 = u at *
   generalize m / 10 ^ i % 10 = v at *
   intro hv
   have h2 : 10 ^ i * (d + v + c) = 10 ^ i * (u + 10 * c') := by rw [he]
   simp only [Nat.mul_add] at hv h2 ⊢
   omega
 conv => whnf
 refine caseb (fun h1 => ?_) (fun h1 => ?_)
 ·have h1' : (i : Int) < (decS n).size := of_decide_eq_true h1
  rw [z1] at h1'
  have ed : IntKind.i64.wrap (IntKind.i64.wrap (((n / 10 ^ i % 10 : Nat) : Int) - ((m / 10 ^ i % 10 : Nat) : Int)) - (c : Int)) = ((n / 10 ^ i % 10 : Nat) : Int) - ((m / 10 ^ i % 10 : Nat) : Int) - (c : Int) := by
   rw [IntWalk.i64_in (((n / 10 ^ i % 10 : Nat) : Int) - ((m / 10 ^ i % 10 : Nat) : Int)) (by omega), IntWalk.i64_in _ (by omega)]
  conv => whnf
  refine ⟨_, dn i, ?_⟩
  conv => whnf
  refine ⟨_, dm i, ?_⟩
  conv => whnf
  refine caseb (fun h2 => ?_) (fun h2 => ?_)
  ·have h2' : IntKind.i64.wrap (IntKind.i64.wrap (((n / 10 ^ i % 10 : Nat) : Int) - ((m / 10 ^ i % 10 : Nat) : Int)) - (c : Int)) < 0 := of_decide_eq_true h2
   rw [ed] at h2'
   obtain ⟨s1, s2⟩ := step (n / 10 ^ i % 10 + 10 - m / 10 ^ i % 10 - c) 1 (by omega) (by omega) (by omega)
   conv => whnf
   refine ⟨⟨hle, by show (out.length + 1) * 8 ≤ 140737488355328; omega, nbq rfl⟩, ?_⟩
   conv => whnf
   refine ⟨(i + 1, 1, out ++ [((n / 10 ^ i % 10 + 10 - m / 10 ^ i % 10 - c : Nat) : Int)]), [(32, 232)], (by show (decL n).length - (i + 1) < (decL n).length - i; omega), ⟨(by show i + 1 ≤ (decL n).length; omega), Nat.le_refl 1, s1, (by show (out ++ [((n / 10 ^ i % 10 + 10 - m / 10 ^ i % 10 - c : Nat) : Int)]).length = i + 1; simp [hl]), s2⟩,
    ⟨q2r, q2r, ⟨ownE rfl ?_, rfl⟩, q2r, ⟨valI ?_, rfl⟩, trivial⟩, ⟨⟨rfl, .inl ⟨celE ?_, irows_noid _ _⟩⟩, trivial⟩, rfl⟩
   ·show out.length + 1 = (out ++ [((n / 10 ^ i % 10 + 10 - m / 10 ^ i % 10 - c : Nat) : Int)]).length
    simp
   ·show IntKind.i64.wrap ((i : Int) + 1) = ((i + 1 : Nat) : Int)
    rw [IntWalk.i64_in _ (by omega)]; omega
   ·show List.take out.length (List.drop 0 (irows .i64 out)) ++ [[AV.val (.int .i64 (IntKind.i64.wrap (IntKind.i64.wrap (IntKind.i64.wrap (((n / 10 ^ i % 10 : Nat) : Int) - ((m / 10 ^ i % 10 : Nat) : Int)) - (c : Int)) + 10)))]] = _
    rw [ed, IntWalk.i64_in _ (by omega), show ((n / 10 ^ i % 10 : Nat) : Int) - ((m / 10 ^ i % 10 : Nat) : Int) - (c : Int) + 10 = ((n / 10 ^ i % 10 + 10 - m / 10 ^ i % 10 - c : Nat) : Int) by omega, List.drop_zero, List.take_of_length_le (by rw [irows_len]; exact Nat.le_refl _), ← irows_append]
    rfl
  ·have h2' : ¬ IntKind.i64.wrap (IntKind.i64.wrap (((n / 10 ^ i % 10 : Nat) : Int) - ((m / 10 ^ i % 10 : Nat) : Int)) - (c : Int)) < 0 := of_decide_eq_false h2
   rw [ed] at h2'
   obtain ⟨s1, s2⟩ := step (n / 10 ^ i % 10 - m / 10 ^ i % 10 - c) 0 (by omega) (by omega) (by omega)
   conv => whnf
   refine ⟨⟨hle, by show (out.length + 1) * 8 ≤ 140737488355328; omega, nbq rfl⟩, ?_⟩
   conv => whnf
   refine ⟨(i + 1, 0, out ++ [((n / 10 ^ i % 10 - m / 10 ^ i % 10 - c : Nat) : Int)]), [(32, 200)], (by show (decL n).length - (i + 1) < (decL n).length - i; omega), ⟨(by show i + 1 ≤ (decL n).length; omega), Nat.zero_le 1, s1, (by show (out ++ [((n / 10 ^ i % 10 - m / 10 ^ i % 10 - c : Nat) : Int)]).length = i + 1; simp [hl]), s2⟩,
    ⟨q2r, q2r, ⟨ownE rfl ?_, rfl⟩, q2r, ⟨valI ?_, rfl⟩, trivial⟩, ⟨⟨rfl, .inl ⟨celE ?_, irows_noid _ _⟩⟩, trivial⟩, rfl⟩
   ·show out.length + 1 = (out ++ [((n / 10 ^ i % 10 - m / 10 ^ i % 10 - c : Nat) : Int)]).length
    simp
   ·show IntKind.i64.wrap ((i : Int) + 1) = ((i + 1 : Nat) : Int)
    rw [IntWalk.i64_in _ (by omega)]; omega
   ·show List.take out.length (List.drop 0 (irows .i64 out)) ++ [[AV.val (.int .i64 (IntKind.i64.wrap (IntKind.i64.wrap (((n / 10 ^ i % 10 : Nat) : Int) - ((m / 10 ^ i % 10 : Nat) : Int)) - (c : Int))))]] = _
    rw [ed, show ((n / 10 ^ i % 10 : Nat) : Int) - ((m / 10 ^ i % 10 : Nat) : Int) - (c : Int) = ((n / 10 ^ i % 10 - m / 10 ^ i % 10 - c : Nat) : Int) by omega, List.drop_zero, List.take_of_length_le (by rw [irows_len]; exact Nat.le_refl _), ← irows_append]
    rfl
 ·have h1' : ¬ (i : Int) < (decS n).size := of_decide_eq_false h1
  rw [z1] at h1'
  obtain ⟨r, hr, rfl⟩ := fin (by omega)
  conv => whnf
  refine ⟨hle, _, hr, ?_⟩
  conv => whnf
  exact rfl
end
section
theorem decL_len_le {n k : Nat} (hk : 1 ≤ k) (h : n < 10 ^ k) : (decL n).length ≤ k := by
 unfold decL
 split
 ·simpa using hk
 ·rw [List.length_reverse]; exact decR_len h
end
end Go.Proofs.YtcdeiegpeiodjaaGreat

namespace NM
def valG (l : List Int) : Nat := l.foldl (fun a x => a * 1000000000 + x.toNat) 0
def Gd (l : List Int) : Prop := ∀ x ∈ l, 0 ≤ x ∧ x < 1000000000
theorem valL_take {l : List Int} {k : Nat} (h : k < l.length) : valL (l.take (k + 1)) = 10 * valL (l.take k) + (l[k] - 48).toNat := by
 rw [List.take_succ_eq_append_getElem h, valL_snoc]
end NM
namespace NM
def gstep (s : Nat × Nat × List Int) (c : Int) : Nat × Nat × List Int :=
 if (s.1 - 1) % 9 = 0 then (s.1 - 1, 0, s.2.2 ++ [((s.2.1 * 10 + (c - 48).toNat : Nat) : Int)]) else (s.1 - 1, s.2.1 * 10 + (c - 48).toNat, s.2.2)
def gat (l : List Int) (i : Nat) : Nat × Nat × List Int := (l.take i).foldl gstep (l.length, 0, [])
def grp (l : List Int) : List Int := (gat l l.length).2.2
end NM
namespace NM
def dstep (s : Nat × List Int) (g : Int) : Nat × List Int :=
 ((s.1 * 1000000000 + g.toNat) % 65536, if 0 < s.2.length ∨ 0 < (s.1 * 1000000000 + g.toNat) / 65536 then s.2 ++ [(((s.1 * 1000000000 + g.toNat) / 65536 : Nat) : Int)] else s.2)
def dat (l : List Int) (i : Nat) : Nat × List Int := (l.take i).foldl dstep (0, [])
end NM

namespace Go.Proofs.YtcdeiegpeiodjaaGreat
open Go Go.AL NM
section
end
section
theorem blen_zero : blen 0 = 0 := rfl
theorem blen_gt {n k : Nat} (h : 2 ^ k ≤ n) : k < blen n := by
 rw [blen_div h]
 have : 0 < n / 2 ^ k := Nat.div_pos h (Nat.pow_pos (by decide))
 unfold blen
 rw [if_neg (by omega)]
 omega
theorem pow32 (k : Nat) : 4294967296 ^ k = 2 ^ (32 * k) := by rw [Nat.pow_mul]
theorem limbs_blen (n : Nat) : (limbs n).length = (blen n + 31) / 32 := by
 by_cases h0 : n = 0
 ·subst h0; rw [limbs_zero, blen_zero]; rfl
 ·have h1 : blen n ≤ 32 * (limbs n).length := blen_le (by rw [← pow32]; have := val_lt (limbs_lim n); rwa [val_limbs] at this)
  have hl : 0 < (limbs n).length := by rw [limbs_pos (by omega)]; simp
  have h2 : 32 * ((limbs n).length - 1) < blen n := by
   apply blen_gt
   rw [← pow32]
   rcases Nat.lt_or_ge n (4294967296 ^ ((limbs n).length - 1)) with h | h
   ·have := limbs_len_le h; omega
   ·exact h
  omega
end
end Go.Proofs.YtcdeiegpeiodjaaGreat

namespace NM
theorem shl_step {out : List Int} {p c y : Nat} (hp : p + 1 < out.length) (hc : out[p] = (c : Int)) (hz : out[p + 1] = 0) :
  val ((out.set p ((c + y % 4294967296 : Nat) : Int)).set (p + 1) ((y / 4294967296 : Nat) : Int)) = val out + y * 4294967296 ^ p := by
 have h1 := val_set out p ((c + y % 4294967296 : Nat) : Int) (by omega)
 have h2 := val_set (out.set p ((c + y % 4294967296 : Nat) : Int)) (p + 1) ((y / 4294967296 : Nat) : Int) (by rw [List.length_set]; exact hp)
 rw [List.getElem_set_ne (by omega), hz] at h2
 rw [hc] at h1
 rw [Int.toNat_natCast] at h1 h2
 rw [Int.toNat_natCast] at h1
 have hd := Nat.mod_add_div y 4294967296
 generalize val (out.set p ((c + y % 4294967296 : Nat) : Int)) = V at *
 generalize val ((out.set p ((c + y % 4294967296 : Nat) : Int)).set (p + 1) ((y / 4294967296 : Nat) : Int)) = W at *
 rw [Nat.pow_succ] at h2
 generalize 4294967296 ^ p = B at *
 have e1 : y / 4294967296 * (B * 4294967296) = 4294967296 * (y / 4294967296) * B := by rw [Nat.mul_comm B, ← Nat.mul_assoc, Nat.mul_comm (y / 4294967296)]
 have e2 : y * B = y % 4294967296 * B + 4294967296 * (y / 4294967296) * B := by rw [← Nat.add_mul, hd]
 have e3 : (c + y % 4294967296) * B = c * B + y % 4294967296 * B := Nat.add_mul _ _ _
 simp at h2
 omega
def srl (b : Nat) : List Int → List Int
 | [] => []
 | x :: l => (((x.toNat + 4294967296 * (l.headD 0).toNat) / 2 ^ b % 4294967296 : Nat) : Int) :: srl b l
theorem srl_len (b : Nat) : ∀ l, (srl b l).length = l.length
 | [] => rfl
 | x :: l => by simp [srl, srl_len b l]
theorem srl_lim (b : Nat) : ∀ l, Lim (srl b l)
 | [] => by intro x hx; cases hx
 | x :: l => by
  intro y hy
  rcases List.mem_cons.1 hy with rfl | hy
  ·omega
  ·exact srl_lim b l y hy
theorem srl_get (b : Nat) : ∀ (l : List Int) (i : Nat) (h : i < l.length), (srl b l)[i]? = some ((((l[i]).toNat + 4294967296 * (l.getD (i + 1) 0).toNat) / 2 ^ b % 4294967296 : Nat) : Int)
 | [], i, h => absurd h (Nat.not_lt_zero _)
 | x :: l, 0, h => by
  cases l <;> rfl
 | x :: l, i + 1, h => by
  have := srl_get b l i (by simpa using h)
  simpa [srl] using this
theorem srl_val (b : Nat) (hb : b ≤ 32) : ∀ l, Lim l → val (srl b l) = val l / 2 ^ b
 | [], _ => by simp [srl, val]
 | x :: l, h => by
  obtain ⟨hx, hl⟩ := h.cons
  have ih := srl_val b hb l hl
  have hB : 4294967296 = 2 ^ b * 2 ^ (32 - b) := by rw [← Nat.pow_add, show b + (32 - b) = 32 by omega]
  have hp : 0 < 2 ^ b := Nat.pow_pos (by decide)
  have hq : 0 < 2 ^ (32 - b) := Nat.pow_pos (by decide)
  have hh : val l % 2 ^ b = (l.headD 0).toNat % 2 ^ b := by
   cases l with
   | nil => rfl
   | cons y l =>
    show (y.toNat + 4294967296 * val l) % 2 ^ b = y.toNat % 2 ^ b
    rw [hB, Nat.mul_assoc, Nat.add_mul_mod_self_left]
  show (((x.toNat + 4294967296 * (l.headD 0).toNat) / 2 ^ b % 4294967296 : Nat) : Int).toNat + 4294967296 * val (srl b l) = (x.toNat + 4294967296 * val l) / 2 ^ b
  rw [ih, Int.toNat_natCast]
  have hxB : x.toNat < 2 ^ b * 2 ^ (32 - b) := by rw [← hB]; omega
  have hxd : x.toNat / 2 ^ b < 2 ^ (32 - b) := Nat.div_lt_of_lt_mul hxB
  revert hh hxd
  generalize (l.headD 0).toNat = g
  generalize val l = V
  generalize x.toNat = X
  intro hh hxd
  rw [hB]
  generalize hP : 2 ^ b = P at *
  generalize hQ : 2 ^ (32 - b) = Q at *
  have e1 : (X + P * Q * g) / P = X / P + Q * g := by rw [Nat.mul_assoc, Nat.add_mul_div_left _ _ hp]
  have e2 : (X + P * Q * V) / P = X / P + Q * V := by rw [Nat.mul_assoc, Nat.add_mul_div_left _ _ hp]
  rw [e1, e2]
  have e3 : (X / P + Q * g) % (P * Q) = X / P + Q * (g % P) := by
   have h1 : Q * g = Q * (g % P) + P * Q * (g / P) := by
    rw [Nat.mul_comm P Q, Nat.mul_assoc, ← Nat.mul_add, Nat.mod_add_div]
   rw [h1, ← Nat.add_assoc, Nat.add_mul_mod_self_left]
   apply Nat.mod_eq_of_lt
   have h2 : g % P < P := Nat.mod_lt _ hp
   have h3 : Q * (g % P + 1) ≤ Q * P := Nat.mul_le_mul_left _ h2
   rw [Nat.mul_add, Nat.mul_one, Nat.mul_comm Q P] at h3
   omega
  rw [e3, ← hh]
  have h4 : Q * V = Q * (V % P) + P * Q * (V / P) := by
   rw [Nat.mul_comm P Q, Nat.mul_assoc, ← Nat.mul_add, Nat.mod_add_div]
  omega
end NM

namespace Go.Proofs.YtcdeiegpeiodjaaGreat
open Go Go.AL NM
section
theorem B_split {b : Nat} (hb : b ≤ 32) : 4294967296 = 2 ^ (32 - b) * 2 ^ b := by rw [← Nat.pow_add, show 32 - b + b = 32 by omega]
theorem mod_shl (x : Nat) {b : Nat} (hb : b ≤ 32) : x * 2 ^ b % 4294967296 = x % 2 ^ (32 - b) * 2 ^ b := by
 rw [B_split hb, Nat.mul_mod_mul_right]
theorem mod_shl_add (x c : Nat) {b : Nat} (hb : b ≤ 32) (hc : c < 2 ^ b) : x % 2 ^ (32 - b) * 2 ^ b + c < 4294967296 := by
 have h1 : x % 2 ^ (32 - b) + 1 ≤ 2 ^ (32 - b) := Nat.mod_lt _ (Nat.pow_pos (by decide))
 have h2 := Nat.mul_le_mul_right (2 ^ b) h1
 rw [← B_split hb, Nat.add_mul, Nat.one_mul] at h2
 omega
theorem shl_u64 {x : Int} {b : Nat} (hx : 0 ≤ x ∧ x < 4294967296) (hb : b < 32) : IntKind.u64.wrap (IntKind.u64.wrap x * 2 ^ (min (b : Int).toNat IntKind.u64.bits)) = ((x.toNat * 2 ^ b : Nat) : Int) := by
 have hy2 : x.toNat * 2 ^ b < 4294967296 * 2 ^ b := Nat.mul_lt_mul_of_pos_right (by omega) (Nat.pow_pos (by decide))
 have hb31 : 2 ^ b ≤ 2 ^ 31 := Nat.pow_le_pow_right (by decide) (by omega)
 have e0 : min (b : Int).toNat IntKind.u64.bits = b := by rw [Int.toNat_natCast]; exact Nat.min_eq_left (by show b ≤ 64; omega)
 have e1 : IntKind.u64.wrap x = (x.toNat : Int) := by rw [IntKind.wrap_u64]; omega
 rw [e0, e1, show ((x.toNat : Int) * 2 ^ b) = ((x.toNat * 2 ^ b : Nat) : Int) by rw [Int.natCast_mul, Int.natCast_pow]; rfl, IntKind.wrap_u64]
 omega
theorem or_u32 {x c b : Nat} (hb : b ≤ 32) (hc : c < 2 ^ b) : IntKind.u32.wrap ((BitVec.ofInt IntKind.u32.bits (c : Int) ||| BitVec.ofInt IntKind.u32.bits (IntKind.u32.wrap ((x * 2 ^ b : Nat) : Int))).toNat : Int) = ((c + x * 2 ^ b % 4294967296 : Nat) : Int) := by
 have h1 := mod_shl_add x c hb hc
 have e1 : IntKind.u32.wrap ((x * 2 ^ b : Nat) : Int) = ((x % 2 ^ (32 - b) * 2 ^ b : Nat) : Int) := by
  rw [IntKind.wrap_u32, ← mod_shl x hb]; omega
 rw [e1, mod_shl x hb]
 show IntKind.u32.wrap ((BitVec.ofInt 32 (c : Int) ||| BitVec.ofInt 32 ((x % 2 ^ (32 - b) * 2 ^ b : Nat) : Int)).toNat : Int) = _
 rw [or_add' 32 _ c b hc h1, IntKind.wrap_u32]
 omega
theorem shr_u64 {y : Nat} (h : y < 18446744073709551616) : IntKind.u32.wrap ((y : Int).fdiv (2 ^ (min (32 : Int).toNat IntKind.u64.bits))) = ((y / 4294967296 : Nat) : Int) := by
 show IntKind.u32.wrap ((y : Int).fdiv 4294967296) = _
 rw [Int.fdiv_eq_ediv_of_nonneg _ (by decide), IntKind.wrap_u32]
 omega
theorem Shl_ok (n : Nat) (k : Int) (hk : k < 1000000000) (hb : (limbs n).length < 1000000000) : AC Tryz.prog 162 [natA n, .val (.int .i64 k)] (.pure (natA (n * 2 ^ k.toNat))) := by
 refine AC.of_body TTok Tryz.func162 rfl (enter_of Tryz.func162 (by kernel_rfl) (by kernel_rfl)) (noid2 (natA_noid n) (.val _)) (natA_noid _) (nbq rfl) ?_
 have hva := val_limbs n
 have hLa := limbs_lim n
 have hnil := limbs_nil n
 have hz0 : k ≤ 0 → natA (n * 2 ^ k.toNat) = natA n := fun h => by rw [show k.toNat = 0 by omega]; simp
 have hz1 : limbs n = [] → natA (n * 2 ^ k.toNat) = natA n := fun h => by rw [hnil.1 h]; simp
 have hfin : ∀ l, val l = n * 2 ^ k.toNat → natA (val l) = natA (n * 2 ^ k.toNat) := fun l h => by rw [h]
 revert hz0 hz1 hfin
 generalize natA (n * 2 ^ k.toNat) = res
 unfold natA
 generalize limbs n = a at *
 subst hva
 intro hz0 hz1 hfin
 conv => whnf
 refine caseb (fun h1 => ?_) (fun h1 => ?_)
 ·have h1' : k ≤ 0 := of_decide_eq_true h1
  conv => whnf
  exact (hz0 h1').symm
 have h1' : ¬ k ≤ 0 := of_decide_eq_false h1
 conv => whnf
 refine caseb (fun h2 => ?_) (fun h2 => ?_)
 ·have h2' : ((irows .u32 a).length : Int) = 0 := of_decide_eq_true h2
  rw [irows_len] at h2'
  conv => whnf
  exact (hz1 (List.eq_nil_of_length_eq_zero (by omega))).symm
 have h2' : ¬ ((irows .u32 a).length : Int) = 0 := of_decide_eq_false h2
 rw [irows_len] at h2'
 obtain ⟨w, hw⟩ : ∃ w : Nat, w = k.toNat / 32 := ⟨_, rfl⟩
 obtain ⟨b, hbb⟩ : ∃ b : Nat, b = k.toNat % 32 := ⟨_, rfl⟩
 have ew : IntKind.i64.wrap (k.tdiv 32) = (w : Int) := by
  rw [Int.tdiv_eq_ediv_of_nonneg (by omega), IntWalk.i64_in _ (by omega)]; omega
 have eb : k.tmod 32 = (b : Int) := by
  rw [Int.tmod_eq_emod_of_nonneg (by omega)]; omega
 conv => whnf
 refine ⟨by decide, ?_⟩
 conv => whnf
 refine ⟨by decide, ?_⟩
 conv => whnf
 have e3 : IntKind.i64.wrap (IntKind.i64.wrap (((irows .u32 a).length : Int) + IntKind.i64.wrap (k.tdiv 32)) + 1) = ((a.length + w + 1 : Nat) : Int) := by
  rw [irows_len, ew, IntWalk.i64_in ((a.length : Int) + (w : Int)) (by omega), IntWalk.i64_in _ (by omega)]; omega
 refine ⟨⟨by rw [e3]; omega, by rw [e3]; omega, ?_⟩, ?_⟩
 ·rw [e3]; show ((a.length + w + 1 : Nat) : Int) * 4 ≤ _; omega
 conv => whnf
 refine SW.loopM TTok (fun x : Nat × List Int => [(4, .lp 8 0), (5, .val (.int .i64 w)), (6, .val (.int .u64 b)), (7, .own 184 0 (a.length + w + 1)), (33, .sl 1 (irows .u32 a) false), (34, .val (.int .i64 a.length)), (35, .val (.int .i64 x.1))])
  (fun x => [(8, .cells 1 [[.sl 0 [] true]]), (184, .cells 1 (irows .u32 x.2))]) 232 66 rfl (fun x => a.length - x.1)
  (fun x => x.1 ≤ a.length ∧ x.2.length = a.length + w + 1 ∧ Lim x.2 ∧ val x.2 = val (a.take x.1) * 2 ^ b * 4294967296 ^ w ∧ (∃ c : Nat, c < 2 ^ b ∧ x.2[x.1 + w]? = some (c : Int)) ∧ ∀ p, x.1 + w < p → p < x.2.length → x.2[p]? = some 0)
  (0, List.replicate (a.length + w + 1) 0) [] ⟨Nat.zero_le _, by simp, Lim.rep _, by simp [val_rep, val], ⟨0, Nat.pow_pos (by decide), by show (List.replicate (a.length + w + 1) (0 : Int))[0 + w]? = some 0; rw [Nat.zero_add, List.getElem?_replicate, if_pos (by omega)]⟩, fun p _ hp => by simp at hp; simp [hp]⟩
  ⟨q2r, ⟨valI ?_, rfl⟩, ⟨valI ?_, rfl⟩, ⟨ownE rfl ?_, rfl⟩, q2r, ⟨valI ?_, rfl⟩, q2r, trivial⟩
  ⟨q3r, ⟨rfl, .inl ⟨celE ?_, irows_noid _ _⟩⟩, trivial⟩ rfl ?_
 ·exact ew
 ·rw [eb, IntKind.wrap_u64]; omega
 ·rw [e3]; omega
 ·rw [irows_len]
 ·rw [e3, Int.toNat_natCast, ← irows_rep]; rfl
 rintro ⟨i, out⟩ hJ
 have hi : i ≤ a.length := hJ.1
 have hl : out.length = a.length + w + 1 := hJ.2.1
 have hL : Lim out := hJ.2.2.1
 have hv : val out = val (a.take i) * 2 ^ b * 4294967296 ^ w := hJ.2.2.2.1
 have hc : ∃ c : Nat, c < 2 ^ b ∧ out[i + w]? = some (c : Int) := hJ.2.2.2.2.1
 have hz : ∀ p, i + w < p → p < out.length → out[p]? = some 0 := hJ.2.2.2.2.2
 clear hJ
 obtain ⟨c, hcb, hc⟩ := hc
 conv => whnf
 refine caseb (fun h3 => ?_) (fun h3 => ?_)
 ·have h3' : (i : Int) < (a.length : Int) := of_decide_eq_true h3
  have hlt : i < a.length := by omega
  have hx := hLa a[i] (List.getElem_mem _)
  conv => whnf
  refine ⟨[.val (.int .u32 a[i])], ⟨by omega, irows_get _ _ (List.getElem?_eq_getElem (by omega))⟩, ?_⟩
  conv => whnf
  refine ⟨by omega, ?_⟩
  conv => whnf
  have ei : IntKind.i64.wrap ((i : Int) + (w : Int)) = ((i + w : Nat) : Int) := by rw [IntWalk.i64_in _ (by omega)]; omega
  have ei1 : IntKind.i64.wrap (IntKind.i64.wrap ((i : Int) + (w : Int)) + 1) = ((i + w + 1 : Nat) : Int) := by rw [ei, IntWalk.i64_in _ (by omega)]; omega
  refine ⟨⟨by rw [ei]; omega, by rw [ei]; omega⟩, ?_⟩
  conv => whnf
  refine ⟨[.val (.int .u32 c)], (by rw [ei, Nat.zero_add, Int.toNat_natCast]; exact irows_get _ _ hc), ?_⟩
  conv => whnf
  refine ⟨⟨by rw [ei]; omega, by rw [ei]; omega⟩, ?_⟩
  conv => whnf
  refine ⟨by rw [ei, irows_len]; show 0 + ((i + w : Nat) : Int).toNat < out.length; omega, ?_⟩
  conv => whnf
  refine ⟨by decide, ?_⟩
  conv => whnf
  refine ⟨⟨by rw [ei1]; omega, by rw [ei1]; omega⟩, ?_⟩
  conv => whnf
  refine ⟨by rw [ei1, List.length_set, irows_len]; show 0 + ((i + w + 1 : Nat) : Int).toNat < out.length; omega, ?_⟩
  conv => whnf
  have hy2 : a[i].toNat * 2 ^ b < 4294967296 * 2 ^ b := Nat.mul_lt_mul_of_pos_right (by omega) (Nat.pow_pos (by decide))
  have hb31 : 2 ^ b ≤ 2 ^ 31 := Nat.pow_le_pow_right (by decide) (by omega)
  obtain ⟨y, hyy⟩ : ∃ y, y = a[i].toNat * 2 ^ b := ⟨_, rfl⟩
  have ey : IntKind.u64.wrap (IntKind.u64.wrap a[i] * 2 ^ (min (b : Int).toNat IntKind.u64.bits)) = (y : Int) := by
   rw [hyy]; exact shl_u64 hx (by omega)
  have eo : IntKind.u32.wrap ((BitVec.ofInt IntKind.u32.bits (c : Int) ||| BitVec.ofInt IntKind.u32.bits (IntKind.u32.wrap (y : Int))).toNat : Int) = ((c + y % 4294967296 : Nat) : Int) := by
   rw [hyy]; exact or_u32 (by omega) hcb
  have eh : IntKind.u32.wrap ((y : Int).fdiv (2 ^ (min (32 : Int).toNat IntKind.u64.bits))) = ((y / 4294967296 : Nat) : Int) := shr_u64 (by omega)
  have hpl : i + w + 1 < out.length := by omega
  have hc' : out[i + w] = (c : Int) := by
   have := List.getElem?_eq_getElem (l := out) (i := i + w) (by omega)
   rw [hc] at this
   exact (Option.some.inj this).symm
  have hz' : out[i + w + 1] = 0 := by
   have := List.getElem?_eq_getElem hpl
   rw [hz (i + w + 1) (by omega) hpl] at this
   exact (Option.some.inj this).symm
  have hst := shl_step (y := y) hpl hc' hz'
  have hcy : c + y % 4294967296 < 4294967296 := by
   rw [hyy, mod_shl _ (show b ≤ 32 by omega)]
   have := mod_shl_add a[i].toNat c (show b ≤ 32 by omega) hcb
   omega
  have hyb : y / 4294967296 < 2 ^ b := by
   rw [Nat.div_lt_iff_lt_mul (by decide), Nat.mul_comm]
   omega
  refine ⟨(i + 1, (out.set (i + w) ((c + y % 4294967296 : Nat) : Int)).set (i + w + 1) ((y / 4294967296 : Nat) : Int)), [], (by show a.length - (i + 1) < a.length - i; omega), ⟨(by show i + 1 ≤ a.length; omega), (by simp [hl]), (hL.set ⟨by omega, by omega⟩).set ⟨by omega, by omega⟩, ?_, ⟨y / 4294967296, hyb, ?_⟩, ?_⟩,
   ⟨q2r, q2r, q2r, q2r, q2r, q2r, ⟨valI ?_, rfl⟩, trivial⟩, ⟨q3r, ⟨rfl, .inl ⟨celE ?_, irows_noid _ _⟩⟩, trivial⟩, rfl⟩
  ·show val ((out.set (i + w) ((c + y % 4294967296 : Nat) : Int)).set (i + w + 1) ((y / 4294967296 : Nat) : Int)) = val (a.take (i + 1)) * 2 ^ b * 4294967296 ^ w
   rw [hst, hv, hyy, val_take_succ hlt, Nat.add_mul, Nat.add_mul, Nat.pow_add]
   congr 1
   rw [Nat.mul_assoc, Nat.mul_assoc, Nat.mul_assoc, Nat.mul_left_comm (2 ^ b)]
  ·show ((out.set (i + w) ((c + y % 4294967296 : Nat) : Int)).set (i + w + 1) ((y / 4294967296 : Nat) : Int))[i + 1 + w]? = _
   rw [show i + 1 + w = i + w + 1 by omega, List.getElem?_set_self (by rw [List.length_set]; exact hpl)]
  ·intro p hp1 hp2
   have hp1 : i + 1 + w < p := hp1
   show ((out.set (i + w) ((c + y % 4294967296 : Nat) : Int)).set (i + w + 1) ((y / 4294967296 : Nat) : Int))[p]? = some 0
   have hp2 : p < ((out.set (i + w) ((c + y % 4294967296 : Nat) : Int)).set (i + w + 1) ((y / 4294967296 : Nat) : Int)).length := hp2
   rw [List.length_set, List.length_set] at hp2
   rw [List.getElem?_set_ne (by omega), List.getElem?_set_ne (by omega)]
   exact hz p (by omega) hp2
  ·show IntKind.i64.wrap ((i : Int) + 1) = ((i + 1 : Nat) : Int)
   rw [IntWalk.i64_in _ (by omega)]; omega
  ·rw [ei1, ei, ey, eo, eh, Nat.zero_add, Nat.zero_add, Int.toNat_natCast, Int.toNat_natCast, ← irows_set, ← irows_set]
 ·have h3' : ¬ (i : Int) < (a.length : Int) := of_decide_eq_false h3
  have hT := trim_ok out hL (by omega)
  have hlw : i = a.length := by omega
  rw [hlw, List.take_of_length_le (Nat.le_refl _)] at hv
  have hval : val out = val a * 2 ^ k.toNat := by
   rw [hv, Nat.mul_assoc, show k.toNat = b + 32 * w by omega, Nat.pow_add, Nat.pow_mul]
  have hT : AC Tryz.prog 117 [.sl 1 (List.take (a.length + w + 1) (List.drop 0 (irows .u32 out))) false] (.pure (natA (val out))) := by
   rw [List.drop_zero, List.take_of_length_le (by rw [irows_len]; omega)]
   exact hT
  conv => whnf
  refine ⟨by rw [irows_len]; show 0 + (a.length + w + 1) ≤ out.length; omega, _, hT, ?_⟩
  conv => whnf
  exact hfin _ hval
end
section
theorem or_u64 {x h : Nat} (hx : x < 4294967296) (hh : h < 4294967296) : IntKind.u64.wrap ((BitVec.ofInt IntKind.u64.bits (x : Int) ||| BitVec.ofInt IntKind.u64.bits ((h * 4294967296 : Nat) : Int)).toNat : Int) = ((x + 4294967296 * h : Nat) : Int) := by
 have h1 := or_add' 64 h x 32 (by omega) (by omega)
 rw [show (2 : Nat) ^ 32 = 4294967296 by decide] at h1
 rw [show IntKind.u64.bits = 64 from rfl, h1, IntKind.wrap_u64]
 omega
theorem shl_32 {y : Int} (hy : 0 ≤ y ∧ y < 4294967296) : IntKind.u64.wrap (IntKind.u64.wrap y * 2 ^ (min (32 : Int).toNat IntKind.u64.bits)) = ((y.toNat * 4294967296 : Nat) : Int) := by
 show IntKind.u64.wrap (IntKind.u64.wrap y * 4294967296) = _
 simp only [IntKind.wrap_u64]
 omega
theorem shr_b {y b : Nat} (hb : b < 32) : IntKind.u32.wrap ((y : Int).fdiv (2 ^ (min (b : Int).toNat IntKind.u64.bits))) = ((y / 2 ^ b % 4294967296 : Nat) : Int) := by
 have e0 : min (b : Int).toNat IntKind.u64.bits = b := by rw [Int.toNat_natCast]; exact Nat.min_eq_left (by show b ≤ 64; omega)
 rw [e0, Int.fdiv_eq_ediv_of_nonneg _ (Int.pow_nonneg (by decide)), show ((2 : Int) ^ b) = ((2 ^ b : Nat) : Int) by rw [Int.natCast_pow]; rfl, IntKind.wrap_u32, ← Int.natCast_ediv]
 omega
theorem val_drop {a : List Int} (h : Lim a) {w : Nat} (hw : w ≤ a.length) : val (a.drop w) = val a / 4294967296 ^ w := by
 have h1 := val_append (a.take w) (a.drop w)
 rw [List.take_append_drop, List.length_take, Nat.min_eq_left hw] at h1
 have h2 := val_lt (l := a.take w) (fun x hx => h x (List.mem_of_mem_take hx))
 rw [List.length_take, Nat.min_eq_left hw] at h2
 rw [h1, Nat.add_mul_div_left _ _ (Nat.pow_pos (by decide)), Nat.div_eq_of_lt h2, Nat.zero_add]
theorem set_step {q : List Int} {L i : Nat} (hq : q.length = L) (hi : i < L) {v : Int} (hv : q[i]? = some v) : (q.take i ++ List.replicate (L - i) (0 : Int)).set i v = q.take (i + 1) ++ List.replicate (L - (i + 1)) (0 : Int) := by
 have h1 : (q.take i).length = i := by rw [List.length_take]; omega
 rw [List.set_append_right _ _ (by omega), h1, Nat.sub_self, show L - i = (L - (i + 1)) + 1 by omega, List.replicate_succ, List.set_cons_zero, List.take_add_one, hv]
 simp
theorem Shr_far (n : Nat) (k : Int) (hk : k < 1000000000) (hk0 : 0 < k) (hb : (limbs n).length < 1000000000) (hf : (limbs n).length ≤ k.toNat / 32) : AC Tryz.prog 165 [natA n, .val (.int .i64 k)] (.pure (natA (n / 2 ^ k.toNat))) := by
 have e0 : n / 2 ^ k.toNat = 0 := by
  apply Nat.div_eq_of_lt
  have := val_lt (limbs_lim n)
  rw [val_limbs, pow32] at this
  exact Nat.lt_of_lt_of_le this (Nat.pow_le_pow_right (by decide) (by omega))
 rw [e0]
 refine AC.le_res (v := .agg [.sl 0 [] true]) ?_ zero_le (natA_noid _)
 refine AC.of_body TTok Tryz.func165 rfl (enter_of Tryz.func165 (by kernel_rfl) (by kernel_rfl)) (noid2 (natA_noid n) (.val _)) zero_noid (nbq rfl) ?_
 unfold natA
 obtain ⟨w, hw⟩ : ∃ w : Nat, w = k.toNat / 32 := ⟨_, rfl⟩
 have ew : IntKind.i64.wrap (k.tdiv 32) = (w : Int) := by
  rw [Int.tdiv_eq_ediv_of_nonneg (by omega), IntWalk.i64_in _ (by omega)]; omega
 conv => whnf
 refine caseb (fun h1 => ?_) (fun h1 => ?_)
 ·have h1' : k ≤ 0 := of_decide_eq_true h1
  omega
 conv => whnf
 refine ⟨by decide, ?_⟩
 conv => whnf
 refine ⟨by decide, ?_⟩
 conv => whnf
 refine caseb (fun h2 => ?_) (fun h2 => ?_)
 ·conv => whnf
  exact rfl
 ·have h2' : ¬ IntKind.i64.wrap (k.tdiv 32) ≥ ((irows .u32 (limbs n)).length : Int) := of_decide_eq_false h2
  rw [ew, irows_len] at h2'
  omega
theorem Shr_near (n : Nat) (k : Int) (hk : k < 1000000000) (hb : (limbs n).length < 1000000000) (hf : k ≤ 0 ∨ k.toNat / 32 < (limbs n).length) : AC Tryz.prog 165 [natA n, .val (.int .i64 k)] (.pure (natA (n / 2 ^ k.toNat))) := by
 refine AC.of_body TTok Tryz.func165 rfl (enter_of Tryz.func165 (by kernel_rfl) (by kernel_rfl)) (noid2 (natA_noid n) (.val _)) (natA_noid _) (nbq rfl) ?_
 have hva := val_limbs n
 have hLa := limbs_lim n
 have hz0 : k ≤ 0 → natA (n / 2 ^ k.toNat) = natA n := fun h => by rw [show k.toNat = 0 by omega, Nat.pow_zero, Nat.div_one]
 have hfin : ∀ l, val l = n / 2 ^ k.toNat → natA (val l) = natA (n / 2 ^ k.toNat) := fun l h => by rw [h]
 revert hz0 hfin
 generalize natA (n / 2 ^ k.toNat) = res
 unfold natA
 generalize limbs n = a at *
 subst hva
 intro hz0 hfin
 conv => whnf
 refine caseb (fun h1 => ?_) (fun h1 => ?_)
 ·have h1' : k ≤ 0 := of_decide_eq_true h1
  conv => whnf
  exact (hz0 h1').symm
 have h1' : ¬ k ≤ 0 := of_decide_eq_false h1
 obtain ⟨w, hw⟩ : ∃ w : Nat, w = k.toNat / 32 := ⟨_, rfl⟩
 obtain ⟨b, hbb⟩ : ∃ b : Nat, b = k.toNat % 32 := ⟨_, rfl⟩
 have ew : IntKind.i64.wrap (k.tdiv 32) = (w : Int) := by
  rw [Int.tdiv_eq_ediv_of_nonneg (by omega), IntWalk.i64_in _ (by omega)]; omega
 have eb : k.tmod 32 = (b : Int) := by
  rw [Int.tmod_eq_emod_of_nonneg (by omega)]; omega
 have hwl : w < a.length := by omega
 conv => whnf
 refine ⟨by decide, ?_⟩
 conv => whnf
 refine ⟨by decide, ?_⟩
 conv => whnf
 refine caseb (fun h2 => ?_) (fun h2 => ?_)
 ·have h2' : IntKind.i64.wrap (k.tdiv 32) ≥ ((irows .u32 a).length : Int) := of_decide_eq_true h2
  rw [ew, irows_len] at h2'
  omega
 have e3 : IntKind.i64.wrap (((irows .u32 a).length : Int) - IntKind.i64.wrap (k.tdiv 32)) = ((a.length - w : Nat) : Int) := by
  rw [irows_len, ew, IntWalk.i64_in _ (by omega)]; omega
 obtain ⟨s, hs⟩ : ∃ s, s = a.drop w := ⟨_, rfl⟩
 have hsl : s.length = a.length - w := by rw [hs, List.length_drop]
 have hsL : Lim s := by rw [hs]; exact fun x hx => hLa x (List.mem_of_mem_drop hx)
 have hsv : val (srl b s) = val a / 2 ^ k.toNat := by
  rw [srl_val b (by omega) s hsL, hs, val_drop hLa (by omega), Nat.div_div_eq_div_mul, pow32, ← Nat.pow_add, show 32 * w + b = k.toNat by omega]
 conv => whnf
 refine ⟨⟨by rw [e3]; omega, by rw [e3]; omega, ?_⟩, ?_⟩
 ·rw [e3]; show ((a.length - w : Nat) : Int) * 4 ≤ _; omega
 conv => whnf
 refine SW.loopM TTok (fun i : Nat => [(2, .lp 0 0), (4, .lp 8 0), (5, .val (.int .i64 w)), (6, .val (.int .u64 b)), (7, .own 168 0 (a.length - w)), (31, .val (.int .i64 (a.length - w : Nat))), (32, .val (.int .i64 i))])
  (fun i => [(0, .cells 1 [[.sl 1 (irows .u32 a) false]]), (8, .cells 1 [[.sl 0 [] true]]), (168, .cells 1 (irows .u32 ((srl b s).take i ++ List.replicate (a.length - w - i) 0)))]) 208 73 rfl (fun i => a.length - w - i)
  (fun i => i ≤ a.length - w) 0 [] (Nat.zero_le _)
  ⟨q2r, q2r, ⟨valI ew, rfl⟩, ⟨valI ?_, rfl⟩, ⟨ownE rfl ?_, rfl⟩, ⟨valI ?_, rfl⟩, q2r, trivial⟩
  ⟨q3r, q3r, ⟨rfl, .inl ⟨celE ?_, irows_noid _ _⟩⟩, trivial⟩ rfl ?_
 ·rw [eb, IntKind.wrap_u64]; omega
 ·rw [e3]; omega
 ·rw [e3]; omega
 ·rw [e3, Int.toNat_natCast]
  show _ = irows .u32 (List.replicate (a.length - w - 0) 0)
  rw [← irows_rep]; rfl
 intro i hi
 have hi : i ≤ a.length - w := hi
 have hol : ((srl b s).take i ++ List.replicate (a.length - w - i) (0 : Int)).length = a.length - w := by
  rw [List.length_append, List.length_take, srl_len, List.length_replicate, hsl]; omega
 obtain ⟨out, hout⟩ : ∃ out, out = (srl b s).take i ++ List.replicate (a.length - w - i) (0 : Int) := ⟨_, rfl⟩
 rw [← hout] at hol ⊢
 conv => whnf
 refine caseb (fun h3 => ?_) (fun h3 => ?_)
 ·have h3' : (i : Int) < ((a.length - w : Nat) : Int) := of_decide_eq_true h3
  have hlt : i + w < a.length := by omega
  have hx := hLa a[i + w] (List.getElem_mem _)
  have ei : IntKind.i64.wrap ((i : Int) + (w : Int)) = ((i + w : Nat) : Int) := by rw [IntWalk.i64_in _ (by omega)]; omega
  have ei1 : IntKind.i64.wrap (IntKind.i64.wrap ((i : Int) + (w : Int)) + 1) = ((i + w + 1 : Nat) : Int) := by rw [ei, IntWalk.i64_in _ (by omega)]; omega
  conv => whnf
  refine ⟨[.val (.int .u32 a[i + w])], ⟨by rw [ei]; omega, by rw [ei]; exact irows_get _ _ (List.getElem?_eq_getElem (by omega))⟩, ?_⟩
  conv => whnf
  refine caseb (fun h4 => ?_) (fun h4 => ?_)
  ·have h4' : IntKind.i64.wrap (IntKind.i64.wrap ((i : Int) + (w : Int)) + 1) < ((irows .u32 a).length : Int) := of_decide_eq_true h4
   rw [ei1, irows_len] at h4'
   have hx2 := hLa a[i + w + 1] (List.getElem_mem _)
   have hget := srl_get b s i (by omega)
   have hsi : s[i]'(by omega) = a[i + w] := by simp only [hs, List.getElem_drop, Nat.add_comm w i]
   have hsi1 : s.getD (i + 1) 0 = a[i + w + 1] := by
    rw [List.getD, List.getElem?_eq_getElem (by omega), Option.getD_some]
    simp only [hs, List.getElem_drop]
    congr 1; omega
   rw [hsi, hsi1] at hget
   have eor : IntKind.u64.wrap ((BitVec.ofInt IntKind.u64.bits (IntKind.u64.wrap a[i + w]) ||| BitVec.ofInt IntKind.u64.bits (IntKind.u64.wrap (IntKind.u64.wrap a[i + w + 1] * 2 ^ (min (32 : Int).toNat IntKind.u64.bits)))).toNat : Int) = ((a[i + w].toNat + 4294967296 * a[i + w + 1].toNat : Nat) : Int) := by
    rw [shl_32 hx2, show IntKind.u64.wrap a[i + w] = (a[i + w].toNat : Int) by rw [IntKind.wrap_u64]; omega]
    exact or_u64 (by omega) (by omega)
   conv => whnf
   refine ⟨[.val (.int .u32 a[i + w + 1])], ⟨by rw [ei1]; omega, by rw [ei1]; exact irows_get _ _ (List.getElem?_eq_getElem (by omega))⟩, ?_⟩
   conv => whnf
   refine ⟨by decide, ?_⟩
   conv => whnf
   refine ⟨by omega, ?_⟩
   conv => whnf
   refine ⟨⟨by omega, by omega⟩, ?_⟩
   conv => whnf
   refine ⟨by rw [irows_len]; show 0 + ((i : Nat) : Int).toNat < out.length; omega, ?_⟩
   conv => whnf
   refine ⟨i + 1, [], (by show a.length - w - (i + 1) < a.length - w - i; omega), (by show i + 1 ≤ a.length - w; omega),
    ⟨q2r, q2r, q2r, q2r, q2r, q2r, ⟨valI ?_, rfl⟩, trivial⟩, ⟨q3r, q3r, ⟨rfl, .inl ⟨celE ?_, irows_noid _ _⟩⟩, trivial⟩, rfl⟩
   ·show IntKind.i64.wrap ((i : Int) + 1) = ((i + 1 : Nat) : Int)
    rw [IntWalk.i64_in _ (by omega)]; omega
   ·rw [eor, shr_b (by omega), Nat.zero_add, Int.toNat_natCast, ← set_step (by rw [srl_len, hsl]) (by omega) hget, ← hout, irows_set]
  ·have h4' : ¬ IntKind.i64.wrap (IntKind.i64.wrap ((i : Int) + (w : Int)) + 1) < ((irows .u32 a).length : Int) := of_decide_eq_false h4
   rw [ei1, irows_len] at h4'
   have hget := srl_get b s i (by omega)
   have hsi : s[i]'(by omega) = a[i + w] := by simp only [hs, List.getElem_drop, Nat.add_comm w i]
   have hsi1 : s.getD (i + 1) 0 = 0 := by
    rw [List.getD, List.getElem?_eq_none (by omega), Option.getD_none]
   rw [hsi, hsi1] at hget
   have ex : IntKind.u64.wrap a[i + w] = ((a[i + w].toNat + 4294967296 * (0 : Int).toNat : Nat) : Int) := by rw [IntKind.wrap_u64]; omega
   conv => whnf
   refine ⟨by omega, ?_⟩
   conv => whnf
   refine ⟨⟨by omega, by omega⟩, ?_⟩
   conv => whnf
   refine ⟨by rw [irows_len]; show 0 + ((i : Nat) : Int).toNat < out.length; omega, ?_⟩
   conv => whnf
   refine ⟨i + 1, [], (by show a.length - w - (i + 1) < a.length - w - i; omega), (by show i + 1 ≤ a.length - w; omega),
    ⟨q2r, q2r, q2r, q2r, q2r, q2r, ⟨valI ?_, rfl⟩, trivial⟩, ⟨q3r, q3r, ⟨rfl, .inl ⟨celE ?_, irows_noid _ _⟩⟩, trivial⟩, rfl⟩
   ·show IntKind.i64.wrap ((i : Int) + 1) = ((i + 1 : Nat) : Int)
    rw [IntWalk.i64_in _ (by omega)]; omega
   ·rw [ex, shr_b (by omega), Nat.zero_add, Int.toNat_natCast, ← set_step (by rw [srl_len, hsl]) (by omega) hget, ← hout, irows_set]
 ·have h3' : ¬ (i : Int) < ((a.length - w : Nat) : Int) := of_decide_eq_false h3
  have hei : i = a.length - w := by omega
  have hos : out = srl b s := by
   rw [hout, hei, Nat.sub_self, List.replicate_zero, List.append_nil, List.take_of_length_le (by rw [srl_len, hsl]; exact Nat.le_refl _)]
  have hT : AC Tryz.prog 117 [.sl 1 (List.take (a.length - w) (List.drop 0 (irows .u32 out))) false] (.pure (natA (val out))) := by
   rw [List.drop_zero, List.take_of_length_le (by rw [irows_len]; omega)]
   exact trim_ok out (by rw [hos]; exact srl_lim b s) (by omega)
  conv => whnf
  refine ⟨by rw [irows_len]; show 0 + (a.length - w) ≤ out.length; omega, _, hT, ?_⟩
  conv => whnf
  exact hfin _ (by rw [hos]; exact hsv)
end
end Go.Proofs.YtcdeiegpeiodjaaGreat

namespace NM
def dval : List Int → Nat
 | [] => 0
 | x :: l => x.toNat + 10 * dval l
end NM

namespace Go.Proofs.YtcdeiegpeiodjaaGreat
open Go Go.AL NM
section
theorem Shr_ok (n : Nat) (k : Int) (hk : k < 1000000000) (hb : (limbs n).length < 1000000000) : AC Tryz.prog 165 [natA n, .val (.int .i64 k)] (.pure (natA (n / 2 ^ k.toNat))) := by
 by_cases h : k ≤ 0 ∨ k.toNat / 32 < (limbs n).length
 ·exact Shr_near n k hk hb h
 ·exact Shr_far n k hk (by omega) hb (by omega)
end
section
theorem decS_one : decS 1 = ({ data := #[49] } : ByteArray) := by unfold decS; rw [decL_one 1 (by decide)]; rfl
theorem decS_zero : decS 0 = ({ data := #[48] } : ByteArray) := by unfold decS; rw [decL_one 0 (by decide)]; rfl
theorem RDivMod_ok (n m : Nat) (hm : 0 < m) (hb : (decL n).length + (decL m).length < 100000000) : AC Tryz.prog 139 [.val (.string (decS n)), .val (.string (decS m))] (.pure (.tup [.val (.string (decS (n / m))), .val (.string (decS (n % m)))])) := by
 refine AC.of_body TTok Tryz.func139 rfl (enter_of Tryz.func139 (by kernel_rfl) (by kernel_rfl)) (noid2 (.val _) (.val _)) (.tup _ (noid2 (.val _) (.val _))) (nbq rfl) ?_
 obtain ⟨la, hla⟩ : ∃ la, la = (decL n).length := ⟨_, rfl⟩
 have z1 : (decS n).size = la := by rw [hla]; exact strL_size _
 have hne := decL_ne n
 have hdn := decL_byt n
 have hpos : 0 < la := by rw [hla]; exact List.length_pos_iff.2 hne
 rw [← hla] at hb
 have hvn := valL_decL n
 conv => whnf
 refine ⟨⟨by decide, by rw [z1]; omega, by rw [z1]; show (la : Int) * 1 ≤ _; omega⟩, ?_⟩
 conv => whnf
 refine SW.loopM TTok (fun x : Nat × List Int => [(0, .val (.string (decS n))), (1, .val (.string (decS m))), (6, .own 32 0 x.2.length), (7, .val (.string (decS (valL ((decL n).take x.1) % m)))), (8, .val (.int .i64 x.1))])
  (fun x => [(32, .cells 1 (irows .u8 x.2))]) 64 50 rfl (fun x => la - x.1)
  (fun x => x.1 ≤ la ∧ Dig x.2 ∧ x.2.length = x.1 ∧ valL x.2 = valL ((decL n).take x.1) / m) (0, []) [] ⟨Nat.zero_le _, (fun x hx => (nomatch hx)), rfl, (by show 0 = 0 / m; rw [Nat.zero_div])⟩
  ⟨q2r, q2r, ⟨ownE rfl rfl, rfl⟩, ⟨strE ?_, rfl⟩, q2r, trivial⟩ ⟨⟨rfl, .inl ⟨celE ?_, irows_noid _ _⟩⟩, trivial⟩ rfl ?_
 ·show ({ data := #[48] } : ByteArray) = decS (0 % m)
  rw [Nat.zero_mod, decS_zero]
 ·rfl
 rintro ⟨i, q⟩ hJ
 have hi : i ≤ la := hJ.1
 have hD : Dig q := hJ.2.1
 have hl : q.length = i := hJ.2.2.1
 have hv : valL q = valL ((decL n).take i) / m := hJ.2.2.2
 clear hJ
 have hle : 0 + q.length ≤ (irows .u8 q).length := by rw [irows_len]; omega
 conv => whnf
 refine caseb (fun h1 => ?_) (fun h1 => ?_)
 ·have h1' : (i : Int) < ((decS n).size : Int) := of_decide_eq_true h1
  rw [z1] at h1'
  have hlt : i < (decL n).length := by omega
  have hx := hdn (decL n)[i] (List.getElem_mem _)
  have htk := valL_take hlt
  obtain ⟨p, hp⟩ : ∃ p, p = valL ((decL n).take i) := ⟨_, rfl⟩
  obtain ⟨d, hd⟩ : ∃ d, d = ((decL n)[i] - 48).toNat := ⟨_, rfl⟩
  rw [← hp, ← hd] at htk
  rw [← hp] at hv
  obtain ⟨t, ht⟩ : ∃ t, t = 10 * (p % m) + d := ⟨_, rfl⟩
  have ei : IntKind.i64.wrap ((i : Int) + 1) = ((i + 1 : Nat) : Int) := by rw [IntWalk.i64_in _ (by omega)]; omega
  have hpm : p % m < m := Nat.mod_lt _ hm
  have ht10 : t < 10 * m := by omega
  have lr : ∀ r, r ≤ t → (decL r).length ≤ (decL m).length + 1 := fun r hr => decL_len_le (by omega) (by
   have := decL_lt m
   rw [Nat.pow_succ]
   omega)
  have ex : (decS n).extract ((i : Int)).toNat (IntKind.i64.wrap ((i : Int) + 1)).toNat = strL [(decL n)[i]] := by
   unfold decS
   rw [ei, Int.toNat_natCast, Int.toNat_natCast, strL_extract, List.take_succ_eq_append_getElem hlt, List.drop_append, List.length_take, Nat.min_eq_left (by omega), Nat.sub_self, List.drop_of_length_le (by rw [List.length_take]; omega)]
   rfl
  have hTr : AC Tryz.prog 121 [.val (.string (decS (valL ((decL n).take i) % m) ++ (decS n).extract ((i : Int)).toNat (IntKind.i64.wrap ((i : Int) + 1)).toNat))] (.pure (.val (.string (decS t)))) := by
   rw [← hp, ex]
   unfold decS
   rw [strL_append]
   have h1 := Trim_ok (decL (p % m) ++ [(decL n)[i]]) (fun x hx => by
    rcases List.mem_append.1 hx with hx | hx
    ·exact decL_byt _ x hx
    ·simp at hx; subst hx; exact hdn _ (List.getElem_mem _)) (by simp) (by
     have := lr (p % m) (by omega)
     simp; omega)
   rw [valL_snoc, valL_decL, ← hd, ← ht] at h1
   exact h1
  have sz1 : (decS (valL ((decL n).take i) % m)).size ≤ (decL m).length + 1 := by
   rw [← hp]; unfold decS; rw [strL_size]; exact lr _ (by omega)
  have sz2 : ((decS n).extract ((i : Int)).toNat (IntKind.i64.wrap ((i : Int) + 1)).toNat).size = 1 := by rw [ex, strL_size]; rfl
  conv => whnf
  refine ⟨⟨by omega, by rw [ei]; omega, by rw [ei, z1]; omega⟩, ?_⟩
  conv => whnf
  refine ⟨by show (decS (valL ((decL n).take i) % m)).size + ((decS n).extract ((i : Int)).toNat (IntKind.i64.wrap ((i : Int) + 1)).toNat).size ≤ _; omega, ?_⟩
  conv => whnf
  refine ⟨_, hTr, ?_⟩
  conv => whnf
  refine SW.loopM TTok (fun x : Nat × Nat => [(0, .val (.string (decS n))), (1, .val (.string (decS m))), (6, .own 32 0 q.length), (7, .val (.string (decS x.2))), (8, .val (.int .i64 i)), (9, .val (.int .i64 x.1))])
   (fun x => [(32, .cells 1 (irows .u8 q))]) 176 50 rfl (fun x => x.2) (fun x => x.2 + x.1 * m = t) (0, t) [] (by show t + 0 * m = t; omega)
   ⟨q2r, q2r, q2r, q2r, q2r, q2r, trivial⟩ ⟨⟨rfl, .inl ⟨rfl, irows_noid _ _⟩⟩, trivial⟩ rfl ?_
  rintro ⟨c, r⟩ hJ
  have hcr : r + c * m = t := hJ
  clear hJ
  have hrt : r ≤ t := by omega
  have hc10 : c < 10 := by
   rcases Nat.lt_or_ge c 10 with h | h
   ·exact h
   ·have : 10 * m ≤ c * m := Nat.mul_le_mul_right _ h
    omega
  have hlr := lr r hrt
  conv => whnf
  refine ⟨_, RCmp_ok r m, ?_⟩
  conv => whnf
  refine caseb (fun h2 => ?ca) (fun h2 => ?cq)
  case' ca =>
   have h2' : cmpN r m ≥ 0 := of_decide_eq_true h2
   have hmr : m ≤ r := by
    rcases Nat.lt_or_ge r m with h | h
    ·rw [cmpN_lt h] at h2'; omega
    ·exact h
   conv => whnf
   refine caseb (fun h3 => ?cb) (fun h3 => ?cd)
  case cd =>
   have h3' : ¬ (c : Int) < 10 := of_decide_eq_false h3
   omega
  case cb =>
   conv => whnf
   refine ⟨_, RSub_ok r m hmr (by omega), ?_⟩
   conv => whnf
   refine ⟨(c + 1, r - m), [], (by show r - m < r; omega), (by show r - m + (c + 1) * m = t; rw [Nat.add_mul]; omega), ⟨q2r, q2r, q2r, q2r, q2r, ⟨valI ?_, rfl⟩, trivial⟩, ⟨⟨rfl, .inl ⟨rfl, irows_noid _ _⟩⟩, trivial⟩, rfl⟩
   show IntKind.i64.wrap ((c : Int) + 1) = ((c + 1 : Nat) : Int)
   rw [IntWalk.i64_in _ (by omega)]; omega
  case cq =>
   have h2' : ¬ cmpN r m ≥ 0 := of_decide_eq_false h2
   have hrm : r < m := by
    rcases Nat.lt_or_ge r m with h | h
    ·exact h
    ·exfalso
     apply h2'
     unfold cmpN
     rw [if_neg (by omega)]
     split <;> decide
   have htq : t / m = c := by
    rw [← hcr, Nat.add_mul_div_right _ _ hm, Nat.div_eq_of_lt hrm, Nat.zero_add]
   have htr : t % m = r := by
    rw [← hcr, Nat.add_mul_mod_self_right, Nat.mod_eq_of_lt hrm]
   have hP : 10 * p + d = t + 10 * (p / m) * m := by
    have := Nat.mod_add_div p m
    have h5 : 10 * (p / m) * m = 10 * (m * (p / m)) := by rw [Nat.mul_assoc, Nat.mul_comm (p / m)]
    omega
   have hPq : (10 * p + d) / m = 10 * (p / m) + c := by
    rw [hP, Nat.add_mul_div_right _ _ hm, htq]; omega
   have hPr : (10 * p + d) % m = r := by
    rw [hP, Nat.add_mul_mod_self_right, htr]
   conv => whnf
   refine ⟨⟨hle, by show (q.length + 1) * 1 ≤ 140737488355328; omega, nbq rfl⟩, ?_⟩
   conv => whnf
   refine ⟨(i + 1, q ++ [((48 + c : Nat) : Int)]), [(32, 280)], (by show la - (i + 1) < la - i; omega), ⟨(by show i + 1 ≤ la; omega), ?_, (by show (q ++ [_]).length = i + 1; simp [hl]), ?_⟩,
    ⟨q2r, q2r, ⟨ownE rfl ?_, rfl⟩, ⟨strE ?_, rfl⟩, ⟨valI ei, rfl⟩, trivial⟩, ⟨⟨rfl, .inl ⟨celE ?_, irows_noid _ _⟩⟩, trivial⟩, rfl⟩
   ·intro x hx
    rcases List.mem_append.1 hx with hx | hx
    ·exact hD x hx
    ·simp at hx; omega
   ·show valL (q ++ [((48 + c : Nat) : Int)]) = valL ((decL n).take (i + 1)) / m
    rw [htk, hPq, valL_snoc, hv]
    omega
   ·show q.length + 1 = (q ++ [_]).length
    simp
   ·show decS r = decS (valL ((decL n).take (i + 1)) % m)
    rw [htk, hPr]
   ·show List.take q.length (List.drop 0 (irows .u8 q)) ++ [[AV.val (.int .u8 (IntKind.u8.wrap (IntKind.i64.wrap (48 + (c : Int)))))]] = _
    have e : IntKind.u8.wrap (IntKind.i64.wrap (48 + (c : Int))) = ((48 + c : Nat) : Int) := by
     rw [IntWalk.i64_in _ (by omega), IntKind.wrap_u8]; omega
    rw [e, List.drop_zero, List.take_of_length_le (by rw [irows_len]; exact Nat.le_refl _), ← irows_append]
    rfl
 ·have h1' : ¬ (i : Int) < ((decS n).size : Int) := of_decide_eq_false h1
  rw [z1] at h1'
  have hil : i = la := by omega
  have htk : (decL n).take i = decL n := List.take_of_length_le (by omega)
  rw [htk, hvn] at hv
  have hqne : q ≠ [] := fun e => by rw [e] at hl; simp at hl; omega
  have hTr := Trim_ok q hD hqne (by omega)
  rw [hv] at hTr
  conv => whnf
  refine ⟨q, ⟨hle, ?_⟩, ?_⟩
  ·show List.take q.length (irows .u8 q) = irows .u8 q
   rw [List.take_of_length_le (by rw [irows_len]; exact Nat.le_refl _)]
  conv => whnf
  refine ⟨_, hTr, ?_⟩
  conv => whnf
  refine tup2 rfl (strE ?_)
  show decS (valL ((decL n).take i) % m) = _
  rw [htk, hvn]
end
section
theorem decL_inj {n m : Nat} (h : decL n = decL m) : n = m := by rw [← valL_decL n, ← valL_decL m, h]
theorem isd (n d : Nat) (hd : d < 10) : ((decS n).toList == (strL [((48 + d : Nat) : Int)]).toList) = decide (n = d) := by
 rw [decS_is n _ (by intro x hx; simp at hx; omega)]
 by_cases h : n = d
 ·subst h
  rw [decide_eq_true rfl, decide_eq_true (decL_one n hd)]
 ·rw [decide_eq_false h, decide_eq_false (fun e => h (decL_inj (e.trans (decL_one d hd).symm)))]
theorem is0 (n : Nat) : ((decS n).toList == ({ data := #[48] } : ByteArray).toList) = decide (n = 0) := isd n 0 (by decide)
theorem is1 (n : Nat) : ((decS n).toList == ({ data := #[49] } : ByteArray).toList) = decide (n = 1) := isd n 1 (by decide)
theorem limbs_mul (x y : Nat) : (limbs (x * y)).length ≤ (limbs x).length + (limbs y).length := by
 apply limbs_len_le
 have h1 := val_lt (limbs_lim x)
 have h2 := val_lt (limbs_lim y)
 rw [val_limbs] at h1 h2
 rw [Nat.pow_add]
 exact Nat.mul_lt_mul'' h1 h2
theorem decL_limbs (n : Nat) : (decL n).length ≤ 10 * (limbs n).length + 1 := by
 have := decR_limbs n
 unfold decL
 split
 ·simp
 ·rw [List.length_reverse]; omega
theorem limbs_pow_le {a i k : Nat} (ha : 0 < a) (h : i ≤ k) : (limbs (a ^ i)).length ≤ (limbs (a ^ k)).length := limbs_len_mono (Nat.pow_le_pow_right ha h)
theorem limbs_1 : (limbs 1).length = 1 := by rw [limbs_pos (by decide), show 1 / 4294967296 = 0 from rfl, limbs_zero]; rfl
theorem Pow_gen (a : Nat) (n most : Int) (h2 : 2 ≤ a) (hn : 0 < n) (hn63 : n < 9223372036854775808) (hm : most ≤ 200) (ha : (limbs a).length ≤ 400) (res : AV) (hno : NoId res)
  (r1 : most < ((limbs (a ^ n.toNat)).length : Int) → AV.tup [.agg [.sl 0 [] true], .val (.bool false)] = res)
  (r2 : ((limbs (a ^ n.toNat)).length : Int) ≤ most → AV.tup [natA (a ^ n.toNat), .val (.bool true)] = res) :
  AC Tryz.prog 180 [natA a, .val (.int .i64 n), .val (.int .i64 most)] (.pure res) := by
 refine AC.of_body TTok Tryz.func180 rfl (enter_of Tryz.func180 (by kernel_rfl) (by kernel_rfl)) (noid3 (natA_noid a) (.val _) (.val _)) hno (nbq rfl) ?_
 have hO := One_ok a
 have hZ := Zero_ok a
 rw [decide_eq_false (by omega)] at hO hZ
 have hM : ∀ i : Nat, (limbs (a ^ i)).length ≤ 200 → AC Tryz.prog 97 [natA (a ^ i), natA a] (.pure (natA (a ^ (i + 1)))) := fun i hi => by
  rw [Nat.pow_succ]; exact Mul_ok _ _ (by omega)
 have hmono : ∀ i : Nat, (i : Int) ≤ n → (limbs (a ^ i)).length ≤ (limbs (a ^ n.toNat)).length := fun i hi => limbs_pow_le (by omega) (by omega)
 obtain ⟨k, hk⟩ : ∃ k : Nat, k = n.toNat := ⟨_, rfl⟩
 rw [← hk] at r1 r2 hmono
 have hOf := Of_ok 1 (by decide)
 unfold natA at hO hZ hM r2 hOf ⊢
 conv => whnf
 refine ⟨_, hOf, ?_⟩
 conv => whnf
 refine caseb (fun h3 => ?_) (fun h3 => ?_)
 ·have h3' : n ≤ 0 := of_decide_eq_true h3
  omega
 conv => whnf
 refine ⟨_, hO, ?_⟩
 conv => whnf
 refine ⟨_, hZ, ?_⟩
 conv => whnf
 refine SW.loopM TTok (fun i : Nat => [(2, .val (.int .i64 most)), (3, .lp 0 0), (6, .lp 8 0), (8, .lp 32 0), (20, .val (.int .i64 n)), (21, .val (.int .i64 i))])
  (fun i => [(0, .cells 1 [[.sl 1 (irows .u32 (limbs a)) false]]), (8, .cells 1 [[.sl 0 [] true]]), (32, .cells 1 [[.sl 1 (irows .u32 (limbs (a ^ i))) false]])]) 128 33 rfl (fun i => k - i)
  (fun i => i ≤ k ∧ (i = 0 ∨ ((limbs (a ^ i)).length : Int) ≤ most)) 0 [] ⟨Nat.zero_le _, .inl rfl⟩
  ⟨q2r, q2r, q2r, q2r, q2r, q2r, trivial⟩ ⟨q3r, q3r, ⟨rfl, .inr ⟨?_, rfl⟩⟩, trivial⟩ rfl ?_
 ·show some (LB.cells 1 [[.sl 1 (irows .u32 (limbs 1)) false]]) = some (LB.cells 1 [[.sl 1 (irows .u32 (limbs (a ^ 0))) false]])
  rw [Nat.pow_zero]
 intro i hJ
 have hi : i ≤ k := hJ.1
 have hl : i = 0 ∨ ((limbs (a ^ i)).length : Int) ≤ most := hJ.2
 clear hJ
 have hl12 : (limbs (a ^ i)).length ≤ 200 := by
  rcases hl with hl | hl
  ·subst hl; rw [Nat.pow_zero, limbs_1]; omega
  ·omega
 conv => whnf
 refine caseb (fun h4 => ?_) (fun h4 => ?_)
 ·have h4' : (i : Int) < n := of_decide_eq_true h4
  conv => whnf
  refine ⟨_, hM i hl12, ?_⟩
  conv => whnf
  refine ⟨_, Limbs_ok (a ^ (i + 1)), ?_⟩
  conv => whnf
  refine caseb (fun h5 => ?_) (fun h5 => ?_)
  ·have h5' : ((limbs (a ^ (i + 1))).length : Int) > most := of_decide_eq_true h5
   have := hmono (i + 1) (by omega)
   conv => whnf
   exact r1 (by omega)
  ·have h5' : ¬ ((limbs (a ^ (i + 1))).length : Int) > most := of_decide_eq_false h5
   conv => whnf
   refine ⟨i + 1, [], (by show k - (i + 1) < k - i; omega), ⟨(by show i + 1 ≤ k; omega), .inr (by show ((limbs (a ^ (i + 1))).length : Int) ≤ most; omega)⟩, ⟨q2r, q2r, q2r, q2r, q2r, ⟨valI ?_, rfl⟩, trivial⟩, ⟨q3r, q3r, q3r, trivial⟩, rfl⟩
   show IntKind.i64.wrap ((i : Int) + 1) = ((i + 1 : Nat) : Int)
   rw [IntWalk.i64_in _ (by omega)]; omega
 ·have h4' : ¬ (i : Int) < n := of_decide_eq_false h4
  have hik : i = k := by omega
  conv => whnf
  rw [hik] at hl
  refine Eq.trans ?_ (r2 (hl.resolve_left (by omega)))
  show AV.tup [.agg [.sl 1 (irows .u32 (limbs (a ^ i))) false], .val (.bool true)] = _
  rw [hik]
theorem Pow_one (a : Nat) (n most : Int) (h : n ≤ 0 ∨ a = 1) : AC Tryz.prog 180 [natA a, .val (.int .i64 n), .val (.int .i64 most)] (.pure (.tup [natA 1, .val (.bool true)])) := by
 refine AC.of_body TTok Tryz.func180 rfl (enter_of Tryz.func180 (by kernel_rfl) (by kernel_rfl)) (noid3 (natA_noid a) (.val _) (.val _)) (.tup _ (noid2 (natA_noid _) (.val _))) (nbq rfl) ?_
 have hO := One_ok a
 have hOf := Of_ok 1 (by decide)
 unfold natA at hO hOf ⊢
 conv => whnf
 refine ⟨_, hOf, ?_⟩
 conv => whnf
 refine caseb (fun h3 => ?_) (fun h3 => ?_)
 ·conv => whnf
  exact rfl
 have h3' : ¬ n ≤ 0 := of_decide_eq_false h3
 rw [decide_eq_true (show a = 1 by omega)] at hO
 conv => whnf
 refine ⟨_, hO, ?_⟩
 conv => whnf
 exact rfl
end
section
def WI (a : Int) : AV := .agg [.sl 1 (irows .u32 (limbs a.natAbs)) false, .val (.bool (decide (a < 0)))]
def WR (a : Int) : AV := .agg [.val (.bool (decide (a < 0))), .val (.string (decS a.natAbs))]
theorem WI_noid (a : Int) : NoId (WI a) := .agg _ (noid2 (noid_sl _ _ _) (.val _))
theorem WR_noid (a : Int) : NoId (WR a) := .agg _ (noid2 (.val _) (.val _))
def sgn (s : Bool) (n : Nat) : Int := if s then -(n : Int) else n
theorem sgn_abs (s : Bool) (n : Nat) : (sgn s n).natAbs = n := by cases s <;> simp [sgn]
theorem sgn_neg (s : Bool) (n : Nat) : decide (sgn s n < 0) = (s && !decide (n = 0)) := by
 cases s
 ·simp [sgn]
 ·simp only [sgn, if_true, Bool.true_and]
  by_cases h : n = 0
  ·subst h; rfl
  ·rw [decide_eq_true (by omega), decide_eq_false h]; rfl
theorem sgn_self (a : Int) : sgn (decide (a < 0)) a.natAbs = a := by
 unfold sgn
 by_cases h : a < 0
 ·rw [decide_eq_true h, if_pos rfl]; omega
 ·rw [decide_eq_false h, if_neg (by decide)]; omega
theorem agg2 {a b c d : AV} (h1 : a = c) (h2 : b = d) : AV.agg [a, b] = AV.agg [c, d] := by rw [h1, h2]
theorem WOf_ok (s : Bool) (n : Nat) : AC Tryz.prog 96 [.val (.bool s), natA n] (.pure (WI (sgn s n))) := by
 refine AC.of_body TTok Tryz.func96 rfl (enter_of Tryz.func96 (by kernel_rfl) (by kernel_rfl)) (noid2 (.val _) (natA_noid n)) (WI_noid _) (nbq rfl) ?_
 have hz := Zero_ok n
 unfold WI
 rw [sgn_abs, sgn_neg]
 unfold natA at hz ⊢
 cases s
 ·conv => whnf
  refine ⟨by kernel_rfl, ?_⟩
  conv => whnf
  exact agg2 rfl rfl
 ·conv => whnf
  refine ⟨_, hz, ?_⟩
  conv => whnf
  refine ⟨by kernel_rfl, ?_⟩
  conv => whnf
  exact agg2 rfl rfl
theorem Minus_ok (a : Int) : AC Tryz.prog 167 [WI a] (.pure (WI (-a))) := by
 refine AC.of_body TTok Tryz.func167 rfl (enter_of Tryz.func167 (by kernel_rfl) (by kernel_rfl)) (noid1 (WI_noid a)) (WI_noid _) (nbq rfl) ?_
 have h := WOf_ok (!decide (a < 0)) a.natAbs
 have e : WI (sgn (!decide (a < 0)) a.natAbs) = WI (-a) := by
  congr 1
  unfold sgn
  by_cases h : a < 0
  ·rw [decide_eq_true h]; simp; omega
  ·rw [decide_eq_false h]; simp; omega
 rw [e] at h
 revert h
 generalize -a = na
 intro h
 unfold WI natA at *
 conv => whnf
 refine ⟨_, h, ?_⟩
 conv => whnf
 exact rfl
def digs (a : Int) (s : ByteArray) : ByteArray := if a < 0 then s ++ decS a.natAbs else decS a.natAbs
theorem NegW_ok (a : Int) : AC Tryz.prog 110 [WI a] (.pure (.val (.bool (decide (a < 0))))) := by
 refine AC.of_body TTok Tryz.func110 rfl (enter_of Tryz.func110 (by kernel_rfl) (by kernel_rfl)) (noid1 (WI_noid a)) (.val _) (nbq rfl) ?_
 conv => whnf
 exact rfl
theorem SizeW_ok (a : Int) : AC Tryz.prog 127 [WI a] (.pure (natA a.natAbs)) := by
 refine AC.of_body TTok Tryz.func127 rfl (enter_of Tryz.func127 (by kernel_rfl) (by kernel_rfl)) (noid1 (WI_noid a)) (natA_noid _) (nbq rfl) ?_
 conv => whnf
 exact rfl
def sigW (a : Int) : Int := if a = 0 then 0 else if a < 0 then -1 else 1
theorem SignW_ok (a : Int) : AC Tryz.prog 168 [WI a] (.pure (.val (.int .i64 (sigW a)))) := by
 refine AC.of_body TTok Tryz.func168 rfl (enter_of Tryz.func168 (by kernel_rfl) (by kernel_rfl)) (noid1 (WI_noid a)) (.val _) (nbq rfl) ?_
 have hz := Zero_ok a.natAbs
 unfold natA at hz
 unfold WI sigW
 by_cases h0 : a = 0
 ·rw [decide_eq_true (show a.natAbs = 0 by omega)] at hz
  rw [if_pos h0]
  conv => whnf
  refine ⟨_, hz, ?_⟩
  conv => whnf
  exact rfl
 ·rw [decide_eq_false (show ¬ a.natAbs = 0 by omega)] at hz
  rw [if_neg h0]
  by_cases h : a < 0
  ·rw [decide_eq_true h, if_pos h]
   conv => whnf
   refine ⟨_, hz, ?_⟩
   conv => whnf
   exact rfl
  ·rw [decide_eq_false h, if_neg h]
   conv => whnf
   refine ⟨_, hz, ?_⟩
   conv => whnf
   exact rfl
end
section
theorem neg64 {n : Int} (h0 : n < 0) (h1 : -9223372036854775808 ≤ n) : IntKind.u64.wrap (IntKind.u64.wrap (IntKind.i64.wrap (0 - (IntKind.i64.wrap (n + 1)))) + 1) = ((n.natAbs : Nat) : Int) := by
 rw [IntWalk.i64_in (n + 1) (by omega), IntWalk.i64_in _ (by omega)]
 simp only [IntKind.wrap_u64]
 omega
theorem pos64 {n : Int} (h0 : ¬ n < 0) (h1 : n < 9223372036854775808) : IntKind.u64.wrap n = ((n.natAbs : Nat) : Int) := by
 simp only [IntKind.wrap_u64]
 omega
theorem From_ok (n : Int) (hn : -9223372036854775808 ≤ n ∧ n < 9223372036854775808) : AC Tryz.prog 91 [.val (.int .i64 n)] (.pure (WI n)) := by
 refine AC.of_body TTok Tryz.func91 rfl (enter_of Tryz.func91 (by kernel_rfl) (by kernel_rfl)) (noid1 (.val _)) (WI_noid _) (nbq rfl) ?_
 have hO := Of_ok n.natAbs (by omega)
 unfold WI natA at *
 conv => whnf
 refine caseb (fun h1 => ?_) (fun h1 => ?_)
 ·have h1' : n < 0 := of_decide_eq_true h1
  rw [← neg64 h1' hn.1] at hO
  rw [decide_eq_true h1']
  conv => whnf
  refine ⟨_, hO, ?_⟩
  conv => whnf
  exact rfl
 ·have h1' : ¬ n < 0 := of_decide_eq_false h1
  rw [← pos64 h1' hn.2] at hO
  rw [decide_eq_false h1']
  conv => whnf
  refine ⟨_, hO, ?_⟩
  conv => whnf
  exact rfl
theorem RFrom_ok (n : Int) (hn : -9223372036854775808 ≤ n ∧ n < 9223372036854775808) : AC Tryz.prog 101 [.val (.int .i64 n)] (.pure (WR n)) := by
 refine AC.of_body TTok Tryz.func101 rfl (enter_of Tryz.func101 (by kernel_rfl) (by kernel_rfl)) (noid1 (.val _)) (WR_noid _) (nbq rfl) ?_
 have hO := ROf_ok n.natAbs (by omega)
 unfold WR at *
 conv => whnf
 refine caseb (fun h1 => ?_) (fun h1 => ?_)
 ·have h1' : n < 0 := of_decide_eq_true h1
  rw [← neg64 h1' hn.1] at hO
  rw [decide_eq_true h1']
  conv => whnf
  refine ⟨_, hO, ?_⟩
  conv => whnf
  exact rfl
 ·have h1' : ¬ n < 0 := of_decide_eq_false h1
  rw [← pos64 h1' hn.2] at hO
  rw [decide_eq_false h1']
  conv => whnf
  refine ⟨_, hO, ?_⟩
  conv => whnf
  exact rfl
def fit (a : Int) : Prop := -9223372036854775808 ≤ a ∧ a < 9223372036854775808
instance (a : Int) : Decidable (fit a) := inferInstanceAs (Decidable (_ ∧ _))
theorem IntW_ok (a : Int) : AC Tryz.prog 142 [WI a] (.pure (.tup [.val (.int .i64 (if fit a then a else 0)), .val (.bool (decide (fit a)))])) := by
 refine AC.of_body TTok Tryz.func142 rfl (enter_of Tryz.func142 (by kernel_rfl) (by kernel_rfl)) (noid1 (WI_noid a)) (.tup _ (noid2 (.val _) (.val _))) (nbq rfl) ?_
 have hU := Uint_ok a.natAbs
 by_cases h64 : a.natAbs < 18446744073709551616
 ·rw [if_pos h64, decide_eq_true h64] at hU
  obtain ⟨n, hn⟩ : ∃ n, n = a.natAbs := ⟨_, rfl⟩
  unfold WI natA at *
  rw [← hn] at hU ⊢
  conv => whnf
  refine ⟨_, hU, ?_⟩
  conv => whnf
  refine caseb (fun h1 => ?_) (fun h1 => ?_)
  ·have h1' : (n : Int) > 9223372036854775808 := of_decide_eq_true h1
   have hf : ¬ fit a := fun h => by unfold fit at h; omega
   rw [if_neg hf, decide_eq_false hf]
   conv => whnf
   exact rfl
  have h1' : ¬ (n : Int) > 9223372036854775808 := of_decide_eq_false h1
  by_cases ha : a < 0
  ·have hf : fit a := by unfold fit; omega
   rw [if_pos hf, decide_eq_true hf, decide_eq_true ha]
   have e : IntKind.i64.wrap (IntKind.i64.wrap (0 - (IntKind.i64.wrap (IntKind.u64.wrap ((n : Int) - 1)))) - 1) = a := by
    simp only [IntKind.wrap_u64]
    rw [IntWalk.i64_in (((n : Int) - 1) % 18446744073709551616) (by omega), IntWalk.i64_in (0 - (((n : Int) - 1) % 18446744073709551616)) (by omega), IntWalk.i64_in _ (by omega)]
    omega
   conv => whnf
   refine caseb (fun h2 => ?_) (fun h2 => ?_)
   ·conv => whnf
    exact tup2 (valI e) rfl
   ·conv => whnf
    exact tup2 (valI e) rfl
  ·rw [decide_eq_false ha]
   conv => whnf
   refine caseb (fun h2 => ?_) (fun h2 => ?_)
   ·have h2' : (n : Int) = 9223372036854775808 := by simpa using h2
    have hf : ¬ fit a := fun h => by unfold fit at h; omega
    rw [if_neg hf, decide_eq_false hf]
    conv => whnf
    exact rfl
   ·have h2' : ¬ (n : Int) = 9223372036854775808 := by simpa using h2
    have hf : fit a := by unfold fit; omega
    rw [if_pos hf, decide_eq_true hf]
    conv => whnf
    refine tup2 (valI ?_) rfl
    show IntKind.i64.wrap (n : Int) = a
    rw [IntWalk.i64_in _ (by omega)]; omega
 ·rw [if_neg h64, decide_eq_false h64] at hU
  have hf : ¬ fit a := fun h => by unfold fit at h; omega
  rw [if_neg hf, decide_eq_false hf]
  unfold WI natA at *
  conv => whnf
  refine ⟨_, hU, ?_⟩
  conv => whnf
  exact rfl
end
section
def cmpZ (a b : Int) : Int := if a < b then -1 else if a = b then 0 else 1
theorem cmpN_Z (n m : Nat) : cmpN n m = cmpZ n m := by
 unfold cmpN cmpZ
 repeat' split
 all_goals omega
theorem cmpZ_pp {a b : Int} (ha : ¬ a < 0) (hb : ¬ b < 0) : cmpN a.natAbs b.natAbs = cmpZ a b := by
 rw [cmpN_Z, show ((a.natAbs : Nat) : Int) = a by omega, show ((b.natAbs : Nat) : Int) = b by omega]
theorem cmpZ_nn {a b : Int} (ha : a < 0) (hb : b < 0) : cmpN b.natAbs a.natAbs = cmpZ a b := by
 unfold cmpN cmpZ
 repeat' split
 all_goals omega
theorem CmpW_ok (a b : Int) (ha : (limbs a.natAbs).length < 4000000000) (hb : (limbs b.natAbs).length < 4000000000) : AC Tryz.prog 56 [WI a, WI b] (.pure (.val (.int .i64 (cmpZ a b)))) := by
 refine AC.of_body TTok Tryz.func56 rfl (enter_of Tryz.func56 (by kernel_rfl) (by kernel_rfl)) (noid2 (WI_noid a) (WI_noid b)) (.val _) (nbq rfl) ?_
 have h1 := Cmp_ok a.natAbs b.natAbs ha hb
 have h2 := Cmp_ok b.natAbs a.natAbs hb ha
 unfold natA at h1 h2
 unfold WI
 by_cases na : a < 0
 ·by_cases nb : b < 0
  ·rw [cmpZ_nn na nb] at h2
   rw [decide_eq_true na, decide_eq_true nb]
   conv => whnf
   refine ⟨_, h2, ?_⟩
   conv => whnf
   exact rfl
  ·rw [decide_eq_true na, decide_eq_false nb, show cmpZ a b = -1 from if_pos (by omega)]
   conv => whnf
   exact rfl
 ·by_cases nb : b < 0
  ·rw [decide_eq_false na, decide_eq_true nb, show cmpZ a b = 1 by unfold cmpZ; rw [if_neg (by omega), if_neg (by omega)]]
   conv => whnf
   exact rfl
  ·rw [cmpZ_pp na nb] at h1
   rw [decide_eq_false na, decide_eq_false nb]
   conv => whnf
   refine ⟨_, h1, ?_⟩
   conv => whnf
   exact rfl
theorem sgn_add {a b : Int} (h : decide (a < 0) = decide (b < 0)) : sgn (decide (a < 0)) (a.natAbs + b.natAbs) = a + b := by
 have h' : a < 0 ↔ b < 0 := decide_eq_decide.1 h
 unfold sgn
 by_cases na : a < 0
 ·rw [decide_eq_true na, if_pos rfl]; have := h'.1 na; omega
 ·rw [decide_eq_false na, if_neg (by decide)]; have : ¬ b < 0 := fun hb => na (h'.2 hb); omega
theorem sgn_sub {a b : Int} (h : ¬ decide (a < 0) = decide (b < 0)) (hle : b.natAbs ≤ a.natAbs) : sgn (decide (a < 0)) (a.natAbs - b.natAbs) = a + b := by
 unfold sgn
 by_cases na : a < 0
 ·have nb : ¬ b < 0 := fun nb => h (by rw [decide_eq_true na, decide_eq_true nb])
  rw [decide_eq_true na, if_pos rfl]; omega
 ·have nb : b < 0 := Decidable.byContradiction fun nb => h (by rw [decide_eq_false na, decide_eq_false nb])
  rw [decide_eq_false na, if_neg (by decide)]; omega
theorem plus_ok (a b : Int) (ha : (limbs a.natAbs).length < 1000000000) (hb : (limbs b.natAbs).length < 1000000000) : AC Tryz.prog 179 [WI a, WI b] (.pure (WI (a + b))) := by
 refine AC.of_body TTok Tryz.func179 rfl (enter_of Tryz.func179 (by kernel_rfl) (by kernel_rfl)) (noid2 (WI_noid a) (WI_noid b)) (WI_noid _) (nbq rfl) ?_
 by_cases hs : decide (a < 0) = decide (b < 0)
 ·have hA := Add_ok a.natAbs b.natAbs (by omega)
  have hO := WOf_ok (decide (a < 0)) (a.natAbs + b.natAbs)
  rw [sgn_add hs] at hO
  have hself : (decide (b < 0) == decide (b < 0)) = true := beq_self_eq_true _
  revert hO
  generalize a + b = c
  intro hO
  unfold WI natA at *
  rw [hs] at *
  conv => whnf
  refine caseb (fun _ => ?_) (fun h => Bool.noConfusion (hself.symm.trans h))
  conv => whnf
  refine ⟨_, hA, ?_⟩
  conv => whnf
  refine ⟨_, hO, ?_⟩
  conv => whnf
  refine ⟨by kernel_rfl, ?_⟩
  conv => whnf
  exact rfl
 ·have hne : (decide (a < 0) == decide (b < 0)) = false := by
   cases h : (decide (a < 0) == decide (b < 0)) with
   | false => rfl
   | true => exact absurd (eq_of_beq h) hs
  rcases Nat.lt_or_ge a.natAbs b.natAbs with hlt | hge
  ·have hS1 := Sub_lt a.natAbs b.natAbs hlt (by omega) (by omega)
   have hS2 := Sub_ge b.natAbs a.natAbs (by omega) (by omega)
   have hO := WOf_ok (decide (b < 0)) (b.natAbs - a.natAbs)
   rw [sgn_sub (fun h => hs h.symm) (by omega), Int.add_comm] at hO
   revert hO
   generalize a + b = c
   intro hO
   unfold WI natA at *
   conv => whnf
   refine caseb (fun h => Bool.noConfusion (hne.symm.trans h)) (fun _ => ?_)
   conv => whnf
   refine ⟨_, hS1, ?_⟩
   conv => whnf
   refine ⟨_, hS2, ?_⟩
   conv => whnf
   refine ⟨_, hO, ?_⟩
   conv => whnf
   exact rfl
  ·have hS1 := Sub_ge a.natAbs b.natAbs hge (by omega)
   have hO := WOf_ok (decide (a < 0)) (a.natAbs - b.natAbs)
   rw [sgn_sub hs hge] at hO
   revert hO
   generalize a + b = c
   intro hO
   unfold WI natA at *
   conv => whnf
   refine caseb (fun h => Bool.noConfusion (hne.symm.trans h)) (fun _ => ?_)
   conv => whnf
   refine ⟨_, hS1, ?_⟩
   conv => whnf
   refine ⟨_, hO, ?_⟩
   conv => whnf
   exact rfl
end
section
def rowW (b : Int) : List AV := [.sl 1 (irows .u32 (limbs b.natAbs)) false, .val (.bool (decide (b < 0)))]
theorem rowW_noid (b : Int) : ∀ x ∈ rowW b, NoId x := noid2 (noid_sl _ _ _) (.val _)
theorem rowsW_noid (l : List Int) : ∀ r ∈ l.map rowW, ∀ x ∈ r, NoId x := by
 intro r hr
 obtain ⟨b, _, rfl⟩ := List.mem_map.1 hr
 exact rowW_noid b
theorem Plus_ok (a : Int) (l : List Int) (f : Nat → Int) (h0 : f 0 = a) (hf : ∀ k (h : k < l.length), f (k + 1) = f k + l[k]) (hl : l.length < 1000)
  (hb : ∀ k, k ≤ l.length → (limbs (f k).natAbs).length < 1000000000) (hbl : ∀ k (h : k < l.length), (limbs (l[k]).natAbs).length < 1000000000) :
  AC Tryz.prog 166 [WI a, .sl 2 (l.map rowW) false] (.pure (WI (f l.length))) := by
 refine AC.of_body TTok Tryz.func166 rfl (enter_of Tryz.func166 (by kernel_rfl) (by kernel_rfl)) (noid2 (WI_noid a) (.sl _ _ _ (rowsW_noid l))) (WI_noid _) (nbq rfl) ?_
 conv => whnf
 refine SW.loopM TTok (fun k : Nat => [(2, .lp 0 0), (4, .lp 8 0), (7, .sl 2 (l.map rowW) false), (8, .val (.int .i64 l.length)), (9, .val (.int .i64 k))])
  (fun k => [(0, .cells 2 [rowW (f k)]), (8, .cells 2 [[.sl 0 [] true, .val (.bool false)]])]) 40 18 rfl (fun k => l.length - k) (fun k => k ≤ l.length) 0 [] (Nat.zero_le _)
  ⟨q2r, q2r, q2r, ⟨valI (by simp), rfl⟩, q2r, trivial⟩ ⟨⟨rfl, .inl ⟨?_, ?_⟩⟩, q3r, trivial⟩ rfl ?_
 ·rw [h0]; rfl
 ·intro r hr; simp at hr; subst hr; exact rowW_noid _
 intro k hk
 have hk : k ≤ l.length := hk
 conv => whnf
 refine caseb (fun h1 => ?_) (fun h1 => ?_)
 ·have h1' : (k : Int) < (l.length : Int) := of_decide_eq_true h1
  have hlt : k < l.length := by omega
  have hP := plus_ok (f k) l[k] (hb k hk) (hbl k hlt)
  rw [← hf k hlt] at hP
  conv => whnf
  refine ⟨rowW l[k], ⟨by omega, by rw [List.getElem?_map, show ((k : Int)).toNat = k by omega, List.getElem?_eq_getElem hlt]; rfl⟩, ?_⟩
  conv => whnf
  refine ⟨_, hP, ?_⟩
  conv => whnf
  refine ⟨k + 1, [], (by show l.length - (k + 1) < l.length - k; omega), (by show k + 1 ≤ l.length; omega), ⟨q2r, q2r, q2r, q2r, ⟨valI ?_, rfl⟩, trivial⟩, ⟨⟨rfl, .inl ⟨rfl, fun r hr => by simp at hr; subst hr; exact rowW_noid _⟩⟩, q3r, trivial⟩, rfl⟩
  show IntKind.i64.wrap ((k : Int) + 1) = ((k + 1 : Nat) : Int)
  rw [IntWalk.i64_in _ (by omega)]; omega
 ·have h1' : ¬ (k : Int) < (l.length : Int) := of_decide_eq_false h1
  have hkl : k = l.length := by omega
  conv => whnf
  show WI (f k) = _
  rw [hkl]
theorem sgn_mul (a b : Int) : sgn (!(decide (a < 0) == decide (b < 0))) (a.natAbs * b.natAbs) = a * b := by
 have h : ∀ x : Int, x = sgn (decide (x < 0)) x.natAbs := fun x => (sgn_self x).symm
 rw [h a, h b, sgn_abs, sgn_abs]
 generalize a.natAbs = n
 generalize b.natAbs = m
 cases decide (a < 0) <;> cases decide (b < 0)
 all_goals
  rw [sgn_neg, sgn_neg]
  by_cases h1 : n = 0
  ·subst h1; simp [sgn]
  ·by_cases h2 : m = 0
   ·subst h2; simp [sgn]
   ·simp [sgn, h1, h2, Int.neg_mul, Int.mul_neg]
theorem Times_ok (a : Int) (l : List Int) (f : Nat → Int) (h0 : f 0 = a) (hf : ∀ k (h : k < l.length), f (k + 1) = f k * l[k]) (hl : l.length < 1000)
  (hb : ∀ k, k ≤ l.length → (limbs (f k).natAbs).length < 1000000000) (hbl : ∀ k (h : k < l.length), (limbs (l[k]).natAbs).length < 1000000000) :
  AC Tryz.prog 54 [WI a, .sl 2 (l.map rowW) false] (.pure (WI (f l.length))) := by
 refine AC.of_body TTok Tryz.func54 rfl (enter_of Tryz.func54 (by kernel_rfl) (by kernel_rfl)) (noid2 (WI_noid a) (.sl _ _ _ (rowsW_noid l))) (WI_noid _) (nbq rfl) ?_
 conv => whnf
 refine SW.loopM TTok (fun k : Nat => [(2, .lp 0 0), (4, .lp 8 0), (7, .sl 2 (l.map rowW) false), (8, .val (.int .i64 l.length)), (9, .val (.int .i64 k))])
  (fun k => [(0, .cells 2 [rowW (f k)]), (8, .cells 2 [[.sl 0 [] true, .val (.bool false)]])]) 40 26 rfl (fun k => l.length - k) (fun k => k ≤ l.length) 0 [] (Nat.zero_le _)
  ⟨q2r, q2r, q2r, ⟨valI (by simp), rfl⟩, q2r, trivial⟩ ⟨⟨rfl, .inl ⟨?_, ?_⟩⟩, q3r, trivial⟩ rfl ?_
 ·rw [h0]; rfl
 ·intro r hr; simp at hr; subst hr; exact rowW_noid _
 intro k hk
 have hk : k ≤ l.length := hk
 conv => whnf
 refine caseb (fun h1 => ?_) (fun h1 => ?_)
 ·have h1' : (k : Int) < (l.length : Int) := of_decide_eq_true h1
  have hlt : k < l.length := by omega
  have hM := Mul_ok (f k).natAbs (l[k]).natAbs (by have := hb k hk; have := hbl k hlt; omega)
  have hP := WOf_ok (!(decide (f k < 0) == decide (l[k] < 0))) ((f k).natAbs * (l[k]).natAbs)
  rw [sgn_mul, ← hf k hlt] at hP
  unfold natA at hM hP
  conv => whnf
  refine ⟨rowW l[k], ⟨by omega, by rw [List.getElem?_map, show ((k : Int)).toNat = k by omega, List.getElem?_eq_getElem hlt]; rfl⟩, ?_⟩
  conv => whnf
  refine ⟨_, hM, ?_⟩
  conv => whnf
  refine ⟨_, hP, ?_⟩
  conv => whnf
  refine ⟨by kernel_rfl, ?_⟩
  conv => whnf
  refine ⟨k + 1, [], (by show l.length - (k + 1) < l.length - k; omega), (by show k + 1 ≤ l.length; omega), ⟨q2r, q2r, q2r, q2r, ⟨valI ?_, rfl⟩, trivial⟩, ⟨⟨rfl, .inl ⟨rfl, fun r hr => by simp at hr; subst hr; exact rowW_noid _⟩⟩, q3r, trivial⟩, rfl⟩
  show IntKind.i64.wrap ((k : Int) + 1) = ((k + 1 : Nat) : Int)
  rw [IntWalk.i64_in _ (by omega)]; omega
 ·have h1' : ¬ (k : Int) < (l.length : Int) := of_decide_eq_false h1
  have hkl : k = l.length := by omega
  conv => whnf
  show WI (f k) = _
  rw [hkl]
end
section
def flS (a b : Int) : Bool := decide (decide (a < 0) = decide (b < 0) ∨ a.natAbs % b.natAbs = 0)
def flQ (a b : Int) : Int := if flS a b then sgn (!(decide (a < 0) == decide (b < 0))) (a.natAbs / b.natAbs) else sgn true (a.natAbs / b.natAbs + 1)
def flR (a b : Int) : Int := if flS a b then sgn (decide (b < 0)) (a.natAbs % b.natAbs) else sgn (decide (b < 0)) (b.natAbs - a.natAbs % b.natAbs)
theorem Floor_ok (a b : Int) (hb0 : b ≠ 0) (ha : (limbs a.natAbs).length < 1000000000) (hb : (limbs b.natAbs).length < 1000000000)
  (hDM : AC Tryz.prog 128 [natA a.natAbs, natA b.natAbs] (.pure (.tup [natA (a.natAbs / b.natAbs), natA (a.natAbs % b.natAbs), .val (.bool true)]))) :
  AC Tryz.prog 175 [WI a, WI b] (.pure (.tup [WI (flQ a b), WI (flR a b), .val (.bool true)])) := by
 refine AC.of_body TTok Tryz.func175 rfl (enter_of Tryz.func175 (by kernel_rfl) (by kernel_rfl)) (noid2 (WI_noid a) (WI_noid b)) (.tup _ (noid3 (WI_noid _) (WI_noid _) (.val _))) (nbq rfl) ?_
 have hz := Zero_ok (a.natAbs % b.natAbs)
 have hq := limbs_len_mono (Nat.div_le_self a.natAbs b.natAbs)
 have hrb : a.natAbs % b.natAbs < b.natAbs := Nat.mod_lt _ (by omega)
 have hS := Sub_ge b.natAbs (a.natAbs % b.natAbs) (by omega) (by omega)
 have hO1 := WOf_ok (!(decide (a < 0) == decide (b < 0))) (a.natAbs / b.natAbs)
 have hO2 := WOf_ok (decide (b < 0)) (a.natAbs % b.natAbs)
 have hO3 := WOf_ok true (a.natAbs / b.natAbs + 1)
 have hO4 := WOf_ok (decide (b < 0)) (b.natAbs - a.natAbs % b.natAbs)
 have l1 : (limbs 1).length = 1 := by rw [limbs_pos (by decide), show 1 / 4294967296 = 0 from rfl, limbs_zero]; rfl
 have h1 := Of_ok 1 (by decide)
 have hA := Add_ok (a.natAbs / b.natAbs) 1 (by omega)
 unfold flQ flR
 cases hs : flS a b with
 | true =>
  have hs' : decide (a < 0) = decide (b < 0) ∨ a.natAbs % b.natAbs = 0 := of_decide_eq_true hs
  rw [if_pos rfl, if_pos rfl]
  revert hO1 hO2
  generalize sgn (!(decide (a < 0) == decide (b < 0))) (a.natAbs / b.natAbs) = q
  generalize sgn (decide (b < 0)) (a.natAbs % b.natAbs) = r
  intro hO1 hO2
  clear hO3 hO4 hA hS
  revert hDM hz hO1 hO2 hs'
  generalize a.natAbs / b.natAbs = x
  generalize a.natAbs % b.natAbs = y
  intro hDM hz hs' hO1 hO2
  unfold WI natA at *
  conv => whnf
  refine ⟨_, hDM, ?_⟩
  conv => whnf
  refine caseb (fun h3 => ?ca) (fun h3 => ?cb)
  case' cb =>
   have h3' : ¬ decide (a < 0) = decide (b < 0) := fun h => by rw [h] at h3; rw [beq_self_eq_true] at h3; cases h3
   rw [decide_eq_true (hs'.resolve_left h3')] at hz
   conv => whnf
   refine ⟨_, hz, ?_⟩
  all_goals
   conv => whnf
   refine ⟨_, hO1, ?_⟩
   conv => whnf
   refine ⟨_, hO2, ?_⟩
   conv => whnf
   refine ⟨by kernel_rfl, ?_⟩
   conv => whnf
   exact rfl
 | false =>
  have hs' : ¬ (decide (a < 0) = decide (b < 0) ∨ a.natAbs % b.natAbs = 0) := of_decide_eq_false hs
  have hne : (decide (a < 0) == decide (b < 0)) = false := by
   cases h : (decide (a < 0) == decide (b < 0)) with
   | false => rfl
   | true => exact absurd (.inl (eq_of_beq h)) hs'
  rw [decide_eq_false (fun h => hs' (.inr h))] at hz
  rw [if_neg (by decide), if_neg (by decide)]
  revert hO3 hO4
  generalize sgn true (a.natAbs / b.natAbs + 1) = q
  generalize sgn (decide (b < 0)) (b.natAbs - a.natAbs % b.natAbs) = r
  intro hO3 hO4
  clear hO1 hO2 hs hs' hq hrb
  revert hDM hz hO3 hO4 hA hS
  generalize a.natAbs / b.natAbs + 1 = x1
  generalize a.natAbs / b.natAbs = x
  generalize b.natAbs - a.natAbs % b.natAbs = y1
  generalize a.natAbs % b.natAbs = y
  intro hDM hz hS hA hO3 hO4
  unfold WI natA at *
  conv => whnf
  refine ⟨_, hDM, ?_⟩
  conv => whnf
  refine caseb (fun h => Bool.noConfusion (hne.symm.trans h)) (fun _ => ?_)
  conv => whnf
  refine ⟨_, hz, ?_⟩
  conv => whnf
  refine ⟨_, hS, ?_⟩
  conv => whnf
  refine ⟨_, h1, ?_⟩
  conv => whnf
  refine ⟨_, hA, ?_⟩
  conv => whnf
  refine ⟨_, hO3, ?_⟩
  conv => whnf
  refine ⟨_, hO4, ?_⟩
  conv => whnf
  refine ⟨by kernel_rfl, ?_⟩
  conv => whnf
  exact rfl
def parseW (l : List Int) : Option Int :=
 match l with
 | [] => none
 | x :: r => if x = 45 then (if right r = true then some (sgn true (valL r)) else none) else (if right (x :: r) = true then some (sgn false (valL (x :: r))) else none)
end
section
end
section
theorem Plus1 (a b : Int) (ha : (limbs a.natAbs).length < 100000) (hb : (limbs b.natAbs).length < 100000) (hs : (limbs (a + b).natAbs).length < 100000) : AC Tryz.prog 166 [WI a, .sl 2 [rowW b] false] (.pure (WI (a + b))) :=
 Plus_ok a [b] (fun k => if k = 0 then a else a + b) rfl (fun k h => by
  have hk : k = 0 := by simp at h; omega
  subst hk; rfl) (by simp) (fun k hk => by
  show (limbs (if k = 0 then a else a + b).natAbs).length < _
  split <;> omega) (fun k h => by
  have hk : k = 0 := by simp at h; omega
  subst hk
  show (limbs b.natAbs).length < _
  omega)
theorem limbs_abs_add (a b : Int) : (limbs (a + b).natAbs).length ≤ (limbs a.natAbs).length + (limbs b.natAbs).length + 1 := by
 apply limbs_len_le
 have h1 := val_lt (limbs_lim a.natAbs)
 have h2 := val_lt (limbs_lim b.natAbs)
 rw [val_limbs] at h1 h2
 have h3 : (a + b).natAbs ≤ a.natAbs + b.natAbs := by omega
 have h4 : 4294967296 ^ (limbs a.natAbs).length ≤ 4294967296 ^ ((limbs a.natAbs).length + (limbs b.natAbs).length) := Nat.pow_le_pow_right (by decide) (by omega)
 have h5 : 4294967296 ^ (limbs b.natAbs).length ≤ 4294967296 ^ ((limbs a.natAbs).length + (limbs b.natAbs).length) := Nat.pow_le_pow_right (by decide) (by omega)
 rw [Nat.pow_succ]
 omega
theorem Times1 (a b : Int) (ha : (limbs a.natAbs).length < 100000) (hb : (limbs b.natAbs).length < 100000) (hs : (limbs (a * b).natAbs).length < 100000) : AC Tryz.prog 54 [WI a, .sl 2 [rowW b] false] (.pure (WI (a * b))) :=
 Times_ok a [b] (fun k => if k = 0 then a else a * b) rfl (fun k h => by
  have hk : k = 0 := by simp at h; omega
  subst hk; rfl) (by simp) (fun k hk => by
  show (limbs (if k = 0 then a else a * b).natAbs).length < _
  split <;> omega) (fun k h => by
  have hk : k = 0 := by simp at h; omega
  subst hk
  show (limbs b.natAbs).length < _
  omega)
theorem limbs_abs_mul (a b : Int) : (limbs (a * b).natAbs).length ≤ (limbs a.natAbs).length + (limbs b.natAbs).length := by
 rw [Int.natAbs_mul]
 exact limbs_mul a.natAbs b.natAbs
end
end Go.Proofs.YtcdeiegpeiodjaaGreat

namespace NM
theorem guess_dec {W V T S K num third vlow wlow g r : Nat} (hV : V = (T * 4294967296 + S) * K + vlow) (hW : W = (num * 4294967296 + third) * K + wlow) (hw : wlow < K)
  (hn : num = g * T + r) (ht : r * 4294967296 + third < g * S) : W < g * V := by
 have h1 : num * 4294967296 + third + 1 ≤ g * (T * 4294967296 + S) := by
  rw [hn, Nat.mul_add, ← Nat.mul_assoc, Nat.add_mul]
  omega
 have h2 := Nat.mul_le_mul_right K h1
 rw [Nat.add_mul, Nat.one_mul] at h2
 rw [hW, hV, Nat.mul_add g, ← Nat.mul_assoc]
 omega
theorem guess_big {W V g : Nat} (h : W < 4294967296 * V) (hg : 4294967296 ≤ g) : W < g * V := Nat.lt_of_lt_of_le h (Nat.mul_le_mul_right V hg)
theorem guess_first {W V T S K num third vlow wlow : Nat} (hV : V = (T * 4294967296 + S) * K + vlow) (hW : W = (num * 4294967296 + third) * K + wlow) (hw : wlow < K) (h3 : third < 4294967296) (hT : 0 < T) : W < (num / T + 1) * V := by
 have h0 : num < (num / T + 1) * T := by
  rw [Nat.add_mul, Nat.one_mul, Nat.mul_comm]
  have := Nat.mod_add_div num T
  have := Nat.mod_lt num hT
  omega
 have h1 : num * 4294967296 + third + 1 ≤ (num / T + 1) * (T * 4294967296 + S) := by
  rw [Nat.mul_add, ← Nat.mul_assoc]
  have : (num + 1) * 4294967296 ≤ (num / T + 1) * T * 4294967296 := Nat.mul_le_mul_right _ h0
  omega
 have h2 := Nat.mul_le_mul_right K h1
 rw [Nat.add_mul, Nat.one_mul] at h2
 rw [hW, hV, Nat.mul_add (num / T + 1), ← Nat.mul_assoc]
 omega
theorem guess_ok {W V T S K num third vlow wlow g : Nat} (hV : V = (T * 4294967296 + S) * K + vlow) (hW : W = (num * 4294967296 + third) * K + wlow) (hv : vlow < K) (hT : 0 < T)
  (hE : g * (T * 4294967296 + S) ≤ num * 4294967296 + third) (hg : g < 4294967296) : g * V < W + V := by
 have h2 := Nat.mul_le_mul_right K hE
 have h3 : g * vlow ≤ 4294967295 * K := Nat.mul_le_mul (by omega) (by omega)
 have h4 : 4294967296 * K ≤ (T * 4294967296 + S) * K := Nat.mul_le_mul_right K (by omega)
 rw [hW]
 conv => lhs; rw [hV, Nat.mul_add, ← Nat.mul_assoc]
 rw [hV]
 have hK : 0 < K := by omega
 omega
theorem guess_pass {T S num third g r : Nat} (hn : num = g * T + r) (ht : g * S ≤ r * 4294967296 + third) : g * (T * 4294967296 + S) ≤ num * 4294967296 + third := by
 rw [hn, Nat.mul_add, ← Nat.mul_assoc, Nat.add_mul]
 omega
theorem guess_break {T S num third g r : Nat} (hn : num = g * T + r) (hr : 4294967296 ≤ r) (hg : g < 4294967296) (hS : S < 4294967296) : g * (T * 4294967296 + S) ≤ num * 4294967296 + third := by
 have h1 : g * S ≤ 4294967295 * 4294967295 := Nat.mul_le_mul (by omega) (by omega)
 rw [hn, Nat.mul_add, ← Nat.mul_assoc, Nat.add_mul]
 omega
theorem guess_lt {T num g r un : Nat} (hn : num = g * T + r) (hr : 4294967296 ≤ r) (hnum : num ≤ T * 4294967296 + 4294967295) : g < 4294967296 := by
 rcases Nat.lt_or_ge g 4294967296 with h | h
 ·exact h
 ·have := Nat.mul_le_mul_right T h
  rw [Nat.mul_comm 4294967296] at this
  omega
theorem step_pos {W V g w : Nat} (h : w + g * V = W) (hq : W < (g + 1) * V) : w < V := by
 rw [Nat.add_mul, Nat.one_mul] at hq
 omega
theorem step_neg {W V g w w2 c M : Nat} (h : w + g * V = W + M) (hw : w < M) (hg : g * V < W + V) (hVM : V < M) (h2 : w2 + c * M = w + V) (hw2 : w2 < M) : 0 < g ∧ W = (g - 1) * V + w2 ∧ w2 < V := by
 have hgV : W < g * V := by omega
 have hg0 : 0 < g := by
  rcases Nat.eq_zero_or_pos g with h0 | h0
  ·rw [h0, Nat.zero_mul] at hgV; omega
  ·exact h0
 obtain ⟨k, rfl⟩ : ∃ k, g = k + 1 := ⟨g - 1, by omega⟩
 rw [Nat.add_mul, Nat.one_mul] at h hg hgV
 have hc : c = 1 := by
  rcases Nat.lt_or_ge c 1 with hc | hc
  ·have : c = 0 := by omega
   rw [this, Nat.zero_mul] at h2; omega
  ·rcases Nat.lt_or_ge c 2 with hc2 | hc2
   ·omega
   ·have := Nat.mul_le_mul_right M hc2
    omega
 rw [hc, Nat.one_mul] at h2
 refine ⟨by omega, ?_, by omega⟩
 show W = k * V + w2
 omega
theorem val_top3 {w : List Int} {n : Nat} (hl : w.length = n + 3) : val w = ((w[n + 2].toNat * 4294967296 + w[n + 1].toNat) * 4294967296 + w[n].toNat) * 4294967296 ^ n + val (w.take n) := by
 have h1 := val_append (w.take n) (w.drop n)
 rw [List.take_append_drop, List.length_take, Nat.min_eq_left (by omega)] at h1
 have h2 : w.drop n = [w[n], w[n + 1], w[n + 2]] := by
  rw [List.drop_eq_getElem_cons (by omega), List.drop_eq_getElem_cons (by omega), List.drop_eq_getElem_cons (by omega), List.drop_of_length_le (by omega)]
 rw [h1, h2]
 simp only [val]
 rw [Nat.mul_comm (4294967296 ^ n), Nat.add_comm]
 congr 2
 omega
theorem val_top2 {v : List Int} {n : Nat} (hl : v.length = n + 2) : val v = (v[n + 1].toNat * 4294967296 + v[n].toNat) * 4294967296 ^ n + val (v.take n) := by
 have h1 := val_append (v.take n) (v.drop n)
 rw [List.take_append_drop, List.length_take, Nat.min_eq_left (by omega)] at h1
 have h2 : v.drop n = [v[n], v[n + 1]] := by
  rw [List.drop_eq_getElem_cons (by omega), List.drop_eq_getElem_cons (by omega), List.drop_of_length_le (by omega)]
 rw [h1, h2]
 simp only [val]
 rw [Nat.mul_comm (4294967296 ^ n), Nat.add_comm]
 congr 2
 omega
theorem top_le {w v : List Int} {n : Nat} (hw : Lim w) (hv : Lim v) (hlw : w.length = n + 3) (hlv : v.length = n + 2) (h : val w < 4294967296 * val v) : w[n + 2].toNat ≤ v[n + 1].toNat := by
 have e1 := val_top3 hlw
 have e2 := val_top2 hlv
 have h3 := val_lt (l := v.take n) (fun x hx => hv x (List.mem_of_mem_take hx))
 rw [List.length_take, Nat.min_eq_left (by omega)] at h3
 have hS := hv v[n] (List.getElem_mem _)
 rcases Nat.lt_or_ge v[n + 1].toNat w[n + 2].toNat with h4 | h4
 ·exfalso
  generalize v[n + 1].toNat = T at *
  generalize w[n + 2].toNat = X at *
  have hK : 0 < 4294967296 ^ n := Nat.pow_pos (by decide)
  generalize 4294967296 ^ n = K at *
  have h5 : (T * 4294967296 + v[n].toNat + 1) * K ≤ (T + 1) * 4294967296 * K := Nat.mul_le_mul_right K (by omega)
  have h6 : val v < (T + 1) * 4294967296 * K := by
   rw [Nat.add_mul, Nat.one_mul] at h5
   omega
  have h7 : ((T + 1) * 4294967296) * 4294967296 * K ≤ ((X * 4294967296 + w[n + 1].toNat) * 4294967296 + w[n].toNat) * K := Nat.mul_le_mul_right K (by omega)
  have h8 : (T + 1) * 4294967296 * 4294967296 * K = 4294967296 * ((T + 1) * 4294967296 * K) := by rw [Nat.mul_comm ((T + 1) * 4294967296), Nat.mul_assoc]
  omega
 ·exact h4
theorem under_step {w : List Int} {i g x ca bo d bo' W G : Nat} (hi : i < w.length) (hv : val w + G = W + (bo + ca) * 4294967296 ^ i)
  (hd : d + (g * x + ca) % 4294967296 + bo = (w[i]).toNat + 4294967296 * bo') :
  val (w.set i (d : Int)) + (G + g * x * 4294967296 ^ i) = W + (bo' + (g * x + ca) / 4294967296) * 4294967296 ^ (i + 1) := by
 have hs := val_set w i (d : Int) hi
 rw [Int.toNat_natCast] at hs
 have ht := Nat.mod_add_div (g * x + ca) 4294967296
 generalize (g * x + ca) % 4294967296 = lo at *
 generalize (g * x + ca) / 4294967296 = ca' at *
 generalize g * x = z at *
 generalize (w[i]).toNat = o at *
 generalize val (w.set i (d : Int)) = V' at *
 rw [Nat.pow_succ]
 generalize 4294967296 ^ i = K at *
 have e1 : (d + lo + bo) * K = (o + 4294967296 * bo') * K := by rw [hd]
 have e2 : (lo + 4294967296 * ca') * K = (z + ca) * K := by rw [ht]
 have e3 : (bo' + ca') * (K * 4294967296) = 4294967296 * bo' * K + 4294967296 * ca' * K := by
  rw [Nat.mul_comm K, ← Nat.mul_assoc, Nat.add_mul, Nat.add_mul, Nat.mul_comm bo', Nat.mul_comm ca']
 simp only [Nat.add_mul] at e1 e2 hv
 omega
theorem back_step {w : List Int} {i x c W G : Nat} (hi : i < w.length) (hv : val w + c * 4294967296 ^ i = W + G) :
  val (w.set i (((w[i].toNat + x + c) % 4294967296 : Nat) : Int)) + (w[i].toNat + x + c) / 4294967296 * 4294967296 ^ (i + 1) = W + (G + x * 4294967296 ^ i) := by
 have hs := val_set w i (((w[i].toNat + x + c) % 4294967296 : Nat) : Int) hi
 rw [Int.toNat_natCast] at hs
 have ht := Nat.mod_add_div (w[i].toNat + x + c) 4294967296
 generalize val (w.set i (((w[i].toNat + x + c) % 4294967296 : Nat) : Int)) = V' at *
 generalize (w[i].toNat + x + c) % 4294967296 = lo at *
 generalize (w[i].toNat + x + c) / 4294967296 = c' at *
 generalize w[i].toNat = o at *
 rw [Nat.pow_succ]
 generalize 4294967296 ^ i = K at *
 have e1 : (lo + 4294967296 * c') * K = (o + x + c) * K := by rw [ht]
 have e2 : c' * (K * 4294967296) = 4294967296 * c' * K := by rw [Nat.mul_comm K, ← Nat.mul_assoc, Nat.mul_comm c']
 simp only [Nat.add_mul] at e1
 omega
end NM

namespace Go.Proofs.YtcdeiegpeiodjaaGreat
open Go Go.AL NM
section
theorem norm_len {b s : Nat} {l : List Int} {x : Nat} (h : limbs b = l ++ [(x : Int)]) (h0 : 0 < x) (hx : x < 4294967296) (hs : s + blen x = 32) : (limbs (b * 2 ^ s)).length = l.length + 1 ∧ 2 ^ (32 * l.length + 31) ≤ b * 2 ^ s := by
 have hbl := blen_limbs h h0
 have hb0 : 0 < b := by
  rcases Nat.eq_zero_or_pos b with h1 | h1
  ·subst h1; rw [limbs_zero] at h; simp at h
  ·exact h1
 have hlow : 2 ^ (blen b - 1) ≤ b := by
  unfold blen
  rw [if_neg (by omega), Nat.add_sub_cancel]
  exact Nat.log2_self_le (by omega)
 have hup : b < 2 ^ blen b := by
  unfold blen
  rw [if_neg (by omega)]
  exact Nat.lt_log2_self
 have hbx : 0 < blen x := by unfold blen; rw [if_neg (by omega)]; omega
 have h1 : 2 ^ (32 * l.length + 31) ≤ b * 2 ^ s := by
  have := Nat.mul_le_mul_right (2 ^ s) hlow
  rw [← Nat.pow_add, show blen b - 1 + s = 32 * l.length + 31 by omega] at this
  exact this
 have h2 : b * 2 ^ s < 2 ^ (32 * (l.length + 1)) := by
  have := Nat.mul_lt_mul_of_pos_right hup (Nat.pow_pos (n := s) (show 0 < 2 by decide))
  rw [← Nat.pow_add, show blen b + s = 32 * (l.length + 1) by omega] at this
  exact this
 refine ⟨?_, h1⟩
 have h3 := blen_le h2
 have h4 := blen_gt h1
 rw [limbs_blen]
 omega
theorem div_scale {U a b t Q : Nat} (h : U + b * t * Q = a * t) (hU : U < b * t) (ht : 0 < t) : Q = a / b ∧ U = a % b * t := by
 have h1 : b * t * Q = b * Q * t := by rw [Nat.mul_assoc, Nat.mul_comm t, ← Nat.mul_assoc]
 rw [h1] at h
 have hle : b * Q ≤ a := by
  rcases Nat.lt_or_ge a (b * Q) with h2 | h2
  ·have := Nat.mul_lt_mul_of_pos_right h2 ht
   omega
  ·exact h2
 have hU2 : U = (a - b * Q) * t := by rw [Nat.sub_mul]; omega
 have hr : a - b * Q < b := by
  rw [hU2] at hU
  exact Nat.lt_of_mul_lt_mul_right hU
 have ha : a = (a - b * Q) + b * Q := by omega
 have hb : 0 < b := by omega
 constructor
 ·conv => rhs; rw [ha, Nat.add_mul_div_left _ _ hb, Nat.div_eq_of_lt hr, Nat.zero_add]
 ·rw [hU2]
  congr 1
  conv => rhs; rw [ha, Nat.add_mul_mod_self_left, Nat.mod_eq_of_lt hr]
theorem long_T {v : List Int} {k : Nat} (hvL : Lim v) (hvl : v.length = k + 2) (hvT : 2 ^ (32 * (k + 1) + 31) ≤ val v) (hk : k + 1 < v.length) : 0 < v[k + 1].toNat := by
 rcases Nat.eq_zero_or_pos v[k + 1].toNat with h | h
 ·exfalso
  have hVeq := val_top2 (v := v) (n := k) hvl
  have hvlow := val_lt (l := v.take k) (fun x hx => hvL x (List.mem_of_mem_take hx))
  rw [List.length_take, Nat.min_eq_left (by omega)] at hvlow
  have hS := hvL (v[k]'(by omega)) (List.getElem_mem _)
  rw [h, Nat.zero_mul, Nat.zero_add] at hVeq
  have h3 : 2 ^ (32 * (k + 1) + 31) = 4294967296 ^ k * 4294967296 * 2 ^ 31 := by
   rw [Nat.pow_add, ← pow32, Nat.pow_succ]
  rw [h3] at hvT
  have h5 : (v[k]'(by omega)).toNat * 4294967296 ^ k ≤ 4294967295 * 4294967296 ^ k := Nat.mul_le_mul_right _ (by omega)
  have h6 : 4294967296 ^ k * 4294967296 ≤ val v := Nat.le_trans (Nat.le_mul_of_pos_right _ (show 0 < 2 ^ 31 by decide)) hvT
  clear hvT h3
  omega
 ·exact h
theorem long_win {u v : List Int} {j k : Nat} (huL : Lim u) (hvL : Lim v) (hvl : v.length = k + 2) (hlen : j + k + 3 ≤ u.length) (hut : val (u.drop (j + 1)) < val v) :
  ∃ P w R : List Int, u = P ++ (w ++ R) ∧ P.length = j ∧ w.length = k + 3 ∧ Lim w ∧ Lim P ∧ Lim R ∧ val R = 0 ∧ val w < 4294967296 * val v ∧ val (u.drop j) = val w := by
 have hjl : j < u.length := by omega
 have hWd : val (u.drop j) < 4294967296 * val v := by
  rw [List.drop_eq_getElem_cons hjl]
  have := huL u[j] (List.getElem_mem _)
  show u[j].toNat + 4294967296 * val (u.drop (j + 1)) < _
  omega
 have hvlt : val v < 4294967296 ^ (k + 2) := by have := val_lt hvL; rwa [hvl] at this
 have hwl : ((u.drop j).take (k + 3)).length = k + 3 := by rw [List.length_take, List.length_drop]; omega
 have hsum : val (u.drop j) = val ((u.drop j).take (k + 3)) + 4294967296 ^ (k + 3) * val ((u.drop j).drop (k + 3)) := by
  conv => lhs; rw [← List.take_append_drop (k + 3) (u.drop j), val_append, hwl]
 have hR0 : val ((u.drop j).drop (k + 3)) = 0 := by
  rcases Nat.eq_zero_or_pos (val ((u.drop j).drop (k + 3))) with h | h
  ·exact h
  ·have h2 : 4294967296 ^ (k + 3) ≤ 4294967296 ^ (k + 3) * val ((u.drop j).drop (k + 3)) := Nat.le_mul_of_pos_right _ h
   rw [show 4294967296 ^ (k + 3) = 4294967296 ^ (k + 2) * 4294967296 from Nat.pow_succ ..] at h2 hsum
   omega
 rw [hR0, Nat.mul_zero, Nat.add_zero] at hsum
 refine ⟨u.take j, (u.drop j).take (k + 3), (u.drop j).drop (k + 3), by rw [List.take_append_drop, List.take_append_drop], by rw [List.length_take]; omega, hwl,
  fun x hx => huL x (List.mem_of_mem_drop (List.mem_of_mem_take hx)), fun x hx => huL x (List.mem_of_mem_take hx), fun x hx => huL x (List.mem_of_mem_drop (List.mem_of_mem_drop hx)), hR0, by omega, hsum⟩
theorem long_num {v w : List Int} {k : Nat} (hvL : Lim v) (hwL : Lim w) (hvl : v.length = k + 2) (hwl : w.length = k + 3) (h1 : k + 1 < v.length) (h0 : k < v.length) (g2 : k + 2 < w.length) (g1 : k + 1 < w.length) (g0 : k < w.length) (hT0 : 0 < v[k + 1].toNat) (hWB : val w < 4294967296 * val v) :
  ∃ T S num third vlow wlow K : Nat, T = v[k + 1].toNat ∧ S = v[k].toNat ∧ third = w[k].toNat ∧ num = w[k + 2].toNat * 4294967296 + w[k + 1].toNat ∧ T < 4294967296 ∧ S < 4294967296 ∧ 0 < T ∧ third < 4294967296 ∧ num ≤ T * 4294967296 + 4294967295 ∧
   val v = (T * 4294967296 + S) * K + vlow ∧ vlow < K ∧ val w = (num * 4294967296 + third) * K + wlow ∧ wlow < K := by
 have hVeq := val_top2 (v := v) (n := k) hvl
 have hWeq := val_top3 (w := w) (n := k) hwl
 have hvlow := val_lt (l := v.take k) (fun x hx => hvL x (List.mem_of_mem_take hx))
 have hwlow := val_lt (l := w.take k) (fun x hx => hwL x (List.mem_of_mem_take hx))
 rw [List.length_take, Nat.min_eq_left (by omega)] at hvlow hwlow
 have htop := top_le (n := k) hwL hvL hwl hvl hWB
 have hT := hvL v[k + 1] (List.getElem_mem _)
 have hS := hvL v[k] (List.getElem_mem _)
 have hY := hwL w[k + 1] (List.getElem_mem _)
 have hZ := hwL w[k] (List.getElem_mem _)
 have h9 := Nat.mul_le_mul_right 4294967296 htop
 have h10 : w[k + 2].toNat * 4294967296 + w[k + 1].toNat ≤ v[k + 1].toNat * 4294967296 + 4294967295 := Nat.add_le_add h9 (by omega)
 exact ⟨v[k + 1].toNat, v[k].toNat, w[k + 2].toNat * 4294967296 + w[k + 1].toNat, w[k].toNat, val (v.take k), val (w.take k), 4294967296 ^ k, rfl, rfl, rfl, rfl, by omega, by omega, hT0, by omega, h10, hVeq, hvlow, hWeq, hwlow⟩
theorem long_mul {g S : Nat} (hg : g < 4294967296) (hS : S < 4294967296) : IntKind.u64.wrap ((g : Int) * (S : Int)) = ((g * S : Nat) : Int) := by
 have hgS : g * S ≤ 4294967295 * 4294967295 := Nat.mul_le_mul (by omega) (by omega)
 rw [← Int.natCast_mul, IntKind.wrap_u64]
 omega
theorem long_sh {r : Nat} (hr : r < 4294967296) : IntKind.u64.wrap ((r : Int) * 2 ^ (min (32 : Int).toNat IntKind.u64.bits)) = ((r * 4294967296 : Nat) : Int) := by
 show IntKind.u64.wrap ((r : Int) * 4294967296) = _
 rw [IntKind.wrap_u64]; omega
theorem long_or {r third rb : Nat} {x : Int} (hx : 0 ≤ x ∧ x < 4294967296) (ht : third = x.toNat) (hr : r < 4294967296) (hb : rb = r * 4294967296) : IntKind.u64.wrap ((BitVec.ofInt IntKind.u64.bits (rb : Int) ||| BitVec.ofInt IntKind.u64.bits (IntKind.u64.wrap x)).toNat : Int) = ((third + 4294967296 * r : Nat) : Int) := by
 rw [hb, show IntKind.u64.wrap x = (third : Int) by rw [IntKind.wrap_u64, ht]; omega, BitVec.or_comm, or_u64 (by omega) hr]
end
section
def cAt : Code → List Nat → Code
 | c, [] => c
 | .seq a b, 0 :: l => cAt a l
 | .seq a b, _ :: l => cAt b l
 | .block _ c, _ :: l => cAt c l
 | .loop c, _ :: l => cAt c l
 | .cond _ x y, 0 :: l => cAt x l
 | .cond _ x y, _ :: l => cAt y l
 | c, _ => c
theorem l_ejn {j k n : Nat} (h : j + k + 2 ≤ n) (hn : n < 1000000000) : IntKind.i64.wrap ((j : Int) + ((k + 2 : Nat) : Int)) = ((j + (k + 2) : Nat) : Int) := by rw [IntWalk.i64_in _ (by omega)]; omega
theorem l_ehi {j k n : Nat} (h : j + k + 2 ≤ n) (hn : n < 1000000000) : IntKind.i64.wrap (IntKind.i64.wrap ((j : Int) + ((k + 2 : Nat) : Int)) + 1) = ((j + (k + 3) : Nat) : Int) := by rw [l_ejn h hn, IntWalk.i64_in _ (by omega)]; omega
theorem l_under {w w1 v : List Int} {g i ca bo x d bo' : Nat} (hi : i < w1.length) (hiv : i < v.length) (hx : x = v[i].toNat) (hv : val w1 + g * val (v.take i) = val w + (bo + ca) * 4294967296 ^ i)
  (hd : d + (g * x + ca) % 4294967296 + bo = w1[i].toNat + 4294967296 * bo') : val (w1.set i (d : Int)) + g * val (v.take (i + 1)) = val w + (bo' + (g * x + ca) / 4294967296) * 4294967296 ^ (i + 1) := by
 have h := under_step (x := x) hi hv hd
 rw [val_take_succ hiv, ← hx, Nat.mul_add, ← Nat.mul_assoc]
 exact h
theorem l_sub {x lo bo : Nat} (hx : x < 4294967296) (hlo : lo < 4294967296) (hbo : bo ≤ 1) : ∃ d bo' : Nat, d < 4294967296 ∧ bo' ≤ 1 ∧ d + lo + bo = x + 4294967296 * bo' ∧ ((x : Int) - (lo : Int) - (bo : Int)) % 4294967296 = (d : Int) ∧ (if (x : Int) < (lo : Int) + (bo : Int) then (1 : Int) else 0) = (bo' : Int) := by
 by_cases h : x < lo + bo
 ·refine ⟨x + 4294967296 - lo - bo, 1, by omega, by omega, by omega, by omega, ?_⟩
  rw [if_pos (by omega)]; rfl
 ·refine ⟨x - lo - bo, 0, by omega, by omega, by omega, by omega, ?_⟩
  rw [if_neg (by omega)]; rfl
theorem l_mul {g x ca : Nat} {X : Int} (hX : 0 ≤ X ∧ X < 4294967296) (hx : x = X.toNat) (hg : g < 4294967296) (hca : ca < 4294967296) : g * x + ca < 18446744073709551616 ∧ IntKind.u64.wrap (IntKind.u64.wrap ((g : Int) * IntKind.u64.wrap X) + (ca : Int)) = ((g * x + ca : Nat) : Int) := by
 have hxB : x < 4294967296 := by omega
 have h1 : g * x ≤ 4294967295 * 4294967295 := Nat.mul_le_mul (by omega) (by omega)
 have e1 : IntKind.u64.wrap X = (x : Int) := by rw [IntKind.wrap_u64]; omega
 refine ⟨by omega, ?_⟩
 rw [e1, ← Int.natCast_mul]
 generalize g * x = z at *
 simp only [IntKind.wrap_u64]
 omega
theorem l_hi {t : Nat} (h : t < 18446744073709551616) : (t : Int).fdiv (2 ^ (min (32 : Int).toNat IntKind.u64.bits)) = ((t / 4294967296 : Nat) : Int) := by
 show (t : Int).fdiv 4294967296 = _
 rw [Int.fdiv_eq_ediv_of_nonneg _ (by decide)]
 omega
theorem l_lo (t : Nat) : IntKind.u32.wrap (t : Int) = ((t % 4294967296 : Nat) : Int) := by rw [IntKind.wrap_u32]; omega
set_option maxHeartbeats 4000000 in
theorem Long_step (la m k s j g : Nat) (v P w R q : List Int) (T S : Nat) (hlam : la = m + k + 2) (hla : la < 100000000) (hj : j ≤ m) (hvl : v.length = k + 2) (hvL : Lim v) (hPl : P.length = j) (hwl : w.length = k + 3) (hwL : Lim w) (hRl : (P ++ (w ++ R)).length = la + 1) (hql : q.length = m + 1)
  (hgB : g < 4294967296) (hgq : val w < (g + 1) * val v) (hgV : g * val v < val w + val v) {Q : Exit → St → Prop}
  (hQ : ∀ (g' : Nat) (w' : List Int) (s2 : St), w'.length = k + 3 → Lim w' → val w = g' * val v + val w' → val w' < val v → g' < 4294967296 → s2.m = 152 → okT s2 (σf []) 100000 [(4, .lp 16 0), (5, .lp 24 0), (6, .val (.int .i64 s)), (7, .sl 1 (irows .u32 v) false), (8, .own 184 0 (la + 1)), (9, .val (.int .i64 (k + 2 : Nat))), (11, .own 352 0 (m + 1)), (12, .val (.int .u64 T)), (13, .val (.int .u64 S)), (14, .val (.int .i64 j)), (16, .val (.int .u64 g'))] →
   okH s2 (σf []) 100000 [(16, .cells 1 [[.sl 0 [] true]]), (24, .cells 1 [[.sl 0 [] true]]), (184, .cells 1 (irows .u32 (P ++ (w' ++ R)))), (352, .cells 1 (irows .u32 (q.set j (g' : Int))))] → Q .normal s2) :
  SW Tryz.prog (cAt (Tryz.f145.body.getD .skip) [1, 1, 1, 1, 1, 1, 1, 1, 0, 1, 0, 0, 1, 0, 0, 1, 1, 1]) Q (mkS [(4, .lp 16 0), (5, .lp 24 0), (6, .val (.int .i64 s)), (7, .sl 1 (irows .u32 v) false), (8, .own 184 0 (la + 1)), (9, .val (.int .i64 (k + 2 : Nat))), (11, .own 352 0 (m + 1)), (12, .val (.int .u64 T)), (13, .val (.int .u64 S)), (14, .val (.int .i64 j)), (16, .val (.int .u64 g))] [(16, .cells 1 [[.sl 0 [] true]]), (24, .cells 1 [[.sl 0 [] true]]), (184, .cells 1 (irows .u32 (P ++ (w ++ R)))), (352, .cells 1 (irows .u32 q))] 100000 152) := by
 have ehi := l_ehi (j := j) (k := k) (n := la) (by omega) (by omega)
 have elo : 0 + ((j : Int)).toNat = j := by omega
 have elen : (IntKind.i64.wrap (IntKind.i64.wrap ((j : Int) + ((k + 2 : Nat) : Int)) + 1)).toNat - ((j : Int)).toNat = k + 3 := by rw [ehi]; omega
 have hb1 : 0 ≤ (j : Int) := Int.natCast_nonneg j
 have hb2 : (j : Int) ≤ IntKind.i64.wrap (IntKind.i64.wrap ((j : Int) + ((k + 2 : Nat) : Int)) + 1) := by rw [ehi]; omega
 have hb3 : IntKind.i64.wrap (IntKind.i64.wrap ((j : Int) + ((k + 2 : Nat) : Int)) + 1) ≤ ((la + 1 : Nat) : Int) := by rw [ehi]; omega
 show SW Tryz.prog (.seq (.seq (.region 17 _ false) (.cond _ _ _)) _) _ _
 refine SW.seq (SW.seq (SW.regionIn TTok _ rfl rfl rfl rfl Tryz.func163 rfl (enter_of Tryz.func163 (by kernel_rfl) (by kernel_rfl)) (nbq rfl) (nbq rfl) ?_))
 conv => whnf
 refine ⟨⟨hb1, hb2, hb3⟩, ?_⟩
 conv => whnf
 rw [elo, elen]
 refine ⟨rfl, SW.go TTok ?_⟩
 conv => whnf
 have hgets : ∀ (y : List Int), y.length = k + 3 → ∀ i (h : i < y.length), (P ++ (y ++ R))[j + i]? = some y[i] := fun y hy i h => by
  rw [List.getElem?_append_right (by omega), hPl, Nat.add_sub_cancel_left, List.getElem?_append_left h, List.getElem?_eq_getElem h]
 have hsets : ∀ (y : List Int), y.length = k + 3 → ∀ i (x : Int), i < y.length → (P ++ (y ++ R)).set (j + i) x = P ++ (y.set i x ++ R) := fun y hy i x h => by
  rw [List.set_append_right _ _ (by omega), hPl, Nat.add_sub_cancel_left, List.set_append_left _ _ h]
 have hlens : ∀ (y : List Int), y.length = k + 3 → (P ++ (y ++ R)).length = la + 1 := fun y hy => by
  rw [← hRl]; simp only [List.length_append]; omega
 refine SW.loopM TTok (fun x : Nat × Nat × Nat × List Int => [(0, .own 184 j (k + 3)), (1, .sl 1 (irows .u32 v) false), (2, .val (.int .u64 g)), (7, .val (.int .u64 x.2.1)), (8, .val (.int .u32 x.2.2.1)), (12, .sl 1 (irows .u32 v) false), (13, .val (.int .i64 (k + 2 : Nat))), (14, .val (.int .i64 x.1)), (1000004, .lp 16 0), (1000005, .lp 24 0), (1000006, .val (.int .i64 s)), (1000007, .sl 1 (irows .u32 v) false), (1000008, .own 184 0 (la + 1)), (1000009, .val (.int .i64 (k + 2 : Nat))), (1000011, .own 352 0 (m + 1)), (1000012, .val (.int .u64 T)), (1000013, .val (.int .u64 S)), (1000014, .val (.int .i64 j)), (1000016, .val (.int .u64 g))])
  (fun x => [(16, .cells 1 [[.sl 0 [] true]]), (24, .cells 1 [[.sl 0 [] true]]), (184, .cells 1 (irows .u32 (P ++ (x.2.2.2 ++ R)))), (352, .cells 1 (irows .u32 q))]) 200000 60 rfl (fun x => k + 2 - x.1)
  (fun x => x.1 ≤ k + 2 ∧ x.2.2.2.length = k + 3 ∧ Lim x.2.2.2 ∧ x.2.1 < 4294967296 ∧ x.2.2.1 ≤ 1 ∧ val x.2.2.2 + g * val (v.take x.1) = val w + (x.2.2.1 + x.2.1) * 4294967296 ^ x.1) (0, 0, 0, w) [] ⟨Nat.zero_le _, hwl, hwL, Nat.zero_lt_succ _, Nat.zero_le _, by show val w + g * val [] = val w + (0 + 0) * 1; rw [show val [] = 0 from rfl]; omega⟩
  ⟨q2r, q2r, q2r, q2r, q2r, q2r, ⟨valI (by rw [irows_len]; omega), rfl⟩, q2r, q2r, q2r, q2r, q2r, q2r, q2r, q2r, q2r, q2r, q2r, q2r, trivial⟩
  ⟨q3r, q3r, ⟨rfl, .inl ⟨rfl, irows_noid _ _⟩⟩, ⟨rfl, .inl ⟨rfl, irows_noid _ _⟩⟩, trivial⟩ rfl ?_
 rintro ⟨i, ca, bo, w1⟩ hJ
 have hi : i ≤ k + 2 := hJ.1
 have hwl1 : w1.length = k + 3 := hJ.2.1
 have hwL1 : Lim w1 := hJ.2.2.1
 have hca : ca < 4294967296 := hJ.2.2.2.1
 have hbo : bo ≤ 1 := hJ.2.2.2.2.1
 have hv1 : val w1 + g * val (v.take i) = val w + (bo + ca) * 4294967296 ^ i := hJ.2.2.2.2.2
 clear hJ
 have hl1 := hlens w1 hwl1
 conv => whnf
 refine caseb (fun h2 => ?_) (fun h2 => ?_)
 ·have h2' : (i : Int) < ((k + 2 : Nat) : Int) := of_decide_eq_true h2
  have hiv : i < v.length := by omega
  have hiw : i < w1.length := by omega
  have hX := hvL v[i] (List.getElem_mem _)
  have hW1 := hwL1 w1[i] (List.getElem_mem _)
  obtain ⟨x, hx⟩ : ∃ x, x = v[i].toNat := ⟨_, rfl⟩
  obtain ⟨htB, et⟩ := l_mul hX hx hgB hca
  have hu := fun d bo' => l_under (w := w) (d := d) (bo' := bo') hiw hiv hx hv1
  obtain ⟨t, ht⟩ : ∃ t, t = g * x + ca := ⟨_, rfl⟩
  rw [← ht] at et hu htB
  have ehi2 := l_hi htB
  have elo2 := l_lo t
  obtain ⟨th, hth⟩ : ∃ x, x = t / 4294967296 := ⟨_, rfl⟩
  obtain ⟨tl, htl⟩ : ∃ x, x = t % 4294967296 := ⟨_, rfl⟩
  rw [← hth] at ehi2 hu
  rw [← htl] at elo2 hu
  have htlB : tl < 4294967296 := by omega
  have hthB : th < 4294967296 := by omega
  obtain ⟨d, bo', hdB, hbo', hd, ed, eb⟩ := l_sub (x := w1[i].toNat) (lo := tl) (bo := bo) (by omega) htlB hbo
  have hS := Sub32_ok w1[i] tl bo hW1 (by omega) (by omega)
  rw [show w1[i] = ((w1[i].toNat : Nat) : Int) by omega, ed, eb] at hS
  rw [show ((w1[i].toNat : Nat) : Int) = w1[i] by omega] at hS
  have hn := hu d bo' hd
  have hb0 : 0 ≤ (i : Int) := Int.natCast_nonneg i
  have hb1 : (i : Int) < ((k + 3 : Nat) : Int) := by omega
  have hgi := hgets w1 hwl1 i hiw
  have hji : j + ((i : Int)).toNat = j + i := by rw [Int.toNat_natCast]
  conv => whnf
  refine ⟨[.val (.int .u32 v[i])], ⟨hb0, irows_get _ _ (by rw [Int.toNat_natCast]; exact List.getElem?_eq_getElem hiv)⟩, ?_⟩
  conv => whnf
  rw [et]
  refine ⟨by decide, ?_⟩
  conv => whnf
  rw [ehi2]
  refine ⟨⟨hb0, hb1⟩, ?_⟩
  conv => whnf
  refine ⟨[.val (.int .u32 w1[i])], (by rw [hji]; exact irows_get _ _ hgi), ?_⟩
  conv => whnf
  rw [← elo2] at hS
  refine ⟨_, hS, ?_⟩
  conv => whnf
  refine ⟨⟨hb0, hb1⟩, ?_⟩
  conv => whnf
  refine ⟨by rw [hji, irows_len]; show j + i < (P ++ (w1 ++ R)).length; omega, ?_⟩
  conv => whnf
  refine ⟨(i + 1, th, bo', w1.set i (d : Int)), [], (by show k + 2 - (i + 1) < k + 2 - i; omega), ⟨(by show i + 1 ≤ k + 2; omega), (by show (w1.set i (d : Int)).length = k + 3; rw [List.length_set]; exact hwl1), hwL1.set ⟨by omega, by omega⟩, hthB, hbo', hn⟩,
   ⟨q2r, q2r, q2r, q2r, q2r, q2r, q2r, ⟨valI ?_, rfl⟩, q2r, q2r, q2r, q2r, q2r, q2r, q2r, q2r, q2r, q2r, q2r, trivial⟩,
   ⟨q3r, q3r, ⟨rfl, .inl ⟨celE ?_, irows_noid _ _⟩⟩, ⟨rfl, .inl ⟨rfl, irows_noid _ _⟩⟩, trivial⟩, rfl⟩
  ·show IntKind.i64.wrap ((i : Int) + 1) = ((i + 1 : Nat) : Int)
   rw [IntWalk.i64_in _ (by omega)]; omega
  ·show (irows .u32 (P ++ (w1 ++ R))).set (j + ((i : Int)).toNat) [AV.val (.int .u32 (d : Int))] = irows .u32 (P ++ (w1.set i (d : Int) ++ R))
   rw [hji, ← hsets w1 hwl1 i _ hiw, irows_set]
 ·have h2' : ¬ (i : Int) < ((k + 2 : Nat) : Int) := of_decide_eq_false h2
  have hik : i = k + 2 := by omega
  conv => whnf
  have hkw : k + 2 < w1.length := by omega
  have hW1 := hwL1 w1[k + 2] (List.getElem_mem _)
  rw [hik, List.take_of_length_le (by omega)] at hv1
  obtain ⟨d, bo', hdB, hbo', hd, ed, eb⟩ := l_sub (x := w1[k + 2].toNat) (lo := ca) (bo := bo) (by omega) hca hbo
  have hS := Sub32_ok w1[k + 2] ca bo hW1 (by omega) (by omega)
  rw [show w1[k + 2] = ((w1[k + 2].toNat : Nat) : Int) by omega, ed, eb] at hS
  rw [show ((w1[k + 2].toNat : Nat) : Int) = w1[k + 2] by omega] at hS
  have eca : IntKind.u32.wrap (ca : Int) = (ca : Int) := by rw [IntKind.wrap_u32]; omega
  rw [← eca] at hS
  have hwf : (w1.set (k + 2) (d : Int)).length = k + 3 := by rw [List.length_set]; exact hwl1
  have hLf : Lim (w1.set (k + 2) (d : Int)) := hwL1.set ⟨by omega, by omega⟩
  have hvf : val (w1.set (k + 2) (d : Int)) + g * val v = val w + bo' * 4294967296 ^ (k + 3) := by
   have h := val_set w1 (k + 2) (d : Int) hkw
   rw [Int.toNat_natCast] at h
   rw [show 4294967296 ^ (k + 3) = 4294967296 ^ (k + 2) * 4294967296 from Nat.pow_succ .., ]
   have e1 : (d + ca + bo) * 4294967296 ^ (k + 2) = (w1[k + 2].toNat + 4294967296 * bo') * 4294967296 ^ (k + 2) := by rw [hd]
   have e2 : bo' * (4294967296 ^ (k + 2) * 4294967296) = 4294967296 * bo' * 4294967296 ^ (k + 2) := by rw [Nat.mul_comm (4294967296 ^ (k + 2)), ← Nat.mul_assoc, Nat.mul_comm bo']
   simp only [Nat.add_mul] at e1 hv1
   omega
  have hrow : (irows .u32 (P ++ (w1 ++ R))).set (j + (((irows .u32 v).length : Int)).toNat) [AV.val (.int .u32 (d : Int))] = irows .u32 (P ++ (w1.set (k + 2) (d : Int) ++ R)) := by
   rw [irows_len, Int.toNat_natCast, hvl, ← hsets w1 hwl1 (k + 2) _ hkw, irows_set]
  have hb0 : 0 ≤ ((irows .u32 v).length : Int) ∧ ((irows .u32 v).length : Int) < ((k + 3 : Nat) : Int) := by rw [irows_len, hvl]; omega
  have hji : j + (((irows .u32 v).length : Int)).toNat = j + (k + 2) := by rw [irows_len, hvl, Int.toNat_natCast]
  have hgk := hgets w1 hwl1 (k + 2) hkw
  refine ⟨hb0, ?_⟩
  conv => whnf
  refine ⟨[.val (.int .u32 w1[k + 2])], (by rw [hji]; exact irows_get _ _ hgk), ?_⟩
  conv => whnf
  refine ⟨_, hS, ?_⟩
  conv => whnf
  refine ⟨hb0, ?_⟩
  conv => whnf
  refine ⟨by rw [hji, irows_len]; show j + (k + 2) < (P ++ (w1 ++ R)).length; omega, ?_⟩
  conv => whnf
  rw [hrow]
  refine ⟨.inl rfl, _, rfl, ?_⟩
  have hqj : 0 ≤ (j : Int) ∧ (j : Int) < ((m + 1 : Nat) : Int) := by omega
  have hql2 : 0 + ((j : Int)).toNat < (irows .u32 q).length := by rw [irows_len]; omega
  have hqset : ∀ x : Nat, x < 4294967296 → (irows .u32 q).set (0 + ((j : Int)).toNat) [AV.val (.int .u32 (IntKind.u32.wrap (x : Int)))] = irows .u32 (q.set j (x : Int)) := fun x hx => by
   rw [show IntKind.u32.wrap (x : Int) = (x : Int) by rw [IntKind.wrap_u32]; omega, elo, irows_set]
  refine SW.cond (t := ((bo' : Int) == 1)) rfl (fun h3 => ?_) (fun h3 => ?_)
  rotate_left
  ·have hb0' : bo' = 0 := by
    rcases Nat.lt_or_ge 0 bo' with h | h
    ·have : bo' = 1 := by omega
     rw [this] at h3; cases h3
    ·omega
   have hvf : val (w1.set (k + 2) (d : Int)) + g * val v = val w := by rw [hvf, hb0', Nat.zero_mul, Nat.add_zero]
   refine SW.skip ?_
   refine SW.go TTok ?_
   conv => whnf
   refine ⟨hqj, ?_⟩
   conv => whnf
   refine ⟨hql2, ?_⟩
   conv => whnf
   exact hQ g _ _ hwf hLf (by rw [← hvf]; exact Nat.add_comm _ _) (step_pos hvf hgq) hgB rfl ⟨q2r, q2r, q2r, q2r, q2r, q2r, q2r, q2r, q2r, q2r, q2r, trivial⟩
    ⟨q3r, q3r, ⟨rfl, .inl ⟨rfl, irows_noid _ _⟩⟩, ⟨rfl, .inl ⟨celE (hqset g hgB), irows_noid _ _⟩⟩, trivial⟩
  ·have hb1' : bo' = 1 := by
    rcases Nat.lt_or_ge 0 bo' with h | h
    ·omega
    ·have : bo' = 0 := by omega
     rw [this] at h3; cases h3
   rw [hb1', Nat.one_mul] at hvf
   obtain ⟨wf, hwfe⟩ : ∃ x, x = w1.set (k + 2) (d : Int) := ⟨_, rfl⟩
   rw [← hwfe] at hwf hLf hvf ⊢
   have hVM : val v < 4294967296 ^ (k + 3) := by
    have h := val_lt hvL
    rw [hvl] at h
    exact Nat.lt_of_lt_of_le h (Nat.pow_le_pow_right (by decide) (by omega))
   have hwfM : val wf < 4294967296 ^ (k + 3) := by have := val_lt hLf; rwa [hwf] at this
   have hg0 : 0 < g := by
    rcases Nat.eq_zero_or_pos g with h | h
    ·rw [h, Nat.zero_mul, Nat.add_zero] at hvf
     have := Nat.zero_le (val w)
     omega
    ·exact h
   have eg1 : IntKind.u64.wrap ((g : Int) - 1) = ((g - 1 : Nat) : Int) := by rw [IntKind.wrap_u64]; omega
   refine SW.seq (SW.go TTok ?_)
   conv => whnf
   rw [eg1]
   refine SW.regionIn TTok _ rfl rfl rfl rfl Tryz.func164 rfl (enter_of Tryz.func164 (by kernel_rfl) (by kernel_rfl)) (nbq rfl) (nbq rfl) ?_
   conv => whnf
   refine ⟨⟨hb1, hb2, hb3⟩, ?_⟩
   conv => whnf
   rw [elo, elen]
   refine ⟨rfl, SW.go TTok ?_⟩
   conv => whnf
   refine SW.loopM TTok (fun x : Nat × Nat × List Int => [(0, .own 184 j (k + 3)), (1, .sl 1 (irows .u32 v) false), (4, .val (.int .u32 x.2.1)), (7, .sl 1 (irows .u32 v) false), (8, .val (.int .i64 (k + 2 : Nat))), (9, .val (.int .i64 x.1)), (1000004, .lp 16 0), (1000005, .lp 24 0), (1000006, .val (.int .i64 s)), (1000007, .sl 1 (irows .u32 v) false), (1000008, .own 184 0 (la + 1)), (1000009, .val (.int .i64 (k + 2 : Nat))), (1000011, .own 352 0 (m + 1)), (1000012, .val (.int .u64 T)), (1000013, .val (.int .u64 S)), (1000014, .val (.int .i64 j)), (1000016, .val (.int .u64 (g - 1 : Nat)))])
    (fun x => [(16, .cells 1 [[.sl 0 [] true]]), (24, .cells 1 [[.sl 0 [] true]]), (184, .cells 1 (irows .u32 (P ++ (x.2.2 ++ R)))), (352, .cells 1 (irows .u32 q))]) 300000 36 rfl (fun x => k + 2 - x.1)
    (fun x => x.1 ≤ k + 2 ∧ x.2.2.length = k + 3 ∧ Lim x.2.2 ∧ x.2.1 ≤ 1 ∧ val x.2.2 + x.2.1 * 4294967296 ^ x.1 = val wf + val (v.take x.1)) (0, 0, wf) [] ⟨Nat.zero_le _, hwf, hLf, Nat.zero_le _, by show val wf + 0 * 1 = val wf + val []; rw [show val [] = 0 from rfl]⟩
    ⟨q2r, q2r, q2r, q2r, ⟨valI (by rw [irows_len]; omega), rfl⟩, q2r, q2r, q2r, q2r, q2r, q2r, q2r, q2r, q2r, q2r, q2r, q2r, trivial⟩
    ⟨q3r, q3r, ⟨rfl, .inl ⟨rfl, irows_noid _ _⟩⟩, ⟨rfl, .inl ⟨rfl, irows_noid _ _⟩⟩, trivial⟩ rfl ?_
   rintro ⟨i2, c, w2⟩ hJ
   have hi2 : i2 ≤ k + 2 := hJ.1
   have hwl2 : w2.length = k + 3 := hJ.2.1
   have hwL2 : Lim w2 := hJ.2.2.1
   have hc1 : c ≤ 1 := hJ.2.2.2.1
   have hv2 : val w2 + c * 4294967296 ^ i2 = val wf + val (v.take i2) := hJ.2.2.2.2
   clear hJ
   have hl2 := hlens w2 hwl2
   conv => whnf
   refine caseb (fun h4 => ?_) (fun h4 => ?_)
   ·have h4' : (i2 : Int) < ((k + 2 : Nat) : Int) := of_decide_eq_true h4
    have hiv : i2 < v.length := by omega
    have hiw : i2 < w2.length := by omega
    have hX := hvL v[i2] (List.getElem_mem _)
    have hW2 := hwL2 w2[i2] (List.getElem_mem _)
    have hst := back_step (x := v[i2].toNat) hiw hv2
    rw [← val_take_succ hiv] at hst
    have hA := Add32_ok w2[i2] v[i2] c hW2 hX (by omega)
    obtain ⟨t, ht⟩ : ∃ t, t = w2[i2].toNat + v[i2].toNat + c := ⟨_, rfl⟩
    rw [show w2[i2] + v[i2] + (c : Int) = (t : Int) by omega, show (t : Int) % 4294967296 = ((t % 4294967296 : Nat) : Int) by omega, show (t : Int) / 4294967296 = ((t / 4294967296 : Nat) : Int) by omega] at hA
    rw [← ht] at hst
    have htB : t / 4294967296 ≤ 1 := by omega
    obtain ⟨d2, hd2⟩ : ∃ x, x = t % 4294967296 := ⟨_, rfl⟩
    obtain ⟨c2, hc2⟩ : ∃ x, x = t / 4294967296 := ⟨_, rfl⟩
    rw [← hd2, ← hc2] at hA hst
    rw [← hc2] at htB
    have hd2B : d2 < 4294967296 := by omega
    have hb0 : 0 ≤ (i2 : Int) := Int.natCast_nonneg i2
    have hb1 : (i2 : Int) < ((k + 3 : Nat) : Int) := by omega
    have hgi := hgets w2 hwl2 i2 hiw
    have hji : j + ((i2 : Int)).toNat = j + i2 := by rw [Int.toNat_natCast]
    conv => whnf
    refine ⟨[.val (.int .u32 v[i2])], ⟨hb0, irows_get _ _ (by rw [Int.toNat_natCast]; exact List.getElem?_eq_getElem hiv)⟩, ?_⟩
    conv => whnf
    refine ⟨⟨hb0, hb1⟩, ?_⟩
    conv => whnf
    refine ⟨[.val (.int .u32 w2[i2])], (by rw [hji]; exact irows_get _ _ hgi), ?_⟩
    conv => whnf
    refine ⟨_, hA, ?_⟩
    conv => whnf
    refine ⟨⟨hb0, hb1⟩, ?_⟩
    conv => whnf
    refine ⟨by rw [hji, irows_len]; show j + i2 < (P ++ (w2 ++ R)).length; omega, ?_⟩
    conv => whnf
    refine ⟨(i2 + 1, c2, w2.set i2 (d2 : Int)), [], (by show k + 2 - (i2 + 1) < k + 2 - i2; omega), ⟨(by show i2 + 1 ≤ k + 2; omega), (by show (w2.set i2 (d2 : Int)).length = k + 3; rw [List.length_set]; exact hwl2), hwL2.set ⟨by omega, by omega⟩, htB, hst⟩,
     ⟨q2r, q2r, q2r, q2r, q2r, ⟨valI ?_, rfl⟩, q2r, q2r, q2r, q2r, q2r, q2r, q2r, q2r, q2r, q2r, q2r, trivial⟩,
     ⟨q3r, q3r, ⟨rfl, .inl ⟨celE ?_, irows_noid _ _⟩⟩, ⟨rfl, .inl ⟨rfl, irows_noid _ _⟩⟩, trivial⟩, rfl⟩
    ·show IntKind.i64.wrap ((i2 : Int) + 1) = ((i2 + 1 : Nat) : Int)
     rw [IntWalk.i64_in _ (by omega)]; omega
    ·show (irows .u32 (P ++ (w2 ++ R))).set (j + ((i2 : Int)).toNat) [AV.val (.int .u32 (d2 : Int))] = irows .u32 (P ++ (w2.set i2 (d2 : Int) ++ R))
     rw [hji, ← hsets w2 hwl2 i2 _ hiw, irows_set]
   ·have h4' : ¬ (i2 : Int) < ((k + 2 : Nat) : Int) := of_decide_eq_false h4
    have hik2 : i2 = k + 2 := by omega
    have hkw : k + 2 < w2.length := by omega
    have hW2 := hwL2 w2[k + 2] (List.getElem_mem _)
    rw [hik2, List.take_of_length_le (by omega)] at hv2
    have hst := back_step (x := 0) hkw hv2
    simp only [Nat.add_zero, Nat.zero_mul] at hst
    obtain ⟨d2, hd2⟩ : ∃ x, x = (w2[k + 2].toNat + c) % 4294967296 := ⟨_, rfl⟩
    have hd2B : d2 < 4294967296 := by omega
    have ed2 : IntKind.u32.wrap (w2[k + 2] + (c : Int)) = (d2 : Int) := by rw [IntKind.wrap_u32]; omega
    rw [← hd2] at hst
    have hwb : (w2.set (k + 2) (d2 : Int)).length = k + 3 := by rw [List.length_set]; exact hwl2
    have hLb : Lim (w2.set (k + 2) (d2 : Int)) := hwL2.set ⟨by omega, by omega⟩
    have hwbM : val (w2.set (k + 2) (d2 : Int)) < 4294967296 ^ (k + 3) := by have := val_lt hLb; rwa [hwb] at this
    obtain ⟨_, hq1, hq2⟩ := step_neg hvf hwfM hgV hVM hst hwbM
    have hb0 : 0 ≤ ((irows .u32 v).length : Int) ∧ ((irows .u32 v).length : Int) < ((k + 3 : Nat) : Int) := by rw [irows_len, hvl]; omega
    have hji : j + (((irows .u32 v).length : Int)).toNat = j + (k + 2) := by rw [irows_len, hvl, Int.toNat_natCast]
    have hgk := hgets w2 hwl2 (k + 2) hkw
    have hrow : (irows .u32 (P ++ (w2 ++ R))).set (j + (((irows .u32 v).length : Int)).toNat) [AV.val (.int .u32 (IntKind.u32.wrap (w2[k + 2] + (c : Int))))] = irows .u32 (P ++ (w2.set (k + 2) (d2 : Int) ++ R)) := by
     rw [ed2, irows_len, Int.toNat_natCast, hvl, ← hsets w2 hwl2 (k + 2) _ hkw, irows_set]
    conv => whnf
    refine ⟨hb0, ?_⟩
    conv => whnf
    refine ⟨[.val (.int .u32 w2[k + 2])], (by rw [hji]; exact irows_get _ _ hgk), ?_⟩
    conv => whnf
    refine ⟨hb0, ?_⟩
    conv => whnf
    refine ⟨by rw [hji, irows_len]; show j + (k + 2) < (P ++ (w2 ++ R)).length; omega, ?_⟩
    conv => whnf
    rw [hrow]
    refine ⟨.inr rfl, _, rfl, ?_⟩
    refine SW.go TTok ?_
    conv => whnf
    refine ⟨hqj, ?_⟩
    conv => whnf
    refine ⟨hql2, ?_⟩
    conv => whnf
    exact hQ (g - 1) _ _ hwb hLb hq1 hq2 (by omega) rfl ⟨q2r, q2r, q2r, q2r, q2r, q2r, q2r, q2r, q2r, q2r, q2r, trivial⟩
     ⟨q3r, q3r, ⟨rfl, .inl ⟨rfl, irows_noid _ _⟩⟩, ⟨rfl, .inl ⟨celE (hqset (g - 1) (by omega)), irows_noid _ _⟩⟩, trivial⟩
end
section
theorem l_inv {P w w' R q v : List Int} {j g' U0 : Nat} (hPl : P.length = j) (hR0 : val R = 0) (hjq : j < q.length) (hinv : val (P ++ (w ++ R)) + val v * 4294967296 ^ (j + 1) * val (q.drop (j + 1)) = U0) (hW : val w = g' * val v + val w') :
  val (P ++ (w' ++ R)) + val v * 4294967296 ^ j * val ((q.set j (g' : Int)).drop j) = U0 := by
 rw [val_append, val_append, hR0, Nat.mul_zero, Nat.add_zero, hPl, Nat.pow_succ, hW] at hinv
 rw [val_append, val_append, hR0, Nat.mul_zero, Nat.add_zero, hPl, List.drop_eq_getElem_cons (by rw [List.length_set]; exact hjq), List.getElem_set_self, List.drop_set_of_lt (Nat.lt_succ_self j)]
 show val P + 4294967296 ^ j * val w' + val v * 4294967296 ^ j * ((g' : Int).toNat + 4294967296 * val (q.drop (j + 1))) = U0
 rw [Int.toNat_natCast, ← hinv, Nat.mul_add, Nat.mul_add]
 have e1 : val v * 4294967296 ^ j * g' = 4294967296 ^ j * (g' * val v) := by ac_rfl
 have e2 : val v * 4294967296 ^ j * (4294967296 * val (q.drop (j + 1))) = val v * (4294967296 ^ j * 4294967296) * val (q.drop (j + 1)) := by ac_rfl
 rw [e1, e2]
 omega
theorem l_top {P w' R v : List Int} {j : Nat} (hPl : P.length = j) (hR0 : val R = 0) (h : val w' < val v) : val ((P ++ (w' ++ R)).drop j) < val v := by
 rw [List.drop_append, hPl, Nat.sub_self, List.drop_zero, List.drop_of_length_le (by omega), List.nil_append, val_append, hR0, Nat.mul_zero, Nat.add_zero]
 exact h
end
section
set_option maxHeartbeats 4000000 in
theorem Long_ok (a b : Nat) (hb2 : 2 ≤ (limbs b).length) (hab : b ≤ a) (hbnd : (limbs a).length < 100000000) : AC Tryz.prog 145 [natA a, natA b] (.pure (.tup [natA (a / b), natA (a % b)])) := by
 have hlab := limbs_len_mono hab
 have hne : limbs b ≠ [] := by intro e; rw [e] at hb2; simp at hb2
 have hLb := limbs_lim b
 obtain ⟨x, hx⟩ : ∃ x : Nat, (x : Int) = (limbs b).getLast hne := ⟨((limbs b).getLast hne).toNat, by have := hLb _ (List.getLast_mem hne); omega⟩
 have hxl := hLb _ (List.getLast_mem hne)
 have hx0 := limbs_last b hne
 rw [← hx] at hxl hx0
 have hsplit : limbs b = (limbs b).dropLast ++ [(x : Int)] := by rw [hx, List.dropLast_concat_getLast hne]
 have hxlt : x < 4294967296 := by omega
 have hxp : 0 < x := by omega
 have hbx := blen_le (n := x) (k := 32) hxlt
 have hbx0 : 0 < blen x := by unfold blen; rw [if_neg (by omega)]; omega
 obtain ⟨s, hs⟩ : ∃ s : Nat, s + blen x = 32 := ⟨32 - blen x, by omega⟩
 obtain ⟨hvl, hvb⟩ := norm_len hsplit hxp hxlt hs
 rw [List.length_dropLast] at hvl hvb
 have hLead := Lead_ok x hxlt
 rw [show (32 - (blen x : Int)) = (s : Int) by omega] at hLead
 have hS1 := Shl_ok b (s : Int) (by omega) (by omega)
 have hS2 := Shl_ok a (s : Int) (by omega) (by omega)
 rw [Int.toNat_natCast] at hS1 hS2
 obtain ⟨la, hla⟩ : ∃ la, la = (limbs a).length := ⟨_, rfl⟩
 obtain ⟨k, hk⟩ : ∃ k, (limbs b).length = k + 2 := ⟨(limbs b).length - 2, by omega⟩
 rw [hk] at hvl hvb hlab
 have ei : IntKind.i64.wrap (((irows .u32 (limbs b)).length : Int) - 1) = ((k + 1 : Nat) : Int) := by rw [irows_len, hk, IntWalk.i64_in _ (by omega)]; omega
 have hget : (limbs b)[k + 1]? = some (x : Int) := by rw [hsplit, List.getElem?_append_right (by rw [List.length_dropLast]; omega), List.length_dropLast, hk]; simp
 have e3 : IntKind.i64.wrap (((irows .u32 (limbs a)).length : Int) + 1) = ((la + 1 : Nat) : Int) := by rw [irows_len, ← hla, IntWalk.i64_in _ (by omega)]; omega
 have hvL := limbs_lim (b * 2 ^ s)
 have hvv := val_limbs (b * 2 ^ s)
 have huL := limbs_lim (a * 2 ^ s)
 have huv := val_limbs (a * 2 ^ s)
 have hs32 : s < 32 := by omega
 have hul : (limbs (a * 2 ^ s)).length ≤ la + 1 := by
  apply limbs_len_le
  have h1 := val_lt (limbs_lim a)
  rw [val_limbs, ← hla] at h1
  have h2 : 2 ^ s ≤ 4294967296 := Nat.le_trans (Nat.pow_le_pow_right (by decide) (show s ≤ 32 by omega)) (by decide)
  rw [Nat.pow_succ]
  exact Nat.lt_of_lt_of_le (Nat.mul_lt_mul_of_pos_right h1 (Nat.pow_pos (by decide))) (Nat.mul_le_mul_left _ h2)
 have hfin : ∀ q r, val q = a / b → val r = (a % b) * 2 ^ s → AV.tup [natA (val q), natA (val r / 2 ^ s)] = AV.tup [natA (a / b), natA (a % b)] := fun q r h1 h2 => by
  rw [h1, h2, Nat.mul_div_cancel _ (Nat.pow_pos (by decide))]
 have hvT : 2 ^ (32 * (k + 1) + 31) ≤ b * 2 ^ s := hvb
 have hlen0 : a * 2 ^ s < (b * 2 ^ s) * 4294967296 ^ (la - (k + 2) + 1) := by
  have h1 := val_lt (limbs_lim a)
  rw [val_limbs, ← hla] at h1
  have h2 : 4294967296 ^ (k + 1) ≤ b := by
   rcases Nat.lt_or_ge b (4294967296 ^ (k + 1)) with h | h
   ·have := limbs_len_le h; omega
   ·exact h
  have h3 : a < b * 4294967296 ^ (la - (k + 2) + 1) := by
   have h4 := Nat.mul_le_mul_right (4294967296 ^ (la - (k + 2) + 1)) h2
   rw [← Nat.pow_add, show k + 1 + (la - (k + 2) + 1) = la by omega] at h4
   omega
  have h5 := Nat.mul_lt_mul_of_pos_right h3 (Nat.pow_pos (n := s) (show 0 < 2 by decide))
  rw [Nat.mul_assoc, Nat.mul_comm (4294967296 ^ _), ← Nat.mul_assoc] at h5
  exact h5
 revert hS1 hS2 hvl hvL hvv huL huv hul hfin
 unfold natA
 generalize limbs (b * 2 ^ s) = v
 generalize limbs (a * 2 ^ s) = u0
 generalize hres : AV.tup [AV.agg [AV.sl 1 (irows .u32 (limbs (a / b))) false], AV.agg [AV.sl 1 (irows .u32 (limbs (a % b))) false]] = res
 intro hS1 hS2 hvl hvL hvv huL huv hul hfin
 have hno : NoId res := by rw [← hres]; exact .tup _ (noid2 (natA_noid _) (natA_noid _))
 refine AC.of_body TTok Tryz.func145 rfl (enter_of Tryz.func145 (by kernel_rfl) (by kernel_rfl)) (noid2 (natA_noid a) (natA_noid b)) hno (nbq rfl) ?_
 conv => whnf
 refine ⟨[.val (.int .u32 (x : Int))], ⟨by rw [ei]; omega, by rw [ei]; exact irows_get _ _ hget⟩, ?_⟩
 conv => whnf
 refine ⟨_, hLead, ?_⟩
 conv => whnf
 refine ⟨_, hS1, ?_⟩
 conv => whnf
 refine ⟨⟨by rw [e3]; omega, by rw [e3]; omega, ?_⟩, ?_⟩
 ·rw [e3]; show ((la + 1 : Nat) : Int) * 4 ≤ _; omega
 conv => whnf
 refine ⟨_, hS2, ?_⟩
 conv => whnf
 have em : IntKind.i64.wrap (((irows .u32 (limbs a)).length : Int) - ((irows .u32 (limbs b)).length : Int)) = ((la - (k + 2) : Nat) : Int) := by
  rw [irows_len, irows_len, ← hla, hk, IntWalk.i64_in _ (by omega)]; omega
 obtain ⟨m, hm⟩ : ∃ m, m = la - (k + 2) := ⟨_, rfl⟩
 rw [← hm] at em
 have em1 : IntKind.i64.wrap (IntKind.i64.wrap (((irows .u32 (limbs a)).length : Int) - ((irows .u32 (limbs b)).length : Int)) + 1) = ((m + 1 : Nat) : Int) := by
  rw [em, IntWalk.i64_in _ (by omega)]; omega
 have et : IntKind.i64.wrap (((irows .u32 v).length : Int) - 1) = ((k + 1 : Nat) : Int) := by rw [irows_len, hvl, IntWalk.i64_in _ (by omega)]; omega
 have es : IntKind.i64.wrap (((irows .u32 v).length : Int) - 2) = ((k : Nat) : Int) := by rw [irows_len, hvl, IntWalk.i64_in _ (by omega)]; omega
 have hvk1 : k + 1 < v.length := by omega
 have hvk : k < v.length := by omega
 refine ⟨Nat.le_of_eq (by rw [List.length_replicate, Nat.zero_add]), ?_⟩
 conv => whnf
 refine ⟨by kernel_rfl, ?_⟩
 conv => whnf
 refine ⟨⟨by rw [em1]; omega, by rw [em1]; omega, ?_⟩, ?_⟩
 ·rw [em1]; show ((m + 1 : Nat) : Int) * 4 ≤ _; omega
 conv => whnf
 refine ⟨[.val (.int .u32 v[k + 1])], ⟨by rw [et]; omega, by rw [et]; exact irows_get _ _ (List.getElem?_eq_getElem hvk1)⟩, ?_⟩
 conv => whnf
 refine ⟨[.val (.int .u32 v[k])], ⟨by rw [es]; omega, by rw [es]; exact irows_get _ _ (List.getElem?_eq_getElem hvk)⟩, ?_⟩
 conv => whnf
 refine ⟨by kernel_rfl, ?_⟩
 conv => whnf
 have hTl := hvL v[k + 1] (List.getElem_mem _)
 have hSl := hvL v[k] (List.getElem_mem _)
 refine SW.loopS TTok (fun x : Nat × List Int × List Int => [(4, .lp 16 0), (5, .lp 24 0), (6, .val (.int .i64 s)), (7, .sl 1 (irows .u32 v) false), (8, .own 184 0 (la + 1)), (9, .val (.int .i64 (k + 2 : Nat))), (11, .own 352 0 (m + 1)), (12, .val (.int .u64 (v[k + 1].toNat : Nat))), (13, .val (.int .u64 (v[k].toNat : Nat))), (14, .val (.int .i64 ((x.1 : Int) - 1)))])
  (fun x => [(16, .cells 1 [[.sl 0 [] true]]), (24, .cells 1 [[.sl 0 [] true]]), (184, .cells 1 (irows .u32 x.2.1)), (352, .cells 1 (irows .u32 x.2.2))]) 100000 152 rfl (fun x => x.1)
  (fun x => x.1 ≤ m + 1 ∧ x.2.1.length = la + 1 ∧ Lim x.2.1 ∧ val (x.2.1.drop x.1) < val v ∧ x.2.2.length = m + 1 ∧ Lim x.2.2 ∧ val x.2.1 + val v * 4294967296 ^ x.1 * val (x.2.2.drop x.1) = val u0)
  (m + 1, u0 ++ List.replicate (la + 1 - u0.length) 0, List.replicate (m + 1) 0) [] ?_
  ⟨q2r, q2r, q2r, q2r, ⟨ownE rfl ?_, rfl⟩, ⟨valI ?_, rfl⟩, ⟨ownE rfl ?_, rfl⟩, ⟨valI ?_, rfl⟩, ⟨valI ?_, rfl⟩, ⟨valI ?_, rfl⟩, trivial⟩
  ⟨q3r, q3r, ⟨rfl, .inl ⟨celE ?_, irows_noid _ _⟩⟩, ⟨rfl, .inl ⟨celE ?_, irows_noid _ _⟩⟩, trivial⟩ rfl ?_
 ·have hz : val (List.replicate (la + 1 - u0.length) 0) = 0 := val_rep _
  have hv0 : val (u0 ++ List.replicate (la + 1 - u0.length) 0) = val u0 := by rw [val_append, hz, Nat.mul_zero, Nat.add_zero]
  have hL0 : Lim (u0 ++ List.replicate (la + 1 - u0.length) 0) := fun x hx => by
   rcases List.mem_append.1 hx with hx | hx
   ·exact huL x hx
   ·have := List.eq_of_mem_replicate hx; omega
  have hl0 : (u0 ++ List.replicate (la + 1 - u0.length) 0).length = la + 1 := by rw [List.length_append, List.length_replicate]; omega
  refine ⟨Nat.le_refl _, hl0, hL0, ?_, List.length_replicate, Lim.rep _, ?_⟩
  ·show val (List.drop (m + 1) (u0 ++ List.replicate (la + 1 - u0.length) 0)) < val v
   rw [val_drop hL0 (by rw [hl0]; omega), hv0, huv, hvv]
   apply Nat.div_lt_of_lt_mul
   rw [hm, Nat.mul_comm (4294967296 ^ _)]
   exact hlen0
  ·show val (u0 ++ List.replicate (la + 1 - u0.length) 0) + val v * 4294967296 ^ (m + 1) * val (List.drop (m + 1) (List.replicate (m + 1) 0)) = val u0
   rw [List.drop_of_length_le (by rw [List.length_replicate]; exact Nat.le_refl _), hv0, show val [] = 0 from rfl, Nat.mul_zero, Nat.add_zero]
 ·rw [e3]; omega
 ·rw [irows_len]; omega
 ·rw [em1]; omega
 ·show IntKind.u64.wrap v[k + 1] = _
  rw [IntKind.wrap_u64]; omega
 ·show IntKind.u64.wrap v[k] = _
  rw [IntKind.wrap_u64]; omega
 ·rw [em]; show (m : Int) = ((m + 1 : Nat) : Int) - 1; omega
 ·show _ = irows .u32 (u0 ++ List.replicate (la + 1 - u0.length) 0)
  have e4 : (IntKind.i64.wrap (((irows .u32 (limbs a)).length : Int) + 1)).toNat = la + 1 := by rw [e3]; omega
  rw [e4, irows_len, ← irows_append, ← irows_rep]
  have e5 : Nat.min u0.length (la + 1) = u0.length := Nat.min_eq_left hul
  rw [e5, List.take_zero, List.nil_append, List.take_of_length_le (by rw [irows_len]; exact Nat.le_refl _), Nat.zero_add, List.drop_replicate]
  rfl
 ·rw [em1, Int.toNat_natCast, ← irows_rep]; rfl
 rintro ⟨c, u, q⟩ hJ
 have hc : c ≤ m + 1 := hJ.1
 have hul : u.length = la + 1 := hJ.2.1
 have huL : Lim u := hJ.2.2.1
 have hut : val (u.drop c) < val v := hJ.2.2.2.1
 have hql : q.length = m + 1 := hJ.2.2.2.2.1
 have hqL : Lim q := hJ.2.2.2.2.2.1
 have hinv : val u + val v * 4294967296 ^ c * val (q.drop c) = val u0 := hJ.2.2.2.2.2.2
 clear hJ
 refine SW.seq (SW.go TTok ?_)
 conv => whnf
 refine caseb (fun h1 => ?_) (fun h1 => ?_)
 ·have h1' : (c : Int) - 1 ≥ 0 := of_decide_eq_true h1
  conv => whnf
  have hlam : la = m + k + 2 := by omega
  obtain ⟨j, rfl⟩ : ∃ j, c = j + 1 := ⟨c - 1, by omega⟩
  obtain ⟨P, w, R, huw, hPl, hwl, hwL, hPL, hRL, hR0, hWB, hsum⟩ := long_win (j := j) (k := k) huL hvL hvl (by omega) hut
  have hT0' := long_T hvL hvl (by rw [hvv]; exact hvT) hvk1
  have g2 : k + 2 < w.length := by omega
  have g1 : k + 1 < w.length := by omega
  have g0 : k < w.length := by omega
  obtain ⟨T, S, num, third, vlow, wlow, K, hT, hS, hthird, hnum, hTB, hSB, hT0, h3B, hnumT, hVeq, hvlow, hWeq, hwlow⟩ := long_num hvL hwL hvl hwl hvk1 hvk g2 g1 g0 hT0' hWB
  clear hvT hlen0
  have hX := hwL w[k + 2] (List.getElem_mem _)
  have hY := hwL w[k + 1] (List.getElem_mem _)
  have hZ := hwL w[k] (List.getElem_mem _)
  have hget : ∀ i (h : i < w.length), u[j + i]? = some w[i] := fun i h => by
   rw [huw, List.getElem?_append_right (by omega), hPl, Nat.add_sub_cancel_left, List.getElem?_append_left h, List.getElem?_eq_getElem h]
  have ejn : IntKind.i64.wrap ((((j + 1 : Nat) : Int) - 1) + ((k + 2 : Nat) : Int)) = ((j + (k + 2) : Nat) : Int) := by rw [IntWalk.i64_in _ (by omega)]; omega
  have ejn1 : IntKind.i64.wrap (IntKind.i64.wrap ((((j + 1 : Nat) : Int) - 1) + ((k + 2 : Nat) : Int)) - 1) = ((j + (k + 1) : Nat) : Int) := by rw [ejn, IntWalk.i64_in _ (by omega)]; omega
  have ejn2 : IntKind.i64.wrap (IntKind.i64.wrap ((((j + 1 : Nat) : Int) - 1) + ((k + 2 : Nat) : Int)) - 2) = ((j + k : Nat) : Int) := by rw [ejn, IntWalk.i64_in _ (by omega)]; omega
  have enum : IntKind.u64.wrap ((BitVec.ofInt IntKind.u64.bits (IntKind.u64.wrap (IntKind.u64.wrap w[k + 2] * 2 ^ (min (32 : Int).toNat IntKind.u64.bits))) ||| BitVec.ofInt IntKind.u64.bits (IntKind.u64.wrap w[k + 1])).toNat : Int) = (num : Int) := by
   rw [shl_32 hX, show IntKind.u64.wrap w[k + 1] = (w[k + 1].toNat : Int) by rw [IntKind.wrap_u64]; omega, BitVec.or_comm, or_u64 (by omega) (by omega), hnum]
   omega
  refine SW.seq (SW.block (SW.seq (SW.go TTok ?_)))
  conv => whnf
  refine ⟨⟨by rw [ejn]; omega, by rw [ejn]; omega⟩, ?_⟩
  conv => whnf
  refine ⟨[.val (.int .u32 w[k + 2])], (by rw [ejn, Nat.zero_add, Int.toNat_natCast]; exact irows_get _ _ (hget _ _)), ?_⟩
  conv => whnf
  refine ⟨by decide, ?_⟩
  conv => whnf
  refine ⟨⟨by rw [ejn1]; omega, by rw [ejn1]; omega⟩, ?_⟩
  conv => whnf
  refine ⟨[.val (.int .u32 w[k + 1])], (by rw [ejn1, Nat.zero_add, Int.toNat_natCast]; exact irows_get _ _ (hget _ _)), ?_⟩
  conv => whnf
  refine ⟨by kernel_rfl, ?_⟩
  conv => whnf
  rw [enum]
  refine SW.seq (SW.go TTok ?_)
  have hTi : ((v[k + 1].toNat : Nat) : Int) ≠ 0 := by omega
  conv => whnf
  refine ⟨hTi, ?_⟩
  conv => whnf
  refine ⟨hTi, ?_⟩
  conv => whnf
  refine ⟨by kernel_rfl, ?_⟩
  conv => whnf
  obtain ⟨gg, hgg⟩ : ∃ x, x = num / T := ⟨_, rfl⟩
  obtain ⟨rr, hrr⟩ : ∃ x, x = num % T := ⟨_, rfl⟩
  have hdm : num = gg * T + rr := by rw [hgg, hrr, Nat.mul_comm]; exact (Nat.div_add_mod num T).symm
  have hrrT : rr < T := by rw [hrr]; exact Nat.mod_lt _ hT0
  have hggn : gg ≤ num := by rw [hgg]; exact Nat.div_le_self _ _
  have hfirst := guess_first hVeq hWeq hwlow h3B hT0
  rw [← hgg] at hfirst
  have hTB2 : T * 4294967296 ≤ 4294967295 * 4294967296 := Nat.mul_le_mul_right _ (by omega)
  have eg : IntKind.u64.wrap ((num : Int).tdiv ((v[k + 1].toNat : Nat) : Int)) = (gg : Int) := by
   rw [← hT, Int.tdiv_eq_ediv_of_nonneg (Int.natCast_nonneg _), ← Int.natCast_ediv, ← hgg, IntKind.wrap_u64]
   omega
  have er : (num : Int).tmod ((v[k + 1].toNat : Nat) : Int) = (rr : Int) := by
   rw [← hT, Int.tmod_eq_emod_of_nonneg (Int.natCast_nonneg _), ← Int.natCast_emod, ← hrr]
  rw [eg, er]
  refine SW.cut (fun s3 => ∃ g : Nat, g < 4294967296 ∧ g * (T * 4294967296 + S) ≤ num * 4294967296 + third ∧ val w < (g + 1) * val v ∧ s3 = mkS [(4, .lp 16 0), (5, .lp 24 0), (6, .val (.int .i64 s)), (7, .sl 1 (irows .u32 v) false), (8, .own 184 0 (la + 1)), (9, .val (.int .i64 (k + 2 : Nat))), (11, .own 352 0 (m + 1)), (12, .val (.int .u64 T)), (13, .val (.int .u64 S)), (14, .val (.int .i64 j)), (16, .val (.int .u64 g))]
   [(16, .cells 1 [[.sl 0 [] true]]), (24, .cells 1 [[.sl 0 [] true]]), (184, .cells 1 (irows .u32 (P ++ (w ++ R)))), (352, .cells 1 (irows .u32 q))] 100000 152) (SW.block ?_) ?_
  ·refine SW.loopM TTok (fun x : Nat × Nat => [(4, .lp 16 0), (5, .lp 24 0), (6, .val (.int .i64 s)), (7, .sl 1 (irows .u32 v) false), (8, .own 184 0 (la + 1)), (9, .val (.int .i64 (k + 2 : Nat))), (11, .own 352 0 (m + 1)), (12, .val (.int .u64 T)), (13, .val (.int .u64 S)), (14, .val (.int .i64 j)), (16, .val (.int .u64 x.1)), (17, .val (.int .u64 x.2))])
    (fun x => [(16, .cells 1 [[.sl 0 [] true]]), (24, .cells 1 [[.sl 0 [] true]]), (184, .cells 1 (irows .u32 (P ++ (w ++ R)))), (352, .cells 1 (irows .u32 q))]) 100000 152 rfl (fun x => x.1)
    (fun x => num = x.1 * T + x.2 ∧ x.2 < 4294967296 ∧ val w < (x.1 + 1) * val v ∧ x.1 ≤ num) (gg, rr) [] ⟨hdm, Nat.lt_trans hrrT hTB, hfirst, hggn⟩
    ⟨q2r, q2r, q2r, q2r, q2r, q2r, q2r, ⟨valI (by rw [← hT]), rfl⟩, ⟨valI (by rw [← hS]), rfl⟩, ⟨valI (by show ((j + 1 : Nat) : Int) - 1 = (j : Int); omega), rfl⟩, q2r, q2r, trivial⟩
    ⟨q3r, q3r, ⟨rfl, .inl ⟨celE (by rw [← huw]), irows_noid _ _⟩⟩, ⟨rfl, .inl ⟨rfl, irows_noid _ _⟩⟩, trivial⟩ rfl ?_
   rintro ⟨g, r⟩ hJ
   have hgr : num = g * T + r := hJ.1
   have hrB : r < 4294967296 := hJ.2.1
   have hgq : val w < (g + 1) * val v := hJ.2.2.1
   have hgn : g ≤ num := hJ.2.2.2
   clear hJ
   have ejk : IntKind.i64.wrap (IntKind.i64.wrap ((j : Int) + ((k + 2 : Nat) : Int)) - 2) = ((j + k : Nat) : Int) := by rw [IntWalk.i64_in ((j : Int) + _) (by omega), IntWalk.i64_in _ (by omega)]; omega
   have hgetk : (P ++ (w ++ R))[j + k]? = some w[k] := by rw [← huw]; exact hget k g0
   have hlpr : (P ++ (w ++ R)).length = la + 1 := by rw [← huw]; exact hul
   have dec : val w < g * val v → ∃ g' : Nat, g = g' + 1 ∧ num = g' * T + (r + T) ∧ val w < (g' + 1) * val v := fun h => by
    rcases g with _ | g'
    ·rw [Nat.zero_mul] at h; omega
    ·exact ⟨g', rfl, by rw [hgr, Nat.add_mul]; omega, h⟩
   have fin : ∀ (g' : Nat) (s2 : St), s2.m = 152 → okT s2 (σf []) 100000 [(4, .lp 16 0), (5, .lp 24 0), (6, .val (.int .i64 s)), (7, .sl 1 (irows .u32 v) false), (8, .own 184 0 (la + 1)), (9, .val (.int .i64 (k + 2 : Nat))), (11, .own 352 0 (m + 1)), (12, .val (.int .u64 T)), (13, .val (.int .u64 S)), (14, .val (.int .i64 j)), (16, .val (.int .u64 g'))] →
     okH s2 (σf []) 100000 [(16, .cells 1 [[.sl 0 [] true]]), (24, .cells 1 [[.sl 0 [] true]]), (184, .cells 1 (irows .u32 (P ++ (w ++ R)))), (352, .cells 1 (irows .u32 q))] → g' < 4294967296 → g' * (T * 4294967296 + S) ≤ num * 4294967296 + third → val w < (g' + 1) * val v →
     ∃ s3, Wk s2 s3 ∧ s3.m = s2.m ∧ ∃ g : Nat, g < 4294967296 ∧ g * (T * 4294967296 + S) ≤ num * 4294967296 + third ∧ val w < (g + 1) * val v ∧ s3 = mkS [(4, .lp 16 0), (5, .lp 24 0), (6, .val (.int .i64 s)), (7, .sl 1 (irows .u32 v) false), (8, .own 184 0 (la + 1)), (9, .val (.int .i64 (k + 2 : Nat))), (11, .own 352 0 (m + 1)), (12, .val (.int .u64 T)), (13, .val (.int .u64 S)), (14, .val (.int .i64 j)), (16, .val (.int .u64 g))]
      [(16, .cells 1 [[.sl 0 [] true]]), (24, .cells 1 [[.sl 0 [] true]]), (184, .cells 1 (irows .u32 (P ++ (w ++ R)))), (352, .cells 1 (irows .u32 q))] 100000 152 := fun g' s2 hm2 e1 e2 a1 a2 a3 =>
    ⟨_, Wk.of (σf []) _ _ 100000 152 hm2 e1 e2 rfl, hm2.symm, g', a1, a2, a3, rfl⟩
   conv => whnf
   refine caseb (fun h2 => ?ca) (fun h2 => ?cb)
   case' cb =>
    have h2' : ¬ (g : Int) ≥ 4294967296 := of_decide_eq_false h2
    have emul := long_mul (g := g) (S := S) (by omega) hSB
    have esh := long_sh hrB
    obtain ⟨gs, hgs⟩ : ∃ x, x = g * S := ⟨_, rfl⟩
    obtain ⟨rb, hrb⟩ : ∃ x, x = r * 4294967296 := ⟨_, rfl⟩
    rw [← hgs] at emul
    rw [← hrb] at esh
    have eor := long_or (third := third) (x := w[k]) hZ hthird hrB hrb
    conv => whnf
    rw [emul]
    refine ⟨by decide, ?_⟩
    conv => whnf
    rw [esh]
    refine ⟨⟨by rw [ejk]; omega, by rw [ejk]; omega⟩, ?_⟩
    conv => whnf
    refine ⟨[.val (.int .u32 w[k])], (by rw [ejk, Nat.zero_add, Int.toNat_natCast]; exact irows_get _ _ hgetk), ?_⟩
    conv => whnf
    refine caseb (fun h3 => ?cc) (fun h3 => ?cd)
   case cd =>
    have h3' : ¬ (gs : Int) > IntKind.u64.wrap ((BitVec.ofInt IntKind.u64.bits (rb : Int) ||| BitVec.ofInt IntKind.u64.bits (IntKind.u64.wrap w[k])).toNat : Int) := of_decide_eq_false h3
    rw [eor, hgs] at h3'
    have hE := guess_pass (S := S) hgr (third := third) (by omega)
    conv => whnf
    exact fin g _ rfl ⟨q2r, q2r, q2r, q2r, q2r, q2r, q2r, q2r, q2r, q2r, q2r, trivial⟩
     ⟨q3r, q3r, ⟨rfl, .inl ⟨rfl, irows_noid _ _⟩⟩, ⟨rfl, .inl ⟨rfl, irows_noid _ _⟩⟩, trivial⟩ (by omega) hE hgq
   case' cc =>
    have h3' : (gs : Int) > IntKind.u64.wrap ((BitVec.ofInt IntKind.u64.bits (rb : Int) ||| BitVec.ofInt IntKind.u64.bits (IntKind.u64.wrap w[k])).toNat : Int) := of_decide_eq_true h3
    rw [eor, hgs] at h3'
    have hdec := guess_dec hVeq hWeq hwlow hgr (by omega)
   case' ca =>
    have h2' : (g : Int) ≥ 4294967296 := of_decide_eq_true h2
    have hdec := guess_big (g := g) hWB (by omega)
   all_goals
    obtain ⟨g', rfl, hg1, hg2⟩ := dec hdec
    have e16 : IntKind.u64.wrap (((g' + 1 : Nat) : Int) - 1) = (g' : Int) := by rw [IntKind.wrap_u64]; omega
    have e17 : IntKind.u64.wrap ((r : Int) + (T : Int)) = ((r + T : Nat) : Int) := by rw [IntKind.wrap_u64]; omega
    conv => whnf
    refine caseb (fun h4 => ?_) (fun h4 => ?_)
    ·have h4' : IntKind.u64.wrap ((r : Int) + (T : Int)) ≥ 4294967296 := of_decide_eq_true h4
     rw [e17] at h4'
     have hlt := guess_lt (un := 0) hg1 (by omega) hnumT
     have hE := guess_break (third := third) hg1 (by omega) hlt hSB
     conv => whnf
     exact fin g' _ rfl ⟨q2r, q2r, q2r, q2r, q2r, q2r, q2r, q2r, q2r, q2r, ⟨valI e16, rfl⟩, trivial⟩
      ⟨q3r, q3r, ⟨rfl, .inl ⟨rfl, irows_noid _ _⟩⟩, ⟨rfl, .inl ⟨rfl, irows_noid _ _⟩⟩, trivial⟩ hlt hE hg2
    ·have h4' : ¬ IntKind.u64.wrap ((r : Int) + (T : Int)) ≥ 4294967296 := of_decide_eq_false h4
     rw [e17] at h4'
     conv => whnf
     exact ⟨(g', r + T), [], Nat.lt_succ_self g', ⟨hg1, by show r + T < 4294967296; omega, hg2, by show g' ≤ num; omega⟩,
      ⟨q2r, q2r, q2r, q2r, q2r, q2r, q2r, q2r, q2r, q2r, ⟨valI e16, rfl⟩, ⟨valI e17, rfl⟩, trivial⟩,
      ⟨q3r, q3r, ⟨rfl, .inl ⟨rfl, irows_noid _ _⟩⟩, ⟨rfl, .inl ⟨rfl, irows_noid _ _⟩⟩, trivial⟩, rfl⟩
  ·rintro s3 hm3 ⟨g, hgB, hE, hgq, rfl⟩
   have hgV := guess_ok hVeq hWeq hvlow hT0 hE hgB
   have hlpr : (P ++ (w ++ R)).length = la + 1 := by rw [← huw]; exact hul
   have hjm : j ≤ m := by omega
   have hjq : j < q.length := by omega
   rw [huw] at hinv
   refine Long_step la m k s j g v P w R q T S hlam (by omega) hjm hvl hvL hPl hwl hwL hlpr hql hgB hgq hgV ?_
   clear hgV hgq hE hgB hwlow hWeq hvlow hVeq hnumT hfirst hggn hrrT hdm
   intro g' w' s2 hwl' hwL' hWe hWl hgB' hm2 okt okh
   have hinv' := l_inv (w' := w') hPl hR0 hjq hinv hWe
   have htop' := l_top hPl hR0 hWl
   have hlen' : (P ++ (w' ++ R)).length = la + 1 := by rw [← hlpr]; simp only [List.length_append, hwl, hwl']
   have hLim' : Lim (P ++ (w' ++ R)) := fun x hx => by
    rcases List.mem_append.1 hx with hx | hx
    ·exact hPL x hx
    ·rcases List.mem_append.1 hx with hx | hx
     ·exact hwL' x hx
     ·exact hRL x hx
   have hqL' : Lim (q.set j (g' : Int)) := hqL.set ⟨Int.natCast_nonneg g', by omega⟩
   have hql' : (q.set j (g' : Int)).length = m + 1 := by rw [List.length_set]; exact hql
   have ej1 : IntKind.i64.wrap ((j : Int) - 1) = (j : Int) - 1 := IntWalk.i64_in _ (by omega)
   refine SW.weak (Wk.of (σf []) _ _ 100000 152 hm2 okt okh rfl) hm2.symm ?_
   refine SW.go TTok ?_
   conv => whnf
   exact ⟨(j, P ++ (w' ++ R), q.set j (g' : Int)), [], Nat.lt_succ_self j, ⟨Nat.le_succ_of_le hjm, hlen', hLim', htop', hql', hqL', hinv'⟩,
    ⟨q2r, q2r, q2r, q2r, q2r, q2r, q2r, ⟨valI (by rw [hT]), rfl⟩, ⟨valI (by rw [hS]), rfl⟩, ⟨valI ej1, rfl⟩, trivial⟩,
    ⟨q3r, q3r, ⟨rfl, .inl ⟨rfl, irows_noid _ _⟩⟩, ⟨rfl, .inl ⟨rfl, irows_noid _ _⟩⟩, trivial⟩, rfl⟩
 ·have h1' : ¬ (c : Int) - 1 ≥ 0 := of_decide_eq_false h1
  have hc0 : c = 0 := by omega
  subst hc0
  rw [Nat.pow_zero, Nat.mul_one, List.drop_zero, huv, hvv] at hinv
  rw [List.drop_zero, hvv] at hut
  obtain ⟨hq, hr⟩ := div_scale hinv hut (Nat.pow_pos (by decide))
  have hres2 := hfin q u hq hr
  have hlu : (limbs (val u)).length ≤ la + 1 := limbs_len_le (by rw [← hul]; exact val_lt huL)
  have hTq := trim_ok q hqL (by omega)
  have hTu := trim_ok u huL (by omega)
  have hSh := Shr_ok (val u) (s : Int) (by omega) (by omega)
  rw [Int.toNat_natCast] at hSh
  have hTq : AC Tryz.prog 117 [.sl 1 (List.take (m + 1) (List.drop 0 (irows .u32 q))) false] (.pure (natA (val q))) := by
   rw [List.drop_zero, List.take_of_length_le (by rw [irows_len]; omega)]; exact hTq
  have hTu : AC Tryz.prog 117 [.sl 1 (List.take (la + 1) (List.drop 0 (irows .u32 u))) false] (.pure (natA (val u))) := by
   rw [List.drop_zero, List.take_of_length_le (by rw [irows_len]; omega)]; exact hTu
  unfold natA at hTq hTu hSh
  conv => whnf
  refine ⟨by rw [irows_len]; show 0 + (m + 1) ≤ q.length; omega, _, hTq, ?_⟩
  conv => whnf
  refine ⟨by rw [irows_len]; show 0 + (la + 1) ≤ u.length; omega, _, hTu, ?_⟩
  conv => whnf
  refine ⟨_, hSh, ?_⟩
  conv => whnf
  exact hres2
end
section
theorem DivMod_long (n m : Nat) (h : m ≤ n) (h2 : 2 ≤ (limbs m).length) (hb : (limbs n).length < 100000000) : AC Tryz.prog 128 [natA n, natA m] (.pure (.tup [natA (n / m), natA (n % m), .val (.bool true)])) := by
 have hlm := limbs_len_mono h
 refine AC.of_body TTok Tryz.func128 rfl (enter_of Tryz.func128 (by kernel_rfl) (by kernel_rfl)) (noid2 (natA_noid n) (natA_noid m)) (.tup _ (noid3 (natA_noid _) (natA_noid _) (.val _))) (nbq rfl) ?_
 have hc := Cmp_ok n m (by omega) (by omega)
 have hL := Long_ok n m h2 h hb
 have hcn : ¬ cmpN n m < 0 := by
  unfold cmpN
  rw [if_neg (by omega)]
  split <;> decide
 revert hL hc hcn
 generalize n / m = q
 generalize n % m = r
 generalize cmpN n m = c
 intro hc hL hcn
 have e1 : (((irows .u32 (limbs m)).length : Int) == 0) = false := by rw [irows_len]; exact beq_false_of_ne (by omega)
 have e2 : (((irows .u32 (limbs m)).length : Int) == 1) = false := by rw [irows_len]; exact beq_false_of_ne (by omega)
 unfold natA at *
 conv => whnf
 refine caseb (fun h => Bool.noConfusion (e1.symm.trans h)) (fun _ => ?_)
 conv => whnf
 refine ⟨_, hc, ?_⟩
 conv => whnf
 refine caseb (fun h => absurd (of_decide_eq_true h) hcn) (fun _ => ?_)
 conv => whnf
 refine caseb (fun h => Bool.noConfusion (e2.symm.trans h)) (fun _ => ?_)
 conv => whnf
 refine ⟨_, hL, ?_⟩
 conv => whnf
 refine ⟨by kernel_rfl, ?_⟩
 conv => whnf
 exact rfl
theorem DivMod_ok (n m : Nat) (h0 : 0 < m) (hb : (limbs n).length < 100000000) (hb' : (limbs m).length < 100000000) : AC Tryz.prog 128 [natA n, natA m] (.pure (.tup [natA (n / m), natA (n % m), .val (.bool true)])) := by
 rcases Nat.lt_or_ge n m with h | h
 ·exact DivMod_lt n m h (by omega) (by omega)
 ·rcases Nat.lt_or_ge m 4294967296 with h1 | h1
  ·exact DivMod_one n m h h0 h1 (by omega)
  ·refine DivMod_long n m h ?_ hb
   rcases Nat.lt_or_ge (limbs m).length 2 with h2 | h2
   ·have h3 := val_lt (limbs_lim m)
    rw [val_limbs] at h3
    have h4 : 4294967296 ^ (limbs m).length ≤ 4294967296 ^ 1 := Nat.pow_le_pow_right (by decide) (by omega)
    rw [Nat.pow_one] at h4
    omega
   ·exact h2
end
section
theorem fl_eq (a b : Int) (hb : b ≠ 0) : flQ a b * b + flR a b = a := by
 obtain ⟨Q, hQ⟩ : ∃ Q, Q = a.natAbs / b.natAbs := ⟨_, rfl⟩
 obtain ⟨r, hr2⟩ : ∃ r, r = a.natAbs % b.natAbs := ⟨_, rfl⟩
 have hA : ((a.natAbs : Nat) : Int) = (b.natAbs : Int) * (Q : Int) + (r : Int) := by
  rw [hQ, hr2, ← Int.natCast_mul, ← Int.natCast_add, Nat.div_add_mod]
 have hr : r < b.natAbs := by rw [hr2]; exact Nat.mod_lt _ (by omega)
 unfold flQ flR flS
 rw [← hQ, ← hr2]
 clear hQ hr2
 by_cases na : a < 0
 ·by_cases nb : b < 0
  ·rw [decide_eq_true na, decide_eq_true nb, decide_eq_true (.inl rfl), if_pos rfl, if_pos rfl]
   show (Q : Int) * b + -(r : Int) = a
   have e1 : (Q : Int) * b = -((b.natAbs : Int) * (Q : Int)) := by
    rw [show b = -((b.natAbs : Nat) : Int) by omega, Int.mul_neg, Int.natAbs_neg, Int.natAbs_natCast, Int.mul_comm]
   omega
  ·by_cases h0 : r = 0
   ·rw [decide_eq_true na, decide_eq_false nb, decide_eq_true (.inr h0), if_pos rfl, if_pos rfl, h0]
    show -(Q : Int) * b + (0 : Int) = a
    have e1 : -(Q : Int) * b = -((b.natAbs : Int) * (Q : Int)) := by
     rw [show b = ((b.natAbs : Nat) : Int) by omega, Int.neg_mul, Int.natAbs_natCast, Int.mul_comm]
    omega
   ·rw [decide_eq_true na, decide_eq_false nb, decide_eq_false (by intro h; rcases h with h | h; cases h; exact h0 h), if_neg (by decide), if_neg (by decide)]
    show -((Q + 1 : Nat) : Int) * b + ((b.natAbs - r : Nat) : Int) = a
    have e1 : -((Q + 1 : Nat) : Int) * b = -((b.natAbs : Int) * (Q : Int)) - (b.natAbs : Int) := by
     rw [show b = ((b.natAbs : Nat) : Int) by omega, Int.neg_mul, Int.natAbs_natCast, Int.mul_comm, Int.natCast_add, Int.mul_add]
     omega
    omega
 ·by_cases nb : b < 0
  ·by_cases h0 : r = 0
   ·rw [decide_eq_false na, decide_eq_true nb, decide_eq_true (.inr h0), if_pos rfl, if_pos rfl, h0]
    show -(Q : Int) * b + (-(0 : Int)) = a
    have e1 : -(Q : Int) * b = (b.natAbs : Int) * (Q : Int) := by
     rw [show b = -((b.natAbs : Nat) : Int) by omega, Int.neg_mul_neg, Int.natAbs_neg, Int.natAbs_natCast, Int.mul_comm]
    omega
   ·rw [decide_eq_false na, decide_eq_true nb, decide_eq_false (by intro h; rcases h with h | h; cases h; exact h0 h), if_neg (by decide), if_neg (by decide)]
    show -((Q + 1 : Nat) : Int) * b + -((b.natAbs - r : Nat) : Int) = a
    have e1 : -((Q + 1 : Nat) : Int) * b = (b.natAbs : Int) * (Q : Int) + (b.natAbs : Int) := by
     rw [show b = -((b.natAbs : Nat) : Int) by omega, Int.neg_mul_neg, Int.natAbs_neg, Int.natAbs_natCast, Int.mul_comm, Int.natCast_add, Int.mul_add]
     omega
    omega
  ·rw [decide_eq_false na, decide_eq_false nb, decide_eq_true (.inl rfl), if_pos rfl, if_pos rfl]
   show (Q : Int) * b + (r : Int) = a
   have e1 : (Q : Int) * b = (b.natAbs : Int) * (Q : Int) := by
    rw [show b = ((b.natAbs : Nat) : Int) by omega, Int.natAbs_natCast, Int.mul_comm]
   omega
theorem fl_abs (a b : Int) (hb : b ≠ 0) : (flR a b).natAbs < b.natAbs ∧ (flR a b = 0 ∨ decide (flR a b < 0) = decide (b < 0)) ∧ (flQ a b).natAbs ≤ a.natAbs / b.natAbs + 1 := by
 have hr : a.natAbs % b.natAbs < b.natAbs := Nat.mod_lt _ (by omega)
 have key : ∀ (s : Bool) (n : Nat), sgn s n = 0 ∨ decide (sgn s n < 0) = s := fun s n => by
  rw [sgn_neg]
  by_cases h : n = 0
  ·left; subst h; cases s <;> rfl
  ·right; rw [decide_eq_false h]; cases s <;> rfl
 unfold flQ flR
 cases hs : flS a b with
 | true =>
  rw [if_pos rfl, if_pos rfl, sgn_abs, sgn_abs]
  exact ⟨hr, key _ _, by omega⟩
 | false =>
  have hs' : ¬ (decide (a < 0) = decide (b < 0) ∨ a.natAbs % b.natAbs = 0) := of_decide_eq_false hs
  rw [if_neg (by decide), if_neg (by decide), sgn_abs, sgn_abs]
  refine ⟨?_, key _ _, Nat.le_refl _⟩
  have : a.natAbs % b.natAbs ≠ 0 := fun h => hs' (.inr h)
  omega
end
section
end
end Go.Proofs.YtcdeiegpeiodjaaGreat

namespace Go.AL.NM
def euc (n m : Nat) : Nat → Nat
 | 0 => n
 | 1 => m
 | (i + 2) => euc n m i % euc n m (i + 1)
theorem euc_ex (n m : Nat) : ∃ f : Nat → Nat, f 0 = n ∧ f 1 = m ∧ ∀ i, f (i + 2) = f i % f (i + 1) := ⟨euc n m, rfl, rfl, fun i => rfl⟩
theorem euc_le {f : Nat → Nat} (hf : ∀ i, f (i + 2) = f i % f (i + 1)) {M : Nat} (h0 : f 0 ≤ M) (h1 : f 1 ≤ M) : ∀ i, f i ≤ M ∧ f (i + 1) ≤ M := by
 intro i
 induction i with
 | zero => exact ⟨h0, h1⟩
 | succ i ih =>
  refine ⟨ih.2, ?_⟩
  rw [hf]
  exact Nat.le_trans (Nat.mod_le _ _) ih.1
theorem euc_gcd {f : Nat → Nat} (hf : ∀ i, f (i + 2) = f i % f (i + 1)) : ∀ i, Nat.gcd (f i) (f (i + 1)) = Nat.gcd (f 0) (f 1) := by
 intro i
 induction i with
 | zero => rfl
 | succ i ih => rw [hf, ← ih, Nat.gcd_comm (f (i + 1)), ← Nat.gcd_rec, Nat.gcd_comm]
theorem euc_end {f : Nat → Nat} (hf : ∀ i, f (i + 2) = f i % f (i + 1)) (i : Nat) (h : f (i + 1) = 0) : f i = Nat.gcd (f 0) (f 1) := by
 rw [← euc_gcd hf i, h, Nat.gcd_zero_right]
def eucJ (f : Nat → Nat) (i : Nat) : Prop := i = 0 ∨ (f (i + 1) ≤ f i ∧ f i * f (i + 1) * 2 ^ (i - 1) ≤ f 0 * f 1)
theorem eucJ_step {f : Nat → Nat} (hf : ∀ i, f (i + 2) = f i % f (i + 1)) {i : Nat} (hJ : eucJ f i) (hb : f (i + 1) ≠ 0) : eucJ f (i + 1) := by
 right
 have hlt : f i % f (i + 1) < f (i + 1) := Nat.mod_lt _ (Nat.pos_of_ne_zero hb)
 rw [show i + 1 + 1 = i + 2 from rfl, hf, Nat.add_sub_cancel]
 refine ⟨Nat.le_of_lt hlt, ?_⟩
 rcases hJ with h | ⟨h1, h2⟩
 ·subst h
  rw [Nat.pow_zero, Nat.mul_one, Nat.mul_comm (f 0)]
  exact Nat.mul_le_mul_left _ (Nat.mod_le _ _)
 ·cases i with
  | zero =>
   rw [Nat.pow_zero, Nat.mul_one, Nat.mul_comm (f 0)]
   exact Nat.mul_le_mul_left _ (Nat.mod_le _ _)
  | succ k =>
   rw [Nat.add_sub_cancel] at h2
   have e1 : 2 * (f (k + 1) % f (k + 1 + 1)) ≤ f (k + 1) := by
    have := Nat.mod_le (f (k + 1) - f (k + 1 + 1)) (f (k + 1 + 1))
    rw [← Nat.mod_eq_sub_mod h1] at this
    omega
   have e2 : f (k + 1 + 1) * (f (k + 1) % f (k + 1 + 1)) * 2 ≤ f (k + 1) * f (k + 1 + 1) := by
    rw [Nat.mul_assoc, Nat.mul_comm (f (k + 1))]
    exact Nat.mul_le_mul_left _ (by omega)
   refine Nat.le_trans ?_ h2
   rw [Nat.pow_succ, Nat.mul_comm (2 ^ k), ← Nat.mul_assoc]
   exact Nat.mul_le_mul_right _ e2
theorem eucJ_bound {f : Nat → Nat} {i B : Nat} (hJ : eucJ f i) (ha : 0 < f i) (hb : f (i + 1) ≠ 0) (hp : f 0 * f 1 < 2 ^ B) : i ≤ B := by
 rcases hJ with h | ⟨h1, h2⟩
 ·omega
 ·have h3 : 1 ≤ f i * f (i + 1) := Nat.mul_pos ha (Nat.pos_of_ne_zero hb)
  have h4 : 2 ^ (i - 1) ≤ f i * f (i + 1) * 2 ^ (i - 1) := Nat.le_mul_of_pos_left _ h3
  have h5 : 2 ^ (i - 1) < 2 ^ B := by omega
  have h6 := (Nat.pow_lt_pow_iff_right (by decide : 1 < 2)).1 h5
  omega
end Go.AL.NM

namespace Go.Proofs.YtcdeiegpeiodjaaGreat
open Go Go.AL NM
section
theorem Gcd_ok (n m : Nat) (hn : (limbs n).length < 10000000) (hm : (limbs m).length < 10000000) : AC Tryz.prog 126 [natA n, natA m] (.pure (natA (Nat.gcd n m))) := by
 obtain ⟨f, f0, f1, hf⟩ := euc_ex n m
 have hle := euc_le hf (M := max n m) (by rw [f0]; omega) (by rw [f1]; omega)
 have hend := euc_end hf
 rw [f0, f1] at hend
 have hlen : ∀ i, (limbs (f i)).length < 10000000 := fun i => by
  rcases Nat.le_total n m with h | h
  ·have := limbs_len_mono (show f i ≤ m by have := (hle i).1; omega)
   omega
  ·have := limbs_len_mono (show f i ≤ n by have := (hle i).1; omega)
   omega
 have hgcd := euc_gcd hf
 rw [f0, f1] at hgcd
 have hDM : ∀ i, f (i + 1) ≠ 0 → AC Tryz.prog 128 [natA (f i), natA (f (i + 1))] (.pure (.tup [natA (f i / f (i + 1)), natA (f (i + 2)), .val (.bool true)])) := fun i h => by
  have h1 := hlen i
  have h2 := hlen (i + 1)
  have := DivMod_ok (f i) (f (i + 1)) (by omega) (by omega) (by omega)
  rwa [← hf] at this
 refine AC.of_body TTok Tryz.func126 rfl (enter_of Tryz.func126 (by kernel_rfl) (by kernel_rfl)) (noid2 (natA_noid n) (natA_noid m)) (natA_noid _) (nbq rfl) ?_
 rw [← f0, ← f1] at *
 unfold natA at *
 conv => whnf
 refine SW.loopM TTok (fun i : Nat => [(2, .lp 0 0), (3, .lp 8 0), (4, .lp 16 0)])
  (fun i => [(0, .cells 1 [[.sl 1 (irows .u32 (limbs (f i))) false]]), (8, .cells 1 [[.sl 1 (irows .u32 (limbs (f (i + 1)))) false]]), (16, .cells 1 [[.sl 0 [] true]])]) 24 47 rfl (fun i => f (i + 1)) (fun i => True) 0 [] trivial
  ⟨q2r, q2r, q2r, trivial⟩ ⟨q3r, q3r, q3r, trivial⟩ rfl ?_
 intro i _
 have hz := Zero_ok (f (i + 1))
 have hU := Uint_ok (f i)
 have hV := Uint_ok (f (i + 1))
 have hD := hDM i
 unfold natA at hz hU hV
 conv => whnf
 refine ⟨_, hz, ?_⟩
 conv => whnf
 refine caseb (fun h1 => ?_) (fun h1 => ?_)
 ·have h1' : f (i + 1) ≠ 0 := fun h => by rw [decide_eq_true h] at h1; cases h1
  have hD := hD h1'
  conv => whnf
  refine ⟨_, hU, ?_⟩
  conv => whnf
  refine ⟨_, hV, ?_⟩
  conv => whnf
  refine caseb (fun h2 => ?ca) (fun h2 => ?cb)
  case' ca =>
   have h2' : f i < 18446744073709551616 := of_decide_eq_true h2
   conv => whnf
   refine caseb (fun h3 => ?cc) (fun h3 => ?cd)
   case' cc =>
    have h3' : f (i + 1) < 18446744073709551616 := of_decide_eq_true h3
    conv => whnf
    refine SW.loopM TTok (fun j : Nat => [(2, .lp 0 0), (3, .lp 8 0), (4, .lp 16 0), (5, .val (.int .u64 (f (i + j) : Nat))), (7, .val (.int .u64 (f (i + j + 1) : Nat)))])
     (fun j => [(0, .cells 1 [[.sl 1 (irows .u32 (limbs (f i))) false]]), (8, .cells 1 [[.sl 1 (irows .u32 (limbs (f (i + 1)))) false]]), (16, .cells 1 [[.sl 0 [] true]])]) 192 47 rfl (fun j => f (i + j + 1)) (fun j => f (i + j) < 18446744073709551616 ∧ f (i + j + 1) < 18446744073709551616) 0 [] ⟨h2', h3'⟩
     ⟨q2r, q2r, q2r, ⟨valI (if_pos h2'), rfl⟩, ⟨valI (if_pos h3'), rfl⟩, trivial⟩ ⟨q3r, q3r, q3r, trivial⟩ rfl ?_
    intro j hJ
    have hj1 : f (i + j) < 18446744073709551616 := hJ.1
    have hj2 : f (i + j + 1) < 18446744073709551616 := hJ.2
    clear hJ
    have hO := Of_ok (f (i + j)) hj1
    unfold natA at hO
    have hst := hf (i + j)
    have hen := hend (i + j)
    conv => whnf
    refine caseb (fun h4 => ?_) (fun h4 => ?_)
    ·conv => whnf
     have h4' : f (i + j + 1) ≠ 0 := fun h => by rw [h] at h4; exact Bool.noConfusion h4
     refine ⟨by omega, ?_⟩
     conv => whnf
     refine ⟨by kernel_rfl, ?_⟩
     conv => whnf
     have hlt : f (i + j + 2) < f (i + j + 1) := by rw [hst]; exact Nat.mod_lt _ (by omega)
     refine ⟨j + 1, [], hlt, ⟨hj2, Nat.lt_trans hlt hj2⟩, ⟨q2r, q2r, q2r, q2r, ⟨valI ?_, rfl⟩, trivial⟩, ⟨q3r, q3r, q3r, trivial⟩, rfl⟩
     show ((f (i + j) : Nat) : Int).tmod ((f (i + j + 1) : Nat) : Int) = ((f (i + j + 2) : Nat) : Int)
     rw [hst, Int.tmod_eq_emod_of_nonneg (Int.natCast_nonneg _)]
     rfl
    ·conv => whnf
     have h4' : f (i + j + 1) = 0 := by
      have h4' : (((f (i + j + 1) : Nat) : Int) != 0) = false := h4
      have := bne_eq_false_iff_eq.1 h4'
      omega
     have he := hen h4'
     refine ⟨_, hO, ?_⟩
     conv => whnf
     rw [he]; exact rfl
  all_goals
   conv => whnf
   refine ⟨_, hD, ?_⟩
   conv => whnf
   refine ⟨by kernel_rfl, ?_⟩
   conv => whnf
   have hlt : f (i + 2) < f (i + 1) := by rw [hf]; exact Nat.mod_lt _ (by omega)
   exact ⟨i + 1, [], hlt, trivial, ⟨q2r, q2r, q2r, trivial⟩, ⟨q3r, q3r, q3r, trivial⟩, rfl⟩
 ·have h1' : f (i + 1) = 0 := Decidable.of_not_not (fun h => by rw [decide_eq_false h] at h1; cases h1)
  have he := hend i h1'
  conv => whnf
  rw [← he]
  exact rfl
end
section
set_option maxRecDepth 100000 in
theorem RGcd_ok (n m : Nat) (hn : (limbs n).length ≤ 1000) (hm : (limbs m).length ≤ 1000) (B : Nat) (hB : B ≤ 19900) (hp : n * m < 2 ^ B) : AC Tryz.prog 122 [.val (.string (decS n)), .val (.string (decS m))] (.pure (.val (.string (decS (Nat.gcd n m))))) := by
 obtain ⟨f, f0, f1, hf⟩ := euc_ex n m
 have hle := euc_le hf (M := max n m) (by rw [f0]; omega) (by rw [f1]; omega)
 have hend := euc_end hf
 rw [f0, f1] at hend
 have hlen : ∀ i, (decL (f i)).length ≤ 10001 := fun i => by
  have h0 := decL_limbs (f i)
  rcases Nat.le_total n m with h | h
  ·have := limbs_len_mono (show f i ≤ m by have := (hle i).1; omega)
   omega
  ·have := limbs_len_mono (show f i ≤ n by have := (hle i).1; omega)
   omega
 have hDM : ∀ i, f (i + 1) ≠ 0 → AC Tryz.prog 139 [.val (.string (decS (f i))), .val (.string (decS (f (i + 1))))] (.pure (.tup [.val (.string (decS (f i / f (i + 1)))), .val (.string (decS (f (i + 2))))])) := fun i h => by
  have h1 := hlen i
  have h2 := hlen (i + 1)
  have := RDivMod_ok (f i) (f (i + 1)) (by omega) (by omega)
  rwa [← hf] at this
 have hb : ∀ i, eucJ f i → f (i + 1) ≠ 0 → i ≤ 19900 := fun i hJ h => by
  by_cases ha : f i = 0
  ·rcases hJ with h' | h'
   ·omega
   ·omega
  ·exact Nat.le_trans (eucJ_bound hJ (by omega) h (by rw [f0, f1]; exact hp)) hB
 have hs : ∀ i, eucJ f i → f (i + 1) ≠ 0 → eucJ f (i + 1) := fun i => eucJ_step hf
 clear hp hle hlen hn hm
 refine AC.of_body TTok Tryz.func122 rfl (enter_of Tryz.func122 (by kernel_rfl) (by kernel_rfl)) (noid2 (.val _) (.val _)) (.val _) (nbq rfl) ?_
 rw [← f0, ← f1] at *
 conv => whnf
 refine SW.loopM TTok (fun i : Nat => [(0, .val (.string (decS (f i)))), (1, .val (.string (decS (f (i + 1))))), (5, .val (.int .i64 i))])
  (fun i => []) 16 25 rfl (fun i => f (i + 1)) (eucJ f) 0 [] (.inl rfl)
  ⟨q2r, q2r, q2r, trivial⟩ trivial rfl ?_
 intro i hJ
 have h0 := is0 (f (i + 1))
 have hD := hDM i
 have hst := hs i hJ
 have hbi := hb i hJ
 have hen := hend i
 have hfi := hf i
 conv => whnf
 refine caseb (fun h1 => ?_) (fun h1 => ?_)
 ·have h1' : (i : Int) < 20000 := of_decide_eq_true h1
  conv => whnf
  refine caseb (fun h2 => ?_) (fun h2 => ?_)
  ·have h2' : f (i + 1) ≠ 0 := fun h => by
    rw [decide_eq_true h] at h0
    rw [h0] at h2
    exact Bool.noConfusion h2
   conv => whnf
   refine ⟨_, hD h2', ?_⟩
   conv => whnf
   have hlt : f (i + 2) < f (i + 1) := by rw [hfi]; exact Nat.mod_lt _ (by omega)
   refine ⟨i + 1, [], hlt, hst h2', ⟨q2r, q2r, ⟨valI ?_, rfl⟩, trivial⟩, trivial, rfl⟩
   show IntKind.i64.wrap ((i : Int) + 1) = ((i + 1 : Nat) : Int)
   rw [IntWalk.i64_in _ (by omega)]; omega
  ·have h2' : f (i + 1) = 0 := Decidable.of_not_not (fun h => by
    rw [decide_eq_false h] at h0
    rw [h0] at h2
    exact Bool.noConfusion h2)
   have he := hen h2'
   conv => whnf
   rw [he]
   exact rfl
 ·have h1' : ¬ (i : Int) < 20000 := of_decide_eq_false h1
  have h2' : f (i + 1) = 0 := Decidable.of_not_not (fun h => by have := hbi h; omega)
  have he := hen h2'
  conv => whnf
  rw [he]
  exact rfl
theorem RGcd2 (n m : Nat) (h : (limbs n).length + (limbs m).length ≤ 600) : AC Tryz.prog 122 [.val (.string (decS n)), .val (.string (decS m))] (.pure (.val (.string (decS (Nat.gcd n m))))) := by
 have h1 := val_lt (limbs_lim n)
 have h2 := val_lt (limbs_lim m)
 rw [val_limbs, pow32] at h1 h2
 refine RGcd_ok n m (by omega) (by omega) (32 * (limbs n).length + 32 * (limbs m).length) (by omega) ?_
 rw [Nat.pow_add]
 exact Nat.lt_of_le_of_lt (Nat.mul_le_mul_left n (Nat.le_of_lt h2)) (Nat.mul_lt_mul_of_pos_right h1 (Nat.two_pow_pos _))
end
section
theorem sgn_num (x y : Int) (hy : y ≠ 0) : (Rat.divInt x y).num = sgn (!(decide (x < 0) == decide (y < 0))) (x.natAbs / Nat.gcd x.natAbs y.natAbs) := by
 rw [Rat.num_divInt]
 have hg : Int.gcd y x = Nat.gcd x.natAbs y.natAbs := by rw [Nat.gcd_comm]; rfl
 rw [hg]
 have hd : Nat.gcd x.natAbs y.natAbs ∣ x.natAbs := Nat.gcd_dvd_left _ _
 revert hd
 generalize Nat.gcd x.natAbs y.natAbs = g
 intro hd
 obtain ⟨k, hk⟩ := hd
 rcases Nat.eq_zero_or_pos g with h0 | h0
 ·subst h0
  simp [sgn]
 rw [hk, Nat.mul_div_cancel_left _ h0]
 have e1 : ∀ z : Int, ((g : Int) * z) / (g : Int) = z := fun z => Int.mul_ediv_cancel_left _ (by omega)
 have key : ∀ s : Bool, (y.sign * x) = (g : Int) * sgn s k → (y.sign * x) / (g : Int) = sgn s k := fun s h => by rw [h, e1]
 refine key _ ?_
 have hm : ((g * k : Nat) : Int) = (g : Int) * (k : Int) := Int.natCast_mul _ _
 rcases Int.lt_trichotomy y 0 with h | h | h
 ·rw [Int.sign_eq_neg_one_of_neg h, decide_eq_true h]
  by_cases hx : x < 0
  ·rw [decide_eq_true hx]
   show -1 * x = (g : Int) * (k : Int)
   omega
  ·rw [decide_eq_false hx]
   show -1 * x = (g : Int) * -(k : Int)
   rw [Int.mul_neg]
   omega
 ·exact absurd h hy
 ·rw [Int.sign_eq_one_of_pos h, decide_eq_false (by omega : ¬ y < 0)]
  by_cases hx : x < 0
  ·rw [decide_eq_true hx]
   show 1 * x = (g : Int) * -(k : Int)
   rw [Int.mul_neg]
   omega
  ·rw [decide_eq_false hx]
   show 1 * x = (g : Int) * (k : Int)
   omega
theorem sgn_den (x y : Int) (hy : y ≠ 0) : (Rat.divInt x y).den = y.natAbs / Nat.gcd x.natAbs y.natAbs := by
 rw [Rat.den_divInt, if_neg hy]
 have hg : Int.gcd y x = Nat.gcd x.natAbs y.natAbs := by rw [Nat.gcd_comm]; rfl
 rw [hg]
theorem q_add (a b : Rat) : Rat.divInt (a.num * (b.den : Int) + b.num * (a.den : Int)) ((a.den : Int) * (b.den : Int)) = a + b := by
 rw [Rat.add_def', ← Int.natCast_mul, Rat.divInt_ofNat]
theorem q_mul (a b : Rat) : Rat.divInt (a.num * b.num) ((a.den : Int) * (b.den : Int)) = a * b := by
 rw [Rat.mul_def', ← Int.natCast_mul, Rat.divInt_ofNat]
theorem q_div (a b : Rat) : Rat.divInt (a.num * (b.den : Int)) ((a.den : Int) * b.num) = a / b := by
 rw [Rat.div_def, Rat.inv_def, ← Rat.divInt_mul_divInt, Rat.num_divInt_den]
theorem num_ne {a : Rat} (h : a ≠ 0) : a.num ≠ 0 := fun e => h (Rat.num_eq_zero.1 e)
def cmpQ (a b : Rat) : Int := if a < b then -1 else if a = b then 0 else 1
theorem cmpZ_Q (a b : Rat) : cmpZ (a.num * (b.den : Int)) (b.num * (a.den : Int)) = cmpQ a b := by
 unfold cmpZ cmpQ
 by_cases h : a < b
 ·rw [if_pos h, if_pos ((Rat.lt_iff a b).1 h)]
 ·rw [if_neg h, if_neg (fun e => h ((Rat.lt_iff a b).2 e))]
  by_cases he : a = b
  ·rw [if_pos he, if_pos (Rat.eq_iff_mul_eq_mul.1 he)]
  ·rw [if_neg he, if_neg (fun e => he (Rat.eq_iff_mul_eq_mul.2 e))]
theorem cmpQ_self (a : Rat) : cmpQ a a = 0 := by
 unfold cmpQ
 rw [if_neg Rat.lt_irrefl, if_pos rfl]
theorem cmpQ_eq {a b : Rat} : cmpQ a b = 0 ↔ a = b := by
 unfold cmpQ
 constructor
 ·intro h
  split at h
  ·cases h
  ·split at h
   ·assumption
   ·cases h
 ·rintro rfl
  rw [if_neg Rat.lt_irrefl, if_pos rfl]
theorem cmpQ_neg {a b : Rat} : cmpQ a b < 0 ↔ a < b := by
 unfold cmpQ
 constructor
 ·intro h
  split at h
  ·assumption
  ·split at h <;> omega
 ·intro h
  rw [if_pos h]; decide
theorem flQ_ediv (a : Int) (b : Nat) (hb : b ≠ 0) : flQ a (b : Int) = a / (b : Int) := by
 have h1 := fl_eq a (b : Int) (by omega)
 obtain ⟨h2, h3, _⟩ := fl_abs a (b : Int) (by omega)
 have hn : ¬ (b : Int) < 0 := by omega
 have h4 : 0 ≤ flR a (b : Int) := by
  rcases h3 with h3 | h3
  ·omega
  ·rw [decide_eq_false hn] at h3
   have := of_decide_eq_false h3
   omega
 have h5 : flR a (b : Int) < (b : Int) := by omega
 generalize flQ a (b : Int) = q at *
 generalize flR a (b : Int) = r at *
 have := Int.ediv_emod_unique (a := a) (b := (b : Int)) (r := r) (q := q) (by omega)
 exact (this.2 ⟨by rw [Int.mul_comm]; omega, h4, h5⟩).1.symm
theorem flQ_floor (a : Rat) : flQ a.num (a.den : Int) = a.floor := by
 rw [Rat.floor_def, flQ_ediv _ _ a.den_nz]
def Sz (q : Rat) (k : Nat) : Prop := (limbs q.num.natAbs).length ≤ k ∧ (limbs q.den).length ≤ k
theorem Sz.mono {q : Rat} {i j : Nat} (h : Sz q i) (hij : i ≤ j) : Sz q j := ⟨Nat.le_trans h.1 hij, Nat.le_trans h.2 hij⟩
theorem Sz_divInt {x y : Int} {k : Nat} (hy : y ≠ 0) (hx : (limbs x.natAbs).length ≤ k) (hk : (limbs y.natAbs).length ≤ k) : Sz (Rat.divInt x y) k := by
 refine ⟨?_, ?_⟩
 ·rw [sgn_num x y hy, sgn_abs]
  exact Nat.le_trans (limbs_len_mono (Nat.div_le_self _ _)) hx
 ·rw [sgn_den x y hy]
  exact Nat.le_trans (limbs_len_mono (Nat.div_le_self _ _)) hk
theorem limbs_den_mul (a b : Rat) : (limbs ((a.den : Int) * (b.den : Int)).natAbs).length ≤ (limbs a.den).length + (limbs b.den).length := by
 have := limbs_abs_mul (a.den : Int) (b.den : Int)
 rwa [Int.natAbs_natCast, Int.natAbs_natCast] at this
theorem limbs_num_den (a b : Rat) : (limbs (a.num * (b.den : Int)).natAbs).length ≤ (limbs a.num.natAbs).length + (limbs b.den).length := by
 have := limbs_abs_mul a.num (b.den : Int)
 rwa [Int.natAbs_natCast] at this
theorem den_mul_ne (a b : Rat) : (a.den : Int) * (b.den : Int) ≠ 0 := by
 have := a.den_nz
 have := b.den_nz
 exact Int.mul_ne_zero (by omega) (by omega)
theorem Sz_add {a b : Rat} {i j : Nat} (ha : Sz a i) (hb : Sz b j) : Sz (a + b) (2 * (i + j) + 1) := by
 rw [← q_add]
 have h1 := limbs_abs_add (a.num * (b.den : Int)) (b.num * (a.den : Int))
 have h2 := limbs_num_den a b
 have h3 := limbs_num_den b a
 have h4 := limbs_den_mul a b
 have := ha.1; have := ha.2; have := hb.1; have := hb.2
 exact Sz_divInt (den_mul_ne a b) (by omega) (by omega)
theorem Sz_mul {a b : Rat} {i j : Nat} (ha : Sz a i) (hb : Sz b j) : Sz (a * b) (i + j) := by
 rw [← q_mul]
 have h2 := limbs_abs_mul a.num b.num
 have h4 := limbs_den_mul a b
 have := ha.1; have := ha.2; have := hb.1; have := hb.2
 exact Sz_divInt (den_mul_ne a b) (by omega) (by omega)
theorem Sz_div {a b : Rat} {i j : Nat} (h0 : b ≠ 0) (ha : Sz a i) (hb : Sz b j) : Sz (a / b) (i + j) := by
 rw [← q_div]
 have h2 := limbs_num_den a b
 have h4 := limbs_num_den b a
 rw [Int.mul_comm] at h4
 have := ha.1; have := ha.2; have := hb.1; have := hb.2
 have := a.den_nz
 exact Sz_divInt (Int.mul_ne_zero (by omega) (num_ne h0)) (by omega) (by omega)
theorem Sz_neg {a : Rat} {i : Nat} (ha : Sz a i) : Sz (-a) i := ⟨by rw [Rat.neg_num, Int.natAbs_neg]; exact ha.1, ha.2⟩
theorem Sz_int {n : Int} {k : Nat} (h1 : 1 ≤ k) (h : (limbs n.natAbs).length ≤ k) : Sz (n : Rat) k := ⟨by rw [Rat.num_intCast]; exact h, by rw [Rat.den_intCast, limbs_1]; exact h1⟩
theorem limbs_floor {a : Rat} {k : Nat} (h : Sz a k) : (limbs a.floor.natAbs).length ≤ k + 2 := by
 rw [← flQ_floor]
 obtain ⟨_, _, h3⟩ := fl_abs a.num (a.den : Int) (by have := a.den_nz; omega)
 have h4 := limbs_len_mono h3
 have h5 := limbs_len_mono (Nat.div_le_self a.num.natAbs (a.den : Int).natAbs)
 have h6 := limbs_abs_add ((a.num.natAbs / (a.den : Int).natAbs : Nat) : Int) 1
 rw [show (((a.num.natAbs / (a.den : Int).natAbs : Nat) : Int) + 1).natAbs = a.num.natAbs / (a.den : Int).natAbs + 1 by omega, Int.natAbs_natCast, Int.natAbs_natCast, show (1 : Int).natAbs = 1 from rfl] at h6
 have h7 := h.1
 have h8 := limbs_1
 rw [Int.natAbs_natCast] at h4 h5
 omega
end
section
def RA (t : Int) (d : Nat) : AV := .agg [.sl 1 (irows .u32 (limbs t.natAbs)) false, .val (.bool (decide (t < 0))), .sl 1 (irows .u32 (limbs d)) false]
def RN (t : Int) (d : Nat) : AV := .agg [.val (.bool (decide (t < 0))), .val (.string (decS t.natAbs)), .val (.string (decS d))]
theorem RA_noid (t : Int) (d : Nat) : NoId (RA t d) := .agg _ (noid3 (noid_sl _ _ _) (.val _) (noid_sl _ _ _))
theorem RN_noid (t : Int) (d : Nat) : NoId (RN t d) := .agg _ (noid3 (.val _) (.val _) (.val _))
def dn (d : Nat) : Nat := if d = 0 then 1 else d
theorem dn_self {d : Nat} (h : d ≠ 0) : dn d = d := if_neg h
theorem dn_den (q : Rat) : dn q.den = q.den := if_neg q.den_nz
theorem agg3 {a b c d e f : AV} (h1 : a = d) (h2 : b = e) (h3 : c = f) : AV.agg [a, b, c] = AV.agg [d, e, f] := by rw [h1, h2, h3]
theorem down_ok (t : Int) (d : Nat) : AC Tryz.prog 98 [RA t d] (.pure (natA (dn d))) := by
 refine AC.of_body TTok Tryz.func98 rfl (enter_of Tryz.func98 (by kernel_rfl) (by kernel_rfl)) (noid1 (RA_noid t d)) (natA_noid _) (nbq rfl) ?_
 have hz := Zero_ok d
 have h1 := Of_ok 1 (by decide)
 unfold dn
 by_cases h : d = 0
 ·rw [decide_eq_true h] at hz
  rw [if_pos h]
  unfold RA natA at *
  repeat ((conv => whnf); (first | refine ⟨_, ‹_›, ?_⟩ | refine ⟨nbq rfl, _, ‹_›, ?_⟩ | refine ⟨by kernel_rfl, ?_⟩ | exact rfl | exact ⟨nbq rfl, rfl⟩ | refine ⟨by decide, ?_⟩))
 ·rw [decide_eq_false h] at hz
  rw [if_neg h]
  unfold RA natA at *
  repeat ((conv => whnf); (first | refine ⟨_, ‹_›, ?_⟩ | refine ⟨nbq rfl, _, ‹_›, ?_⟩ | refine ⟨by kernel_rfl, ?_⟩ | exact rfl | exact ⟨nbq rfl, rfl⟩ | refine ⟨by decide, ?_⟩))
theorem under_ok (t : Int) (d : Nat) : AC Tryz.prog 55 [RA t d] (.pure (WI (dn d : Int))) := by
 refine AC.of_body TTok Tryz.func55 rfl (enter_of Tryz.func55 (by kernel_rfl) (by kernel_rfl)) (noid1 (RA_noid t d)) (WI_noid _) (nbq rfl) ?_
 have hD := down_ok t d
 have hO := WOf_ok false (dn d)
 rw [show sgn false (dn d) = (dn d : Int) from rfl] at hO
 unfold RA WI natA at *
 repeat ((conv => whnf); (first | refine ⟨_, ‹_›, ?_⟩ | refine ⟨nbq rfl, _, ‹_›, ?_⟩ | refine ⟨by kernel_rfl, ?_⟩ | exact rfl | exact ⟨nbq rfl, rfl⟩ | refine ⟨by decide, ?_⟩))
theorem New_ok (x y : Int) (hy : y ≠ 0) (lx : (limbs x.natAbs).length ≤ 100000) (ly : (limbs y.natAbs).length ≤ 100000) :
  AC Tryz.prog 106 [WI x, WI y] (.pure (.tup [RA (Rat.divInt x y).num (Rat.divInt x y).den, .val (.bool true)])) := by
 refine AC.of_body TTok Tryz.func106 rfl (enter_of Tryz.func106 (by kernel_rfl) (by kernel_rfl)) (noid2 (WI_noid x) (WI_noid y)) (.tup _ (noid2 (RA_noid _ _) (.val _))) (nbq rfl) ?_
 have hz := Zero_ok y.natAbs
 rw [decide_eq_false (show ¬ y.natAbs = 0 by omega)] at hz
 have hS := SizeW_ok y
 have hG := Gcd_ok x.natAbs y.natAbs (by omega) (by omega)
 have hg : 0 < Nat.gcd x.natAbs y.natAbs := Nat.gcd_pos_of_pos_right _ (by omega)
 have lg := limbs_len_mono (Nat.gcd_le_right (n := y.natAbs) x.natAbs (by omega))
 have hD1 := DivMod_ok x.natAbs (Nat.gcd x.natAbs y.natAbs) hg (by omega) (by omega)
 have hD2 := DivMod_ok y.natAbs (Nat.gcd x.natAbs y.natAbs) hg (by omega) (by omega)
 have hN1 := NegW_ok x
 have hN2 := NegW_ok y
 have hO := WOf_ok (!(decide (x < 0) == decide (y < 0))) (x.natAbs / Nat.gcd x.natAbs y.natAbs)
 rw [← sgn_num x y hy] at hO
 rw [← sgn_den x y hy] at hD2
 clear hg lg lx ly hy
 revert hG hD1 hD2 hO
 generalize Nat.gcd x.natAbs y.natAbs = g
 generalize x.natAbs / g = a
 generalize x.natAbs % g = b
 generalize y.natAbs % g = c
 generalize (Rat.divInt x y).num = n
 generalize (Rat.divInt x y).den = d
 intro hG hD1 hD2 hO
 unfold RA WI natA at *
 repeat ((conv => whnf); (first | refine ⟨_, ‹_›, ?_⟩ | refine ⟨nbq rfl, _, ‹_›, ?_⟩ | refine ⟨by kernel_rfl, ?_⟩ | exact rfl | exact ⟨nbq rfl, rfl⟩ | refine ⟨by decide, ?_⟩))
theorem New_zero (x : Int) : AC Tryz.prog 106 [WI x, WI 0] (.pure (.tup [RA 0 0, .val (.bool false)])) := by
 have e1 : AVle (.agg [.sl 0 [] true, .val (.bool false), .sl 0 [] true]) (RA 0 0) := by
  unfold RA
  rw [show (0 : Int).natAbs = 0 from rfl, limbs_zero]
  exact .agg _ _ rfl (fun i a b ha hb => by
   match i with
   | 0 => cases ha; cases hb; exact .sl _ _ _
   | 1 => cases ha; cases hb; exact .refl _
   | 2 => cases ha; cases hb; exact .sl _ _ _
   | (i + 3) => cases ha)
 have e2 : NoId (.agg [.sl 0 [] true, .val (.bool false), .sl 0 [] true]) := .agg _ (noid3 (.sl _ _ _ (fun r hr => (nomatch hr))) (.val _) (.sl _ _ _ (fun r hr => (nomatch hr))))
 refine AC.le_res (v := .tup [.agg [.sl 0 [] true, .val (.bool false), .sl 0 [] true], .val (.bool false)]) ?_ (.tup2 e1 (.refl _)) (.tup _ (noid2 (RA_noid _ _) (.val _)))
 refine AC.of_body TTok Tryz.func106 rfl (enter_of Tryz.func106 (by kernel_rfl) (by kernel_rfl)) (noid2 (WI_noid x) (WI_noid 0)) (.tup _ (noid2 e2 (.val _))) (nbq rfl) ?_
 have hz := Zero_ok (0 : Int).natAbs
 rw [decide_eq_true (show (0 : Int).natAbs = 0 from rfl)] at hz
 unfold WI natA at *
 repeat ((conv => whnf); (first | refine ⟨_, ‹_›, ?_⟩ | refine ⟨nbq rfl, _, ‹_›, ?_⟩ | refine ⟨by kernel_rfl, ?_⟩ | exact rfl | exact ⟨nbq rfl, rfl⟩ | refine ⟨by decide, ?_⟩))
theorem RatFrom_ok (n : Int) (hn : -9223372036854775808 ≤ n ∧ n < 9223372036854775808) : AC Tryz.prog 49 [.val (.int .i64 n)] (.pure (RA n 1)) := by
 refine AC.of_body TTok Tryz.func49 rfl (enter_of Tryz.func49 (by kernel_rfl) (by kernel_rfl)) (noid1 (.val _)) (RA_noid _ _) (nbq rfl) ?_
 have hF := From_ok n hn
 have h1 := Of_ok 1 (by decide)
 unfold RA WI natA at *
 repeat ((conv => whnf); (first | refine ⟨_, ‹_›, ?_⟩ | refine ⟨nbq rfl, _, ‹_›, ?_⟩ | refine ⟨by kernel_rfl, ?_⟩ | exact rfl | exact ⟨nbq rfl, rfl⟩ | refine ⟨by decide, ?_⟩))
theorem Whole_ok (n : Int) : AC Tryz.prog 169 [WI n] (.pure (RA n 1)) := by
 refine AC.of_body TTok Tryz.func169 rfl (enter_of Tryz.func169 (by kernel_rfl) (by kernel_rfl)) (noid1 (WI_noid n)) (RA_noid _ _) (nbq rfl) ?_
 have h1 := Of_ok 1 (by decide)
 unfold RA WI natA at *
 repeat ((conv => whnf); (first | refine ⟨_, ‹_›, ?_⟩ | refine ⟨nbq rfl, _, ‹_›, ?_⟩ | refine ⟨by kernel_rfl, ?_⟩ | exact rfl | exact ⟨nbq rfl, rfl⟩ | refine ⟨by decide, ?_⟩))
theorem Num_ok (t : Int) (d : Nat) (lt : (limbs t.natAbs).length ≤ 100000) (ld : (limbs (dn d)).length ≤ 100000) : AC Tryz.prog 78 [RA t d] (.pure (RN t (dn d))) := by
 refine AC.of_body TTok Tryz.func78 rfl (enter_of Tryz.func78 (by kernel_rfl) (by kernel_rfl)) (noid1 (RA_noid t d)) (RN_noid _ _) (nbq rfl) ?_
 have hN := NegW_ok t
 have hT := Text_ok t.natAbs (by omega)
 have hD := down_ok t d
 have hT2 := Text_ok (dn d) (by omega)
 unfold RA RN WI natA at *
 repeat ((conv => whnf); (first | refine ⟨_, ‹_›, ?_⟩ | refine ⟨nbq rfl, _, ‹_›, ?_⟩ | refine ⟨by kernel_rfl, ?_⟩ | exact rfl | exact ⟨nbq rfl, rfl⟩ | refine ⟨by decide, ?_⟩))
end
section
theorem RTop_ok (t : Int) (d : Nat) : AC Tryz.prog 172 [RA t d] (.pure (WI t)) := by
 refine AC.of_body TTok Tryz.func172 rfl (enter_of Tryz.func172 (by kernel_rfl) (by kernel_rfl)) (noid1 (RA_noid t d)) (WI_noid _) (nbq rfl) ?_
 unfold RA WI at *
 repeat ((conv => whnf); (first | refine ⟨_, ‹_›, ?_⟩ | refine ⟨nbq rfl, _, ‹_›, ?_⟩ | refine ⟨by kernel_rfl, ?_⟩ | exact rfl | exact ⟨nbq rfl, rfl⟩ | refine ⟨by decide, ?_⟩))
theorem RaSign_ok (t : Int) (d : Nat) : AC Tryz.prog 152 [RA t d] (.pure (.val (.int .i64 (sigW t)))) := by
 refine AC.of_body TTok Tryz.func152 rfl (enter_of Tryz.func152 (by kernel_rfl) (by kernel_rfl)) (noid1 (RA_noid t d)) (.val _) (nbq rfl) ?_
 have hD := SignW_ok t
 revert hD
 generalize sigW t = s
 intro hD
 unfold RA WI at *
 repeat ((conv => whnf); (first | refine ⟨_, ‹_›, ?_⟩ | refine ⟨nbq rfl, _, ‹_›, ?_⟩ | refine ⟨by kernel_rfl, ?_⟩ | exact rfl | exact ⟨nbq rfl, rfl⟩ | refine ⟨by decide, ?_⟩))
theorem IsWhole_ok (t : Int) (d : Nat) : AC Tryz.prog 141 [RA t d] (.pure (.val (.bool (decide (dn d = 1))))) := by
 refine AC.of_body TTok Tryz.func141 rfl (enter_of Tryz.func141 (by kernel_rfl) (by kernel_rfl)) (noid1 (RA_noid t d)) (.val _) (nbq rfl) ?_
 have hD := down_ok t d
 have h1 := One_ok (dn d)
 revert hD h1
 generalize dn d = e
 intro hD h1
 unfold RA natA at *
 repeat ((conv => whnf); (first | refine ⟨_, ‹_›, ?_⟩ | refine ⟨nbq rfl, _, ‹_›, ?_⟩ | refine ⟨by kernel_rfl, ?_⟩ | exact rfl | exact ⟨nbq rfl, rfl⟩ | refine ⟨by decide, ?_⟩))
def qLimbs (t : Int) (d : Nat) : Nat := max (limbs t.natAbs).length (limbs d).length
theorem QLimbs_ok (t : Int) (d : Nat) : AC Tryz.prog 138 [RA t d] (.pure (.val (.int .i64 (qLimbs t (dn d) : Nat)))) := by
 refine AC.of_body TTok Tryz.func138 rfl (enter_of Tryz.func138 (by kernel_rfl) (by kernel_rfl)) (noid1 (RA_noid t d)) (.val _) (nbq rfl) ?_
 have hD := down_ok t d
 have h1 := Limbs_ok (dn d)
 have h2 := Limbs_ok t.natAbs
 unfold qLimbs
 revert hD h1
 generalize dn d = e
 intro hD h1
 unfold RA natA at *
 conv => whnf
 refine ⟨_, h2, ?_⟩
 conv => whnf
 refine ⟨_, hD, ?_⟩
 conv => whnf
 refine ⟨_, h1, ?_⟩
 conv => whnf
 refine ⟨by kernel_rfl, ?_⟩
 conv => whnf
 refine valI ?_
 show (if ((limbs e).length : Int) > ((limbs t.natAbs).length : Int) then ((limbs e).length : Int) else ((limbs t.natAbs).length : Int)) = _
 split <;> omega
def fitQ (t : Int) (d : Nat) : Prop := d = 1 ∧ fit t
instance (t : Int) (d : Nat) : Decidable (fitQ t d) := inferInstanceAs (Decidable (_ ∧ _))
theorem RInt_ok (t : Int) (d : Nat) : AC Tryz.prog 124 [RA t d] (.pure (.tup [.val (.int .i64 (if fitQ t (dn d) then t else 0)), .val (.bool (decide (fitQ t (dn d))))])) := by
 refine AC.of_body TTok Tryz.func124 rfl (enter_of Tryz.func124 (by kernel_rfl) (by kernel_rfl)) (noid1 (RA_noid t d)) (.tup _ (noid2 (.val _) (.val _))) (nbq rfl) ?_
 have hD := IsWhole_ok t d
 have h1 := IntW_ok t
 by_cases h : dn d = 1
 ·rw [decide_eq_true h] at hD
  have e : fitQ t (dn d) ↔ fit t := ⟨fun h => h.2, fun h' => ⟨h, h'⟩⟩
  rw [decide_eq_decide.2 e, show (if fitQ t (dn d) then t else 0) = (if fit t then t else 0) by by_cases hf : fit t; rw [if_pos hf, if_pos (e.2 hf)]; rw [if_neg hf, if_neg (fun h => hf (e.1 h))]]
  unfold RA WI at *
  repeat ((conv => whnf); (first | refine ⟨_, ‹_›, ?_⟩ | refine ⟨nbq rfl, _, ‹_›, ?_⟩ | refine ⟨by kernel_rfl, ?_⟩ | exact rfl | exact ⟨nbq rfl, rfl⟩ | refine ⟨by decide, ?_⟩))
 ·rw [decide_eq_false h] at hD
  rw [if_neg (fun h' => h h'.1), decide_eq_false (fun h' : fitQ t (dn d) => h h'.1)]
  unfold RA WI at *
  repeat ((conv => whnf); (first | refine ⟨_, ‹_›, ?_⟩ | refine ⟨nbq rfl, _, ‹_›, ?_⟩ | refine ⟨by kernel_rfl, ?_⟩ | exact rfl | exact ⟨nbq rfl, rfl⟩ | refine ⟨by decide, ?_⟩))
theorem QMinus_ok (t : Int) (d : Nat) : AC Tryz.prog 150 [RA t d] (.pure (RA (-t) (dn d))) := by
 refine AC.of_body TTok Tryz.func150 rfl (enter_of Tryz.func150 (by kernel_rfl) (by kernel_rfl)) (noid1 (RA_noid t d)) (RA_noid _ _) (nbq rfl) ?_
 have hD := down_ok t d
 have h1 := Minus_ok t
 revert h1
 generalize -t = e
 intro h1
 unfold RA WI natA at *
 repeat ((conv => whnf); (first | refine ⟨_, ‹_›, ?_⟩ | refine ⟨nbq rfl, _, ‹_›, ?_⟩ | refine ⟨by kernel_rfl, ?_⟩ | exact rfl | exact ⟨nbq rfl, rfl⟩ | refine ⟨by decide, ?_⟩))
theorem Limited_ok (t : Int) (d : Nat) : AC Tryz.prog 171 [RA t d] (.pure (.val (.bool (decide (dn d = 1 ∧ (t.natAbs = 0 ∨ t.natAbs = 1)))))) := by
 refine AC.of_body TTok Tryz.func171 rfl (enter_of Tryz.func171 (by kernel_rfl) (by kernel_rfl)) (noid1 (RA_noid t d)) (.val _) (nbq rfl) ?_
 have hD := IsWhole_ok t d
 have h1 := Zero_ok t.natAbs
 have h2 := One_ok t.natAbs
 by_cases h : dn d = 1
 ·rw [decide_eq_true h] at hD
  rw [show decide (dn d = 1 ∧ (t.natAbs = 0 ∨ t.natAbs = 1)) = (decide (t.natAbs = 0) || decide (t.natAbs = 1)) by simp [h]]
  by_cases hz : t.natAbs = 0
  ·rw [decide_eq_true hz] at h1 ⊢
   unfold RA natA at *
   repeat ((conv => whnf); (first | refine ⟨_, ‹_›, ?_⟩ | refine ⟨nbq rfl, _, ‹_›, ?_⟩ | refine ⟨by kernel_rfl, ?_⟩ | exact rfl | exact ⟨nbq rfl, rfl⟩ | refine ⟨by decide, ?_⟩))
  ·rw [decide_eq_false hz] at h1 ⊢
   rw [Bool.false_or]
   unfold RA natA at *
   repeat ((conv => whnf); (first | refine ⟨_, ‹_›, ?_⟩ | refine ⟨nbq rfl, _, ‹_›, ?_⟩ | refine ⟨by kernel_rfl, ?_⟩ | exact rfl | exact ⟨nbq rfl, rfl⟩ | refine ⟨by decide, ?_⟩))
 ·rw [decide_eq_false h] at hD
  rw [decide_eq_false (fun h' => h h'.1)]
  unfold RA natA at *
  repeat ((conv => whnf); (first | refine ⟨_, ‹_›, ?_⟩ | refine ⟨nbq rfl, _, ‹_›, ?_⟩ | refine ⟨by kernel_rfl, ?_⟩ | exact rfl | exact ⟨nbq rfl, rfl⟩ | refine ⟨by decide, ?_⟩))
section
variable (p q : Rat) (i j : Nat) (hi : dn i = p.den) (hj : dn j = q.den) (lp : Sz p 1000) (lq : Sz q 1000)
include hi hj lp lq
theorem QCmp_ok : AC Tryz.prog 23 [RA p.num i, RA q.num j] (.pure (.val (.int .i64 (cmpQ p q)))) := by
 refine AC.of_body TTok Tryz.func23 rfl (enter_of Tryz.func23 (by kernel_rfl) (by kernel_rfl)) (noid2 (RA_noid _ _) (RA_noid _ _)) (.val _) (nbq rfl) ?_
 have m1 := limbs_num_den p q
 have m2 := limbs_num_den q p
 have := lp.1; have := lp.2; have := lq.1; have := lq.2
 have u1 := under_ok p.num i
 have u2 := under_ok q.num j
 rw [hi] at u1
 rw [hj] at u2
 have t1 := Times1 p.num (q.den : Int) (by omega) (by rw [Int.natAbs_natCast]; omega) (by omega)
 have t2 := Times1 q.num (p.den : Int) (by omega) (by rw [Int.natAbs_natCast]; omega) (by omega)
 have hC := CmpW_ok (p.num * (q.den : Int)) (q.num * (p.den : Int)) (by omega) (by omega)
 rw [cmpZ_Q] at hC
 revert u1 u2 t1 t2 hC
 generalize p.num * (q.den : Int) = x
 generalize q.num * (p.den : Int) = y
 generalize (p.den : Int) = a
 generalize (q.den : Int) = b
 generalize cmpQ p q = c
 intro u1 u2 t1 t2 hC
 unfold RA WI rowW at *
 repeat ((conv => whnf); (first | refine ⟨_, ‹_›, ?_⟩ | refine ⟨nbq rfl, _, ‹_›, ?_⟩ | refine ⟨by kernel_rfl, ?_⟩ | exact rfl | exact ⟨nbq rfl, rfl⟩ | refine ⟨by decide, ?_⟩))
theorem By_ok (h0 : q ≠ 0) : AC Tryz.prog 153 [RA p.num i, RA q.num j] (.pure (.tup [RA (p / q).num (p / q).den, .val (.bool true)])) := by
 refine AC.of_body TTok Tryz.func153 rfl (enter_of Tryz.func153 (by kernel_rfl) (by kernel_rfl)) (noid2 (RA_noid _ _) (RA_noid _ _)) (.tup _ (noid2 (RA_noid _ _) (.val _))) (nbq rfl) ?_
 have m1 := limbs_num_den p q
 have m2 := limbs_num_den q p
 rw [Int.mul_comm] at m2
 have := lp.1; have := lp.2; have := lq.1; have := lq.2
 have u1 := under_ok p.num i
 have u2 := under_ok q.num j
 rw [hi] at u1
 rw [hj] at u2
 have t1 := Times1 p.num (q.den : Int) (by omega) (by rw [Int.natAbs_natCast]; omega) (by omega)
 have t2 := Times1 (p.den : Int) q.num (by rw [Int.natAbs_natCast]; omega) (by omega) (by omega)
 have hC := New_ok (p.num * (q.den : Int)) ((p.den : Int) * q.num) (Int.mul_ne_zero (by have := p.den_nz; omega) (num_ne h0)) (by omega) (by omega)
 rw [q_div] at hC
 revert u1 u2 t1 t2 hC
 generalize p.num * (q.den : Int) = x
 generalize (p.den : Int) * q.num = y
 generalize (p.den : Int) = a
 generalize (q.den : Int) = b
 generalize p / q = c
 intro u1 u2 t1 t2 hC
 unfold RA WI rowW at *
 repeat ((conv => whnf); (first | refine ⟨_, ‹_›, ?_⟩ | refine ⟨nbq rfl, _, ‹_›, ?_⟩ | refine ⟨by kernel_rfl, ?_⟩ | exact rfl | exact ⟨nbq rfl, rfl⟩ | refine ⟨by decide, ?_⟩))
end
theorem By_zero (p : Rat) (i j : Nat) (hi : dn i = p.den) (hj : dn j = (0 : Rat).den) (lp : Sz p 1000) : AC Tryz.prog 153 [RA p.num i, RA (0 : Rat).num j] (.pure (.tup [RA 0 0, .val (.bool false)])) := by
 refine AC.of_body TTok Tryz.func153 rfl (enter_of Tryz.func153 (by kernel_rfl) (by kernel_rfl)) (noid2 (RA_noid _ _) (RA_noid _ _)) (.tup _ (noid2 (RA_noid _ _) (.val _))) (nbq rfl) ?_
 have m1 := limbs_num_den p 0
 have l1 := limbs_1
 have := lp.1; have := lp.2
 have u1 := under_ok p.num i
 have u2 := under_ok (0 : Rat).num j
 rw [hi] at u1
 rw [hj] at u2
 have l0 : (limbs (0 : Rat).num.natAbs).length = 0 := by show (limbs 0).length = 0; rw [limbs_zero]; rfl
 have l2 : (limbs (0 : Rat).den).length = 1 := l1
 have t1 := Times1 p.num ((0 : Rat).den : Int) (by omega) (by rw [Int.natAbs_natCast]; omega) (by omega)
 have t2 := Times1 (p.den : Int) (0 : Rat).num (by rw [Int.natAbs_natCast]; omega) (by omega) (by rw [Rat.zero_num, Int.mul_zero]; show (limbs 0).length < _; rw [limbs_zero]; decide)
 rw [show (p.den : Int) * (0 : Rat).num = 0 by rw [Rat.zero_num, Int.mul_zero]] at t2
 have hC := New_zero (p.num * ((0 : Rat).den : Int))
 revert u1 u2 t1 t2 hC
 generalize p.num * ((0 : Rat).den : Int) = x
 generalize (p.den : Int) = a
 generalize ((0 : Rat).den : Int) = b
 generalize (0 : Rat).num = c
 intro u1 u2 t1 t2 hC
 unfold RA WI rowW at *
 repeat ((conv => whnf); (first | refine ⟨_, ‹_›, ?_⟩ | refine ⟨nbq rfl, _, ‹_›, ?_⟩ | refine ⟨by kernel_rfl, ?_⟩ | exact rfl | exact ⟨nbq rfl, rfl⟩ | refine ⟨by decide, ?_⟩))
end
section
def rowR (p : Rat × Nat) : List AV := [.sl 1 (irows .u32 (limbs p.1.num.natAbs)) false, .val (.bool (decide (p.1.num < 0))), .sl 1 (irows .u32 (limbs p.2)) false]
theorem rowR_noid (p : Rat × Nat) : ∀ x ∈ rowR p, NoId x := noid3 (noid_sl _ _ _) (.val _) (noid_sl _ _ _)
theorem rowsR_noid (l : List (Rat × Nat)) : ∀ r ∈ l.map rowR, ∀ x ∈ r, NoId x := by
 intro r hr
 obtain ⟨b, _, rfl⟩ := List.mem_map.1 hr
 exact rowR_noid b
section
variable (l : List (Rat × Nat)) (f : Nat → Rat) (g : Nat → Nat) (hl : l.length < 10000) (hl1 : ∀ k (h : k < l.length), dn (l[k]).2 = (l[k]).1.den) (hg : ∀ k, k ≤ l.length → dn (g k) = (f k).den) (hg1 : ∀ k, k < l.length → g (k + 1) = (f (k + 1)).den)
 (hb : ∀ k, k ≤ l.length → Sz (f k) 1000) (hbl : ∀ k (h : k < l.length), Sz (l[k]).1 1000)
include hl hl1 hg hg1 hb hbl
theorem QPlus_ok (hf : ∀ k (h : k < l.length), f (k + 1) = f k + (l[k]).1) : AC Tryz.prog 149 [RA (f 0).num (g 0), .sl 3 (l.map rowR) false] (.pure (RA (f l.length).num (g l.length))) := by
 refine AC.of_body TTok Tryz.func149 rfl (enter_of Tryz.func149 (by kernel_rfl) (by kernel_rfl)) (noid2 (RA_noid _ _) (.sl _ _ _ (rowsR_noid l))) (RA_noid _ _) (nbq rfl) ?_
 unfold RA
 conv => whnf
 refine SW.loopM TTok (fun k : Nat => [(2, .lp 0 0), (4, .lp 8 0), (7, .sl 3 (l.map rowR) false), (8, .val (.int .i64 l.length)), (9, .val (.int .i64 k))])
  (fun k => [(0, .cells 3 [rowR (f k, g k)]), (8, .cells 3 [[.sl 0 [] true, .val (.bool false), .sl 0 [] true]])]) 40 39 rfl (fun k => l.length - k) (fun k => k ≤ l.length) 0 [] (Nat.zero_le _)
  ⟨q2r, q2r, q2r, ⟨valI (by simp), rfl⟩, q2r, trivial⟩ ⟨⟨rfl, .inl ⟨rfl, ?_⟩⟩, q3r, trivial⟩ rfl ?_
 ·intro r hr; simp at hr; subst hr; exact rowR_noid _
 intro k hk
 have hk : k ≤ l.length := hk
 conv => whnf
 refine caseb (fun h1 => ?_) (fun h1 => ?_)
 ·have h1' : (k : Int) < (l.length : Int) := of_decide_eq_true h1
  have hlt : k < l.length := by omega
  obtain ⟨q, hq⟩ : ∃ q, q = l[k] := ⟨_, rfl⟩
  have hj := hl1 k hlt
  have lq := hbl k hlt
  have hF := hf k hlt
  rw [← hq] at hj lq hF
  obtain ⟨p, hp⟩ : ∃ p, p = f k := ⟨_, rfl⟩
  have hi := hg k hk
  have lp := hb k hk
  have hg' := hg1 k hlt
  rw [← hp] at hi lp hF
  rw [hF] at hg'
  have m1 := limbs_num_den p q.1
  have m2 := limbs_num_den q.1 p
  have m3 := limbs_den_mul p q.1
  have m4 := limbs_abs_add (p.num * (q.1.den : Int)) (q.1.num * (p.den : Int))
  have := lp.1; have := lp.2; have := lq.1; have := lq.2
  have u1 := under_ok p.num (g k)
  have u2 := under_ok q.1.num q.2
  rw [hi] at u1
  rw [hj] at u2
  have t1 := Times1 p.num (q.1.den : Int) (by omega) (by rw [Int.natAbs_natCast]; omega) (by omega)
  have t2 := Times1 q.1.num (p.den : Int) (by omega) (by rw [Int.natAbs_natCast]; omega) (by omega)
  have t3 := Times1 (p.den : Int) (q.1.den : Int) (by rw [Int.natAbs_natCast]; omega) (by rw [Int.natAbs_natCast]; omega) (by omega)
  have hP := Plus1 (p.num * (q.1.den : Int)) (q.1.num * (p.den : Int)) (by omega) (by omega) (by omega)
  have hN := New_ok (p.num * (q.1.den : Int) + q.1.num * (p.den : Int)) ((p.den : Int) * (q.1.den : Int)) (den_mul_ne p q.1) (by omega) (by omega)
  rw [q_add] at hN
  have hrow : (l.map rowR)[k]? = some (rowR q) := by rw [List.getElem?_map, List.getElem?_eq_getElem hlt, hq]; rfl
  have hr2 : rowR (f (k + 1), g (k + 1)) = [.sl 1 (irows .u32 (limbs (p + q.1).num.natAbs)) false, .val (.bool (decide ((p + q.1).num < 0))), .sl 1 (irows .u32 (limbs (p + q.1).den)) false] := by
   unfold rowR; rw [hF, hg']
  clear hF hg' hf hg hg1 hl1 hb hbl m1 m2 m3 m4
  revert t1 t2 t3 hP hN hr2
  generalize p.num * (q.1.den : Int) + q.1.num * (p.den : Int) = z
  generalize p.num * (q.1.den : Int) = x
  generalize q.1.num * (p.den : Int) = y
  generalize (p.den : Int) * (q.1.den : Int) = w
  generalize p + q.1 = s
  intro t1 t2 t3 hP hN hr2
  unfold RA WI rowW at *
  conv => whnf
  refine ⟨rowR q, ⟨by omega, by rw [show ((k : Int)).toNat = k by omega]; exact hrow⟩, ?_⟩
  subst hp
  conv => whnf
  refine ⟨_, u2, ?_⟩
  conv => whnf
  refine ⟨(nbq rfl), _, t1, ?_⟩
  conv => whnf
  refine ⟨_, u1, ?_⟩
  conv => whnf
  refine ⟨(nbq rfl), _, t2, ?_⟩
  conv => whnf
  refine ⟨(nbq rfl), _, hP, ?_⟩
  conv => whnf
  refine ⟨_, u1, ?_⟩
  conv => whnf
  refine ⟨_, u2, ?_⟩
  conv => whnf
  refine ⟨(nbq rfl), _, t3, ?_⟩
  conv => whnf
  refine ⟨_, hN, ?_⟩
  conv => whnf
  refine ⟨by kernel_rfl, ?_⟩
  conv => whnf
  refine ⟨k + 1, [], (by show l.length - (k + 1) < l.length - k; omega), (by show k + 1 ≤ l.length; omega), ⟨q2r, q2r, q2r, q2r, ⟨valI ?_, rfl⟩, trivial⟩, ⟨⟨rfl, .inl ⟨?_, fun r hr => by simp at hr; subst hr; exact rowR_noid _⟩⟩, q3r, trivial⟩, rfl⟩
  ·show IntKind.i64.wrap ((k : Int) + 1) = ((k + 1 : Nat) : Int)
   rw [IntWalk.i64_in _ (by omega)]; omega
  ·show _ = some (LB.cells 3 [rowR (f (k + 1), g (k + 1))])
   rw [hr2]; rfl
 ·have h1' : ¬ (k : Int) < (l.length : Int) := of_decide_eq_false h1
  have hkl : k = l.length := by omega
  conv => whnf
  show RA (f k).num (g k) = RA (f l.length).num (g l.length)
  rw [hkl]
theorem QTimes_ok (hf : ∀ k (h : k < l.length), f (k + 1) = f k * (l[k]).1) : AC Tryz.prog 151 [RA (f 0).num (g 0), .sl 3 (l.map rowR) false] (.pure (RA (f l.length).num (g l.length))) := by
 refine AC.of_body TTok Tryz.func151 rfl (enter_of Tryz.func151 (by kernel_rfl) (by kernel_rfl)) (noid2 (RA_noid _ _) (.sl _ _ _ (rowsR_noid l))) (RA_noid _ _) (nbq rfl) ?_
 unfold RA
 conv => whnf
 refine SW.loopM TTok (fun k : Nat => [(2, .lp 0 0), (4, .lp 8 0), (7, .sl 3 (l.map rowR) false), (8, .val (.int .i64 l.length)), (9, .val (.int .i64 k))])
  (fun k => [(0, .cells 3 [rowR (f k, g k)]), (8, .cells 3 [[.sl 0 [] true, .val (.bool false), .sl 0 [] true]])]) 40 31 rfl (fun k => l.length - k) (fun k => k ≤ l.length) 0 [] (Nat.zero_le _)
  ⟨q2r, q2r, q2r, ⟨valI (by simp), rfl⟩, q2r, trivial⟩ ⟨⟨rfl, .inl ⟨rfl, ?_⟩⟩, q3r, trivial⟩ rfl ?_
 ·intro r hr; simp at hr; subst hr; exact rowR_noid _
 intro k hk
 have hk : k ≤ l.length := hk
 conv => whnf
 refine caseb (fun h1 => ?_) (fun h1 => ?_)
 ·have h1' : (k : Int) < (l.length : Int) := of_decide_eq_true h1
  have hlt : k < l.length := by omega
  obtain ⟨q, hq⟩ : ∃ q, q = l[k] := ⟨_, rfl⟩
  have hj := hl1 k hlt
  have lq := hbl k hlt
  have hF := hf k hlt
  rw [← hq] at hj lq hF
  obtain ⟨p, hp⟩ : ∃ p, p = f k := ⟨_, rfl⟩
  have hi := hg k hk
  have lp := hb k hk
  have hg' := hg1 k hlt
  rw [← hp] at hi lp hF
  rw [hF] at hg'
  have m3 := limbs_den_mul p q.1
  have m4 := limbs_abs_mul p.num q.1.num
  have := lp.1; have := lp.2; have := lq.1; have := lq.2
  have u1 := under_ok p.num (g k)
  have u2 := under_ok q.1.num q.2
  rw [hi] at u1
  rw [hj] at u2
  have t1 := Times1 p.num q.1.num (by omega) (by omega) (by omega)
  have t3 := Times1 (p.den : Int) (q.1.den : Int) (by rw [Int.natAbs_natCast]; omega) (by rw [Int.natAbs_natCast]; omega) (by omega)
  have hN := New_ok (p.num * q.1.num) ((p.den : Int) * (q.1.den : Int)) (den_mul_ne p q.1) (by omega) (by omega)
  rw [q_mul] at hN
  have hrow : (l.map rowR)[k]? = some (rowR q) := by rw [List.getElem?_map, List.getElem?_eq_getElem hlt, hq]; rfl
  have hr2 : rowR (f (k + 1), g (k + 1)) = [.sl 1 (irows .u32 (limbs (p * q.1).num.natAbs)) false, .val (.bool (decide ((p * q.1).num < 0))), .sl 1 (irows .u32 (limbs (p * q.1).den)) false] := by
   unfold rowR; rw [hF, hg']
  clear hF hg' hf hg hg1 hl1 hb hbl m3 m4
  revert t1 t3 hN hr2
  generalize p.num * q.1.num = x
  generalize (p.den : Int) * (q.1.den : Int) = w
  generalize p * q.1 = s
  intro t1 t3 hN hr2
  unfold RA WI rowW at *
  conv => whnf
  refine ⟨rowR q, ⟨by omega, by rw [show ((k : Int)).toNat = k by omega]; exact hrow⟩, ?_⟩
  subst hp
  conv => whnf
  refine ⟨(nbq rfl), _, t1, ?_⟩
  conv => whnf
  refine ⟨_, u1, ?_⟩
  conv => whnf
  refine ⟨_, u2, ?_⟩
  conv => whnf
  refine ⟨(nbq rfl), _, t3, ?_⟩
  conv => whnf
  refine ⟨_, hN, ?_⟩
  conv => whnf
  refine ⟨by kernel_rfl, ?_⟩
  conv => whnf
  refine ⟨k + 1, [], (by show l.length - (k + 1) < l.length - k; omega), (by show k + 1 ≤ l.length; omega), ⟨q2r, q2r, q2r, q2r, ⟨valI ?_, rfl⟩, trivial⟩, ⟨⟨rfl, .inl ⟨?_, fun r hr => by simp at hr; subst hr; exact rowR_noid _⟩⟩, q3r, trivial⟩, rfl⟩
  ·show IntKind.i64.wrap ((k : Int) + 1) = ((k + 1 : Nat) : Int)
   rw [IntWalk.i64_in _ (by omega)]; omega
  ·show _ = some (LB.cells 3 [rowR (f (k + 1), g (k + 1))])
   rw [hr2]; rfl
 ·have h1' : ¬ (k : Int) < (l.length : Int) := of_decide_eq_false h1
  have hkl : k = l.length := by omega
  conv => whnf
  show RA (f k).num (g k) = RA (f l.length).num (g l.length)
  rw [hkl]
end
theorem QPlus1 (p q : Rat) (i j : Nat) (hi : dn i = p.den) (hj : dn j = q.den) (lp : Sz p 400) (lq : Sz q 90) : AC Tryz.prog 149 [RA p.num i, .sl 3 [rowR (q, j)] false] (.pure (RA (p + q).num (p + q).den)) :=
 QPlus_ok [(q, j)] (fun k => match k with | 0 => p | _ + 1 => p + q) (fun k => match k with | 0 => i | _ + 1 => (p + q).den) (nbq rfl)
  (fun k h => by match k, h with | 0, _ => exact hj | k + 1, h => exact absurd h (by simp))
  (fun k h => by match k with | 0 => exact hi | k + 1 => exact dn_den _)
  (fun k h => rfl)
  (fun k h => by match k with | 0 => exact lp.mono (by decide) | k + 1 => exact (Sz_add lp lq).mono (by decide))
  (fun k h => by match k, h with | 0, _ => exact lq.mono (by decide) | k + 1, h => exact absurd h (by simp))
  (fun k h => by match k, h with | 0, _ => rfl | k + 1, h => exact absurd h (by simp))
theorem QTimes1 (p q : Rat) (i j : Nat) (hi : dn i = p.den) (hj : dn j = q.den) (lp : Sz p 400) (lq : Sz q 400) : AC Tryz.prog 151 [RA p.num i, .sl 3 [rowR (q, j)] false] (.pure (RA (p * q).num (p * q).den)) :=
 QTimes_ok [(q, j)] (fun k => match k with | 0 => p | _ + 1 => p * q) (fun k => match k with | 0 => i | _ + 1 => (p * q).den) (nbq rfl)
  (fun k h => by match k, h with | 0, _ => exact hj | k + 1, h => exact absurd h (by simp))
  (fun k h => by match k with | 0 => exact hi | k + 1 => exact dn_den _)
  (fun k h => rfl)
  (fun k h => by match k with | 0 => exact lp.mono (by decide) | k + 1 => exact (Sz_mul lp lq).mono (by decide))
  (fun k h => by match k, h with | 0, _ => exact lq.mono (by decide) | k + 1, h => exact absurd h (by simp))
  (fun k h => by match k, h with | 0, _ => rfl | k + 1, h => exact absurd h (by simp))
end
section
theorem QFloor_ok (p : Rat) (i : Nat) (hi : dn i = p.den) (lp : Sz p 1000) : AC Tryz.prog 170 [RA p.num i] (.pure (WI p.floor)) := by
 refine AC.of_body TTok Tryz.func170 rfl (enter_of Tryz.func170 (by kernel_rfl) (by kernel_rfl)) (noid1 (RA_noid _ _)) (WI_noid _) (nbq rfl) ?_
 have := lp.1; have := lp.2
 have hb0 : (p.den : Int) ≠ 0 := by have := p.den_nz; omega
 have u1 := under_ok p.num i
 rw [hi] at u1
 have hF := Floor_ok p.num (p.den : Int) hb0 (by omega) (by rw [Int.natAbs_natCast]; omega) (DivMod_ok p.num.natAbs (p.den : Int).natAbs (by omega) (by omega) (by rw [Int.natAbs_natCast]; omega))
 rw [flQ_floor] at hF
 revert u1 hF
 generalize (p.den : Int) = b
 generalize flR p.num b = r
 generalize p.floor = f
 intro u1 hF
 unfold RA WI at *
 repeat ((conv => whnf); (first | refine ⟨_, ‹_›, ?_⟩ | refine ⟨nbq rfl, _, ‹_›, ?_⟩ | refine ⟨by kernel_rfl, ?_⟩ | exact rfl | exact ⟨nbq rfl, rfl⟩ | refine ⟨by decide, ?_⟩))
def restQ (a x : Rat) : Rat := if a = 0 then x else x + -(a * ((x / a).floor : Rat))
theorem Rest_zero (x : Rat) (i j : Nat) (hi : dn i = (0 : Rat).den) (hj : dn j = x.den) (lx : Sz x 1000) : AC Tryz.prog 154 [RA (0 : Rat).num i, RA x.num j] (.pure (RA x.num j)) := by
 refine AC.of_body TTok Tryz.func154 rfl (enter_of Tryz.func154 (by kernel_rfl) (by kernel_rfl)) (noid2 (RA_noid _ _) (RA_noid _ _)) (RA_noid _ _) (nbq rfl) ?_
 have hB := By_zero x j i hj hi lx
 unfold RA at *
 repeat ((conv => whnf); (first | refine ⟨_, ‹_›, ?_⟩ | refine ⟨nbq rfl, _, ‹_›, ?_⟩ | refine ⟨by kernel_rfl, ?_⟩ | exact rfl | exact ⟨nbq rfl, rfl⟩ | refine ⟨by decide, ?_⟩))
theorem Rest_ok (a x : Rat) (i j : Nat) (h0 : a ≠ 0) (hi : dn i = a.den) (hj : dn j = x.den) (la : Sz a 20) (lx : Sz x 20) : AC Tryz.prog 154 [RA a.num i, RA x.num j] (.pure (RA (restQ a x).num (restQ a x).den)) := by
 unfold restQ
 rw [if_neg h0]
 refine AC.of_body TTok Tryz.func154 rfl (enter_of Tryz.func154 (by kernel_rfl) (by kernel_rfl)) (noid2 (RA_noid _ _) (RA_noid _ _)) (RA_noid _ _) (nbq rfl) ?_
 have hB := By_ok x a j i hj hi (lx.mono (by decide)) (la.mono (by decide)) h0
 have sB := Sz_div h0 lx la
 have hF := QFloor_ok (x / a) (x / a).den (dn_self (Rat.den_nz _)) (sB.mono (by decide))
 have lF := limbs_floor sB
 have hW := Whole_ok (x / a).floor
 have sF : Sz ((x / a).floor : Rat) 42 := Sz_int (by decide) lF
 have hT := QTimes1 a ((x / a).floor : Rat) i 1 hi rfl (la.mono (by decide)) (sF.mono (by decide))
 have hM := QMinus_ok (a * ((x / a).floor : Rat)).num (a * ((x / a).floor : Rat)).den
 rw [dn_den] at hM
 have sM := Sz_neg (Sz_mul la sF)
 have hP := QPlus1 x (-(a * ((x / a).floor : Rat))) j (a * ((x / a).floor : Rat)).den hj (dn_den _) (lx.mono (by decide)) (sM.mono (by decide))
 rw [← Rat.neg_num] at hM
 unfold rowR at hT hP
 simp only [Rat.num_intCast] at hT
 clear sB lF sF sM
 revert hB hF hW hT hM hP
 generalize x + -(a * ((x / a).floor : Rat)) = s
 generalize -(a * ((x / a).floor : Rat)) = m
 generalize a * ((x / a).floor : Rat) = t
 generalize (x / a).floor = f
 generalize x / a = q
 intro hB hF hW hT hM hP
 unfold RA WI at *
 repeat ((conv => whnf); (first | refine ⟨_, ‹_›, ?_⟩ | refine ⟨nbq rfl, _, ‹_›, ?_⟩ | refine ⟨by kernel_rfl, ?_⟩ | exact rfl | exact ⟨nbq rfl, rfl⟩ | refine ⟨by decide, ?_⟩))
end
section
theorem SFrom_ok (n : Int) (hn : -9223372036854775808 ≤ n ∧ n < 9223372036854775808) : AC Tryz.prog 58 [.val (.int .i64 n)] (.pure (RN n 1)) := by
 refine AC.of_body TTok Tryz.func58 rfl (enter_of Tryz.func58 (by kernel_rfl) (by kernel_rfl)) (noid1 (.val _)) (RN_noid _ _) (nbq rfl) ?_
 have h := RFrom_ok n hn
 unfold RN WR at *
 rw [decS_one]
 repeat ((conv => whnf); (first | refine ⟨_, ‹_›, ?_⟩ | refine ⟨nbq rfl, _, ‹_›, ?_⟩ | refine ⟨by kernel_rfl, ?_⟩ | exact rfl | exact ⟨nbq rfl, rfl⟩ | refine ⟨by decide, ?_⟩))
end
section
section
variable (p q : Rat) (lp : Sz p 99) (lq : Sz q 99)
include lp lq
end
end
section
def RT (b : Bool) (s t : List Int) : AV := .agg [.val (.bool b), .val (.string (strL s)), .val (.string (strL t))]
theorem RT_noid (b : Bool) (s t : List Int) : NoId (RT b s t) := .agg _ (noid3 (.val _) (.val _) (.val _))
def RQ (b : Bool) (s t : List Int) : Prop := right s = true ∧ right t = true ∧ s = decL (valL s) ∧ t = decL (valL t) ∧ valL t ≠ 0 ∧ Nat.gcd (valL s) (valL t) = 1 ∧ ¬ (b = true ∧ valL s = 0)
instance (b : Bool) (s t : List Int) : Decidable (RQ b s t) := inferInstanceAs (Decidable (_ ∧ _))
def qOf (b : Bool) (s t : List Int) : Rat := Rat.divInt (sgn b (valL s)) (valL t : Int)
theorem RQ_num {b : Bool} {s t : List Int} (h : RQ b s t) : (qOf b s t).num = sgn b (valL s) ∧ (qOf b s t).den = valL t := by
 obtain ⟨_, _, _, _, h0, hg, hn⟩ := h
 have hy : (valL t : Int) ≠ 0 := by omega
 unfold qOf
 rw [sgn_num _ _ hy, sgn_den _ _ hy, sgn_abs, Int.natAbs_natCast, hg, Nat.div_one, Nat.div_one]
 refine ⟨?_, rfl⟩
 congr 1
 rw [sgn_neg, decide_eq_false (show ¬ (valL t : Int) < 0 by omega)]
 cases b
 ·rfl
 ·rw [decide_eq_false (fun e => hn ⟨rfl, e⟩)]; rfl
theorem RQ_is {b : Bool} {s t : List Int} (h : RQ b s t) : RT b s t = RN (qOf b s t).num (qOf b s t).den := by
 obtain ⟨e1, e2⟩ := RQ_num h
 obtain ⟨_, _, hs, ht, h0, hg, hn⟩ := h
 rw [e1, e2]
 unfold RT RN decS
 rw [sgn_abs, ← hs, ← ht, sgn_neg]
 refine agg3 (valB ?_) rfl rfl
 cases b
 ·rfl
 ·rw [decide_eq_false (fun e => hn ⟨rfl, e⟩)]; rfl
theorem RQ_sz {b : Bool} {s t : List Int} (h : RQ b s t) {k l : Nat} (hs : s.length ≤ l) (ht : t.length ≤ l) (hk : 10 ^ l ≤ 4294967296 ^ k) : Sz (qOf b s t) k := by
 obtain ⟨e1, e2⟩ := RQ_num h
 obtain ⟨d1, _, _⟩ := right_dig h.1
 obtain ⟨d2, _, _⟩ := right_dig h.2.1
 have h1 := valL_lt d1
 have h2 := valL_lt d2
 have p1 := Nat.pow_le_pow_right (n := 10) (by decide) hs
 have p2 := Nat.pow_le_pow_right (n := 10) (by decide) ht
 refine ⟨?_, ?_⟩
 ·rw [e1, sgn_abs]; exact limbs_len_le (by omega)
 ·rw [e2]; exact limbs_len_le (by omega)
theorem RQ_back {b : Bool} {s t : List Int} (hBs : Byt s) (hBt : Byt t) (hs : right s = true) (ht : right t = true) (h0 : valL t ≠ 0) :
  ((decide ((qOf b s t).num < 0) == b) && (((decS (qOf b s t).num.natAbs).toList == (strL s).toList) && (((decS (qOf b s t).den).toList == (strL t).toList) && true))) = decide (RQ b s t) := by
 rw [decS_is _ _ hBs, decS_is _ _ hBt, Bool.and_true]
 by_cases h : RQ b s t
 ·obtain ⟨e1, e2⟩ := RQ_num h
  rw [decide_eq_true h, e1, e2, sgn_abs, sgn_neg]
  obtain ⟨_, _, hs, ht, h0, hg, hn⟩ := h
  rw [decide_eq_true hs.symm, decide_eq_true ht.symm]
  cases b
  ·rfl
  ·rw [decide_eq_false (fun e => hn ⟨rfl, e⟩)]; rfl
 ·rw [decide_eq_false h]
  cases hc : (decide ((qOf b s t).num < 0) == b) && (decide (decL (qOf b s t).num.natAbs = s) && decide (decL (qOf b s t).den = t)) with
  | false => rfl
  | true =>
   exfalso
   simp only [Bool.and_eq_true, decide_eq_true_eq, beq_iff_eq] at hc
   obtain ⟨h1, h2, h3⟩ := hc
   have v1 : valL s = (qOf b s t).num.natAbs := (congrArg valL h2).symm.trans (valL_decL _)
   have v2 : valL t = (qOf b s t).den := (congrArg valL h3).symm.trans (valL_decL _)
   refine h ⟨hs, ht, h2.symm.trans (by rw [v1]), h3.symm.trans (by rw [v2]), h0, by rw [v1, v2]; exact (qOf b s t).reduced, fun hb => ?_⟩
   rw [hb.1] at h1
   have := of_decide_eq_true h1
   rw [← hb.1] at this
   have := hb.2
   omega
theorem SRight_ok (b : Bool) (s t : List Int) (hBs : Byt s) (hBt : Byt t) (ls : s.length ≤ 100) (lt : t.length ≤ 100) : AC Tryz.prog 100 [RT b s t] (.pure (.val (.bool (decide (RQ b s t))))) := by
 refine AC.of_body TTok Tryz.func100 rfl (enter_of Tryz.func100 (by kernel_rfl) (by kernel_rfl)) (noid1 (RT_noid b s t)) (.val _) (nbq rfl) ?_
 have r1 := Right_ok s hBs (by omega)
 have r2 := Right_ok t hBt (by omega)
 cases hr : right s with
 | false =>
  rw [hr] at r1
  rw [decide_eq_false (fun h : RQ b s t => Bool.noConfusion (h.1.symm.trans hr))]
  unfold RT
  repeat ((conv => whnf); (first | refine ⟨_, ‹_›, ?_⟩ | refine ⟨nbq rfl, _, ‹_›, ?_⟩ | refine ⟨by kernel_rfl, ?_⟩ | exact rfl | exact ⟨nbq rfl, rfl⟩ | refine ⟨by decide, ?_⟩))
 | true =>
  rw [hr] at r1
  cases hr' : right t with
  | false =>
   rw [hr'] at r2
   rw [decide_eq_false (fun h : RQ b s t => Bool.noConfusion (h.2.1.symm.trans hr'))]
   unfold RT
   repeat ((conv => whnf); (first | refine ⟨_, ‹_›, ?_⟩ | refine ⟨nbq rfl, _, ‹_›, ?_⟩ | refine ⟨by kernel_rfl, ?_⟩ | exact rfl | exact ⟨nbq rfl, rfl⟩ | refine ⟨by decide, ?_⟩))
  | true =>
   rw [hr'] at r2
   obtain ⟨d1, n1, _⟩ := right_dig hr
   obtain ⟨d2, n2, _⟩ := right_dig hr'
   have t1 := Trim_ok s d1 n1 (by omega)
   have t2 := Trim_ok t d2 n2 (by omega)
   have e1 := decS_is (valL s) s hBs
   have e2 := decS_is (valL t) t hBt
   by_cases c1 : decL (valL s) = s
   ·rw [decide_eq_true c1] at e1
    have f1 : (!((decS (valL s)).toList == (strL s).toList)) = false := by rw [e1]; rfl
    by_cases c2 : decL (valL t) = t
    ·rw [decide_eq_true c2] at e2
     have f2 : (!((decS (valL t)).toList == (strL t).toList)) = false := by rw [e2]; rfl
     have z := is0 (valL t)
     have s2 : strL t = decS (valL t) := by unfold decS; rw [c2]
     have s1 : strL s = decS (valL s) := by unfold decS; rw [c1]
     rw [← s2] at z
     by_cases c3 : valL t = 0
     ·rw [decide_eq_true c3] at z
      rw [decide_eq_false (fun h : RQ b s t => h.2.2.2.2.1 c3)]
      unfold RT
      conv => whnf
      refine ⟨_, r1, ?_⟩
      conv => whnf
      refine ⟨_, r2, ?_⟩
      conv => whnf
      refine ⟨_, t1, ?_⟩
      conv => whnf
      refine cFq (f1) ?_
      conv => whnf
      refine ⟨_, t2, ?_⟩
      conv => whnf
      refine cFq (f2) ?_
      conv => whnf
      refine ⟨by kernel_rfl, ?_⟩
      conv => whnf
      refine cTq (z) ?_
      repeat ((conv => whnf); (first | refine ⟨_, ‹_›, ?_⟩ | refine ⟨nbq rfl, _, ‹_›, ?_⟩ | refine ⟨by kernel_rfl, ?_⟩ | exact rfl | exact ⟨nbq rfl, rfl⟩ | refine ⟨by decide, ?_⟩))
     ·rw [decide_eq_false c3] at z
      have y := is0 (valL s)
      have k1 := limbs_ten (valL_lt d1)
      have k2 := limbs_ten (valL_lt d2)
      have hG := RGcd2 (valL s) (valL t) (by omega)
      have o := is1 (Nat.gcd (valL s) (valL t))
      rw [← s1] at y hG
      rw [← s2] at hG
      unfold RT
      conv => whnf
      refine ⟨_, r1, ?_⟩
      conv => whnf
      refine ⟨_, r2, ?_⟩
      conv => whnf
      refine ⟨_, t1, ?_⟩
      conv => whnf
      refine cFq (f1) ?_
      conv => whnf
      refine ⟨_, t2, ?_⟩
      conv => whnf
      refine cFq (f2) ?_
      conv => whnf
      refine ⟨by kernel_rfl, ?_⟩
      conv => whnf
      refine cFq (z) ?_
      conv => whnf
      refine ⟨_, hG, ?_⟩
      conv => whnf
      by_cases c4 : Nat.gcd (valL s) (valL t) = 1
      ·rw [decide_eq_true c4] at o
       rw [o]
       have e : decide (RQ b s t) = !(b && decide (valL s = 0)) := by
        cases hb : b && decide (valL s = 0) with
        | true =>
         simp only [Bool.and_eq_true, decide_eq_true_eq] at hb
         exact decide_eq_false (fun h => h.2.2.2.2.2.2 hb)
        | false =>
         refine decide_eq_true ⟨hr, hr', c1.symm, c2.symm, c3, c4, fun h => ?_⟩
         rw [h.1, decide_eq_true h.2] at hb
         cases hb
       rw [e, ← y]
       cases b
       ·conv => whnf
        exact rfl
       ·conv => whnf
        exact valB rfl
      ·rw [decide_eq_false c4] at o
       rw [o, decide_eq_false (fun h : RQ b s t => c4 h.2.2.2.2.2.1)]
       conv => whnf
       exact rfl
    ·rw [decide_eq_false c2] at e2
     have f2 : (!((decS (valL t)).toList == (strL t).toList)) = true := by rw [e2]; rfl
     rw [decide_eq_false (fun h : RQ b s t => c2 h.2.2.2.1.symm)]
     unfold RT
     conv => whnf
     refine ⟨_, r1, ?_⟩
     conv => whnf
     refine ⟨_, r2, ?_⟩
     conv => whnf
     refine ⟨_, t1, ?_⟩
     conv => whnf
     refine cFq (f1) ?_
     conv => whnf
     refine ⟨_, t2, ?_⟩
     conv => whnf
     refine cTq (f2) ?_
     repeat ((conv => whnf); (first | refine ⟨_, ‹_›, ?_⟩ | refine ⟨nbq rfl, _, ‹_›, ?_⟩ | refine ⟨by kernel_rfl, ?_⟩ | exact rfl | exact ⟨nbq rfl, rfl⟩ | refine ⟨by decide, ?_⟩))
   ·rw [decide_eq_false c1] at e1
    have f1 : (!((decS (valL s)).toList == (strL s).toList)) = true := by rw [e1]; rfl
    rw [decide_eq_false (fun h : RQ b s t => c1 h.2.2.1.symm)]
    unfold RT
    conv => whnf
    refine ⟨_, r1, ?_⟩
    conv => whnf
    refine ⟨_, r2, ?_⟩
    conv => whnf
    refine ⟨_, t1, ?_⟩
    conv => whnf
    refine cTq (f1) ?_
    repeat ((conv => whnf); (first | refine ⟨_, ‹_›, ?_⟩ | refine ⟨nbq rfl, _, ‹_›, ?_⟩ | refine ⟨by kernel_rfl, ?_⟩ | exact rfl | exact ⟨nbq rfl, rfl⟩ | refine ⟨by decide, ?_⟩))
end
section
def RZ : AV := .agg [.sl 0 [] true, .val (.bool false), .sl 0 [] true]
theorem RZ_noid : NoId RZ := .agg _ (noid3 (.sl _ _ _ (fun r hr => (nomatch hr))) (.val _) (.sl _ _ _ (fun r hr => (nomatch hr))))
theorem RZ_le : AVle RZ (RA 0 0) := by
 unfold RA
 rw [show (0 : Int).natAbs = 0 from rfl, limbs_zero]
 exact .agg _ _ rfl (fun i a b ha hb => by
  match i with
  | 0 => cases ha; cases hb; exact .sl _ _ _
  | 1 => cases ha; cases hb; exact .refl _
  | 2 => cases ha; cases hb; exact .sl _ _ _
  | (i + 3) => cases ha)
theorem RZ_res {P : Program} {f : FuncId} {args : List AV} {b : Bool} (h : AC P f args (.pure (.tup [RZ, .val (.bool b)]))) : AC P f args (.pure (.tup [RA 0 0, .val (.bool b)])) :=
 AC.le_res h (.tup2 RZ_le (.refl _)) (.tup _ (noid2 (RA_noid _ _) (.val _)))
theorem SOf_ok (b : Bool) (s t : List Int) (hBs : Byt s) (hBt : Byt t) (ls : s.length ≤ 100) (lt : t.length ≤ 100) (hs : right s = true) (ht : right t = true) (h0 : valL t ≠ 0) :
  AC Tryz.prog 68 [RT b s t] (.pure (.tup [RA (qOf b s t).num (qOf b s t).den, .val (.bool (decide (RQ b s t)))])) := by
 rw [← RQ_back hBs hBt hs ht h0]
 refine AC.of_body TTok Tryz.func68 rfl (enter_of Tryz.func68 (by kernel_rfl) (by kernel_rfl)) (noid1 (RT_noid b s t)) (.tup _ (noid2 (RA_noid _ _) (.val _))) (nbq rfl) ?_
 have p1 := Parse_any s hBs
 have p2 := Parse_any t hBt
 rw [if_pos hs, hs] at p1
 rw [if_pos ht, ht] at p2
 have o1 := WOf_ok b (valL s)
 have o2 := WOf_ok false (valL t)
 rw [show sgn false (valL t) = (valL t : Int) from rfl] at o2
 have k1 := limbs_ten (valL_lt (right_dig hs).1)
 have k2 := limbs_ten (valL_lt (right_dig ht).1)
 have hN := New_ok (sgn b (valL s)) (valL t : Int) (by omega) (by rw [sgn_abs]; omega) (by rw [Int.natAbs_natCast]; omega)
 have hz : Sz (qOf b s t) 100 := Sz_divInt (by omega) (by rw [sgn_abs]; omega) (by rw [Int.natAbs_natCast]; omega)
 have := hz.1
 have := hz.2
 have hM := Num_ok (qOf b s t).num (qOf b s t).den (by omega) (by rw [dn_den]; omega)
 rw [dn_den] at hM
 change AC Tryz.prog 106 _ (.pure (.tup [RA (qOf b s t).num (qOf b s t).den, .val (.bool true)])) at hN
 revert p1 p2 o1 o2 hN hM
 generalize qOf b s t = q
 generalize sgn b (valL s) = z
 generalize (valL t : Int) = w
 generalize valL s = x
 generalize valL t = y
 intro p1 p2 o1 o2 hN hM
 unfold RT RA RN WI natA at *
 repeat ((conv => whnf); (first | refine ⟨_, ‹_›, ?_⟩ | refine ⟨nbq rfl, _, ‹_›, ?_⟩ | refine ⟨by kernel_rfl, ?_⟩ | exact rfl | exact ⟨nbq rfl, rfl⟩ | refine ⟨by decide, ?_⟩))
end
section
def fitsN (a k : Nat) (most : Int) : Prop := a = 1 ∨ ((limbs (a ^ k)).length : Int) ≤ most
instance (a k : Nat) (most : Int) : Decidable (fitsN a k most) := inferInstanceAs (Decidable (_ ∨ _))
def pk (n : Int) : Nat := if n < 0 then (if n < -9223372036854775807 then 9223372036854775807 else (-n).toNat) else n.toNat
def pb (q : Rat) (n : Int) : Rat := if n < 0 then 1 / q else q
def limQ (q : Rat) : Prop := q.den = 1 ∧ (q.num.natAbs = 0 ∨ q.num.natAbs = 1)
instance (q : Rat) : Decidable (limQ q) := inferInstanceAs (Decidable (_ ∧ _))
def powQ (q : Rat) (n most : Int) : Rat × Bool :=
 if n = 0 then (1, true)
 else if limQ q then (if q = 0 ∧ n < 0 then (0, false) else (if n % 2 = 0 then q * q else q, true))
 else if fitsN (pb q n).num.natAbs (pk n) most ∧ fitsN (pb q n).den (pk n) most then ((pb q n) ^ (pk n), true) else (0, false)
theorem and1 (n : Int) : IntKind.i64.wrap (((BitVec.ofInt 64 n &&& BitVec.ofInt 64 1).toNat : Nat) : Int) = n % 2 := by
 have h1 : (BitVec.ofInt 64 n &&& BitVec.ofInt 64 1).toNat = (n % 2).toNat := by
  rw [BitVec.toNat_and, show (BitVec.ofInt 64 1).toNat = 2 ^ 1 - 1 from rfl, Nat.and_two_pow_sub_one_eq_mod, BitVec.toNat_ofInt]
  omega
 rw [h1, IntWalk.i64_in _ (by omega)]
 omega
theorem and1e (n : Int) : (IntKind.i64.wrap (((BitVec.ofInt 64 n &&& BitVec.ofInt 64 1).toNat : Nat) : Int) == 0) = decide (n % 2 = 0) := by rw [and1]; exact beqD Iff.rfl
theorem and1o (n : Int) : (IntKind.i64.wrap (((BitVec.ofInt 64 n &&& BitVec.ofInt 64 1).toNat : Nat) : Int) == 1) = decide (n % 2 = 1) := by rw [and1]; exact beqD Iff.rfl
theorem pow_sgn (a : Int) (k : Nat) : a ^ k = sgn (decide (a < 0) && decide ((k : Int) % 2 = 1)) (a.natAbs ^ k) := by
 have hc : ((a.natAbs ^ k : Nat) : Int) = (a.natAbs : Int) ^ k := Int.natCast_pow _ _
 by_cases h : a < 0
 ·rw [decide_eq_true h, Bool.true_and]
  obtain ⟨m, rfl⟩ : ∃ m : Nat, a = -(m : Int) := ⟨a.natAbs, by omega⟩
  rw [Int.natAbs_neg, Int.natAbs_natCast]
  clear hc h
  have key : ∀ k : Nat, (-(m : Int)) ^ k = if k % 2 = 1 then -((m : Int) ^ k) else (m : Int) ^ k := by
   intro k
   induction k with
   | zero => simp
   | succ k ih =>
    rw [Int.pow_succ, ih, Int.pow_succ]
    by_cases hk : k % 2 = 1
    ·rw [if_pos hk, if_neg (by omega), Int.neg_mul_neg]
    ·rw [if_neg hk, if_pos (by omega), Int.mul_neg]
  rw [key k]
  by_cases hk : k % 2 = 1
  ·rw [if_pos hk, decide_eq_true (by omega)]
   show _ = -((m ^ k : Nat) : Int)
   rw [Int.natCast_pow]
  ·rw [if_neg hk, decide_eq_false (by omega)]
   show _ = ((m ^ k : Nat) : Int)
   rw [Int.natCast_pow]
 ·rw [decide_eq_false h, Bool.false_and]
  show _ = ((a.natAbs ^ k : Nat) : Int)
  rw [hc]
  congr 1
  omega
theorem NPow_fit (a : Nat) (n most : Int) (ha : 1 ≤ a) (hn : 0 < n) (hn63 : n < 9223372036854775808) (hm : most ≤ 200) (hl : (limbs a).length ≤ 400) (h : fitsN a n.toNat most) : AC Tryz.prog 180 [natA a, .val (.int .i64 n), .val (.int .i64 most)] (.pure (.tup [natA (a ^ n.toNat), .val (.bool true)])) := by
 by_cases h1 : a = 1
 ·subst h1
  rw [Nat.one_pow]
  exact Pow_one 1 n most (.inr rfl)
 ·exact Pow_gen a n most (by omega) hn hn63 hm hl _ (.tup _ (noid2 (natA_noid _) (.val _))) (fun h' => by rcases h with h | h <;> omega) (fun _ => rfl)
theorem NPow_not (a : Nat) (n most : Int) (ha : 1 ≤ a) (hn : 0 < n) (hn63 : n < 9223372036854775808) (hm : most ≤ 200) (hl : (limbs a).length ≤ 400) (h : ¬ fitsN a n.toNat most) : AC Tryz.prog 180 [natA a, .val (.int .i64 n), .val (.int .i64 most)] (.pure (.tup [.agg [.sl 0 [] true], .val (.bool false)])) := by
 have h1 : a ≠ 1 := fun e => h (.inl e)
 exact Pow_gen a n most (by omega) hn hn63 hm hl _ (.tup _ (noid2 (.agg _ (noid1 (.sl _ _ _ (fun r hr => (nomatch hr))))) (.val _))) (fun _ => rfl) (fun h' => absurd (.inr h') h)
end
section
theorem lim_num {q : Rat} (h : ¬ limQ q) : q ≠ 0 := fun e => h (by rw [e]; exact ⟨rfl, .inl rfl⟩)
theorem beq_ne0 {n : Int} (h : n ≠ 0) : (n == 0) = false := beq_false_of_ne h
theorem pk_pos {n : Int} (h : 0 < n) : (pk n : Int) = n := by unfold pk; rw [if_neg (by omega)]; omega
theorem pk_neg {n : Int} (h : n < 0) (h1 : -9223372036854775808 ≤ n) : IntKind.i64.wrap (0 - (if -9223372036854775807 > n then -9223372036854775807 else n)) = (pk n : Int) := by
 unfold pk
 rw [if_pos h]
 by_cases h2 : n < -9223372036854775807
 ·rw [if_pos h2, if_pos (by omega)]; rfl
 ·rw [if_neg h2, if_neg (by omega), IntWalk.i64_in _ (by omega)]; omega
theorem pk_bd {n : Int} (h0 : n ≠ 0) (h1 : -9223372036854775808 ≤ n ∧ n < 9223372036854775808) : 0 < (pk n : Int) ∧ (pk n : Int) < 9223372036854775808 := by
 unfold pk
 split
 ·split <;> omega
 ·omega
theorem pb_ne {q : Rat} (n : Int) (h : ¬ limQ q) : pb q n ≠ 0 := by
 unfold pb
 have hq := lim_num h
 split
 ·intro e
  have := Rat.div_mul_cancel (a := 1) hq
  rw [e, Rat.zero_mul] at this
  exact absurd this (by decide)
 ·exact hq
theorem pb_sz {q : Rat} {k : Nat} (n : Int) (h : ¬ limQ q) (hk : Sz q k) : Sz (pb q n) (k + 1) := by
 unfold pb
 split
 ·exact (Sz_div (lim_num h) (i := 1) (j := k) ⟨by show (limbs 1).length ≤ 1; rw [limbs_1]; decide, by show (limbs 1).length ≤ 1; rw [limbs_1]; decide⟩ hk).mono (by omega)
 ·exact hk.mono (by omega)
theorem QPow_zero (q : Rat) (i : Nat) (most : Int) : AC Tryz.prog 174 [RA q.num i, .val (.int .i64 0), .val (.int .i64 most)] (.pure (.tup [RA 1 1, .val (.bool true)])) := by
 refine AC.of_body TTok Tryz.func174 rfl (enter_of Tryz.func174 (by kernel_rfl) (by kernel_rfl)) (noid3 (RA_noid _ _) (.val _) (.val _)) (.tup _ (noid2 (RA_noid _ _) (.val _))) (nbq rfl) ?_
 have hF := RatFrom_ok 1 (by decide)
 unfold RA at *
 repeat ((conv => whnf); (first | refine ⟨_, ‹_›, ?_⟩ | refine ⟨nbq rfl, _, ‹_›, ?_⟩ | refine ⟨by kernel_rfl, ?_⟩ | exact rfl | exact ⟨nbq rfl, rfl⟩ | refine ⟨by decide, ?_⟩))
theorem QPow_none (q : Rat) (i : Nat) (n most : Int) (hi : dn i = q.den) (hq : q = 0) (h0 : n < 0) : AC Tryz.prog 174 [RA q.num i, .val (.int .i64 n), .val (.int .i64 most)] (.pure (.tup [RA 0 0, .val (.bool false)])) := by
 refine RZ_res ?_
 refine AC.of_body TTok Tryz.func174 rfl (enter_of Tryz.func174 (by kernel_rfl) (by kernel_rfl)) (noid3 (RA_noid _ _) (.val _) (.val _)) (.tup _ (noid2 RZ_noid (.val _))) (nbq rfl) ?_
 have hL := Limited_ok q.num i
 have hS := RaSign_ok q.num i
 rw [decide_eq_true (show dn i = 1 ∧ (q.num.natAbs = 0 ∨ q.num.natAbs = 1) by rw [hi, hq]; exact ⟨rfl, .inl rfl⟩)] at hL
 rw [show sigW q.num = 0 by rw [hq]; rfl] at hS
 have e0 := beq_ne0 (show n ≠ 0 by omega)
 have eN : decide (n < 0) = true := decide_eq_true h0
 unfold RA at *
 conv => whnf
 refine cFq (e0) ?_
 conv => whnf
 refine ⟨_, hL, ?_⟩
 conv => whnf
 refine ⟨_, hS, ?_⟩
 conv => whnf
 refine cTq (eN) ?_
 repeat ((conv => whnf); (first | refine ⟨_, ‹_›, ?_⟩ | refine ⟨nbq rfl, _, ‹_›, ?_⟩ | refine ⟨by kernel_rfl, ?_⟩ | exact rfl | exact ⟨nbq rfl, rfl⟩ | refine ⟨by decide, ?_⟩))
theorem QPow_even (q : Rat) (i : Nat) (n most : Int) (hi : dn i = q.den) (lq : Sz q 300) (hl : limQ q) (h0 : n ≠ 0) (hz : ¬ (q = 0 ∧ n < 0)) (he : n % 2 = 0) : AC Tryz.prog 174 [RA q.num i, .val (.int .i64 n), .val (.int .i64 most)] (.pure (.tup [RA (q * q).num (q * q).den, .val (.bool true)])) := by
 refine AC.of_body TTok Tryz.func174 rfl (enter_of Tryz.func174 (by kernel_rfl) (by kernel_rfl)) (noid3 (RA_noid _ _) (.val _) (.val _)) (.tup _ (noid2 (RA_noid _ _) (.val _))) (nbq rfl) ?_
 have hL := Limited_ok q.num i
 have hS := RaSign_ok q.num i
 rw [hi, decide_eq_true (show q.den = 1 ∧ (q.num.natAbs = 0 ∨ q.num.natAbs = 1) from hl)] at hL
 have e0 := beq_ne0 h0
 have a0 := and1e n
 rw [decide_eq_true he] at a0
 have hT := QTimes1 q q i i hi hi (lq.mono (by decide)) (lq.mono (by decide))
 unfold rowR at hT
 simp only at hT
 by_cases hq : q = 0
 ·have eN : decide (n < 0) = false := decide_eq_false (fun h => hz ⟨hq, h⟩)
  rw [show sigW q.num = 0 by rw [hq]; rfl] at hS
  revert hT
  generalize q * q = r
  intro hT
  unfold RA at *
  conv => whnf
  refine cFq (e0) ?_
  conv => whnf
  refine ⟨_, hL, ?_⟩
  conv => whnf
  refine ⟨_, hS, ?_⟩
  conv => whnf
  refine cFq (eN) ?_
  conv => whnf
  refine cTq (a0) ?_
  repeat ((conv => whnf); (first | refine ⟨_, ‹_›, ?_⟩ | refine ⟨nbq rfl, _, ‹_›, ?_⟩ | refine ⟨by kernel_rfl, ?_⟩ | exact rfl | exact ⟨nbq rfl, rfl⟩ | refine ⟨by decide, ?_⟩))
 ·have eS : (sigW q.num == 0) = false := beq_false_of_ne (by unfold sigW; rw [if_neg (num_ne hq)]; split <;> decide)
  revert hT hS eS
  generalize q * q = r
  generalize sigW q.num = s
  intro hS hT eS
  unfold RA at *
  conv => whnf
  refine cFq (e0) ?_
  conv => whnf
  refine ⟨_, hL, ?_⟩
  conv => whnf
  refine ⟨_, hS, ?_⟩
  conv => whnf
  refine cFq (eS) ?_
  conv => whnf
  refine cTq (a0) ?_
  repeat ((conv => whnf); (first | refine ⟨_, ‹_›, ?_⟩ | refine ⟨nbq rfl, _, ‹_›, ?_⟩ | refine ⟨by kernel_rfl, ?_⟩ | exact rfl | exact ⟨nbq rfl, rfl⟩ | refine ⟨by decide, ?_⟩))
theorem QPow_odd (q : Rat) (i : Nat) (n most : Int) (hi : dn i = q.den) (hl : limQ q) (h0 : n ≠ 0) (hz : ¬ (q = 0 ∧ n < 0)) (he : ¬ n % 2 = 0) : AC Tryz.prog 174 [RA q.num i, .val (.int .i64 n), .val (.int .i64 most)] (.pure (.tup [RA q.num i, .val (.bool true)])) := by
 refine AC.of_body TTok Tryz.func174 rfl (enter_of Tryz.func174 (by kernel_rfl) (by kernel_rfl)) (noid3 (RA_noid _ _) (.val _) (.val _)) (.tup _ (noid2 (RA_noid _ _) (.val _))) (nbq rfl) ?_
 have hL := Limited_ok q.num i
 have hS := RaSign_ok q.num i
 rw [hi, decide_eq_true (show q.den = 1 ∧ (q.num.natAbs = 0 ∨ q.num.natAbs = 1) from hl)] at hL
 have e0 := beq_ne0 h0
 have a0 := and1e n
 rw [decide_eq_false he] at a0
 by_cases hq : q = 0
 ·have eN : decide (n < 0) = false := decide_eq_false (fun h => hz ⟨hq, h⟩)
  rw [show sigW q.num = 0 by rw [hq]; rfl] at hS
  unfold RA at *
  conv => whnf
  refine cFq (e0) ?_
  conv => whnf
  refine ⟨_, hL, ?_⟩
  conv => whnf
  refine ⟨_, hS, ?_⟩
  conv => whnf
  refine cFq (eN) ?_
  conv => whnf
  refine cFq (a0) ?_
  repeat ((conv => whnf); (first | refine ⟨_, ‹_›, ?_⟩ | refine ⟨nbq rfl, _, ‹_›, ?_⟩ | refine ⟨by kernel_rfl, ?_⟩ | exact rfl | exact ⟨nbq rfl, rfl⟩ | refine ⟨by decide, ?_⟩))
 ·have eS : (sigW q.num == 0) = false := beq_false_of_ne (by unfold sigW; rw [if_neg (num_ne hq)]; split <;> decide)
  revert hS eS
  generalize sigW q.num = s
  intro hS eS
  unfold RA at *
  conv => whnf
  refine cFq (e0) ?_
  conv => whnf
  refine ⟨_, hL, ?_⟩
  conv => whnf
  refine ⟨_, hS, ?_⟩
  conv => whnf
  refine cFq (eS) ?_
  conv => whnf
  refine cFq (a0) ?_
  repeat ((conv => whnf); (first | refine ⟨_, ‹_›, ?_⟩ | refine ⟨nbq rfl, _, ‹_›, ?_⟩ | refine ⟨by kernel_rfl, ?_⟩ | exact rfl | exact ⟨nbq rfl, rfl⟩ | refine ⟨by decide, ?_⟩))
theorem QPow_fit (q : Rat) (i : Nat) (n most : Int) (hi : dn i = q.den) (hn : -9223372036854775808 ≤ n ∧ n < 9223372036854775808) (hm : most ≤ 200) (lq : Sz q 300) (hl : ¬ limQ q) (h0 : n ≠ 0)
  (f1 : fitsN (pb q n).num.natAbs (pk n) most) (f2 : fitsN (pb q n).den (pk n) most) : AC Tryz.prog 174 [RA q.num i, .val (.int .i64 n), .val (.int .i64 most)] (.pure (.tup [RA (pb q n ^ pk n).num (pb q n ^ pk n).den, .val (.bool true)])) := by
 refine AC.of_body TTok Tryz.func174 rfl (enter_of Tryz.func174 (by kernel_rfl) (by kernel_rfl)) (noid3 (RA_noid _ _) (.val _) (.val _)) (.tup _ (noid2 (RA_noid _ _) (.val _))) (nbq rfl) ?_
 have hL := Limited_ok q.num i
 rw [hi, decide_eq_false (show ¬ (q.den = 1 ∧ (q.num.natAbs = 0 ∨ q.num.natAbs = 1)) from hl)] at hL
 have e0 := beq_ne0 h0
 have hF := RatFrom_ok 1 (by decide)
 have hB := By_ok 1 q 1 i rfl hi ⟨by show (limbs 1).length ≤ 1000; rw [limbs_1]; decide, by show (limbs 1).length ≤ 1000; rw [limbs_1]; decide⟩ (lq.mono (by decide)) (lim_num hl)
 rw [Rat.one_num] at hB
 have sp := pb_sz n hl lq
 have np := num_ne (pb_ne n hl)
 obtain ⟨k1, k2⟩ := pk_bd h0 hn
 obtain ⟨p, hp⟩ : ∃ p, p = pb q n := ⟨_, rfl⟩
 rw [← hp] at sp np f1 f2 ⊢
 have := sp.1; have := sp.2; have := p.den_nz
 have P1 := NPow_fit p.num.natAbs (pk n) most (by omega) k1 k2 hm (by omega) (by rw [Int.toNat_natCast]; exact f1)
 have P2 := NPow_fit p.den (pk n) most (by omega) k1 k2 hm (by omega) (by rw [Int.toNat_natCast]; exact f2)
 rw [Int.toNat_natCast] at P1 P2
 have hO1 := WOf_ok (decide ((pk n : Int) % 2 = 1)) (p.num.natAbs ^ pk n)
 have hO2 := WOf_ok false (p.num.natAbs ^ pk n)
 have hnum : (p ^ pk n).num = sgn (decide (p.num < 0) && decide ((pk n : Int) % 2 = 1)) (p.num.natAbs ^ pk n) := by rw [Rat.num_pow]; exact pow_sgn _ _
 rw [← and1o (pk n)] at hO1 hnum
 rw [hnum, Rat.den_pow]
 have hNeg := NegW_ok p.num
 clear hnum sp np f1 f2
 revert P1 P2 hO1 hO2
 generalize p.num.natAbs ^ pk n = X
 generalize p.den ^ pk n = Y
 intro P1 P2 hO1 hO2
 rcases Int.lt_or_le n 0 with hs | hs
 ·have hE := pk_neg hs hn.1
  have eN : decide (n < 0) = true := decide_eq_true hs
  rw [← show p = 1 / q by rw [hp]; unfold pb; rw [if_pos hs]] at hB
  have hD := down_ok p.num p.den
  rw [dn_den] at hD
  rw [← hE] at P1 P2 hO1 ⊢
  clear hE hp k1 k2
  unfold RA WI natA at *
  generalize decide (p.num < 0) = s at *
  cases s
  ·conv => whnf
   refine cFq (e0) ?_
   conv => whnf
   refine ⟨_, hL, ?_⟩
   conv => whnf
   refine cTq (eN) ?_
   repeat ((conv => whnf); (first | refine ⟨_, ‹_›, ?_⟩ | refine ⟨nbq rfl, _, ‹_›, ?_⟩ | refine ⟨by kernel_rfl, ?_⟩ | exact rfl | exact ⟨nbq rfl, rfl⟩ | refine ⟨by decide, ?_⟩))
  ·conv => whnf
   refine cFq (e0) ?_
   conv => whnf
   refine ⟨_, hL, ?_⟩
   conv => whnf
   refine cTq (eN) ?_
   repeat ((conv => whnf); (first | refine ⟨_, ‹_›, ?_⟩ | refine ⟨nbq rfl, _, ‹_›, ?_⟩ | refine ⟨by kernel_rfl, ?_⟩ | exact rfl | exact ⟨nbq rfl, rfl⟩ | refine ⟨by decide, ?_⟩))
 ·have hE := pk_pos (show 0 < n by omega)
  have eN : decide (n < 0) = false := decide_eq_false (by omega)
  have hpe : p = q := by rw [hp]; unfold pb; rw [if_neg (by omega)]
  clear hB hF hp
  subst hpe
  have hD := down_ok p.num i
  rw [hi] at hD
  rw [hE] at P1 P2 hO1 ⊢
  clear hE k1 k2
  unfold RA WI natA at *
  generalize decide (p.num < 0) = s at *
  cases s
  ·conv => whnf
   refine cFq (e0) ?_
   conv => whnf
   refine ⟨_, hL, ?_⟩
   conv => whnf
   refine cFq (eN) ?_
   repeat ((conv => whnf); (first | refine ⟨_, ‹_›, ?_⟩ | refine ⟨nbq rfl, _, ‹_›, ?_⟩ | refine ⟨by kernel_rfl, ?_⟩ | exact rfl | exact ⟨nbq rfl, rfl⟩ | refine ⟨by decide, ?_⟩))
  ·conv => whnf
   refine cFq (e0) ?_
   conv => whnf
   refine ⟨_, hL, ?_⟩
   conv => whnf
   refine cFq (eN) ?_
   repeat ((conv => whnf); (first | refine ⟨_, ‹_›, ?_⟩ | refine ⟨nbq rfl, _, ‹_›, ?_⟩ | refine ⟨by kernel_rfl, ?_⟩ | exact rfl | exact ⟨nbq rfl, rfl⟩ | refine ⟨by decide, ?_⟩))
theorem QPow_not (q : Rat) (i : Nat) (n most : Int) (hi : dn i = q.den) (hn : -9223372036854775808 ≤ n ∧ n < 9223372036854775808) (hm : most ≤ 200) (lq : Sz q 300) (hl : ¬ limQ q) (h0 : n ≠ 0)
  (hf : ¬ (fitsN (pb q n).num.natAbs (pk n) most ∧ fitsN (pb q n).den (pk n) most)) : AC Tryz.prog 174 [RA q.num i, .val (.int .i64 n), .val (.int .i64 most)] (.pure (.tup [RA 0 0, .val (.bool false)])) := by
 refine RZ_res ?_
 refine AC.of_body TTok Tryz.func174 rfl (enter_of Tryz.func174 (by kernel_rfl) (by kernel_rfl)) (noid3 (RA_noid _ _) (.val _) (.val _)) (.tup _ (noid2 RZ_noid (.val _))) (nbq rfl) ?_
 have hL := Limited_ok q.num i
 rw [hi, decide_eq_false (show ¬ (q.den = 1 ∧ (q.num.natAbs = 0 ∨ q.num.natAbs = 1)) from hl)] at hL
 have e0 := beq_ne0 h0
 have hF := RatFrom_ok 1 (by decide)
 have hB := By_ok 1 q 1 i rfl hi ⟨by show (limbs 1).length ≤ 1000; rw [limbs_1]; decide, by show (limbs 1).length ≤ 1000; rw [limbs_1]; decide⟩ (lq.mono (by decide)) (lim_num hl)
 rw [Rat.one_num] at hB
 have sp := pb_sz n hl lq
 have np := num_ne (pb_ne n hl)
 obtain ⟨k1, k2⟩ := pk_bd h0 hn
 obtain ⟨p, hp⟩ : ∃ p, p = pb q n := ⟨_, rfl⟩
 rw [← hp] at sp np hf
 have := sp.1; have := sp.2; have := p.den_nz
 have P : (∃ X, AC Tryz.prog 180 [natA p.num.natAbs, .val (.int .i64 (pk n)), .val (.int .i64 most)] (.pure (.tup [natA X, .val (.bool true)])) ∧ AC Tryz.prog 180 [natA p.den, .val (.int .i64 (pk n)), .val (.int .i64 most)] (.pure (.tup [.agg [.sl 0 [] true], .val (.bool false)])))
   ∨ AC Tryz.prog 180 [natA p.num.natAbs, .val (.int .i64 (pk n)), .val (.int .i64 most)] (.pure (.tup [.agg [.sl 0 [] true], .val (.bool false)])) ∧ ((∃ Y, AC Tryz.prog 180 [natA p.den, .val (.int .i64 (pk n)), .val (.int .i64 most)] (.pure (.tup [natA Y, .val (.bool true)]))) ∨ AC Tryz.prog 180 [natA p.den, .val (.int .i64 (pk n)), .val (.int .i64 most)] (.pure (.tup [.agg [.sl 0 [] true], .val (.bool false)]))) := by
  by_cases f1 : fitsN p.num.natAbs (pk n) most
  ·exact .inl ⟨_, NPow_fit p.num.natAbs (pk n) most (by omega) k1 k2 hm (by omega) (by rw [Int.toNat_natCast]; exact f1), NPow_not p.den (pk n) most (by omega) k1 k2 hm (by omega) (by rw [Int.toNat_natCast]; exact fun f2 => hf ⟨f1, f2⟩)⟩
  ·refine .inr ⟨NPow_not p.num.natAbs (pk n) most (by omega) k1 k2 hm (by omega) (by rw [Int.toNat_natCast]; exact f1), ?_⟩
   by_cases f2 : fitsN p.den (pk n) most
   ·exact .inl ⟨_, NPow_fit p.den (pk n) most (by omega) k1 k2 hm (by omega) (by rw [Int.toNat_natCast]; exact f2)⟩
   ·exact .inr (NPow_not p.den (pk n) most (by omega) k1 k2 hm (by omega) (by rw [Int.toNat_natCast]; exact f2))
 clear sp np hf
 rcases Int.lt_or_le n 0 with hs | hs
 ·have hE := pk_neg hs hn.1
  have eN : decide (n < 0) = true := decide_eq_true hs
  rw [← show p = 1 / q by rw [hp]; unfold pb; rw [if_pos hs]] at hB
  have hD := down_ok p.num p.den
  rw [dn_den] at hD
  rw [← hE] at P
  clear hE hp k1 k2
  unfold RA RZ natA at *
  rcases P with ⟨X, P1, P2⟩ | ⟨P1, ⟨Y, P2⟩ | P2⟩
  ·conv => whnf
   refine cFq (e0) ?_
   conv => whnf
   refine ⟨_, hL, ?_⟩
   conv => whnf
   refine cTq (eN) ?_
   repeat ((conv => whnf); (first | refine ⟨_, ‹_›, ?_⟩ | refine ⟨nbq rfl, _, ‹_›, ?_⟩ | refine ⟨by kernel_rfl, ?_⟩ | exact rfl | exact ⟨nbq rfl, rfl⟩ | refine ⟨by decide, ?_⟩))
  ·conv => whnf
   refine cFq (e0) ?_
   conv => whnf
   refine ⟨_, hL, ?_⟩
   conv => whnf
   refine cTq (eN) ?_
   repeat ((conv => whnf); (first | refine ⟨_, ‹_›, ?_⟩ | refine ⟨nbq rfl, _, ‹_›, ?_⟩ | refine ⟨by kernel_rfl, ?_⟩ | exact rfl | exact ⟨nbq rfl, rfl⟩ | refine ⟨by decide, ?_⟩))
  ·conv => whnf
   refine cFq (e0) ?_
   conv => whnf
   refine ⟨_, hL, ?_⟩
   conv => whnf
   refine cTq (eN) ?_
   repeat ((conv => whnf); (first | refine ⟨_, ‹_›, ?_⟩ | refine ⟨nbq rfl, _, ‹_›, ?_⟩ | refine ⟨by kernel_rfl, ?_⟩ | exact rfl | exact ⟨nbq rfl, rfl⟩ | refine ⟨by decide, ?_⟩))
 ·have hE := pk_pos (show 0 < n by omega)
  have eN : decide (n < 0) = false := decide_eq_false (by omega)
  have hpe : p = q := by rw [hp]; unfold pb; rw [if_neg (by omega)]
  clear hB hF hp
  subst hpe
  have hD := down_ok p.num i
  rw [hi] at hD
  rw [hE] at P
  clear hE k1 k2
  unfold RA RZ natA at *
  rcases P with ⟨X, P1, P2⟩ | ⟨P1, ⟨Y, P2⟩ | P2⟩
  ·conv => whnf
   refine cFq (e0) ?_
   conv => whnf
   refine ⟨_, hL, ?_⟩
   conv => whnf
   refine cFq (eN) ?_
   repeat ((conv => whnf); (first | refine ⟨_, ‹_›, ?_⟩ | refine ⟨nbq rfl, _, ‹_›, ?_⟩ | refine ⟨by kernel_rfl, ?_⟩ | exact rfl | exact ⟨nbq rfl, rfl⟩ | refine ⟨by decide, ?_⟩))
  ·conv => whnf
   refine cFq (e0) ?_
   conv => whnf
   refine ⟨_, hL, ?_⟩
   conv => whnf
   refine cFq (eN) ?_
   repeat ((conv => whnf); (first | refine ⟨_, ‹_›, ?_⟩ | refine ⟨nbq rfl, _, ‹_›, ?_⟩ | refine ⟨by kernel_rfl, ?_⟩ | exact rfl | exact ⟨nbq rfl, rfl⟩ | refine ⟨by decide, ?_⟩))
  ·conv => whnf
   refine cFq (e0) ?_
   conv => whnf
   refine ⟨_, hL, ?_⟩
   conv => whnf
   refine cFq (eN) ?_
   repeat ((conv => whnf); (first | refine ⟨_, ‹_›, ?_⟩ | refine ⟨nbq rfl, _, ‹_›, ?_⟩ | refine ⟨by kernel_rfl, ?_⟩ | exact rfl | exact ⟨nbq rfl, rfl⟩ | refine ⟨by decide, ?_⟩))
end
section
end
section
theorem limbs_small {n : Nat} (h : n < 4294967296) : (limbs n).length ≤ 1 := limbs_len_le (k := 1) (by omega)
theorem Sz_small {q : Rat} (h1 : q.num.natAbs < 4294967296) (h2 : q.den < 4294967296) : Sz q 1 := ⟨limbs_small h1, limbs_small h2⟩
end
section
theorem RN_selfn (x : Bool) (s t : ByteArray) : (!((x == x) && ((s.toList == s.toList) && ((t.toList == t.toList) && true)))) = false := by simp
theorem NumS (q : Rat) (i : Nat) (hi : dn i = q.den) (h : Sz q 100000) : AC Tryz.prog 78 [RA q.num i] (.pure (RN q.num q.den)) := by
 have := Num_ok q.num i h.1 (by rw [hi]; exact h.2)
 rwa [hi] at this
theorem Sz_zero : Sz 0 1 := Sz_small (by decide) (by decide)
end
section
theorem pow_prog (q : Rat) (i : Nat) (n most : Int) (hi : dn i = q.den) (hn : -9223372036854775808 ≤ n ∧ n < 9223372036854775808) (hm : most ≤ 200) (lq : Sz q 99) : ∃ (d : Nat), dn d = (powQ q n most).1.den ∧
  AC Tryz.prog 174 [RA q.num i, .val (.int .i64 n), .val (.int .i64 most)] (.pure (.tup [RA (powQ q n most).1.num d, .val (.bool (powQ q n most).2)])) := by
 unfold powQ
 by_cases h0 : n = 0
 ·subst h0
  exact ⟨1, rfl, QPow_zero q i most⟩
 ·rw [if_neg h0]
  by_cases hl : limQ q
  ·rw [if_pos hl]
   by_cases hz : q = 0 ∧ n < 0
   ·rw [if_pos hz]
    exact ⟨0, rfl, QPow_none q i n most hi hz.1 hz.2⟩
   ·rw [if_neg hz]
    by_cases he : n % 2 = 0
    ·rw [if_pos he]
     exact ⟨_, dn_den _, QPow_even q i n most hi (lq.mono (by decide)) hl h0 hz he⟩
    ·rw [if_neg he]
     exact ⟨_, hi, QPow_odd q i n most hi hl h0 hz he⟩
  ·rw [if_neg hl]
   by_cases hf : fitsN (pb q n).num.natAbs (pk n) most ∧ fitsN (pb q n).den (pk n) most
   ·rw [if_pos hf]
    exact ⟨_, dn_den _, QPow_fit q i n most hi hn hm (lq.mono (by decide)) hl h0 hf.1 hf.2⟩
   ·rw [if_neg hf]
    exact ⟨0, rfl, QPow_not q i n most hi hn hm (lq.mono (by decide)) hl h0 hf⟩
end
end Go.Proofs.YtcdeiegpeiodjaaGreat

set_option linter.unusedSimpArgs false
namespace Go.AL
open Go Go.RowKit
theorem SW.cutM {P : Program} {TT : Nat → Option TI} (hT : TTok P TT) {α : Type} {x y : Code} {Q : Exit → St → Prop} {s : St} (ts : α → List (Nat × AV)) (hs : α → List (Nat × LB)) (n m : Nat) (hm : s.m = m) (J : α → Prop)
  (h : axp P TT x (loopQ Q fun s2 => ∃ (a : α) (σ : List (Nat × Nat)), J a ∧ okT s2 (σf σ) n (ts a) ∧ okH s2 (σf σ) n (hs a) ∧ distinct (((hs a).map (·.1)).map (σf σ)) = true) s)
  (hy : ∀ a, J a → SW P y Q (mkS (ts a) (hs a) n m)) : SW P (.seq x y) Q s := by
 refine SW.cut (fun s3 => ∃ a, J a ∧ s3 = mkS (ts a) (hs a) n m) (((axp_sound hT _ _ _ h).keep).mono fun e s' hq => ?_) ?_
 ·obtain ⟨hq, hms⟩ := hq
  cases e with
  | normal =>
   obtain ⟨a, σ, g2, g3, g4, g5⟩ := hq
   exact ⟨mkS (ts a) (hs a) n m, Wk.of _ _ _ _ _ (by rw [hms, hm]) g3 g4 g5, (by rw [hms, hm]; rfl), a, g2, rfl⟩
  | _ => exact hq
 ·rintro s3 hm3 ⟨a, hJ, rfl⟩
  exact hy a hJ
theorem SW.seqA {P : Program} {TT : Nat → Option TI} (hT : TTok P TT) {x y : Code} {Q : Exit → St → Prop} {s : St} (h : axp P TT x (seqQ P y Q) s) : SW P (.seq x y) Q s := SW.seq (axp_sound hT _ _ _ h)
end Go.AL

set_option linter.unusedSimpArgs false
namespace Go.AL
open Go Go.RowKit
theorem eqGuard_sl (t : TypeId) (x y : Operand) (A B : Option Addr) (n c m d : Nat) (P : Program) (w : World) : (eqGuard .eql t x y (.slice A n c) (.slice B m d)).run P w = .ok () w := by
 simp [eqGuard]
theorem run_eql_nil {P : Program} (t e : TypeId) (A : Option Addr) (n c : Nat) (w : World) (h : P.underlying t = some (.slice e)) : (binOp .eql t (.slice A n c) (.slice none 0 0)).run P w = .ok (.bool A.isNone) w := by
 simp only [binOp]
 simp [run_equal_slice_nil w t e A n c h]
theorem SW.region_nil {P : Program} {TT : Nat → Option TI} (hT : TTok P TT) {Q : Exit → St → Prop} {s : St} {id : Nat} {ops : Array Oper} (l1 : List Oper) (o : Oper) {t e x d : Nat} {yt : TypeId} {sz : Nat} {rows : List (List AV)} {tight : Bool}
  (hops : ops.toList = l1 ++ [o]) (hg : o.guard = none) (ho : o.op = .binOp .eql t (.tmp x) (.const (.slice none 0 0)) yt) (hd : o.dst = some d) (hu : P.underlying t = some (.slice e))
  (h : aops P TT ops.toList l1 0 (fun s1 => dstOk (some d) s1.m = true ∧ s1.t x = .sl sz rows tight ∧ x < 1000000 ∧ ∀ bv : Bool, (bv = true → rows = []) → Q .normal ⟨putT s1.t (some d) (.val (.bool bv)), s1.h, s1.n + 8 * ops.toList.length, s1.m⟩) s) : SW P (.region id ops false) Q s := by
 unfold SW
 intro gh w0 F0 a w hR
 obtain ⟨F, ρ, hR'⟩ := hR
 refine wp_region ?_
 have := aops_pre (Q := fun e a w => ∃ s', Q e s' ∧ s'.m = s.m ∧ RelE gh w0 F0 s' a w) hT (ops := ops) s.n s.m [o] (fun i s1 a1 w1 hi hk hn hm1 hx => ?_) l1 0 s a w F ρ (by simpa using hops) (by rw [hops]; simp) rfl rfl h (by simpa using hR')
 ·rw [show l1.length + [o].length = ops.size by rw [← Array.length_toList, hops]; simp] at this
  simpa [List.range_eq_range'] using this
 obtain ⟨F1, ρ1, h1⟩ := hx
 obtain ⟨hdst, hsx, hx6, hQ⟩ := hk
 have hoi : ops[i]? = some o := by
  have hl : i = l1.length := by rw [hops] at hi; simp at hi; omega
  rw [← Array.getElem?_toList, hops, hl]
  simp
 show wpOps P ops _ [i] a1 w1
 have hw : Region.wanted o (yielded ops a1.tmps) = true := by simp [Region.wanted, hg]
 simp only [wpOps, hoi]
 rw [if_pos hw]
 refine .inl ?_
 have hv := h1.vals x
 rw [hsx, gval_lt hx6] at hv
 generalize hvv : a1.tmps.getD x undef = vx at hv
 cases hv with
 | sl A n c _ _ _ bl off vals hn' hc ht hw' hA h0 h1' h2 hno =>
  have he : a1.eval (.tmp x) = .slice A n c := hvv
  have hn0 : A.isNone = true → rows = [] := fun hh => by
   cases rows with
   | nil => rfl
   | cons r rs =>
    rw [(hA (by simp)).1] at hh
    cases hh
  have hP : Post P o a1 w1 gh w0 F0 (fun id => s.n + 8 * i ≤ id) (s.n + 8 * i) { s1 with h := updsH s1.h [] } (.val (.bool A.isNone)) := by
   refine Post.val h1 ?_ (.val _)
   have e2 : a1.eval (.const (.slice none 0 0)) = .slice none 0 0 := rfl
   simp only [execOp, ho, he, e2, Sem.run_bind]
   rw [eqGuard_sl]
   show ((Sem.run P (binOp BinOp.eql t (Value.slice A n c) (Value.slice none 0 0)) w1).andThen fun a w' => Sem.run P (pure (Next.value a)) w') = _
   rw [run_eql_nil t e A n c w1 hu]
   rfl
  refine hP.wp fun v' w' hx => ?_
  obtain ⟨F', ρ', h3, h4⟩ := hx
  have h5 := h3.putd h4 o.dst (by rw [hd]; exact hdst)
  rw [hd] at h5 ⊢
  show ∃ s', Q .normal s' ∧ s'.m = s.m ∧ RelE gh w0 F0 s' _ w'
  refine ⟨_, hQ A.isNone hn0, hm1, F', ρ', ?_⟩
  have hl : i + 1 = ops.toList.length := hi
  have h6 := h5.mono_fr (fr' := fun id => s1.n + 8 * ops.toList.length ≤ id) (fun id hid => ⟨by rw [hn] at hid; omega, by rw [hn] at hid; omega⟩)
  exact ⟨h6.defers, h6.size, h6.mle, h6.below, h6.Fb, h6.F0F, h6.Fnew, h6.vals, h6.blks, h6.inj, h6.fresh⟩
theorem SW.regionNil {P : Program} {TT : Nat → Option TI} (hT : TTok P TT) {Q : Exit → St → Prop} {s : St} {id : Nat} {ops : Array Oper} (o : Oper) {t e x d : Nat} {yt : TypeId} {sz : Nat} {rows : List (List AV)} {tight : Bool}
  (hops : ops.toList = ops.toList.dropLast ++ [o]) (hg : o.guard = none) (ho : o.op = .binOp .eql t (.tmp x) (.const (.slice none 0 0)) yt) (hd : o.dst = some d) (hu : P.underlying t = some (.slice e))
  (h : aopsF P TT ops.toList ops.toList.dropLast 0 (fun s1 => dstOk (some d) s1.m = true ∧ s1.t x = .sl sz rows tight ∧ x < 1000000 ∧ ∀ bv : Bool, (bv = true → rows = []) → Q .normal ⟨putT s1.t (some d) (.val (.bool bv)), s1.h, s1.n + 8 * ops.toList.length, s1.m⟩) s) : SW P (.region id ops false) Q s :=
 SW.region_nil hT _ o hops hg ho hd hu (by rw [aopsF_eq] at h; exact h)
end Go.AL
