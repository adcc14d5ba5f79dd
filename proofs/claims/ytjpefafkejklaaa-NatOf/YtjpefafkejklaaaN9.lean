/- Contracts of nat: a number out of its digits. -/
import Derived.Test.YtjpefafkejklaaaN8
set_option linter.unusedVariables false
namespace Go.Proofs.Ytjpefafkejklaaa
open Go Go.AL NM

theorem valL_lt {l : List Int} (h : Dig l) : valL l < 10 ^ l.length := by
  induction l with
  | nil => decide
  | cons x l ih =>
    have := ih h.cons.2
    have hx := h.cons.1
    rw [valL_cons, List.length_cons, Nat.pow_succ]
    have h2 : (x - 48).toNat * 10 ^ l.length ≤ 9 * 10 ^ l.length := Nat.mul_le_mul_right _ (by omega)
    omega
theorem valL_take_succ {l : List Int} {k : Nat} (hk : k < l.length) : valL (l.take (k + 1)) = 10 * valL (l.take k) + (l[k] - 48).toNat := by
  rw [List.take_succ_eq_append_getElem hk, valL_snoc]
theorem Dig.take {l : List Int} (h : Dig l) (k : Nat) : Dig (l.take k) := fun x hx => h x (List.mem_of_mem_take hx)
theorem Dig.drop {l : List Int} (h : Dig l) (k : Nat) : Dig (l.drop k) := fun x hx => h x (List.mem_of_mem_drop hx)
theorem limbs_ten {n k : Nat} (h : n < 10 ^ k) : (limbs n).length ≤ k := limbs_len_le (Nat.lt_of_lt_of_le h (Nat.pow_le_pow_left (by decide) k))

theorem Parse_ok (l : List Int) (hd : Dig l) (hne : l ≠ []) (hb : l.length ≤ 2000) : AC Try.prog 37 [.val (.string (strL l))] (.pure (.tup [natA (valL l), .val (.bool true)])) := by
  refine AC.of_body TTok Try.func37 rfl (enter_of Try.func37 (by kernel_rfl) (by kernel_rfl)) (noid1 (.val _)) (.tup _ (noid2 (natA_noid _) (.val _))) (Nat.le_of_ble_eq_true rfl) ?_
  conv => whnf
  refine caseb (fun h1 => ?_) (fun h1 => ?_)
  · have h1' := str_beq (Dig.byt hd) (b := []) (fun x hx => (nomatch hx))
    rw [decide_eq_false hne] at h1'
    rw [show ((strL l).toList == (strL []).toList) = true from h1] at h1'
    cases h1'
  conv => whnf
  refine caseb (fun h2 => ?_) (fun h2 => ?_)
  · have h2' : ((strL l).size : Int) > 2000 := of_decide_eq_true h2
    rw [strL_size] at h2'
    omega
  conv => whnf
  refine SW.weak (Wk.leB 72 rfl (y := .sl 1 (irows .u32 (limbs 0)) false) (by rw [limbs_zero]; exact .sl _ _ _)) rfl ?_
  refine SW.loopM TTok (fun x : Nat × List Int => [(0, .val (.string (strL x.2))), (2, .lp 0 0), (4, .lp 72 0)])
    (fun x => [(0, .cells 1 [[.sl 0 [] true]]), (72, .cells 1 [[.sl 1 (irows .u32 (limbs x.1)) false]])]) 80 60 rfl (fun x => x.2.length)
    (fun x => Dig x.2 ∧ x.2.length ≤ l.length ∧ x.1 < 10 ^ (l.length - x.2.length) ∧ x.1 * 10 ^ x.2.length + valL x.2 = valL l) (0, l) [] ⟨hd, Nat.le_refl _, by simp, by simp⟩
    ⟨⟨rfl, rfl⟩, ⟨rfl, rfl⟩, ⟨rfl, rfl⟩, trivial⟩ ⟨⟨rfl, .inr ⟨rfl, rfl⟩⟩, ⟨rfl, .inr ⟨rfl, rfl⟩⟩, trivial⟩ rfl ?_
  rintro ⟨v, r⟩ ⟨hr, hrl, hv, hval⟩
  have hr : Dig r := hr
  have hrl : r.length ≤ l.length := hrl
  have hv : v < 10 ^ (l.length - r.length) := hv
  have hval : v * 10 ^ r.length + valL r = valL l := hval
  have hsz := strL_size r
  conv => whnf
  refine caseb (fun h3 => ?_) (fun h3 => ?_)
  · have h3' : ((strL r).size : Int) > 0 := of_decide_eq_true h3
    rw [hsz] at h3'
    have ek : (if ((strL r).size : Int) < 9 then ((strL r).size : Int) else 9) = ((min 9 r.length : Nat) : Int) := by
      rw [hsz]; split <;> omega
    have hk9 : min 9 r.length ≤ 9 := Nat.min_le_left _ _
    have hkr : min 9 r.length ≤ r.length := Nat.min_le_right _ _
    have hk0 : 0 < min 9 r.length := by omega
    generalize min 9 r.length = k at *
    have es : bytesL ((strL r).extract 0 (if ((strL r).size : Int) < 9 then ((strL r).size : Int) else 9).toNat) = r.take k := by
      rw [ek, strL_extract, Int.toNat_natCast, List.drop_zero, bytesL_strL (Dig.byt (Dig.take hr k))]
    conv => whnf
    refine ⟨⟨by rw [ek]; omega, by rw [ek, hsz]; omega⟩, ?_⟩
    conv => whnf
    refine SW.loopM TTok (fun x : Nat => [(0, .val (.string (strL r))), (2, .lp 0 0), (4, .lp 72 0), (5, .val (.int .i64 k)), (6, .val (.int .u64 (valL (r.take x)))), (7, .val (.int .u64 (10 ^ x : Nat))), (27, .sl 1 (irows .u8 (r.take k)) false), (28, .val (.int .i64 k)), (29, .val (.int .i64 x))])
      (fun x => [(0, .cells 1 [[.sl 0 [] true]]), (72, .cells 1 [[.sl 1 (irows .u32 (limbs v)) false]])]) 200 60 rfl (fun x => k - x)
      (fun x => x ≤ k) 0 [] (Nat.zero_le _)
      ⟨⟨rfl, rfl⟩, ⟨rfl, rfl⟩, ⟨rfl, rfl⟩, ⟨valI ek, rfl⟩, ⟨rfl, rfl⟩, ⟨rfl, rfl⟩, ⟨slE ?_, rfl⟩, ⟨valI ?_, rfl⟩, ⟨rfl, rfl⟩, trivial⟩ ⟨⟨rfl, .inr ⟨rfl, rfl⟩⟩, ⟨rfl, .inr ⟨rfl, rfl⟩⟩, trivial⟩ rfl ?_
    · rw [es]
    · rw [es, irows_len, List.length_take, Nat.min_eq_left hkr]
    intro i hi
    have hi : i ≤ k := hi
    have hX : valL (r.take i) < 10 ^ i := by
      have := valL_lt (Dig.take hr i)
      rwa [List.length_take, Nat.min_eq_left (by omega)] at this
    have hp : 10 ^ i ≤ 1000000000 := Nat.le_trans (Nat.pow_le_pow_right (by decide) (show i ≤ 9 by omega)) (by decide)
    conv => whnf
    refine caseb (fun h4 => ?_) (fun h4 => ?_)
    · have h4' : (i : Int) < (k : Int) := of_decide_eq_true h4
      have hir : i < r.length := by omega
      have hc := hr (r[i]'hir) (List.getElem_mem _)
      conv => whnf
      refine ⟨[.val (.int .u8 (r[i]'hir))], ⟨by omega, irows_get _ _ (by rw [List.getElem?_take_of_lt (by omega)]; exact List.getElem?_eq_getElem hir)⟩, ?_⟩
      conv => whnf
      refine caseb (fun h5 => ?_) (fun h5 => ?_)
      · have h5' : r[i]'hir < 48 := of_decide_eq_true h5
        omega
      conv => whnf
      refine caseb (fun h6 => ?_) (fun h6 => ?_)
      · have h6' : r[i]'hir > 57 := of_decide_eq_true h6
        omega
      conv => whnf
      refine ⟨i + 1, [], (by show k - (i + 1) < k - i; omega), (by show i + 1 ≤ k; omega),
        ⟨⟨rfl, rfl⟩, ⟨rfl, rfl⟩, ⟨rfl, rfl⟩, ⟨rfl, rfl⟩, ⟨valI ?_, rfl⟩, ⟨valI ?_, rfl⟩, ⟨rfl, rfl⟩, ⟨rfl, rfl⟩, ⟨valI ?_, rfl⟩, trivial⟩, ⟨⟨rfl, .inr ⟨rfl, rfl⟩⟩, ⟨rfl, .inr ⟨rfl, rfl⟩⟩, trivial⟩, rfl⟩
      · rw [valL_take_succ hir, IntKind.wrap_u8]
        simp only [IntKind.wrap_u64]
        omega
      · rw [Nat.pow_succ]
        simp only [IntKind.wrap_u64]
        omega
      · show IntKind.i64.wrap ((i : Int) + 1) = ((i + 1 : Nat) : Int)
        rw [IntWalk.i64_in _ (by omega)]; omega
    · have h4' : ¬ (i : Int) < (k : Int) := of_decide_eq_false h4
      have hik : i = k := by omega
      subst hik
      have hvl : (limbs v).length ≤ 2000 := Nat.le_trans (limbs_ten hv) (by omega)
      have hsl : (limbs (10 ^ i)).length ≤ 2 := limbs_len_le (by omega)
      have hxl : (limbs (valL (r.take i))).length ≤ 2 := limbs_len_le (by omega)
      have hnew : v * 10 ^ i + valL (r.take i) < 10 ^ (l.length - (r.drop i).length) := by
        rw [List.length_drop, show l.length - (r.length - i) = (l.length - r.length) + i by omega, Nat.pow_add]
        have : (v + 1) * 10 ^ i ≤ 10 ^ (l.length - r.length) * 10 ^ i := Nat.mul_le_mul_right _ hv
        rw [Nat.add_mul] at this
        omega
      have hml : (limbs (v * 10 ^ i)).length ≤ 2000 := by
        refine Nat.le_trans (limbs_len_mono (b := v * 10 ^ i + valL (r.take i)) (by omega)) (Nat.le_trans (limbs_ten hnew) ?_)
        omega
      conv => whnf
      refine ⟨_, Of_ok (10 ^ i) (by omega), ?_⟩
      conv => whnf
      refine ⟨_, Mul_ok v (10 ^ i) (by omega), ?_⟩
      conv => whnf
      refine ⟨_, Of_ok (valL (r.take i)) (by omega), ?_⟩
      conv => whnf
      refine ⟨_, Add_ok (v * 10 ^ i) (valL (r.take i)) (by omega), ?_⟩
      conv => whnf
      refine ⟨by kernel_rfl, ?_⟩
      conv => whnf
      refine ⟨⟨by omega, by rw [hsz]; omega⟩, ?_⟩
      conv => whnf
      refine ⟨(v * 10 ^ i + valL (r.take i), r.drop i), [], (by show (r.drop i).length < r.length; rw [List.length_drop]; omega), ⟨Dig.drop hr i, (by show (r.drop i).length ≤ l.length; rw [List.length_drop]; omega), hnew, ?_⟩,
        ⟨⟨strE ?_, rfl⟩, ⟨rfl, rfl⟩, ⟨rfl, rfl⟩, trivial⟩, ⟨⟨rfl, .inr ⟨rfl, rfl⟩⟩, ⟨rfl, .inr ⟨rfl, rfl⟩⟩, trivial⟩, rfl⟩
      · show (v * 10 ^ i + valL (r.take i)) * 10 ^ (r.drop i).length + valL (r.drop i) = valL l
        rw [← hval]
        conv => rhs; rw [← List.take_append_drop i r, valL_append, List.length_append, List.length_take, Nat.min_eq_left (show i ≤ r.length by omega), Nat.pow_add]
        rw [Nat.add_mul, Nat.mul_assoc]
        omega
      · show (strL r).extract ((i : Int).toNat) (strL r).size = strL (r.drop i)
        rw [strL_extract, hsz, List.take_of_length_le (Nat.le_refl _), Int.toNat_natCast]
  · have h3' : ¬ ((strL r).size : Int) > 0 := of_decide_eq_false h3
    rw [hsz] at h3'
    have hr0 : r = [] := List.eq_nil_of_length_eq_zero (by omega)
    subst hr0
    have : v = valL l := by simpa [valL, valR] using hval
    subst this
    conv => whnf
    exact rfl

end Go.Proofs.Ytjpefafkejklaaa
