/- Contracts of nat: the digits of a number. -/
import Derived.Test.YtjpefafkejklaaaN2
import Derived.Test.YtjpefafkejklaaaAL25
import Derived.Test.YtjpefafkejklaaaNM2
set_option linter.unusedVariables false
namespace Go.Proofs.Ytjpefafkejklaaa
open Go Go.AL NM

def decS (n : Nat) : ByteArray := strL (decL n)
theorem Dig.byt {l : List Int} (h : Dig l) : Byt l := fun x hx => by have := h x hx; omega
theorem getD_eq {l : List Int} {i : Nat} (h : i < l.length) : l[i]? = some (l.getD i 0) := by
  rw [List.getD, List.getElem?_eq_getElem h]; rfl

theorem decR_limbs (n : Nat) : (decR n).length ≤ 10 * (limbs n).length := by
  refine decR_len (Nat.lt_of_lt_of_le (m := 4294967296 ^ (limbs n).length) ?_ ?_)
  · have := val_lt (limbs_lim n)
    rwa [val_limbs] at this
  · rw [Nat.pow_mul]
    exact Nat.pow_le_pow_left (by decide) _

theorem Text_ok (n : Nat) (hb : (limbs n).length < 4294967296) : AC Try.prog 27 [natA n] (.pure (.val (.string (decS n)))) := by
  refine AC.of_body TTok Try.func27 rfl (enter_of Try.func27 (by kernel_rfl) (by kernel_rfl)) (noid1 (natA_noid n)) (.val _) (Nat.le_of_ble_eq_true rfl) ?_
  by_cases hn0 : n = 0
  · subst hn0
    unfold natA
    rw [limbs_zero]
    conv => whnf
    exact rfl
  have hne : limbs n ≠ [] := fun e => hn0 ((limbs_nil n).1 e)
  have hlen : 0 < (limbs n).length := List.length_pos_iff.2 hne
  conv => whnf
  refine caseb (fun h1 => ?_) (fun h1 => ?_)
  · have h1' : ((irows .u32 (limbs n)).length : Int) = 0 := of_decide_eq_true h1
    rw [irows_len] at h1'
    omega
  clear h1
  conv => whnf
  have hdl := decR_limbs n
  refine SW.nil 3 1 rfl ?_
  refine SW.loopM TTok (fun x : Nat × List Int => [(1, .lp 0 0), (3, .own 56 0 x.2.length)])
    (fun x => [(0, .cells 1 [[.sl 1 (irows .u32 (limbs x.1)) false]]), (56, .cells 1 (irows .u8 x.2))]) 64 70 rfl (fun x => x.1)
    (fun x => x.1 ≤ n ∧ x.2 ++ decR x.1 = decR n) (n, []) [] ⟨Nat.le_refl _, rfl⟩ ⟨⟨rfl, rfl⟩, ⟨rfl, rfl⟩, trivial⟩
    ⟨⟨rfl, .inr ⟨rfl, rfl⟩⟩, ⟨rfl, .inr ⟨rfl, rfl⟩⟩, trivial⟩ rfl ?_
  rintro ⟨q, out⟩ ⟨hq, ho⟩
  have hq : q ≤ n := hq
  have ho : out ++ decR q = decR n := ho
  conv => whnf
  refine ⟨.pure (.val (.bool (decide (q = 0)))), Zero_ok q, ?_⟩
  conv => whnf
  refine caseb (fun h1 => ?_) (fun h1 => ?_)
  · have hq0 : q ≠ 0 := of_decide_eq_false (by simpa using h1)
    conv => whnf
    have hsm := small_ok q 1000000000 (by decide) (by decide) (by have := limbs_len_mono hq; omega)
    have hdm := Nat.mod_add_div q 1000000000
    have hml := Nat.mod_lt q (show 1000000000 > 0 by decide)
    generalize q / 1000000000 = q' at *
    generalize q % 1000000000 = r' at *
    refine ⟨.pure (.tup [natA q', .val (.int .u32 (r' : Nat))]), hsm, ?_⟩
    conv => whnf
    refine SW.loopM TTok (fun x : Nat × Nat × List Int => [(1, .lp 0 0), (3, .own 56 0 x.2.2.length), (4, .lp 128 0), (5, .val (.int .u32 x.2.1)), (6, .val (.int .i64 x.1))])
      (fun x => [(0, .cells 1 [[.sl 1 (irows .u32 (limbs q)) false]]), (56, .cells 1 (irows .u8 x.2.2)), (128, .cells 1 [[.sl 1 (irows .u32 (limbs (q'))) false]])]) 160 70 rfl (fun x => 9 - x.1)
      (fun x => x.1 ≤ 9 ∧ x.2.1 < 10 ^ (9 - x.1) ∧ x.2.2 ++ decR (x.2.1 + 10 ^ (9 - x.1) * (q')) = decR n) (0, r', out) [] ⟨Nat.zero_le _, ?_, ?_⟩
      ⟨⟨rfl, rfl⟩, ⟨rfl, rfl⟩, ⟨rfl, rfl⟩, ⟨rfl, rfl⟩, ⟨rfl, rfl⟩, trivial⟩
      ⟨⟨rfl, .inr ⟨rfl, rfl⟩⟩, ⟨rfl, .inl ⟨rfl, irows_noid _ _⟩⟩, ⟨rfl, .inr ⟨rfl, rfl⟩⟩, trivial⟩ rfl ?_
    · exact hml
    · rw [← ho]
      show out ++ decR (r' + 1000000000 * q') = out ++ decR q
      rw [hdm]
    rintro ⟨i, r, out⟩ ⟨hi, hr, ho⟩
    have hi : i ≤ 9 := hi
    have hr : r < 10 ^ (9 - i) := hr
    have ho : out ++ decR (r + 10 ^ (9 - i) * q') = decR n := ho
    have hol : out.length ≤ (decR n).length := by rw [← ho]; simp
    have hr9 : r < 1000000000 := Nat.lt_of_lt_of_le hr (Nat.le_trans (Nat.pow_le_pow_right (by decide) (show 9 - i ≤ 9 by omega)) (by decide))
    conv => whnf
    refine caseb (fun h2 => ?_) (fun h2 => ?_)
    · have hi9 : i < 9 := by have h2' : (i : Int) < 9 := of_decide_eq_true h2; omega
      have hk : 9 - i = 9 - (i + 1) + 1 := by omega
      conv => whnf
      refine caseb (fun h3 => ?_) (fun h3 => ?_)
      · have hr0 : 0 < r := by have h3' : (r : Int) > 0 := of_decide_eq_true h3; omega
        have hrq : 0 < r ∨ 0 < q' := .inl hr0
        conv => whnf
        refine ⟨by decide, ?_⟩
        conv => whnf
        refine ⟨⟨by rw [irows_len]; omega, by show ((out.length : Nat) + 1) * 1 ≤ 140737488355328; omega, Nat.le_of_ble_eq_true rfl⟩, ?_⟩
        conv => whnf
        refine ⟨by decide, ?_⟩
        conv => whnf
        refine ⟨(i + 1, r / 10, out ++ [((48 + r % 10 : Nat) : Int)]), [(56, 296)], (by show 9 - (i + 1) < 9 - i; omega), ⟨(by show i + 1 ≤ 9; omega), ?_, ?_⟩,
          ⟨⟨rfl, rfl⟩, ⟨ownE rfl ?_, rfl⟩, ⟨rfl, rfl⟩, ⟨valI ?_, rfl⟩, ⟨valI ?_, rfl⟩, trivial⟩, ⟨⟨rfl, .inr ⟨rfl, rfl⟩⟩, ⟨rfl, .inl ⟨celE ?_, irows_noid _ _⟩⟩, ⟨rfl, .inr ⟨rfl, rfl⟩⟩, trivial⟩, rfl⟩
        · show r / 10 < 10 ^ (9 - (i + 1))
          rw [hk, Nat.pow_succ] at hr
          exact Nat.div_lt_of_lt_mul (by rw [Nat.mul_comm]; exact hr)
        · show (out ++ [((48 + r % 10 : Nat) : Int)]) ++ decR (r / 10 + 10 ^ (9 - (i + 1)) * q') = decR n
          rw [← ho, hk, decR_step hrq, List.append_assoc]
          rfl
        · show out.length + 1 = (out ++ [((48 + r % 10 : Nat) : Int)]).length
          simp
        · show IntKind.u32.wrap ((r : Int).tdiv 10) = ((r / 10 : Nat) : Int)
          rw [Int.tdiv_eq_ediv_of_nonneg (Int.natCast_nonneg _), IntKind.wrap_u32]
          omega
        · show IntKind.i64.wrap ((i : Int) + 1) = ((i + 1 : Nat) : Int)
          rw [IntWalk.i64_in _ (by omega)]; omega
        · show List.take out.length (List.drop 0 (irows .u8 out)) ++ [[AV.val (.int .u8 (IntKind.u8.wrap (IntKind.u32.wrap (48 + (r : Int).tmod 10))))]] = irows .u8 (out ++ [((48 + r % 10 : Nat) : Int)])
          have e : IntKind.u8.wrap (IntKind.u32.wrap (48 + (r : Int).tmod 10)) = ((48 + r % 10 : Nat) : Int) := by
            rw [Int.tmod_eq_emod_of_nonneg (Int.natCast_nonneg _), IntKind.wrap_u32, IntKind.wrap_u8]
            omega
          rw [e, List.drop_zero, List.take_of_length_le (by rw [irows_len]; exact Nat.le_refl _), ← irows_append]
          rfl
      · have hr0 : r = 0 := by have h3' : ¬ (r : Int) > 0 := of_decide_eq_false h3; omega
        conv => whnf
        refine ⟨.pure (.val (.bool (decide (q' = 0)))), Zero_ok q', ?_⟩
        conv => whnf
        refine caseb (fun h4 => ?_) (fun h4 => ?_)
        · have hq0' : q' ≠ 0 := of_decide_eq_false (by simpa using h4)
          have hrq : 0 < r ∨ 0 < q' := .inr (by omega)
          conv => whnf
          refine ⟨by decide, ?_⟩
          conv => whnf
          refine ⟨⟨by rw [irows_len]; omega, by show ((out.length : Nat) + 1) * 1 ≤ 140737488355328; omega, Nat.le_of_ble_eq_true rfl⟩, ?_⟩
          conv => whnf
          refine ⟨by decide, ?_⟩
          conv => whnf
          refine ⟨(i + 1, r / 10, out ++ [((48 + r % 10 : Nat) : Int)]), [(56, 296)], (by show 9 - (i + 1) < 9 - i; omega), ⟨(by show i + 1 ≤ 9; omega), ?_, ?_⟩,
            ⟨⟨rfl, rfl⟩, ⟨ownE rfl ?_, rfl⟩, ⟨rfl, rfl⟩, ⟨valI ?_, rfl⟩, ⟨valI ?_, rfl⟩, trivial⟩, ⟨⟨rfl, .inr ⟨rfl, rfl⟩⟩, ⟨rfl, .inl ⟨celE ?_, irows_noid _ _⟩⟩, ⟨rfl, .inr ⟨rfl, rfl⟩⟩, trivial⟩, rfl⟩
          · show r / 10 < 10 ^ (9 - (i + 1))
            rw [hk, Nat.pow_succ] at hr
            exact Nat.div_lt_of_lt_mul (by rw [Nat.mul_comm]; exact hr)
          · show (out ++ [((48 + r % 10 : Nat) : Int)]) ++ decR (r / 10 + 10 ^ (9 - (i + 1)) * q') = decR n
            rw [← ho, hk, decR_step hrq, List.append_assoc]
            rfl
          · show out.length + 1 = (out ++ [((48 + r % 10 : Nat) : Int)]).length
            simp
          · show IntKind.u32.wrap ((r : Int).tdiv 10) = ((r / 10 : Nat) : Int)
            rw [Int.tdiv_eq_ediv_of_nonneg (Int.natCast_nonneg _), IntKind.wrap_u32]
            omega
          · show IntKind.i64.wrap ((i : Int) + 1) = ((i + 1 : Nat) : Int)
            rw [IntWalk.i64_in _ (by omega)]; omega
          · show List.take out.length (List.drop 0 (irows .u8 out)) ++ [[AV.val (.int .u8 (IntKind.u8.wrap (IntKind.u32.wrap (48 + (r : Int).tmod 10))))]] = irows .u8 (out ++ [((48 + r % 10 : Nat) : Int)])
            have e : IntKind.u8.wrap (IntKind.u32.wrap (48 + (r : Int).tmod 10)) = ((48 + r % 10 : Nat) : Int) := by
              rw [Int.tmod_eq_emod_of_nonneg (Int.natCast_nonneg _), IntKind.wrap_u32, IntKind.wrap_u8]
              omega
            rw [e, List.drop_zero, List.take_of_length_le (by rw [irows_len]; exact Nat.le_refl _), ← irows_append]
            rfl
        · have hq0' : q' = 0 := of_decide_eq_true (by simpa using h4)
          conv => whnf
          have e0 : r = 0 := hr0
          refine ⟨(q', out), [(0, 0)], (by show q' < q; omega), ⟨(by show q' ≤ n; omega), ?_⟩, ⟨⟨rfl, rfl⟩, ⟨rfl, rfl⟩, trivial⟩,
            ⟨⟨rfl, .inr ⟨rfl, rfl⟩⟩, ⟨rfl, .inl ⟨rfl, irows_noid _ _⟩⟩, trivial⟩, rfl⟩
          show out ++ decR q' = decR n
          rw [← ho, e0]
          rw [hq0', Nat.mul_zero]
    · have hi9 : i = 9 := by have h2' : ¬ (i : Int) < 9 := of_decide_eq_false h2; omega
      conv => whnf
      have e0 : r = 0 := by rw [hi9] at hr; simpa using hr
      refine ⟨(q', out), [(0, 0)], (by show q' < q; omega), ⟨(by show q' ≤ n; omega), ?_⟩, ⟨⟨rfl, rfl⟩, ⟨rfl, rfl⟩, trivial⟩,
        ⟨⟨rfl, .inr ⟨rfl, rfl⟩⟩, ⟨rfl, .inl ⟨rfl, irows_noid _ _⟩⟩, trivial⟩, rfl⟩
      show out ++ decR q' = decR n
      rw [← ho, e0]
      rw [hi9]; simp
  · have hq0 : q = 0 := of_decide_eq_true (by simpa using h1)
    conv => whnf
    have hL : out = decR n := by rw [← ho, hq0, decR_zero, List.append_nil]
    have hB : Byt (decR n) := fun x hx => by have := decR_byt n x hx; omega
    have hpos : 0 < (decR n).length := List.length_pos_iff.2 (fun e => hn0 ((decR_nil n).1 e))
    subst hL
    refine SW.loopM TTok (fun i : Nat => [(3, .own 56 0 (decR n).length), (7, .val (.int .i64 i)), (8, .val (.int .i64 (((decR n).length - 1 - i : Nat) : Int)))])
      (fun i => [(56, .cells 1 (irows .u8 (swp (decR n) i)))]) 128 70 rfl (fun i => (decR n).length - i)
      (fun i => 2 * i ≤ (decR n).length) 0 [] (Nat.zero_le _) ⟨⟨rfl, rfl⟩, ⟨rfl, rfl⟩, ⟨valI ?_, rfl⟩, trivial⟩
      ⟨⟨rfl, .inl ⟨celE ?_, irows_noid _ _⟩⟩, trivial⟩ rfl ?_
    · show IntKind.i64.wrap ((((decR n).length : Nat) : Int) - 1) = _
      rw [IntWalk.i64_in _ (by omega)]; omega
    · rw [swp_zero]
    intro i hi
    conv => whnf
    refine caseb (fun h2 => ?_) (fun h2 => ?_)
    · have h2' : (i : Int) < (((decR n).length - 1 - i : Nat) : Int) := of_decide_eq_true h2
      have hlt : 2 * i + 1 < (decR n).length := by omega
      have hsl := swp_len (decR n) i
      have hg1 : (irows .u8 (swp (decR n) i))[0 + (((decR n).length - 1 - i : Nat) : Int).toNat]? = some [.val (.int .u8 ((decR n).getD ((decR n).length - 1 - i) 0))] := by
        rw [Nat.zero_add, Int.toNat_natCast]
        refine irows_get _ _ ?_
        rw [swp_get (by omega) (by omega)]
        exact getD_eq (by omega)
      have hg2 : (irows .u8 (swp (decR n) i))[0 + (i : Int).toNat]? = some [.val (.int .u8 ((decR n).getD i 0))] := by
        rw [Nat.zero_add, Int.toNat_natCast]
        refine irows_get _ _ ?_
        rw [swp_get (by omega) (by omega)]
        exact getD_eq (by omega)
      conv => whnf
      refine ⟨⟨by omega, by omega⟩, ?_⟩
      conv => whnf
      refine ⟨_, hg1, ?_⟩
      conv => whnf
      refine ⟨⟨by omega, by omega⟩, ?_⟩
      conv => whnf
      refine ⟨_, hg2, ?_⟩
      conv => whnf
      refine ⟨⟨by omega, by omega⟩, ?_⟩
      conv => whnf
      refine ⟨by rw [irows_len, hsl]; omega, ?_⟩
      conv => whnf
      refine ⟨⟨by omega, by omega⟩, ?_⟩
      conv => whnf
      refine ⟨by rw [List.length_set, irows_len, hsl]; omega, ?_⟩
      conv => whnf
      refine ⟨by kernel_rfl, ?_⟩
      conv => whnf
      refine ⟨i + 1, [], (by show (decR n).length - (i + 1) < (decR n).length - i; omega), (by show 2 * (i + 1) ≤ (decR n).length; omega), ⟨⟨rfl, rfl⟩, ⟨valI ?_, rfl⟩, ⟨valI ?_, rfl⟩, trivial⟩,
        ⟨⟨rfl, .inl ⟨celE ?_, irows_noid _ _⟩⟩, trivial⟩, rfl⟩
      · show IntKind.i64.wrap ((i : Int) + 1) = ((i + 1 : Nat) : Int)
        rw [IntWalk.i64_in _ (by omega)]; omega
      · show IntKind.i64.wrap ((((decR n).length - 1 - i : Nat) : Int) - 1) = (((decR n).length - 1 - (i + 1) : Nat) : Int)
        rw [IntWalk.i64_in _ (by omega)]; omega
      · rw [← swp_step hlt, ← irows_set, ← irows_set, Nat.zero_add, Nat.zero_add, Int.toNat_natCast, Int.toNat_natCast]
    · have h2' : ¬ (i : Int) < (((decR n).length - 1 - i : Nat) : Int) := of_decide_eq_false h2
      conv => whnf
      refine ⟨(decR n).reverse, ⟨?_, ?_⟩, ?_⟩
      · show 0 + (decR n).length ≤ (irows .u8 (swp (decR n) i)).length
        rw [irows_len, swp_len]; omega
      · show List.take (decR n).length (List.drop 0 (irows .u8 (swp (decR n) i))) = _
        rw [List.drop_zero, List.take_of_length_le (by rw [irows_len, swp_len]; exact Nat.le_refl _), swp_done _ _ (by omega)]
      conv => whnf
      refine strE ?_
      show strL (decR n).reverse = decS n
      unfold decS decL
      rw [if_neg hn0]

end Go.Proofs.Ytjpefafkejklaaa
