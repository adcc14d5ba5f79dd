/- Contracts of nat: differences. -/
import Derived.Test.YtjpefafkejklaaaB2
set_option linter.unusedVariables false
namespace Go.Proofs.Ytjpefafkejklaaa
open Go Go.AL NM

/-- The borrow of a difference of 32 bits, as its bits tell it. -/
theorem borrow_bits (x y d : BitVec 32) : (((~~~ x &&& y) ||| (~~~ (x ^^^ y) &&& d)).toNat / 2147483648) = if ((!x.msb && y.msb) || (!(x.msb ^^ y.msb) && d.msb)) = true then 1 else 0 := by
  have h : ∀ z : BitVec 32, z.toNat / 2147483648 = if z.msb = true then 1 else 0 := by
    intro z
    have hz := z.isLt
    rw [BitVec.msb_eq_decide]
    by_cases hc : 2 ^ (32 - 1) ≤ z.toNat
    · rw [if_pos (by simpa using hc)]
      simp at hc
      omega
    · rw [if_neg (by simpa using hc)]
      simp at hc
      omega
  rw [h, BitVec.msb_or, BitVec.msb_and, BitVec.msb_and, BitVec.msb_not, BitVec.msb_not, BitVec.msb_xor]
  rfl
theorem msb_int {x : Int} (h : 0 ≤ x ∧ x < 4294967296) : (BitVec.ofInt 32 x).msb = decide (2147483648 ≤ x) := by
  rw [BitVec.msb_eq_decide, BitVec.toNat_ofInt]
  apply decide_eq_decide.2
  omega
theorem ofw (z : BitVec 32) : BitVec.ofInt 32 (IntKind.u32.wrap (z.toNat : Int)) = z := by
  have hz := z.isLt
  rw [IntKind.wrap_u32, show (z.toNat : Int) % 4294967296 = (z.toNat : Int) by omega, BitVec.ofInt_natCast, BitVec.ofNat_toNat, BitVec.setWidth_eq]
theorem ones_xor (z : BitVec 32) : BitVec.ofInt 32 4294967295 ^^^ z = ~~~ z := by
  rw [show BitVec.ofInt 32 4294967295 = BitVec.allOnes 32 by decide, BitVec.allOnes_xor]

theorem Sub32_ok (x y c : Int) (hx : 0 ≤ x ∧ x < 4294967296) (hy : 0 ≤ y ∧ y < 4294967296) (hc : 0 ≤ c ∧ c ≤ 1) : AC Try.prog 70 [.val (.int .u32 x), .val (.int .u32 y), .val (.int .u32 c)] (.pure (.tup [.val (.int .u32 ((x - y - c) % 4294967296)), .val (.int .u32 (if x < y + c then 1 else 0))])) := by
  refine AC.of_body TTok Try.func70 rfl (enter_of Try.func70 (by kernel_rfl) (by kernel_rfl)) (by intro z hz; simp at hz; rcases hz with rfl | rfl | rfl <;> exact .val _) (.tup _ (noid2 (.val _) (.val _))) (Nat.le_of_ble_eq_true rfl) ?_
  conv => whnf
  refine ⟨by decide, ?_⟩
  conv => whnf
  refine tup2 (valI ?_) (valI ?_)
  · simp only [IntKind.wrap_u32]; omega
  · show (IntKind.u32.wrap ((BitVec.ofInt 32 (IntKind.u32.wrap ((BitVec.ofInt 32 (IntKind.u32.wrap ((BitVec.ofInt 32 4294967295 ^^^ BitVec.ofInt 32 x).toNat : Int)) &&& BitVec.ofInt 32 y).toNat : Int)) |||
      BitVec.ofInt 32 (IntKind.u32.wrap ((BitVec.ofInt 32 (IntKind.u32.wrap ((BitVec.ofInt 32 4294967295 ^^^ BitVec.ofInt 32 (IntKind.u32.wrap ((BitVec.ofInt 32 x ^^^ BitVec.ofInt 32 y).toNat : Int))).toNat : Int)) &&&
        BitVec.ofInt 32 (IntKind.u32.wrap (IntKind.u32.wrap (x - y) - c))).toNat : Int))).toNat : Int)).fdiv 2147483648 = _
    simp only [ofw, ones_xor]
    have hb := borrow_bits (BitVec.ofInt 32 x) (BitVec.ofInt 32 y) (BitVec.ofInt 32 (IntKind.u32.wrap (IntKind.u32.wrap (x - y) - c)))
    generalize hZ : ((~~~ BitVec.ofInt 32 x &&& BitVec.ofInt 32 y) ||| (~~~ (BitVec.ofInt 32 x ^^^ BitVec.ofInt 32 y) &&& BitVec.ofInt 32 (IntKind.u32.wrap (IntKind.u32.wrap (x - y) - c)))) = Z at *
    have hz := Z.isLt
    rw [Int.fdiv_eq_ediv_of_nonneg _ (by decide), IntKind.wrap_u32]
    have hd : 0 ≤ IntKind.u32.wrap (IntKind.u32.wrap (x - y) - c) ∧ IntKind.u32.wrap (IntKind.u32.wrap (x - y) - c) < 4294967296 := by
      simp only [IntKind.wrap_u32]; omega
    rw [msb_int hx, msb_int hy, msb_int hd] at hb
    have hd2 : IntKind.u32.wrap (IntKind.u32.wrap (x - y) - c) = (x - y - c) % 4294967296 := by simp only [IntKind.wrap_u32]; omega
    rw [hd2] at hb
    by_cases p : 2147483648 ≤ x <;> by_cases q : 2147483648 ≤ y <;> by_cases r : 2147483648 ≤ (x - y - c) % 4294967296 <;> by_cases u : x < y + c <;>
      simp [p, q, r] at hb <;> simp only [u, if_true, if_false] <;> omega

end Go.Proofs.Ytjpefafkejklaaa

/- Contracts of nat: differences of numbers. -/
set_option linter.unusedVariables false
namespace Go.Proofs.Ytjpefafkejklaaa
open Go Go.AL NM

theorem Sub_ge (n m : Nat) (hnm : m ≤ n) (hb : (limbs n).length < 4000000000) : AC Try.prog 47 [natA n, natA m] (.pure (.tup [natA (n - m), .val (.bool true)])) := by
  refine AC.of_body TTok Try.func47 rfl (enter_of Try.func47 (by kernel_rfl) (by kernel_rfl)) (noid2 (natA_noid n) (natA_noid m)) (.tup _ (noid2 (natA_noid _) (.val _))) (Nat.le_of_ble_eq_true rfl) ?_
  have hlm := limbs_len_mono hnm
  have hcmp := Cmp_ok n m hb (by omega)
  have hcn : ¬ cmpN n m < 0 := by
    unfold cmpN
    rw [if_neg (by omega)]
    split <;> decide
  generalize cmpN n m = cc at *
  unfold natA at hcmp
  unfold natA
  have hva := val_limbs n
  have hvb := val_limbs m
  have hLa := limbs_lim n
  have hLb := limbs_lim m
  generalize limbs n = a at *
  generalize limbs m = b at *
  subst hva
  subst hvb
  conv => whnf
  refine ⟨_, hcmp, ?_⟩
  conv => whnf
  refine caseb (fun h1 => absurd (of_decide_eq_true h1) hcn) (fun _ => ?_)
  conv => whnf
  refine ⟨⟨by rw [irows_len]; omega, by rw [irows_len]; omega, ?_⟩, ?_⟩
  · rw [irows_len]; show (a.length : Int) * 4 ≤ _; omega
  conv => whnf
  refine SW.loopM TTok (fun z : Nat × Nat × List Int => [(2, .lp 0 0), (3, .lp 8 0), (4, .lp 16 0), (6, .own 88 0 a.length), (7, .val (.int .u32 z.2.1)), (21, .val (.int .i64 a.length)), (22, .val (.int .i64 z.1))])
    (fun z => [(0, .cells 1 [[.sl 1 (irows .u32 a) false]]), (8, .cells 1 [[.sl 1 (irows .u32 b) false]]), (16, .cells 1 [[.sl 0 [] true]]), (88, .cells 1 (irows .u32 z.2.2))]) 144 52 rfl (fun z => a.length - z.1)
    (fun z => z.1 ≤ a.length ∧ z.2.1 ≤ 1 ∧ z.2.2.length = a.length ∧ Lim z.2.2 ∧ val z.2.2 + val (b.take z.1) = val (a.take z.1) + z.2.1 * 4294967296 ^ z.1 ∧ ∀ k, z.1 ≤ k → k < z.2.2.length → z.2.2[k]? = some 0)
    (0, 0, List.replicate a.length 0) [] ⟨Nat.zero_le _, Nat.zero_le _, by simp, Lim.rep _, by simp [val_rep, val], fun k _ hk => by simp at hk; simp [hk]⟩
    ⟨⟨rfl, rfl⟩, ⟨rfl, rfl⟩, ⟨rfl, rfl⟩, ⟨ownE rfl ?_, rfl⟩, ⟨rfl, rfl⟩, ⟨valI ?_, rfl⟩, ⟨rfl, rfl⟩, trivial⟩
    ⟨⟨rfl, .inr ⟨rfl, rfl⟩⟩, ⟨rfl, .inr ⟨rfl, rfl⟩⟩, ⟨rfl, .inr ⟨rfl, rfl⟩⟩, ⟨rfl, .inl ⟨celE ?_, irows_noid _ _⟩⟩, trivial⟩ rfl ?_
  · rw [irows_len]; omega
  · rw [irows_len]
  · rw [irows_len, Int.toNat_natCast, ← irows_rep]; rfl
  rintro ⟨i, c, out⟩ ⟨hi, hc, hl, hL, hv, hz⟩
  have hi : i ≤ a.length := hi
  have hc : c ≤ 1 := hc
  have hl : out.length = a.length := hl
  have hL : Lim out := hL
  have hv : val out + val (b.take i) = val (a.take i) + c * 4294967296 ^ i := hv
  have hz : ∀ k, i ≤ k → k < out.length → out[k]? = some 0 := hz
  conv => whnf
  refine caseb (fun h1 => ?_) (fun h1 => ?_)
  · have h1' : (i : Int) < (a.length : Int) := of_decide_eq_true h1
    have hlt : i < a.length := by omega
    have hklt : i < out.length := by omega
    have h0 : out[i]'hklt = 0 := by
      have := List.getElem?_eq_getElem (l := out) (i := i) hklt
      rw [hz i (Nat.le_refl _) hklt] at this
      injection this with this
      exact this.symm
    have hx := hLa (a[i]'hlt) (List.getElem_mem _)
    conv => whnf
    refine caseb (fun h2 => ?_) (fun h2 => ?_)
    · have h2' : (i : Int) < ((irows .u32 b).length : Int) := of_decide_eq_true h2
      rw [irows_len] at h2'
      have hylt : i < b.length := by omega
      have hy := hLb (b[i]'hylt) (List.getElem_mem _)
      have hys : val (b.take (i + 1)) = val (b.take i) + (b[i]'hylt).toNat * 4294967296 ^ i := val_take_succ hylt
      conv => whnf
      refine ⟨[.val (.int .u32 (b[i]'hylt))], ⟨by omega, irows_get _ _ (List.getElem?_eq_getElem hylt)⟩, ?_⟩
      conv => whnf
      refine ⟨[.val (.int .u32 (a[i]'hlt))], ⟨by omega, irows_get _ _ (List.getElem?_eq_getElem hlt)⟩, ?_⟩
      conv => whnf
      refine ⟨_, Sub32_ok (a[i]'hlt) (b[i]'hylt) (c : Int) hx hy ⟨by omega, by omega⟩, ?_⟩
      conv => whnf
      refine ⟨⟨by omega, by omega⟩, ?_⟩
      conv => whnf
      refine ⟨by rw [irows_len, hl]; omega, ?_⟩
      conv => whnf
      have hO : 0 ≤ (b[i]'hylt) ∧ (b[i]'hylt) < 4294967296 := hy
      obtain ⟨d, hd⟩ : ∃ d : Nat, (d : Int) = (a[i]'hlt - (b[i]'hylt) - (c : Int)) % 4294967296 := ⟨((a[i]'hlt - (b[i]'hylt) - (c : Int)) % 4294967296).toNat, by omega⟩
      obtain ⟨c', hc'⟩ : ∃ c' : Nat, (c' : Int) = (if a[i]'hlt < (b[i]'hylt) + (c : Int) then 1 else 0) := ⟨if a[i]'hlt < (b[i]'hylt) + (c : Int) then 1 else 0, by split <;> rfl⟩
      have hc1 : c' ≤ 1 := by split at hc' <;> omega
      have hdd : d + ((b[i]'hylt) : Int).toNat + c = (a[i]'hlt).toNat + c' * 4294967296 := by split at hc' <;> omega
      have hs := val_set out i (d : Int) hklt
      rw [h0] at hs
      simp only [Int.toNat_zero, Nat.zero_mul, Nat.add_zero, Int.toNat_natCast] at hs
      refine ⟨(i + 1, c', out.set i (d : Int)), [], (by show a.length - (i + 1) < a.length - i; omega), ⟨(by show i + 1 ≤ a.length; omega), hc1, ?_, ?_, ?_, ?_⟩,
        ⟨⟨rfl, rfl⟩, ⟨rfl, rfl⟩, ⟨rfl, rfl⟩, ⟨rfl, rfl⟩, ⟨valI hc'.symm, rfl⟩, ⟨rfl, rfl⟩, ⟨valI ?_, rfl⟩, trivial⟩,
        ⟨⟨rfl, .inr ⟨rfl, rfl⟩⟩, ⟨rfl, .inr ⟨rfl, rfl⟩⟩, ⟨rfl, .inr ⟨rfl, rfl⟩⟩, ⟨rfl, .inl ⟨celE ?_, irows_noid _ _⟩⟩, trivial⟩, rfl⟩
      · show (out.set i (d : Int)).length = _
        rw [List.length_set, hl]
      · exact hL.set ⟨by omega, by omega⟩
      · show val (out.set i (d : Int)) + val (b.take (i + 1)) = val (a.take (i + 1)) + c' * 4294967296 ^ (i + 1)
        rw [hs, val_take_succ hlt, hys, Nat.pow_succ, Nat.mul_comm (4294967296 ^ i) 4294967296, ← Nat.mul_assoc]
        have h9 : (d + ((b[i]'hylt) : Int).toNat + c) * 4294967296 ^ i = ((a[i]'hlt).toNat + c' * 4294967296) * 4294967296 ^ i := by rw [hdd]
        rw [Nat.add_mul, Nat.add_mul, Nat.add_mul] at h9
        omega
      · show ∀ k, i + 1 ≤ k → k < (out.set i (d : Int)).length → (out.set i (d : Int))[k]? = some 0
        intro k hk1 hk2
        rw [List.length_set] at hk2
        rw [List.getElem?_set_ne (by omega)]
        exact hz k (by omega) hk2
      · show IntKind.i64.wrap ((i : Int) + 1) = ((i + 1 : Nat) : Int)
        rw [IntWalk.i64_in _ (by omega)]; omega
      · show (irows .u32 out).set (0 + (i : Int).toNat) [AV.val (.int .u32 ((a[i]'hlt - (b[i]'hylt) - (c : Int)) % 4294967296))] = _
        rw [← hd, Nat.zero_add, Int.toNat_natCast, ← irows_set]
    · have h2' : ¬ (i : Int) < ((irows .u32 b).length : Int) := of_decide_eq_false h2
      rw [irows_len] at h2'
      have hys : val (b.take (i + 1)) = val (b.take i) + (0 : Int).toNat * 4294967296 ^ i := by
        rw [List.take_of_length_le (by omega), List.take_of_length_le (by omega)]
        simp
      conv => whnf
      refine ⟨[.val (.int .u32 (a[i]'hlt))], ⟨by omega, irows_get _ _ (List.getElem?_eq_getElem hlt)⟩, ?_⟩
      conv => whnf
      refine ⟨_, Sub32_ok (a[i]'hlt) (0 : Int) (c : Int) hx ⟨by decide, by decide⟩ ⟨by omega, by omega⟩, ?_⟩
      conv => whnf
      refine ⟨⟨by omega, by omega⟩, ?_⟩
      conv => whnf
      refine ⟨by rw [irows_len, hl]; omega, ?_⟩
      conv => whnf
      have hO : 0 ≤ (0 : Int) ∧ (0 : Int) < 4294967296 := ⟨by decide, by decide⟩
      obtain ⟨d, hd⟩ : ∃ d : Nat, (d : Int) = (a[i]'hlt - (0 : Int) - (c : Int)) % 4294967296 := ⟨((a[i]'hlt - (0 : Int) - (c : Int)) % 4294967296).toNat, by omega⟩
      obtain ⟨c', hc'⟩ : ∃ c' : Nat, (c' : Int) = (if a[i]'hlt < (0 : Int) + (c : Int) then 1 else 0) := ⟨if a[i]'hlt < (0 : Int) + (c : Int) then 1 else 0, by split <;> rfl⟩
      have hc1 : c' ≤ 1 := by split at hc' <;> omega
      have hdd : d + ((0 : Int) : Int).toNat + c = (a[i]'hlt).toNat + c' * 4294967296 := by split at hc' <;> omega
      have hs := val_set out i (d : Int) hklt
      rw [h0] at hs
      simp only [Int.toNat_zero, Nat.zero_mul, Nat.add_zero, Int.toNat_natCast] at hs
      refine ⟨(i + 1, c', out.set i (d : Int)), [], (by show a.length - (i + 1) < a.length - i; omega), ⟨(by show i + 1 ≤ a.length; omega), hc1, ?_, ?_, ?_, ?_⟩,
        ⟨⟨rfl, rfl⟩, ⟨rfl, rfl⟩, ⟨rfl, rfl⟩, ⟨rfl, rfl⟩, ⟨valI hc'.symm, rfl⟩, ⟨rfl, rfl⟩, ⟨valI ?_, rfl⟩, trivial⟩,
        ⟨⟨rfl, .inr ⟨rfl, rfl⟩⟩, ⟨rfl, .inr ⟨rfl, rfl⟩⟩, ⟨rfl, .inr ⟨rfl, rfl⟩⟩, ⟨rfl, .inl ⟨celE ?_, irows_noid _ _⟩⟩, trivial⟩, rfl⟩
      · show (out.set i (d : Int)).length = _
        rw [List.length_set, hl]
      · exact hL.set ⟨by omega, by omega⟩
      · show val (out.set i (d : Int)) + val (b.take (i + 1)) = val (a.take (i + 1)) + c' * 4294967296 ^ (i + 1)
        rw [hs, val_take_succ hlt, hys, Nat.pow_succ, Nat.mul_comm (4294967296 ^ i) 4294967296, ← Nat.mul_assoc]
        have h9 : (d + ((0 : Int) : Int).toNat + c) * 4294967296 ^ i = ((a[i]'hlt).toNat + c' * 4294967296) * 4294967296 ^ i := by rw [hdd]
        rw [Nat.add_mul, Nat.add_mul, Nat.add_mul] at h9
        omega
      · show ∀ k, i + 1 ≤ k → k < (out.set i (d : Int)).length → (out.set i (d : Int))[k]? = some 0
        intro k hk1 hk2
        rw [List.length_set] at hk2
        rw [List.getElem?_set_ne (by omega)]
        exact hz k (by omega) hk2
      · show IntKind.i64.wrap ((i : Int) + 1) = ((i + 1 : Nat) : Int)
        rw [IntWalk.i64_in _ (by omega)]; omega
      · show (irows .u32 out).set (0 + (i : Int).toNat) [AV.val (.int .u32 ((a[i]'hlt - (0 : Int) - (c : Int)) % 4294967296))] = _
        rw [← hd, Nat.zero_add, Int.toNat_natCast, ← irows_set]
  · have h1' : ¬ (i : Int) < (a.length : Int) := of_decide_eq_false h1
    have hia : i = a.length := by omega
    rw [hia, List.take_of_length_le (Nat.le_refl _), List.take_of_length_le (by omega)] at hv
    have hvl := val_lt hL
    rw [hl] at hvl
    have hc0 : c = 0 := by
      rcases Nat.eq_zero_or_pos c with h | h
      · exact h
      · have : c = 1 := by omega
        rw [this] at hv
        omega
    rw [hc0] at hv
    have ht := trim_ok out hL (by omega)
    rw [show val out = val a - val b by omega] at ht
    conv => whnf
    refine ⟨by show 0 + a.length ≤ (irows .u32 out).length; rw [irows_len]; omega, .pure (natA (val a - val b)), ?_, ?_⟩
    · show AC Try.prog 64 [.sl 1 (List.take a.length (List.drop 0 (irows .u32 out))) false] _
      rw [List.drop_zero, List.take_of_length_le (by rw [irows_len, hl]; exact Nat.le_refl _)]
      exact ht
    conv => whnf
    exact rfl

theorem Sub_lt (n m : Nat) (hnm : n < m) (hb : (limbs n).length < 4000000000) (hb' : (limbs m).length < 4000000000) : AC Try.prog 47 [natA n, natA m] (.pure (.tup [natA 0, .val (.bool false)])) := by
  refine AC.le_res (v := .tup [.agg [.sl 0 [] true], .val (.bool false)]) ?_ (.tup2 zero_le (.refl _)) (.tup _ (noid2 (natA_noid _) (.val _)))
  refine AC.of_body TTok Try.func47 rfl (enter_of Try.func47 (by kernel_rfl) (by kernel_rfl)) (noid2 (natA_noid n) (natA_noid m)) (.tup _ (noid2 zero_noid (.val _))) (Nat.le_of_ble_eq_true rfl) ?_
  have hcmp := Cmp_ok n m hb hb'
  rw [cmpN_lt hnm] at hcmp
  conv => whnf
  refine ⟨_, hcmp, ?_⟩
  conv => whnf
  exact rfl

end Go.Proofs.Ytjpefafkejklaaa

/- Digits of a number from the end on. -/
set_option linter.unusedVariables false
namespace Go.Proofs.Ytjpefafkejklaaa
open Go Go.AL NM

theorem decR_get (n i : Nat) : (decR n).getD i 48 = ((48 + n / 10 ^ i % 10 : Nat) : Int) := by
  induction i generalizing n with
  | zero =>
    by_cases h : n = 0
    · subst h; rw [decR_zero]; rfl
    · rw [decR_pos (by omega)]; simp
  | succ i ih =>
    by_cases h : n = 0
    · subst h; rw [decR_zero]; simp
    · rw [decR_pos (by omega), List.getD_cons_succ, ih, Nat.pow_succ, Nat.mul_comm, Nat.div_div_eq_div_mul]
theorem digE_dec (n i : Nat) : digE (decL n) i = ((n / 10 ^ i % 10 : Nat) : Int) := by
  have hg := decR_get n i
  by_cases h0 : n = 0
  · subst h0
    unfold digE decL
    rw [if_pos rfl]
    rcases i with _ | i
    · rfl
    · simp
  · unfold digE decL
    rw [if_neg h0, List.reverse_reverse, List.length_reverse]
    split
    · rename_i h
      rw [List.getD, List.getElem?_eq_getElem h, Option.getD_some] at *
      omega
    · rename_i h
      rw [List.getD, List.getElem?_eq_none (by omega), Option.getD_none] at hg
      omega

end Go.Proofs.Ytjpefafkejklaaa

/- Contracts of the reference: sums. -/
set_option linter.unusedVariables false
namespace Go.Proofs.Ytjpefafkejklaaa
open Go Go.AL NM

theorem decR_lt (n : Nat) : n < 10 ^ (decR n).length := by
  induction n using Nat.strongRecOn with
  | _ n ih =>
    by_cases h : n = 0
    · subst h; rw [decR_zero]; decide
    · have := ih (n / 10) (by omega)
      rw [decR_pos (by omega), List.length_cons, Nat.pow_succ]
      omega
theorem decL_lt (n : Nat) : n < 10 ^ (decL n).length := by
  unfold decL
  split
  · rename_i h; subst h; decide
  · rw [List.length_reverse]; exact decR_lt n
theorem decL_div {n i : Nat} (h : (decL n).length ≤ i) : n / 10 ^ i = 0 :=
  Nat.div_eq_of_lt (Nat.lt_of_lt_of_le (decL_lt n) (Nat.pow_le_pow_right (by decide) h))
theorem div_pow_succ (n i : Nat) : n / 10 ^ i = n / 10 ^ i % 10 + 10 * (n / 10 ^ (i + 1)) := by
  rw [Nat.pow_succ, ← Nat.div_div_eq_div_mul]
  omega

theorem RAdd_ok (n m : Nat) (hb : (decL n).length + (decL m).length < 1000000000) : AC Try.prog 50 [.val (.string (decS n)), .val (.string (decS m))] (.pure (.val (.string (decS (n + m))))) := by
  refine AC.of_body TTok Try.func50 rfl (enter_of Try.func50 (by kernel_rfl) (by kernel_rfl)) (noid2 (.val _) (.val _)) (.val _) (Nat.le_of_ble_eq_true rfl) ?_
  have z1 : (decS n).size = (decL n).length := strL_size _
  have z2 : (decS m).size = (decL m).length := strL_size _
  have dn : ∀ i, AC Try.prog 65 [.val (.string (decS n)), .val (.int .i64 (i : Nat))] (.pure (.val (.int .i64 (n / 10 ^ i % 10 : Nat)))) := fun i => by
    have := digit_ok (decL n) (decL_byt n) i (by omega)
    rwa [digE_dec] at this
  have dm : ∀ i, AC Try.prog 65 [.val (.string (decS m)), .val (.int .i64 (i : Nat))] (.pure (.val (.int .i64 (m / 10 ^ i % 10 : Nat)))) := fun i => by
    have := digit_ok (decL m) (decL_byt m) i (by omega)
    rwa [digE_dec] at this
  conv => whnf
  refine SW.nil 5 1 rfl ?_
  refine SW.loopM TTok (fun x : Nat × Nat × List Int => [(0, .val (.string (decS n))), (1, .val (.string (decS m))), (5, .own 32 0 x.2.2.length), (6, .val (.int .i64 x.2.1)), (7, .val (.int .i64 x.1))])
    (fun x => [(32, .cells 1 (irows .i64 x.2.2))]) 40 43 rfl (fun x => (decL n).length + (decL m).length + 1 - x.1)
    (fun x => x.1 ≤ (decL n).length + (decL m).length + 1 ∧ (x.1 = (decL n).length + (decL m).length + 1 → x.2.1 = 0) ∧ x.2.1 ≤ 1 ∧ Dg x.2.2 ∧ x.2.2.length = x.1 ∧ valD x.2.2 + 10 ^ x.1 * (n / 10 ^ x.1 + m / 10 ^ x.1 + x.2.1) = n + m) (0, 0, []) [] ⟨Nat.zero_le _, fun h => rfl, Nat.zero_le _, (fun x hx => (nomatch hx)), rfl, by simp [valD]⟩
    ⟨⟨rfl, rfl⟩, ⟨rfl, rfl⟩, ⟨rfl, rfl⟩, ⟨rfl, rfl⟩, ⟨rfl, rfl⟩, trivial⟩ ⟨⟨rfl, .inr ⟨rfl, rfl⟩⟩, trivial⟩ rfl ?_
  rintro ⟨i, c, out⟩ ⟨hi, hc0, hc, hD, hl, hv⟩
  have hi : i ≤ (decL n).length + (decL m).length + 1 := hi
  have hc0 : i = (decL n).length + (decL m).length + 1 → c = 0 := hc0
  have hc : c ≤ 1 := hc
  have hD : Dg out := hD
  have hl : out.length = i := hl
  have hv : valD out + 10 ^ i * (n / 10 ^ i + m / 10 ^ i + c) = n + m := hv
  have hle : 0 + out.length ≤ (irows .i64 out).length := by rw [irows_len]; omega
  have fin : (decL n).length ≤ i → (decL m).length ≤ i → c = 0 → ∃ r, AC Try.prog 66 [.sl 1 ((irows .i64 out).take out.length) false] (.pure r) ∧ r = .val (.string (decS (n + m))) := fun h1 h2 h3 => by
    refine ⟨_, ?_, rfl⟩
    have := written_ok out hD (by omega)
    rw [show valD out = n + m by rw [← hv, h3, decL_div h1, decL_div h2]; simp] at this
    rw [List.take_of_length_le (by rw [irows_len]; exact Nat.le_refl _)]
    exact this
  have step : (i < (decL n).length ∨ i < (decL m).length ∨ 0 < c) → ∃ d c' : Nat, d = n / 10 ^ i % 10 + m / 10 ^ i % 10 + c ∧ c' = d / 10 ∧ d ≤ 19 ∧ i + 1 ≤ (decL n).length + (decL m).length + 1 ∧ (i + 1 = (decL n).length + (decL m).length + 1 → c' = 0) ∧ c' ≤ 1 ∧ Dg (out ++ [((d % 10 : Nat) : Int)]) ∧ valD (out ++ [((d % 10 : Nat) : Int)]) + 10 ^ (i + 1) * (n / 10 ^ (i + 1) + m / 10 ^ (i + 1) + c') = n + m := fun h => by
    have hi1 : i + 1 ≤ (decL n).length + (decL m).length + 1 := by
      rcases Nat.lt_or_ge i ((decL n).length + (decL m).length + 1) with h' | h'
      · exact h'
      · have := hc0 (by omega); omega
    refine ⟨_, _, rfl, rfl, by omega, hi1, fun e => ?_, by omega, ?_, ?_⟩
    · rw [decL_div (show (decL n).length ≤ i by omega), decL_div (show (decL m).length ≤ i by omega)]
      omega
    · intro x hx
      rcases List.mem_append.1 hx with hx | hx
      · exact hD x hx
      · simp at hx; omega
    · rw [valD_snoc, hl, ← hv, div_pow_succ n i, div_pow_succ m i, Nat.pow_succ 10 i, Nat.mul_assoc, Nat.add_assoc, ← Nat.mul_add]
      congr 2
      rw [← Nat.pow_succ]
      generalize n / 10 ^ (i + 1) = a
      generalize m / 10 ^ (i + 1) = b
      omega
  conv => whnf
  refine caseb (fun h1 => ?a) (fun h1 => ?q)
  case' q =>
    conv => whnf
    refine caseb (fun h2 => ?b) (fun h2 => ?q2)
  case' q2 =>
    conv => whnf
    refine caseb (fun h3 => ?c) (fun h3 => ?q3)
  case q3 =>
    have h1' : ¬ (i : Int) < (decS n).size := of_decide_eq_false h1
    have h2' : ¬ (i : Int) < (decS m).size := of_decide_eq_false h2
    have h3' : ¬ (c : Int) > 0 := of_decide_eq_false h3
    rw [z1] at h1'
    rw [z2] at h2'
    obtain ⟨r, hr, rfl⟩ := fin (by omega) (by omega) (by omega)
    conv => whnf
    refine ⟨hle, _, hr, ?_⟩
    conv => whnf
    exact rfl
  case' a =>
    have h1' : (i : Int) < (decS n).size := of_decide_eq_true h1
    rw [z1] at h1'
    have hst := step (.inl (by omega))
  case' b =>
    have h2' : (i : Int) < (decS m).size := of_decide_eq_true h2
    rw [z2] at h2'
    have hst := step (.inr (.inl (by omega)))
  case' c =>
    have h3' : (c : Int) > 0 := of_decide_eq_true h3
    have hst := step (.inr (.inr (by omega)))
  all_goals
    conv => whnf
    obtain ⟨d, c', hd, hc', hd19, s1, s2, s3, s4, s5⟩ := hst
    have e0 : IntKind.i64.wrap (IntKind.i64.wrap (((n / 10 ^ i % 10 : Nat) : Int) + ((m / 10 ^ i % 10 : Nat) : Int)) + (c : Int)) = (d : Int) := by
      rw [IntWalk.i64_in (((n / 10 ^ i % 10 : Nat) : Int) + ((m / 10 ^ i % 10 : Nat) : Int)) (by omega), IntWalk.i64_in _ (by omega)]; omega
    have e1 : (d : Int).tmod 10 = ((d % 10 : Nat) : Int) := by
      rw [Int.tmod_eq_emod_of_nonneg (Int.natCast_nonneg _)]; omega
    have e2 : IntKind.i64.wrap ((d : Int).tdiv 10) = (c' : Int) := by
      rw [Int.tdiv_eq_ediv_of_nonneg (Int.natCast_nonneg _), IntWalk.i64_in _ (by omega)]; omega
    conv => whnf
    refine ⟨_, dn i, ?_⟩
    conv => whnf
    refine ⟨_, dm i, ?_⟩
    conv => whnf
    refine ⟨by decide, ?_⟩
    conv => whnf
    refine ⟨⟨hle, by show (out.length + 1) * 8 ≤ 140737488355328; omega, Nat.le_of_ble_eq_true rfl⟩, ?_⟩
    conv => whnf
    refine ⟨by decide, ?_⟩
    conv => whnf
    refine ⟨(i + 1, c', out ++ [((d % 10 : Nat) : Int)]), [(32, 264)], (by show (decL n).length + (decL m).length + 1 - (i + 1) < (decL n).length + (decL m).length + 1 - i; omega), ⟨s1, s2, s3, s4, (by show (out ++ [((d % 10 : Nat) : Int)]).length = i + 1; simp [hl]), s5⟩,
      ⟨⟨rfl, rfl⟩, ⟨rfl, rfl⟩, ⟨ownE rfl ?_, rfl⟩, ⟨valI ?_, rfl⟩, ⟨valI ?_, rfl⟩, trivial⟩, ⟨⟨rfl, .inl ⟨celE ?_, irows_noid _ _⟩⟩, trivial⟩, rfl⟩
    · show out.length + 1 = (out ++ [((d % 10 : Nat) : Int)]).length
      simp
    · show IntKind.i64.wrap (Int.tdiv (IntKind.i64.wrap (IntKind.i64.wrap (((n / 10 ^ i % 10 : Nat) : Int) + ((m / 10 ^ i % 10 : Nat) : Int)) + (c : Int))) 10) = (c' : Int)
      rw [e0, e2]
    · show IntKind.i64.wrap ((i : Int) + 1) = ((i + 1 : Nat) : Int)
      rw [IntWalk.i64_in _ (by omega)]; omega
    · show List.take out.length (List.drop 0 (irows .i64 out)) ++ [[AV.val (.int .i64 (Int.tmod (IntKind.i64.wrap (IntKind.i64.wrap (((n / 10 ^ i % 10 : Nat) : Int) + ((m / 10 ^ i % 10 : Nat) : Int)) + (c : Int))) 10))]] = _
      rw [e0, e1, List.drop_zero, List.take_of_length_le (by rw [irows_len]; exact Nat.le_refl _), ← irows_append]
      rfl

end Go.Proofs.Ytjpefafkejklaaa

/- Contracts of the reference: differences. -/
set_option linter.unusedVariables false
namespace Go.Proofs.Ytjpefafkejklaaa
open Go Go.AL NM

theorem valD_lt {l : List Int} (h : Dg l) : valD l < 10 ^ l.length := by
  induction l with
  | nil => decide
  | cons x l ih =>
    have h1 := h x List.mem_cons_self
    have h2 := ih (fun y hy => h y (List.mem_cons_of_mem _ hy))
    rw [valD, List.length_cons, Nat.pow_succ]
    omega

theorem RSub_ok (n m : Nat) (hnm : m ≤ n) (hb : (decL n).length + (decL m).length < 1000000000) : AC Try.prog 49 [.val (.string (decS n)), .val (.string (decS m))] (.pure (.val (.string (decS (n - m))))) := by
  refine AC.of_body TTok Try.func49 rfl (enter_of Try.func49 (by kernel_rfl) (by kernel_rfl)) (noid2 (.val _) (.val _)) (.val _) (Nat.le_of_ble_eq_true rfl) ?_
  have z1 : (decS n).size = (decL n).length := strL_size _
  have dn : ∀ i, AC Try.prog 65 [.val (.string (decS n)), .val (.int .i64 (i : Nat))] (.pure (.val (.int .i64 (n / 10 ^ i % 10 : Nat)))) := fun i => by
    have := digit_ok (decL n) (decL_byt n) i (by omega)
    rwa [digE_dec] at this
  have dm : ∀ i, AC Try.prog 65 [.val (.string (decS m)), .val (.int .i64 (i : Nat))] (.pure (.val (.int .i64 (m / 10 ^ i % 10 : Nat)))) := fun i => by
    have := digit_ok (decL m) (decL_byt m) i (by omega)
    rwa [digE_dec] at this
  conv => whnf
  refine SW.nil 5 1 rfl ?_
  refine SW.loopM TTok (fun x : Nat × Nat × List Int => [(0, .val (.string (decS n))), (1, .val (.string (decS m))), (5, .own 32 0 x.2.2.length), (6, .val (.int .i64 x.2.1)), (7, .val (.int .i64 x.1))])
    (fun x => [(32, .cells 1 (irows .i64 x.2.2))]) 40 34 rfl (fun x => (decL n).length - x.1)
    (fun x => x.1 ≤ (decL n).length ∧ x.2.1 ≤ 1 ∧ Dg x.2.2 ∧ x.2.2.length = x.1 ∧ valD x.2.2 + 10 ^ x.1 * (n / 10 ^ x.1) = (n - m) + 10 ^ x.1 * (m / 10 ^ x.1 + x.2.1)) (0, 0, []) [] ⟨Nat.zero_le _, Nat.zero_le _, (fun x hx => (nomatch hx)), rfl, by simp [valD]; omega⟩
    ⟨⟨rfl, rfl⟩, ⟨rfl, rfl⟩, ⟨rfl, rfl⟩, ⟨rfl, rfl⟩, ⟨rfl, rfl⟩, trivial⟩ ⟨⟨rfl, .inr ⟨rfl, rfl⟩⟩, trivial⟩ rfl ?_
  rintro ⟨i, c, out⟩ ⟨hi, hc, hD, hl, hv⟩
  have hi : i ≤ (decL n).length := hi
  have hc : c ≤ 1 := hc
  have hD : Dg out := hD
  have hl : out.length = i := hl
  have hv : valD out + 10 ^ i * (n / 10 ^ i) = (n - m) + 10 ^ i * (m / 10 ^ i + c) := hv
  have hle : 0 + out.length ≤ (irows .i64 out).length := by rw [irows_len]; omega
  have fin : (decL n).length ≤ i → ∃ r, AC Try.prog 66 [.sl 1 ((irows .i64 out).take out.length) false] (.pure r) ∧ r = .val (.string (decS (n - m))) := fun h1 => by
    refine ⟨_, ?_, rfl⟩
    have := written_ok out hD (by omega)
    have e : valD out = n - m := by
      have h2 := valD_lt hD
      rw [hl] at h2
      rw [decL_div h1, Nat.div_eq_of_lt (Nat.lt_of_le_of_lt hnm (Nat.lt_of_lt_of_le (decL_lt n) (Nat.pow_le_pow_right (by decide) h1)))] at hv
      rcases Nat.eq_zero_or_pos c with h0 | h0
      · subst h0; omega
      · have : 10 ^ i ≤ 10 ^ i * (0 + c) := Nat.le_mul_of_pos_right _ (by omega)
        omega
    rw [e] at this
    rw [List.take_of_length_le (by rw [irows_len]; exact Nat.le_refl _)]
    exact this
  have step : ∀ d c' : Nat, d ≤ 9 → c' ≤ 1 → d + m / 10 ^ i % 10 + c = n / 10 ^ i % 10 + 10 * c' → Dg (out ++ [(d : Int)]) ∧ valD (out ++ [(d : Int)]) + 10 ^ (i + 1) * (n / 10 ^ (i + 1)) = (n - m) + 10 ^ (i + 1) * (m / 10 ^ (i + 1) + c') := fun d c' h9 hc1 he => by
    refine ⟨?_, ?_⟩
    · intro x hx
      rcases List.mem_append.1 hx with hx | hx
      · exact hD x hx
      · simp at hx; omega
    · rw [div_pow_succ n i, div_pow_succ m i] at hv
      rw [valD_snoc, hl]
      revert hv
      generalize n / 10 ^ (i + 1) = a
      generalize m / 10 ^ (i + 1) = b
      rw [Nat.pow_succ, Nat.mul_assoc, Nat.mul_assoc]
      generalize n / 10 ^ i % 10 = u at *
      generalize m / 10 ^ i % 10 = v at *
      intro hv
      have h2 : 10 ^ i * (d + v + c) = 10 ^ i * (u + 10 * c') := by rw [he]
      simp only [Nat.mul_add] at hv h2 ⊢
      omega
  conv => whnf
  refine caseb (fun h1 => ?_) (fun h1 => ?_)
  · have h1' : (i : Int) < (decS n).size := of_decide_eq_true h1
    rw [z1] at h1'
    have ed : IntKind.i64.wrap (IntKind.i64.wrap (((n / 10 ^ i % 10 : Nat) : Int) - ((m / 10 ^ i % 10 : Nat) : Int)) - (c : Int)) = ((n / 10 ^ i % 10 : Nat) : Int) - ((m / 10 ^ i % 10 : Nat) : Int) - (c : Int) := by
      rw [IntWalk.i64_in (((n / 10 ^ i % 10 : Nat) : Int) - ((m / 10 ^ i % 10 : Nat) : Int)) (by omega), IntWalk.i64_in _ (by omega)]
    conv => whnf
    refine ⟨_, dn i, ?_⟩
    conv => whnf
    refine ⟨_, dm i, ?_⟩
    conv => whnf
    refine caseb (fun h2 => ?_) (fun h2 => ?_)
    · have h2' : IntKind.i64.wrap (IntKind.i64.wrap (((n / 10 ^ i % 10 : Nat) : Int) - ((m / 10 ^ i % 10 : Nat) : Int)) - (c : Int)) < 0 := of_decide_eq_true h2
      rw [ed] at h2'
      obtain ⟨s1, s2⟩ := step (n / 10 ^ i % 10 + 10 - m / 10 ^ i % 10 - c) 1 (by omega) (by omega) (by omega)
      conv => whnf
      refine ⟨⟨hle, by show (out.length + 1) * 8 ≤ 140737488355328; omega, Nat.le_of_ble_eq_true rfl⟩, ?_⟩
      conv => whnf
      refine ⟨(i + 1, 1, out ++ [((n / 10 ^ i % 10 + 10 - m / 10 ^ i % 10 - c : Nat) : Int)]), [(32, 232)], (by show (decL n).length - (i + 1) < (decL n).length - i; omega), ⟨(by show i + 1 ≤ (decL n).length; omega), Nat.le_refl 1, s1, (by show (out ++ [((n / 10 ^ i % 10 + 10 - m / 10 ^ i % 10 - c : Nat) : Int)]).length = i + 1; simp [hl]), s2⟩,
        ⟨⟨rfl, rfl⟩, ⟨rfl, rfl⟩, ⟨ownE rfl ?_, rfl⟩, ⟨rfl, rfl⟩, ⟨valI ?_, rfl⟩, trivial⟩, ⟨⟨rfl, .inl ⟨celE ?_, irows_noid _ _⟩⟩, trivial⟩, rfl⟩
      · show out.length + 1 = (out ++ [((n / 10 ^ i % 10 + 10 - m / 10 ^ i % 10 - c : Nat) : Int)]).length
        simp
      · show IntKind.i64.wrap ((i : Int) + 1) = ((i + 1 : Nat) : Int)
        rw [IntWalk.i64_in _ (by omega)]; omega
      · show List.take out.length (List.drop 0 (irows .i64 out)) ++ [[AV.val (.int .i64 (IntKind.i64.wrap (IntKind.i64.wrap (IntKind.i64.wrap (((n / 10 ^ i % 10 : Nat) : Int) - ((m / 10 ^ i % 10 : Nat) : Int)) - (c : Int)) + 10)))]] = _
        rw [ed, IntWalk.i64_in _ (by omega), show ((n / 10 ^ i % 10 : Nat) : Int) - ((m / 10 ^ i % 10 : Nat) : Int) - (c : Int) + 10 = ((n / 10 ^ i % 10 + 10 - m / 10 ^ i % 10 - c : Nat) : Int) by omega, List.drop_zero, List.take_of_length_le (by rw [irows_len]; exact Nat.le_refl _), ← irows_append]
        rfl
    · have h2' : ¬ IntKind.i64.wrap (IntKind.i64.wrap (((n / 10 ^ i % 10 : Nat) : Int) - ((m / 10 ^ i % 10 : Nat) : Int)) - (c : Int)) < 0 := of_decide_eq_false h2
      rw [ed] at h2'
      obtain ⟨s1, s2⟩ := step (n / 10 ^ i % 10 - m / 10 ^ i % 10 - c) 0 (by omega) (by omega) (by omega)
      conv => whnf
      refine ⟨⟨hle, by show (out.length + 1) * 8 ≤ 140737488355328; omega, Nat.le_of_ble_eq_true rfl⟩, ?_⟩
      conv => whnf
      refine ⟨(i + 1, 0, out ++ [((n / 10 ^ i % 10 - m / 10 ^ i % 10 - c : Nat) : Int)]), [(32, 200)], (by show (decL n).length - (i + 1) < (decL n).length - i; omega), ⟨(by show i + 1 ≤ (decL n).length; omega), Nat.zero_le 1, s1, (by show (out ++ [((n / 10 ^ i % 10 - m / 10 ^ i % 10 - c : Nat) : Int)]).length = i + 1; simp [hl]), s2⟩,
        ⟨⟨rfl, rfl⟩, ⟨rfl, rfl⟩, ⟨ownE rfl ?_, rfl⟩, ⟨rfl, rfl⟩, ⟨valI ?_, rfl⟩, trivial⟩, ⟨⟨rfl, .inl ⟨celE ?_, irows_noid _ _⟩⟩, trivial⟩, rfl⟩
      · show out.length + 1 = (out ++ [((n / 10 ^ i % 10 - m / 10 ^ i % 10 - c : Nat) : Int)]).length
        simp
      · show IntKind.i64.wrap ((i : Int) + 1) = ((i + 1 : Nat) : Int)
        rw [IntWalk.i64_in _ (by omega)]; omega
      · show List.take out.length (List.drop 0 (irows .i64 out)) ++ [[AV.val (.int .i64 (IntKind.i64.wrap (IntKind.i64.wrap (((n / 10 ^ i % 10 : Nat) : Int) - ((m / 10 ^ i % 10 : Nat) : Int)) - (c : Int))))]] = _
        rw [ed, show ((n / 10 ^ i % 10 : Nat) : Int) - ((m / 10 ^ i % 10 : Nat) : Int) - (c : Int) = ((n / 10 ^ i % 10 - m / 10 ^ i % 10 - c : Nat) : Int) by omega, List.drop_zero, List.take_of_length_le (by rw [irows_len]; exact Nat.le_refl _), ← irows_append]
        rfl
  · have h1' : ¬ (i : Int) < (decS n).size := of_decide_eq_false h1
    rw [z1] at h1'
    obtain ⟨r, hr, rfl⟩ := fin (by omega)
    conv => whnf
    refine ⟨hle, _, hr, ?_⟩
    conv => whnf
    exact rfl

end Go.Proofs.Ytjpefafkejklaaa

/- What the laws of two numbers read: every text. -/
set_option linter.unusedVariables false
namespace Go.Proofs.Ytjpefafkejklaaa
open Go Go.AL NM

theorem decL_len_le {n k : Nat} (hk : 1 ≤ k) (h : n < 10 ^ k) : (decL n).length ≤ k := by
  unfold decL
  split
  · simpa using hk
  · rw [List.length_reverse]; exact decR_len h

/-- What is read of a text: a number, or that it is none. -/
def Rd (l : List Int) (n : Nat) : Prop := n < 10 ^ 120 ∧ (decL n).length ≤ 120 ∧ (limbs n).length ≤ 120 ∧ AC Try.prog 21 [.val (.string (strL l))] (.pure (.tup [natA n, .val (.string (decS n)), .val (.bool true)]))
theorem read_any (l : List Int) (hB : Byt l) (hb : l.length < 140737488355328) : (∃ n, Rd l n) ∨ ((120 < l.length ∨ right l = false) ∧ AC Try.prog 21 [.val (.string (strL l))] (.pure (.tup [natA 0, .val (.string (strL [])), .val (.bool false)]))) := by
  by_cases h : l.length ≤ 120 ∧ right l = true
  · obtain ⟨hd, hne, _⟩ := right_dig h.2
    have h1 : valL l < 10 ^ 120 := Nat.lt_of_lt_of_le (valL_lt hd) (Nat.pow_le_pow_right (by decide) h.1)
    exact .inl ⟨valL l, h1, decL_len_le (by decide) h1, limbs_ten h1, read_ok l h.1 h.2⟩
  · refine .inr ⟨?_, read_bad l hB hb h⟩
    by_cases h1 : l.length ≤ 120
    · right
      cases hr : right l with
      | false => rfl
      | true => exact absurd ⟨h1, hr⟩ h
    · left; omega

end Go.Proofs.Ytjpefafkejklaaa

/- An abstract program logic over tree values (part 27): a live block is frozen between steps; loops whose end is weakened first. -/
set_option linter.unusedVariables false
set_option linter.unusedSimpArgs false
namespace Go.AL
open Go Go.RowKit

theorem Wk.refl (s : St) : Wk s s := fun _ _ _ _ h => h
theorem Wk.trans {s s' s'' : St} (h1 : Wk s s') (h2 : Wk s' s'') : Wk s s'' := fun w0 F0 a w h => h2 w0 F0 a w (h1 w0 F0 a w h)

/-- A live block that stands in a slot is frozen there. -/
theorem Wk.frz {s : St} (d id off len sz : Nat) {rows : List (List AV)} (h1 : s.t d = .own id off len) (h2 : s.h id = some (.cells sz rows)) (hz : 0 < sz) (hl : off + len ≤ rows.length)
    (hno : NoId (.sl sz ((rows.drop off).take len) false)) : Wk s ⟨upd s.t d (.sl sz ((rows.drop off).take len) false), updH s.h id none, s.n, s.m⟩ := by
  intro w0 F0 a w ⟨F, ρ, hR⟩
  have hv := hR.vals d
  rw [h1] at hv
  have hf : AL.frz s.h (.own id off len) = some (.sl sz ((rows.drop off).take len) false, [off + len ≤ rows.length], [(id, none)], [(id, true)]) := by
    unfold AL.frz
    simp only [h2]
    cases sz with
    | zero => exact absurd hz (Nat.lt_irrefl 0)
    | succ k => rfl
  obtain ⟨F', hF, hR', hv'⟩ := frz_ok hR hv hf hl hno
  refine ⟨F', ρ, { hR' with vals := fun t => ?_ }⟩
  show VR w F' ρ _ (upd s.t d _ t)
  by_cases e : t = d
  · subst e
    rw [upd_same]
    exact hv'
  · rw [upd_ne _ _ e]
    exact hR'.vals t

/-- A loop as in loopM; what stands at a round's end is weakened first. -/
theorem SW.loopW {P : Program} {TT : Nat → Option TI} (hT : TTok P TT) {α : Type} {c : Code} {Q : Exit → St → Prop} {s : St} (ts : α → List (Nat × AV)) (hs : α → List (Nat × LB)) (n m : Nat) (hm : s.m = m)
    (μ : α → Nat) (J : α → Prop) (x0 : α) (σ0 : List (Nat × Nat)) (h0 : J x0) (e1 : okT s (σf σ0) n (ts x0)) (e2 : okH s (σf σ0) n (hs x0)) (e3 : distinct (((hs x0).map (·.1)).map (σf σ0)) = true)
    (round : ∀ x, J x → axp P TT c (loopQ Q fun s2 => ∃ (s3 : St) (x' : α) (σ : List (Nat × Nat)), Wk s2 s3 ∧ s3.m = s2.m ∧ μ x' < μ x ∧ J x' ∧ okT s3 (σf σ) n (ts x') ∧ okH s3 (σf σ) n (hs x') ∧ distinct (((hs x').map (·.1)).map (σf σ)) = true) (mkS (ts x) (hs x) n m)) : SW P (.loop c) Q s := by
  refine SW.loop (fun k s1 => ∃ x, μ x = k ∧ J x ∧ s1 = mkS (ts x) (hs x) n m) (μ x0) (mkS (ts x0) (hs x0) n m) (Wk.of _ _ _ _ _ hm e1 e2 e3) hm.symm ⟨x0, rfl, h0, rfl⟩ ?_
  rintro k s1 hm1 ⟨x, rfl, hJ, rfl⟩
  refine ((axp_sound hT _ _ _ (round x hJ)).keep).mono fun e s' hq => ?_
  obtain ⟨hq, hms⟩ := hq
  cases e with
  | normal =>
    obtain ⟨s3, x', σ, w1, w2, g1, g2, g3, g4, g5⟩ := hq
    exact ⟨μ x', mkS (ts x') (hs x') n m, g1, w1.trans (Wk.of _ _ _ _ _ (by rw [w2, hms]; rfl) g3 g4 g5), (by rw [hms]; rfl), x', rfl, g2, rfl⟩
  | _ => exact hq

end Go.AL

/- Groups of nine digits: plain facts. -/
set_option linter.unusedVariables false
namespace NM

/-- The value of groups of nine digits, the greatest one first. -/
def valG (l : List Int) : Nat := l.foldl (fun a x => a * 1000000000 + x.toNat) 0
theorem valG_nil : valG [] = 0 := rfl
theorem valG_snoc (l : List Int) (x : Int) : valG (l ++ [x]) = valG l * 1000000000 + x.toNat := by
  unfold valG; rw [List.foldl_append]; rfl
def Gd (l : List Int) : Prop := ∀ x ∈ l, 0 ≤ x ∧ x < 1000000000
theorem Gd.snoc {l : List Int} {x : Int} (h : Gd l) (hx : 0 ≤ x ∧ x < 1000000000) : Gd (l ++ [x]) := by
  intro y hy
  rcases List.mem_append.1 hy with hy | hy
  · exact h y hy
  · simp at hy; subst hy; exact hx
theorem valG_take {l : List Int} {k : Nat} (h : k < l.length) : valG (l.take (k + 1)) = valG (l.take k) * 1000000000 + (l[k]).toNat := by
  rw [List.take_succ_eq_append_getElem h, valG_snoc]

theorem valL_take {l : List Int} {k : Nat} (h : k < l.length) : valL (l.take (k + 1)) = 10 * valL (l.take k) + (l[k] - 48).toNat := by
  rw [List.take_succ_eq_append_getElem h, valL_snoc]

end NM
namespace NM
/-- One digit more: how many digits are left, the group begun, the groups done. -/
def gstep (s : Nat × Nat × List Int) (c : Int) : Nat × Nat × List Int :=
  if (s.1 - 1) % 9 = 0 then (s.1 - 1, 0, s.2.2 ++ [((s.2.1 * 10 + (c - 48).toNat : Nat) : Int)]) else (s.1 - 1, s.2.1 * 10 + (c - 48).toNat, s.2.2)
def gat (l : List Int) (i : Nat) : Nat × Nat × List Int := (l.take i).foldl gstep (l.length, 0, [])
def grp (l : List Int) : List Int := (gat l l.length).2.2
theorem gat_succ {l : List Int} {i : Nat} (h : i < l.length) : gat l (i + 1) = gstep (gat l i) l[i] := by
  unfold gat
  rw [List.take_succ_eq_append_getElem h, List.foldl_append]
  rfl
theorem gat_inv {l : List Int} (hd : Dig l) : ∀ i, i ≤ l.length → (gat l i).1 = l.length - i ∧ ∃ r, r + (l.length - i) % 9 ≤ 9 ∧ ((l.length - i) % 9 = 0 → r = 0) ∧ (gat l i).2.1 < 10 ^ r ∧ Gd (gat l i).2.2 ∧ valL (l.take i) = valG (gat l i).2.2 * 10 ^ r + (gat l i).2.1 ∧ (gat l i).2.2.length ≤ i ∧ (valG (gat l i).2.2 = 0 ∨ r + (l.length - i) % 9 = 9 ∨ (l.length - i) % 9 = 0) := by
  intro i
  induction i with
  | zero =>
    intro _
    refine ⟨rfl, 0, by omega, fun _ => rfl, Nat.zero_lt_one, fun x hx => (nomatch hx), rfl, Nat.le_refl 0, .inl rfl⟩
  | succ i ih =>
    intro hi
    have hlt : i < l.length := hi
    obtain ⟨e1, r, h1, h2, h3, h4, h5, h6, h7⟩ := ih (by omega)
    have hx := hd l[i] (List.getElem_mem _)
    rw [gat_succ hlt, valL_take hlt]
    revert e1 h3 h4 h5 h6 h7
    generalize gat l i = s
    obtain ⟨k, acc, out⟩ := s
    intro e1 h3 h4 h5 h6 h7
    have e1 : k = l.length - i := e1
    have h3 : acc < 10 ^ r := h3
    have h4 : Gd out := h4
    have h5 : valL (l.take i) = valG out * 10 ^ r + acc := h5
    have h6 : out.length ≤ i := h6
    have h7 : valG out = 0 ∨ r + (l.length - i) % 9 = 9 ∨ (l.length - i) % 9 = 0 := h7
    have h3' : acc * 10 + (l[i] - 48).toNat < 10 ^ (r + 1) := by rw [Nat.pow_succ]; omega
    have h5' : 10 * valL (l.take i) + (l[i] - 48).toNat = valG out * 10 ^ (r + 1) + (acc * 10 + (l[i] - 48).toNat) := by
      rw [h5, Nat.pow_succ, ← Nat.mul_assoc]; omega
    subst e1
    unfold gstep
    show (if (l.length - i - 1) % 9 = 0 then (l.length - i - 1, 0, out ++ [((acc * 10 + (l[i] - 48).toNat : Nat) : Int)]) else (l.length - i - 1, acc * 10 + (l[i] - 48).toNat, out)).1 = _ ∧ _
    have hr8 : r + 1 ≤ 9 := by omega
    split
    · rename_i hk
      have hlt9 : acc * 10 + (l[i] - 48).toNat < 1000000000 := Nat.lt_of_lt_of_le h3' (by
        rw [show 1000000000 = 10 ^ 9 from rfl]
        exact Nat.pow_le_pow_right (by decide) hr8)
      have hr9 : (l.length - i) % 9 = 1 := by omega
      generalize acc * 10 + (l[i] - 48).toNat = t at *
      refine ⟨by show l.length - i - 1 = l.length - (i + 1); omega, 0, by omega, fun _ => rfl, Nat.zero_lt_one, Gd.snoc h4 ⟨Int.natCast_nonneg t, by omega⟩, ?_, (by show (out ++ [_]).length ≤ i + 1; simp; exact h6), .inr (.inr (by omega))⟩
      show _ = valG (out ++ [_]) * 1 + 0
      rw [valG_snoc, Int.toNat_natCast, h5']
      rcases h7 with h7 | h7 | h7
      · rw [h7]; omega
      · rw [show r + 1 = 9 by omega]; omega
      · omega
    · rename_i hk
      refine ⟨by show l.length - i - 1 = l.length - (i + 1); omega, r + 1, by omega, by omega, h3', h4, h5', (by show out.length ≤ i + 1; omega), ?_⟩
      show valG out = 0 ∨ _
      rcases h7 with h7 | h7 | h7
      · exact .inl h7
      · right; omega
      · right; omega
end NM
namespace NM
/-- One group more of what is divided by 65536: what is left, the quotient's groups. -/
def dstep (s : Nat × List Int) (g : Int) : Nat × List Int :=
  ((s.1 * 1000000000 + g.toNat) % 65536, if 0 < s.2.length ∨ 0 < (s.1 * 1000000000 + g.toNat) / 65536 then s.2 ++ [(((s.1 * 1000000000 + g.toNat) / 65536 : Nat) : Int)] else s.2)
theorem dstep_eq (r : Nat) (q : List Int) (g : Int) (t : Nat) (ht : t = r * 1000000000 + g.toNat) : dstep (r, q) g = (t % 65536, if 0 < q.length ∨ 0 < t / 65536 then q ++ [((t / 65536 : Nat) : Int)] else q) := by
  subst ht
  unfold dstep
  simp only
def dat (l : List Int) (i : Nat) : Nat × List Int := (l.take i).foldl dstep (0, [])
theorem dat_succ {l : List Int} {i : Nat} (h : i < l.length) : dat l (i + 1) = dstep (dat l i) l[i] := by
  unfold dat
  rw [List.take_succ_eq_append_getElem h, List.foldl_append]
  rfl
theorem dat_inv {l : List Int} (hd : Gd l) : ∀ i, i ≤ l.length → (dat l i).1 < 65536 ∧ Gd (dat l i).2 ∧ valG (l.take i) = valG (dat l i).2 * 65536 + (dat l i).1 ∧ (dat l i).2.length ≤ i ∧ ((dat l i).2 = [] ∨ 0 < valG (dat l i).2) := by
  intro i
  induction i with
  | zero => intro _; exact ⟨(by show 0 < 65536; omega), fun x hx => (nomatch hx), (by show 0 = 0 * 65536 + 0; omega), Nat.le_refl 0, .inl rfl⟩
  | succ i ih =>
    intro hi
    have hlt : i < l.length := hi
    obtain ⟨h1, h2, h3, h4, h5⟩ := ih (by omega)
    have hx := hd l[i] (List.getElem_mem _)
    rw [dat_succ hlt, valG_take hlt]
    revert h1 h2 h3 h4 h5
    generalize dat l i = s
    obtain ⟨r, q⟩ := s
    intro h1 h2 h3 h4 h5
    have h1 : r < 65536 := h1
    have h2 : Gd q := h2
    have h3 : valG (l.take i) = valG q * 65536 + r := h3
    have h4 : q.length ≤ i := h4
    have h5 : q = [] ∨ 0 < valG q := h5
    unfold dstep
    show (r * 1000000000 + l[i].toNat) % 65536 < 65536 ∧ _
    have hq : (r * 1000000000 + l[i].toNat) / 65536 < 1000000000 := by omega
    refine ⟨Nat.mod_lt _ (by decide), ?_⟩
    show Gd (if 0 < q.length ∨ 0 < (r * 1000000000 + l[i].toNat) / 65536 then q ++ [(((r * 1000000000 + l[i].toNat) / 65536 : Nat) : Int)] else q) ∧ valG (l.take i) * 1000000000 + l[i].toNat = valG (if 0 < q.length ∨ 0 < (r * 1000000000 + l[i].toNat) / 65536 then q ++ [(((r * 1000000000 + l[i].toNat) / 65536 : Nat) : Int)] else q) * 65536 + (r * 1000000000 + l[i].toNat) % 65536 ∧ (if 0 < q.length ∨ 0 < (r * 1000000000 + l[i].toNat) / 65536 then q ++ [(((r * 1000000000 + l[i].toNat) / 65536 : Nat) : Int)] else q).length ≤ i + 1 ∧ ((if 0 < q.length ∨ 0 < (r * 1000000000 + l[i].toNat) / 65536 then q ++ [(((r * 1000000000 + l[i].toNat) / 65536 : Nat) : Int)] else q) = [] ∨ 0 < valG (if 0 < q.length ∨ 0 < (r * 1000000000 + l[i].toNat) / 65536 then q ++ [(((r * 1000000000 + l[i].toNat) / 65536 : Nat) : Int)] else q))
    split
    · rename_i hc
      rw [valG_snoc, Int.toNat_natCast, h3]
      refine ⟨Gd.snoc h2 (by omega), by omega, by simp; exact h4, .inr ?_⟩
      rcases hc with hc | hc
      · rcases h5 with h5 | h5
        · subst h5; simp at hc
        · omega
      · omega
    · rename_i hc
      have hq0 : q = [] := List.eq_nil_of_length_eq_zero (by omega)
      subst hq0
      rw [h3, valG_nil]
      refine ⟨h2, by omega, by simp, .inl rfl⟩
end NM

/- Contracts of the reference: groups of nine digits. -/
set_option linter.unusedVariables false
namespace Go.Proofs.Ytjpefafkejklaaa
open Go Go.AL NM

theorem Groups_ok (l : List Int) (hd : Dig l) (hb : l.length < 1000000000) : AC Try.prog 69 [.val (.string (strL l))] (.pure (.sl 1 (irows .i64 (grp l)) false)) := by
  refine AC.of_body TTok Try.func69 rfl (enter_of Try.func69 (by kernel_rfl) (by kernel_rfl)) (noid1 (.val _)) (noid_sl _ _ _) (Nat.le_of_ble_eq_true rfl) ?_
  have hsz := strL_size l
  conv => whnf
  refine SW.nil 3 1 rfl ?_
  refine SW.loopM TTok (fun i : Nat => [(0, .val (.string (strL l))), (3, .own 56 0 (gat l i).2.2.length), (4, .val (.int .i64 (gat l i).2.1)), (5, .val (.int .i64 (gat l i).1)), (6, .val (.int .i64 i))])
    (fun i => [(56, .cells 1 (irows .i64 (gat l i).2.2))]) 64 33 rfl (fun i => l.length - i) (fun i => i ≤ l.length) 0 [] (Nat.zero_le _)
    ⟨⟨rfl, rfl⟩, ⟨rfl, rfl⟩, ⟨rfl, rfl⟩, ⟨valI (by rw [hsz]; rfl), rfl⟩, ⟨rfl, rfl⟩, trivial⟩ ⟨⟨rfl, .inr ⟨rfl, rfl⟩⟩, trivial⟩ rfl ?_
  intro i hi
  have hi : i ≤ l.length := hi
  obtain ⟨e1, r, g1, g2, g3, g4, g5, g6, g7⟩ := gat_inv hd i hi
  have hstep : ∀ h : i < l.length, gat l (i + 1) = gstep (gat l i) l[i] := gat_succ
  have hend : i = l.length → (gat l i).2.2 = grp l := fun h => by rw [h]; rfl
  have hacc : (gat l i).2.1 < 1000000000 := Nat.lt_of_lt_of_le g3 (by
    rw [show 1000000000 = 10 ^ 9 from rfl]
    exact Nat.pow_le_pow_right (by decide) (by omega))
  revert e1 g4 g6 hstep hend hacc
  generalize gat l i = s
  obtain ⟨k, acc, out⟩ := s
  intro e1 g4 g6 hstep hend hacc
  have e1 : k = l.length - i := e1
  have g4 : Gd out := g4
  have g6 : out.length ≤ i := g6
  have hend : i = l.length → out = grp l := hend
  have hacc : acc < 1000000000 := hacc
  have hle : 0 + out.length ≤ (irows .i64 out).length := by rw [irows_len]; omega
  conv => whnf
  refine caseb (fun h1 => ?_) (fun h1 => ?_)
  · have h1' : (i : Int) < ((strL l).size : Int) := of_decide_eq_true h1
    rw [hsz] at h1'
    have hlt : i < l.length := by omega
    have hx := hd l[i] (List.getElem_mem _)
    have hby : byteAt (strL l) (i : Int) = l[i] := byteAt_strL (Dig.byt hd) (by omega) (by rw [Int.toNat_natCast]; exact List.getElem?_eq_getElem hlt)
    have hst := hstep hlt
    have ea : IntKind.i64.wrap (IntKind.i64.wrap ((acc : Int) * 10) + IntKind.i64.wrap (IntKind.u8.wrap (byteAt (strL l) (i : Int) - 48))) = ((acc * 10 + (l[i] - 48).toNat : Nat) : Int) := by
      rw [hby, IntKind.wrap_u8, IntWalk.i64_in ((acc : Int) * 10) (by omega), IntWalk.i64_in ((l[i] - 48) % 256) (by omega), IntWalk.i64_in _ (by omega)]
      omega
    have ek : IntKind.i64.wrap ((k : Int) - 1) = ((k - 1 : Nat) : Int) := by rw [IntWalk.i64_in _ (by omega)]; omega
    conv => whnf
    refine ⟨⟨by omega, by rw [hsz]; omega⟩, ?_⟩
    conv => whnf
    refine ⟨by decide, ?_⟩
    conv => whnf
    refine caseb (fun h2 => ?_) (fun h2 => ?_)
    · have h2' : (IntKind.i64.wrap ((k : Int) - 1)).tmod 9 = 0 := of_decide_eq_true h2
      rw [ek, Int.tmod_eq_emod_of_nonneg (Int.natCast_nonneg _)] at h2'
      have hk9 : (k - 1) % 9 = 0 := by omega
      have hst : gat l (i + 1) = (k - 1, 0, out ++ [((acc * 10 + (l[i] - 48).toNat : Nat) : Int)]) := by
        rw [hst]
        unfold gstep
        rw [if_pos hk9]
      conv => whnf
      refine ⟨⟨hle, by show (out.length + 1) * 8 ≤ 140737488355328; omega, Nat.le_of_ble_eq_true rfl⟩, ?_⟩
      conv => whnf
      refine ⟨i + 1, [(56, 240)], (by show l.length - (i + 1) < l.length - i; omega), (by show i + 1 ≤ l.length; omega), ⟨⟨rfl, rfl⟩, ⟨ownE rfl ?_, rfl⟩, ⟨valI ?_, rfl⟩, ⟨valI ?_, rfl⟩, ⟨valI ?_, rfl⟩, trivial⟩, ⟨⟨rfl, .inl ⟨celE ?_, irows_noid _ _⟩⟩, trivial⟩, rfl⟩
      · rw [hst]; show out.length + 1 = (out ++ [_]).length; simp
      · rw [hst]; rfl
      · rw [hst]; exact ek
      · show IntKind.i64.wrap ((i : Int) + 1) = ((i + 1 : Nat) : Int)
        rw [IntWalk.i64_in _ (by omega)]; omega
      · rw [hst]
        show List.take out.length (List.drop 0 (irows .i64 out)) ++ [[AV.val (.int .i64 (IntKind.i64.wrap (IntKind.i64.wrap ((acc : Int) * 10) + IntKind.i64.wrap (IntKind.u8.wrap (byteAt (strL l) (i : Int) - 48)))))]] = _
        rw [ea, List.drop_zero, List.take_of_length_le (by rw [irows_len]; exact Nat.le_refl _), ← irows_append]
        rfl
    · have h2' : ¬ (IntKind.i64.wrap ((k : Int) - 1)).tmod 9 = 0 := of_decide_eq_false h2
      rw [ek, Int.tmod_eq_emod_of_nonneg (Int.natCast_nonneg _)] at h2'
      have hk9 : ¬ (k - 1) % 9 = 0 := by omega
      have hst : gat l (i + 1) = (k - 1, acc * 10 + (l[i] - 48).toNat, out) := by
        rw [hst]
        unfold gstep
        rw [if_neg hk9]
      conv => whnf
      refine ⟨i + 1, [], (by show l.length - (i + 1) < l.length - i; omega), (by show i + 1 ≤ l.length; omega), ⟨⟨rfl, rfl⟩, ⟨ownE rfl ?_, rfl⟩, ⟨valI ?_, rfl⟩, ⟨valI ?_, rfl⟩, ⟨valI ?_, rfl⟩, trivial⟩, ⟨⟨rfl, .inl ⟨celE ?_, irows_noid _ _⟩⟩, trivial⟩, rfl⟩
      · rw [hst]
      · rw [hst]; exact ea
      · rw [hst]; exact ek
      · show IntKind.i64.wrap ((i : Int) + 1) = ((i + 1 : Nat) : Int)
        rw [IntWalk.i64_in _ (by omega)]; omega
      · rw [hst]
  · have h1' : ¬ (i : Int) < ((strL l).size : Int) := of_decide_eq_false h1
    rw [hsz] at h1'
    have he := hend (by omega)
    conv => whnf
    refine ⟨hle, slE ?_⟩
    show List.take out.length (irows .i64 out) = irows .i64 (grp l)
    rw [← he, List.take_of_length_le (by rw [irows_len]; exact Nat.le_refl _)]

theorem grp_ok {l : List Int} (hd : Dig l) : Gd (grp l) ∧ valG (grp l) = valL l ∧ (grp l).length ≤ l.length := by
  obtain ⟨e1, r, g1, g2, g3, g4, g5, g6, g7⟩ := gat_inv hd l.length (Nat.le_refl _)
  have hr := g2 (by omega)
  subst hr
  rw [List.take_of_length_le (Nat.le_refl _), Nat.pow_zero] at *
  refine ⟨g4, ?_, g6⟩
  show valG (gat l l.length).2.2 = _
  rw [g5]
  omega

end Go.Proofs.Ytjpefafkejklaaa

/- Contracts of the reference: how many bits and limbs a number has. -/
set_option linter.unusedVariables false
namespace Go.Proofs.Ytjpefafkejklaaa
open Go Go.AL NM

theorem blen_zero : blen 0 = 0 := rfl
theorem blen_gt {n k : Nat} (h : 2 ^ k ≤ n) : k < blen n := by
  rw [blen_div h]
  have : 0 < n / 2 ^ k := Nat.div_pos h (Nat.pow_pos (by decide))
  unfold blen
  rw [if_neg (by omega)]
  omega
theorem pow32 (k : Nat) : 4294967296 ^ k = 2 ^ (32 * k) := by rw [Nat.pow_mul]
theorem limbs_blen (n : Nat) : (limbs n).length = (blen n + 31) / 32 := by
  by_cases h0 : n = 0
  · subst h0; rw [limbs_zero, blen_zero]; rfl
  · have h1 : blen n ≤ 32 * (limbs n).length := blen_le (by rw [← pow32]; have := val_lt (limbs_lim n); rwa [val_limbs] at this)
    have hl : 0 < (limbs n).length := by rw [limbs_pos (by omega)]; simp
    have h2 : 32 * ((limbs n).length - 1) < blen n := by
      apply blen_gt
      rw [← pow32]
      rcases Nat.lt_or_ge n (4294967296 ^ ((limbs n).length - 1)) with h | h
      · have := limbs_len_le h; omega
      · exact h
    omega
theorem blen_half {n : Nat} (h : 0 < n) : blen n = blen (n / 2) + 1 := by
  rcases Nat.lt_or_ge n 2 with h2 | h2
  · have : n = 1 := by omega
    subst this
    rfl
  · have := blen_div (n := n) (k := 1) h2
    simpa using this

theorem bits_et {rest : Nat} {x : Int} {t : Nat} (d1 : rest < 65536) (hx : 0 ≤ x ∧ x < 1000000000) (htt : t = rest * 1000000000 + x.toNat) : IntKind.i64.wrap (IntKind.i64.wrap ((rest : Int) * 1000000000) + x) = (t : Int) := by
  rw [IntWalk.i64_in ((rest : Int) * 1000000000) (by omega), IntWalk.i64_in _ (by omega)]; omega
theorem bits_ht {rest : Nat} {x : Int} {t : Nat} (d1 : rest < 65536) (hx : 0 ≤ x ∧ x < 1000000000) (htt : t = rest * 1000000000 + x.toNat) : t < 65536000000000 := by omega
theorem bits_em (t : Nat) : (t : Int).tmod 65536 = ((t % 65536 : Nat) : Int) := by
  rw [Int.tmod_eq_emod_of_nonneg (Int.natCast_nonneg _)]; omega
theorem bits_ed {t : Nat} (h : t < 65536000000000) : IntKind.i64.wrap ((t : Int).tdiv 65536) = ((t / 65536 : Nat) : Int) := by
  rw [Int.tdiv_eq_ediv_of_nonneg (Int.natCast_nonneg _), IntWalk.i64_in _ (by omega)]; omega

theorem bits_div {n i v rest : Nat} (h : v * 65536 + rest = n / 2 ^ (16 * i)) (hr : rest < 65536) : v = n / 2 ^ (16 * (i + 1)) := by
  rw [show 16 * (i + 1) = 16 * i + 16 by omega, Nat.pow_add, ← Nat.div_div_eq_div_mul, ← h]
  show v = (v * 65536 + rest) / 65536
  omega

theorem bits_half {r : Nat} (h : r < 65536) : IntKind.i64.wrap ((r : Int).tdiv 2) = ((r / 2 : Nat) : Int) := by
  rw [Int.tdiv_eq_ediv_of_nonneg (Int.natCast_nonneg _), IntWalk.i64_in _ (by omega)]; omega
theorem bits_half_lt {r : Nat} (h : r < 65536) : r / 2 < 65536 := by omega

set_option maxRecDepth 100000 in
theorem RBits_ok (n : Nat) (hb : blen n ≤ 100000) (hl : (decL n).length < 1000000000) : AC Try.prog 44 [.val (.string (decS n))] (.pure (.val (.int .i64 (blen n)))) := by
  refine AC.of_body TTok Try.func44 rfl (enter_of Try.func44 (by kernel_rfl) (by kernel_rfl)) (noid1 (.val _)) (.val _) (Nat.le_of_ble_eq_true rfl) ?_
  have hG := Groups_ok (decL n) (decL_byt n) hl
  obtain ⟨q1, q2, q3⟩ := grp_ok (decL_byt n)
  rw [valL_decL] at q2
  revert hG q1 q2 q3
  generalize grp (decL n) = gs
  intro hG q1 q2 q3
  conv => whnf
  refine ⟨_, hG, ?_⟩
  conv => whnf
  refine SW.loopW TTok (fun x : Nat × List Int => [(3, .sl 1 (irows .i64 x.2) false), (4, .val (.int .i64 (16 * x.1 : Nat))), (5, .val (.int .i64 x.1))])
    (fun x => []) 48 58 rfl (fun x => 10000 - x.1)
    (fun x => x.1 ≤ 6250 ∧ Gd x.2 ∧ x.2.length < 1000000000 ∧ valG x.2 = n / 2 ^ (16 * x.1) ∧ (x.1 = 0 ∨ 0 < valG x.2)) (0, gs) [] ⟨Nat.zero_le _, q1, (by show gs.length < 1000000000; omega), (by rw [show 16 * ((0, gs) : Nat × List Int).1 = 0 from rfl, Nat.pow_zero, Nat.div_one]; exact q2), .inl rfl⟩
    ⟨⟨rfl, rfl⟩, ⟨rfl, rfl⟩, ⟨rfl, rfl⟩, trivial⟩ trivial rfl ?_
  rintro ⟨i, g⟩ hJ
  have hi : i ≤ 6250 := hJ.1
  have hG : Gd g := hJ.2.1
  have hgl : g.length < 1000000000 := hJ.2.2.1
  have hv : valG g = n / 2 ^ (16 * i) := hJ.2.2.2.1
  have hp : i = 0 ∨ 0 < valG g := hJ.2.2.2.2
  clear hJ
  conv => whnf
  refine caseb (fun h1 => ?_) (fun h1 => ?_)
  rotate_left
  · have h1' : ¬ (i : Int) < 10000 := of_decide_eq_false h1
    omega
  conv => whnf
  refine SW.nil 6 1 rfl ?_
  refine SW.loopM TTok (fun k : Nat => [(3, .sl 1 (irows .i64 g) false), (4, .val (.int .i64 (16 * i : Nat))), (5, .val (.int .i64 i)), (6, .own 88 0 (dat g k).2.length), (7, .val (.int .i64 (dat g k).1)), (8, .val (.int .i64 k))])
    (fun k => [(88, .cells 1 (irows .i64 (dat g k).2))]) 96 58 rfl (fun k => g.length - k) (fun k => k ≤ g.length) 0 [] (Nat.zero_le _)
    ⟨⟨rfl, rfl⟩, ⟨rfl, rfl⟩, ⟨rfl, rfl⟩, ⟨rfl, rfl⟩, ⟨rfl, rfl⟩, ⟨rfl, rfl⟩, trivial⟩ ⟨⟨rfl, .inr ⟨rfl, rfl⟩⟩, trivial⟩ rfl ?_
  intro k hk
  have hk : k ≤ g.length := hk
  obtain ⟨d1, d2, d3, d4, d5⟩ := dat_inv hG k hk
  have hstep : ∀ h : k < g.length, dat g (k + 1) = dstep (dat g k) g[k] := dat_succ
  revert d1 d2 d3 d4 d5 hstep
  show _ → _ → _ → _ → _ → (∀ h : k < g.length, dat g (k + 1) = dstep ((dat g k).1, (dat g k).2) g[k]) → _
  generalize (dat g k).1 = rest
  generalize (dat g k).2 = q
  intro d1 d2 d3 d4 d5 hstep
  have hle : 0 + q.length ≤ (irows .i64 q).length := by rw [irows_len]; omega
  conv => whnf
  refine caseb (fun h2 => ?_) (fun h2 => ?_)
  · have h2' : (k : Int) < ((irows .i64 g).length : Int) := of_decide_eq_true h2
    rw [irows_len] at h2'
    have hlt : k < g.length := by omega
    have hx := hG g[k] (List.getElem_mem _)
    have hst := hstep hlt
    obtain ⟨t, htt⟩ : ∃ t, t = rest * 1000000000 + g[k].toNat := ⟨_, rfl⟩
    have et := bits_et d1 hx htt
    have em := bits_em t
    have ed := bits_ed (bits_ht d1 hx htt)
    have hst : dat g (k + 1) = (t % 65536, if 0 < q.length ∨ 0 < t / 65536 then q ++ [((t / 65536 : Nat) : Int)] else q) := by
      rw [hst, dstep_eq _ _ _ t htt]
    conv => whnf
    refine ⟨[.val (.int .i64 g[k])], ⟨by omega, ?_⟩, ?_⟩
    · rw [show ((k : Int)).toNat = k by omega]
      exact irows_get _ _ (List.getElem?_eq_getElem (by omega))
    conv => whnf
    refine ⟨by decide, ?_⟩
    conv => whnf
    rw [et, em]
    generalize hu : t % 65536 = u
    rw [hu] at hst
    refine caseb (fun h3 => ?a) (fun h3 => ?b)
    case' b =>
      conv => whnf
      refine ⟨by decide, ?_⟩
      conv => whnf
      refine caseb (fun h4 => ?c) (fun h4 => ?d)
    case' a =>
      have hc : 0 < q.length ∨ 0 < t / 65536 := by
        have h3' : (q.length : Int) > 0 := of_decide_eq_true h3
        exact .inl (Int.natCast_pos.1 h3')
      rw [if_pos hc] at hst
    case' c =>
      have hc : 0 < q.length ∨ 0 < t / 65536 := by
        have h4' : IntKind.i64.wrap (Int.tdiv (t : Int) 65536) > 0 := of_decide_eq_true h4
        rw [ed] at h4'
        exact .inr (Int.natCast_pos.1 h4')
      rw [if_pos hc] at hst
    case' d =>
      have hc : ¬ (0 < q.length ∨ 0 < t / 65536) := by
        have h3' : ¬ (q.length : Int) > 0 := of_decide_eq_false h3
        have h4' : ¬ IntKind.i64.wrap (Int.tdiv (t : Int) 65536) > 0 := of_decide_eq_false h4
        rw [ed] at h4'
        exact fun hh => hh.elim (fun hh => h3' (Int.natCast_pos.2 hh)) (fun hh => h4' (Int.natCast_pos.2 hh))
      rw [if_neg hc] at hst
    case d =>
      conv => whnf
      refine ⟨k + 1, [], (by show g.length - (k + 1) < g.length - k; omega), (by show k + 1 ≤ g.length; omega), ⟨⟨rfl, rfl⟩, ⟨rfl, rfl⟩, ⟨rfl, rfl⟩, ⟨ownE rfl ?_, rfl⟩, ⟨valI ?_, rfl⟩, ⟨valI ?_, rfl⟩, trivial⟩, ⟨⟨rfl, .inl ⟨celE ?_, irows_noid _ _⟩⟩, trivial⟩, rfl⟩
      · rw [hst]
      · rw [hst]
      · show IntKind.i64.wrap ((k : Int) + 1) = ((k + 1 : Nat) : Int)
        rw [IntWalk.i64_in _ (by omega)]; omega
      · rw [hst]
    all_goals
      conv => whnf
      refine ⟨by decide, ?_⟩
      conv => whnf
      refine ⟨⟨hle, by show (q.length + 1) * 8 ≤ 140737488355328; omega, Nat.le_of_ble_eq_true rfl⟩, ?_⟩
      conv => whnf
      refine ⟨k + 1, [(88, 312)], (by show g.length - (k + 1) < g.length - k; omega), (by show k + 1 ≤ g.length; omega), ⟨⟨rfl, rfl⟩, ⟨rfl, rfl⟩, ⟨rfl, rfl⟩, ⟨ownE rfl ?_, rfl⟩, ⟨valI ?_, rfl⟩, ⟨valI ?_, rfl⟩, trivial⟩, ⟨⟨rfl, .inl ⟨celE ?_, irows_noid _ _⟩⟩, trivial⟩, rfl⟩
      · rw [hst]; show q.length + 1 = (q ++ [_]).length; simp
      · rw [hst]
      · show IntKind.i64.wrap ((k : Int) + 1) = ((k + 1 : Nat) : Int)
        rw [IntWalk.i64_in _ (by omega)]; omega
      · rw [hst]
        show List.take q.length (List.drop 0 (irows .i64 q)) ++ [[AV.val (.int .i64 (IntKind.i64.wrap (Int.tdiv (t : Int) 65536)))]] = _
        rw [ed, List.drop_zero, List.take_of_length_le (by rw [irows_len]; exact Nat.le_refl _), ← irows_append]
        rfl
  · have h2' : ¬ (k : Int) < ((irows .i64 g).length : Int) := of_decide_eq_false h2
    rw [irows_len] at h2'
    rw [List.take_of_length_le (by omega)] at d3
    conv => whnf
    refine caseb (fun h3 => ?_) (fun h3 => ?_)
    · have h3' : (q.length : Int) = 0 := of_decide_eq_true h3
      have hq0 : q = [] := List.eq_nil_of_length_eq_zero (by omega)
      subst hq0
      rw [valG_nil] at d3
      have hbl : blen n = 16 * i + blen rest := by
        rw [show rest = n / 2 ^ (16 * i) by rw [← hv, d3, Nat.zero_mul, Nat.zero_add]]
        rcases hp with hp | hp
        · subst hp; rw [Nat.mul_zero, Nat.pow_zero, Nat.div_one, Nat.zero_add]
        · rw [blen_div (n := n) (k := 16 * i)]
          · omega
          · rw [hv] at hp
            rcases Nat.lt_or_ge n (2 ^ (16 * i)) with h | h
            · rw [Nat.div_eq_of_lt h] at hp; omega
            · exact h
      have hr16 : blen rest ≤ 16 := blen_le d1
      conv => whnf
      refine SW.loopM TTok (fun x : Nat × Nat => [(4, .val (.int .i64 x.1)), (7, .val (.int .i64 x.2))]) (fun x => []) 152 58 rfl (fun x => x.2) (fun x => x.1 + blen x.2 = blen n ∧ x.2 < 65536) (16 * i, rest) [] ⟨hbl.symm, d1⟩
        ⟨⟨rfl, rfl⟩, ⟨rfl, rfl⟩, trivial⟩ trivial rfl ?_
      rintro ⟨c, r⟩ hJ
      have hr : r < 65536 := hJ.2
      have hJ : c + blen r = blen n := hJ.1
      conv => whnf
      refine caseb (fun h4 => ?_) (fun h4 => ?_)
      · have h4' : (r : Int) > 0 := of_decide_eq_true h4
        have := blen_half (n := r) (by omega)
        conv => whnf
        refine ⟨by decide, ?_⟩
        conv => whnf
        refine ⟨(c + 1, r / 2), [], (by show r / 2 < r; omega), ⟨(by show c + 1 + blen (r / 2) = blen n; omega), bits_half_lt hr⟩, ⟨⟨valI ?_, rfl⟩, ⟨valI ?_, rfl⟩, trivial⟩, trivial, rfl⟩
        · show IntKind.i64.wrap ((c : Int) + 1) = ((c + 1 : Nat) : Int)
          rw [IntWalk.i64_in _ (by omega)]; omega
        · exact bits_half hr
      · have h4' : ¬ (r : Int) > 0 := of_decide_eq_false h4
        have hr0 : r = 0 := by omega
        rw [hr0, blen_zero] at hJ
        conv => whnf
        refine valI ?_
        show (c : Int) = (blen n : Int)
        omega
    · have h3' : ¬ (q.length : Int) = 0 := of_decide_eq_false h3
      have hq : 0 < valG q := d5.resolve_left (fun e => by rw [e] at h3'; exact h3' rfl)
      have hvq : valG q = n / 2 ^ (16 * (i + 1)) := bits_div (by rw [← hv, d3]) d1
      have hi1 : i + 1 ≤ 6250 := by
        have : 16 * (i + 1) < blen n := blen_gt (by
          rcases Nat.lt_or_ge n (2 ^ (16 * (i + 1))) with h | h
          · rw [hvq, Nat.div_eq_of_lt h] at hq; omega
          · exact h)
        omega
      conv => whnf
      refine ⟨_, (i + 1, q), [], Wk.frz 3 88 0 q.length 1 rfl rfl (by decide) hle (by show NoId (.sl 1 ((irows .i64 q).take q.length) false); rw [List.take_of_length_le (by rw [irows_len]; exact Nat.le_refl _)]; exact noid_sl _ _ _), rfl, (by show 10000 - (i + 1) < 10000 - i; omega), ⟨hi1, d2, (by show q.length < 1000000000; omega), hvq, .inr hq⟩, ⟨⟨slE ?_, rfl⟩, ⟨valI ?_, rfl⟩, ⟨valI ?_, rfl⟩, trivial⟩, trivial, rfl⟩
      · show List.take q.length (irows .i64 q) = irows .i64 q
        rw [List.take_of_length_le (by rw [irows_len]; exact Nat.le_refl _)]
      · show IntKind.i64.wrap (((16 * i : Nat) : Int) + 16) = ((16 * (i + 1) : Nat) : Int)
        rw [IntWalk.i64_in _ (by omega)]; omega
      · show IntKind.i64.wrap ((i : Int) + 1) = ((i + 1 : Nat) : Int)
        rw [IntWalk.i64_in _ (by omega)]; omega

theorem RLimbs_ok (n : Nat) (hb : blen n ≤ 100000) (hl : (decL n).length < 1000000000) : AC Try.prog 46 [.val (.string (decS n))] (.pure (.val (.int .i64 (limbs n).length))) := by
  refine AC.of_body TTok Try.func46 rfl (enter_of Try.func46 (by kernel_rfl) (by kernel_rfl)) (noid1 (.val _)) (.val _) (Nat.le_of_ble_eq_true rfl) ?_
  have h := RBits_ok n hb hl
  conv => whnf
  refine ⟨_, h, ?_⟩
  conv => whnf
  refine ⟨by decide, ?_⟩
  conv => whnf
  refine valI ?_
  rw [limbs_blen, IntWalk.i64_in ((blen n : Int) + 31) (by omega), Int.tdiv_eq_ediv_of_nonneg (by omega), IntWalk.i64_in _ (by omega)]
  omega

end Go.Proofs.Ytjpefafkejklaaa

/- Shifts of limbs, digits that change: plain facts, no program in sight. -/
set_option linter.unusedVariables false
namespace NM

/-- One limb shifted to the left, its high part laid on the next one. -/
theorem shl_step {out : List Int} {p c y : Nat} (hp : p + 1 < out.length) (hc : out[p] = (c : Int)) (hz : out[p + 1] = 0) :
    val ((out.set p ((c + y % 4294967296 : Nat) : Int)).set (p + 1) ((y / 4294967296 : Nat) : Int)) = val out + y * 4294967296 ^ p := by
  have h1 := val_set out p ((c + y % 4294967296 : Nat) : Int) (by omega)
  have h2 := val_set (out.set p ((c + y % 4294967296 : Nat) : Int)) (p + 1) ((y / 4294967296 : Nat) : Int) (by rw [List.length_set]; exact hp)
  rw [List.getElem_set_ne (by omega), hz] at h2
  rw [hc] at h1
  rw [Int.toNat_natCast] at h1 h2
  rw [Int.toNat_natCast] at h1
  have hd := Nat.mod_add_div y 4294967296
  generalize val (out.set p ((c + y % 4294967296 : Nat) : Int)) = V at *
  generalize val ((out.set p ((c + y % 4294967296 : Nat) : Int)).set (p + 1) ((y / 4294967296 : Nat) : Int)) = W at *
  rw [Nat.pow_succ] at h2
  generalize 4294967296 ^ p = B at *
  have e1 : y / 4294967296 * (B * 4294967296) = 4294967296 * (y / 4294967296) * B := by rw [Nat.mul_comm B, ← Nat.mul_assoc, Nat.mul_comm (y / 4294967296)]
  have e2 : y * B = y % 4294967296 * B + 4294967296 * (y / 4294967296) * B := by rw [← Nat.add_mul, hd]
  have e3 : (c + y % 4294967296) * B = c * B + y % 4294967296 * B := Nat.add_mul _ _ _
  simp at h2
  omega

/-- Limbs shifted to the right by fewer bits than a limb has. -/
def srl (b : Nat) : List Int → List Int
  | [] => []
  | x :: l => (((x.toNat + 4294967296 * (l.headD 0).toNat) / 2 ^ b % 4294967296 : Nat) : Int) :: srl b l
theorem srl_len (b : Nat) : ∀ l, (srl b l).length = l.length
  | [] => rfl
  | x :: l => by simp [srl, srl_len b l]
theorem srl_lim (b : Nat) : ∀ l, Lim (srl b l)
  | [] => by intro x hx; cases hx
  | x :: l => by
    intro y hy
    rcases List.mem_cons.1 hy with rfl | hy
    · omega
    · exact srl_lim b l y hy
theorem srl_get (b : Nat) : ∀ (l : List Int) (i : Nat) (h : i < l.length), (srl b l)[i]? = some ((((l[i]).toNat + 4294967296 * (l.getD (i + 1) 0).toNat) / 2 ^ b % 4294967296 : Nat) : Int)
  | [], i, h => absurd h (Nat.not_lt_zero _)
  | x :: l, 0, h => by
    cases l <;> rfl
  | x :: l, i + 1, h => by
    have := srl_get b l i (by simpa using h)
    simpa [srl] using this
theorem srl_val (b : Nat) (hb : b ≤ 32) : ∀ l, Lim l → val (srl b l) = val l / 2 ^ b
  | [], _ => by simp [srl, val]
  | x :: l, h => by
    obtain ⟨hx, hl⟩ := h.cons
    have ih := srl_val b hb l hl
    have hB : 4294967296 = 2 ^ b * 2 ^ (32 - b) := by rw [← Nat.pow_add, show b + (32 - b) = 32 by omega]
    have hp : 0 < 2 ^ b := Nat.pow_pos (by decide)
    have hq : 0 < 2 ^ (32 - b) := Nat.pow_pos (by decide)
    have hh : val l % 2 ^ b = (l.headD 0).toNat % 2 ^ b := by
      cases l with
      | nil => rfl
      | cons y l =>
        show (y.toNat + 4294967296 * val l) % 2 ^ b = y.toNat % 2 ^ b
        rw [hB, Nat.mul_assoc, Nat.add_mul_mod_self_left]
    show (((x.toNat + 4294967296 * (l.headD 0).toNat) / 2 ^ b % 4294967296 : Nat) : Int).toNat + 4294967296 * val (srl b l) = (x.toNat + 4294967296 * val l) / 2 ^ b
    rw [ih, Int.toNat_natCast]
    have hxB : x.toNat < 2 ^ b * 2 ^ (32 - b) := by rw [← hB]; omega
    have hxd : x.toNat / 2 ^ b < 2 ^ (32 - b) := Nat.div_lt_of_lt_mul hxB
    revert hh hxd
    generalize (l.headD 0).toNat = g
    generalize val l = V
    generalize x.toNat = X
    intro hh hxd
    rw [hB]
    generalize hP : 2 ^ b = P at *
    generalize hQ : 2 ^ (32 - b) = Q at *
    have e1 : (X + P * Q * g) / P = X / P + Q * g := by rw [Nat.mul_assoc, Nat.add_mul_div_left _ _ hp]
    have e2 : (X + P * Q * V) / P = X / P + Q * V := by rw [Nat.mul_assoc, Nat.add_mul_div_left _ _ hp]
    rw [e1, e2]
    have e3 : (X / P + Q * g) % (P * Q) = X / P + Q * (g % P) := by
      have h1 : Q * g = Q * (g % P) + P * Q * (g / P) := by
        rw [Nat.mul_comm P Q, Nat.mul_assoc, ← Nat.mul_add, Nat.mod_add_div]
      rw [h1, ← Nat.add_assoc, Nat.add_mul_mod_self_left]
      apply Nat.mod_eq_of_lt
      have h2 : g % P < P := Nat.mod_lt _ hp
      have h3 : Q * (g % P + 1) ≤ Q * P := Nat.mul_le_mul_left _ h2
      rw [Nat.mul_add, Nat.mul_one, Nat.mul_comm Q P] at h3
      omega
    rw [e3, ← hh]
    have h4 : Q * V = Q * (V % P) + P * Q * (V / P) := by
      rw [Nat.mul_comm P Q, Nat.mul_assoc, ← Nat.mul_add, Nat.mod_add_div]
    omega

end NM

/- Contracts of nat: shifts. -/
set_option linter.unusedVariables false
namespace Go.Proofs.Ytjpefafkejklaaa
open Go Go.AL NM

theorem B_split {b : Nat} (hb : b ≤ 32) : 4294967296 = 2 ^ (32 - b) * 2 ^ b := by rw [← Nat.pow_add, show 32 - b + b = 32 by omega]
theorem mod_shl (x : Nat) {b : Nat} (hb : b ≤ 32) : x * 2 ^ b % 4294967296 = x % 2 ^ (32 - b) * 2 ^ b := by
  rw [B_split hb, Nat.mul_mod_mul_right]
theorem mod_shl_add (x c : Nat) {b : Nat} (hb : b ≤ 32) (hc : c < 2 ^ b) : x % 2 ^ (32 - b) * 2 ^ b + c < 4294967296 := by
  have h1 : x % 2 ^ (32 - b) + 1 ≤ 2 ^ (32 - b) := Nat.mod_lt _ (Nat.pow_pos (by decide))
  have h2 := Nat.mul_le_mul_right (2 ^ b) h1
  rw [← B_split hb, Nat.add_mul, Nat.one_mul] at h2
  omega
theorem shl_u64 {x : Int} {b : Nat} (hx : 0 ≤ x ∧ x < 4294967296) (hb : b < 32) : IntKind.u64.wrap (IntKind.u64.wrap x * 2 ^ (min (b : Int).toNat IntKind.u64.bits)) = ((x.toNat * 2 ^ b : Nat) : Int) := by
  have hy2 : x.toNat * 2 ^ b < 4294967296 * 2 ^ b := Nat.mul_lt_mul_of_pos_right (by omega) (Nat.pow_pos (by decide))
  have hb31 : 2 ^ b ≤ 2 ^ 31 := Nat.pow_le_pow_right (by decide) (by omega)
  have e0 : min (b : Int).toNat IntKind.u64.bits = b := by rw [Int.toNat_natCast]; exact Nat.min_eq_left (by show b ≤ 64; omega)
  have e1 : IntKind.u64.wrap x = (x.toNat : Int) := by rw [IntKind.wrap_u64]; omega
  rw [e0, e1, show ((x.toNat : Int) * 2 ^ b) = ((x.toNat * 2 ^ b : Nat) : Int) by rw [Int.natCast_mul, Int.natCast_pow]; rfl, IntKind.wrap_u64]
  omega
theorem or_u32 {x c b : Nat} (hb : b ≤ 32) (hc : c < 2 ^ b) : IntKind.u32.wrap ((BitVec.ofInt IntKind.u32.bits (c : Int) ||| BitVec.ofInt IntKind.u32.bits (IntKind.u32.wrap ((x * 2 ^ b : Nat) : Int))).toNat : Int) = ((c + x * 2 ^ b % 4294967296 : Nat) : Int) := by
  have h1 := mod_shl_add x c hb hc
  have e1 : IntKind.u32.wrap ((x * 2 ^ b : Nat) : Int) = ((x % 2 ^ (32 - b) * 2 ^ b : Nat) : Int) := by
    rw [IntKind.wrap_u32, ← mod_shl x hb]; omega
  rw [e1, mod_shl x hb]
  show IntKind.u32.wrap ((BitVec.ofInt 32 (c : Int) ||| BitVec.ofInt 32 ((x % 2 ^ (32 - b) * 2 ^ b : Nat) : Int)).toNat : Int) = _
  rw [or_add' 32 _ c b hc h1, IntKind.wrap_u32]
  omega
theorem shr_u64 {y : Nat} (h : y < 18446744073709551616) : IntKind.u32.wrap ((y : Int).fdiv (2 ^ (min (32 : Int).toNat IntKind.u64.bits))) = ((y / 4294967296 : Nat) : Int) := by
  show IntKind.u32.wrap ((y : Int).fdiv 4294967296) = _
  rw [Int.fdiv_eq_ediv_of_nonneg _ (by decide), IntKind.wrap_u32]
  omega

theorem Shl_ok (n : Nat) (k : Int) (hk : k < 1000000000) (hb : (limbs n).length < 1000000000) : AC Try.prog 32 [natA n, .val (.int .i64 k)] (.pure (natA (n * 2 ^ k.toNat))) := by
  refine AC.of_body TTok Try.func32 rfl (enter_of Try.func32 (by kernel_rfl) (by kernel_rfl)) (noid2 (natA_noid n) (.val _)) (natA_noid _) (Nat.le_of_ble_eq_true rfl) ?_
  have hva := val_limbs n
  have hLa := limbs_lim n
  have hnil := limbs_nil n
  have hz0 : k ≤ 0 → natA (n * 2 ^ k.toNat) = natA n := fun h => by rw [show k.toNat = 0 by omega]; simp
  have hz1 : limbs n = [] → natA (n * 2 ^ k.toNat) = natA n := fun h => by rw [hnil.1 h]; simp
  have hfin : ∀ l, val l = n * 2 ^ k.toNat → natA (val l) = natA (n * 2 ^ k.toNat) := fun l h => by rw [h]
  revert hz0 hz1 hfin
  generalize natA (n * 2 ^ k.toNat) = res
  unfold natA
  generalize limbs n = a at *
  subst hva
  intro hz0 hz1 hfin
  conv => whnf
  refine caseb (fun h1 => ?_) (fun h1 => ?_)
  · have h1' : k ≤ 0 := of_decide_eq_true h1
    conv => whnf
    exact (hz0 h1').symm
  have h1' : ¬ k ≤ 0 := of_decide_eq_false h1
  conv => whnf
  refine caseb (fun h2 => ?_) (fun h2 => ?_)
  · have h2' : ((irows .u32 a).length : Int) = 0 := of_decide_eq_true h2
    rw [irows_len] at h2'
    conv => whnf
    exact (hz1 (List.eq_nil_of_length_eq_zero (by omega))).symm
  have h2' : ¬ ((irows .u32 a).length : Int) = 0 := of_decide_eq_false h2
  rw [irows_len] at h2'
  obtain ⟨w, hw⟩ : ∃ w : Nat, w = k.toNat / 32 := ⟨_, rfl⟩
  obtain ⟨b, hbb⟩ : ∃ b : Nat, b = k.toNat % 32 := ⟨_, rfl⟩
  have ew : IntKind.i64.wrap (k.tdiv 32) = (w : Int) := by
    rw [Int.tdiv_eq_ediv_of_nonneg (by omega), IntWalk.i64_in _ (by omega)]; omega
  have eb : k.tmod 32 = (b : Int) := by
    rw [Int.tmod_eq_emod_of_nonneg (by omega)]; omega
  conv => whnf
  refine ⟨by decide, ?_⟩
  conv => whnf
  refine ⟨by decide, ?_⟩
  conv => whnf
  have e3 : IntKind.i64.wrap (IntKind.i64.wrap (((irows .u32 a).length : Int) + IntKind.i64.wrap (k.tdiv 32)) + 1) = ((a.length + w + 1 : Nat) : Int) := by
    rw [irows_len, ew, IntWalk.i64_in ((a.length : Int) + (w : Int)) (by omega), IntWalk.i64_in _ (by omega)]; omega
  refine ⟨⟨by rw [e3]; omega, by rw [e3]; omega, ?_⟩, ?_⟩
  · rw [e3]; show ((a.length + w + 1 : Nat) : Int) * 4 ≤ _; omega
  conv => whnf
  refine SW.loopM TTok (fun x : Nat × List Int => [(4, .lp 8 0), (5, .val (.int .i64 w)), (6, .val (.int .u64 b)), (7, .own 184 0 (a.length + w + 1)), (33, .sl 1 (irows .u32 a) false), (34, .val (.int .i64 a.length)), (35, .val (.int .i64 x.1))])
    (fun x => [(8, .cells 1 [[.sl 0 [] true]]), (184, .cells 1 (irows .u32 x.2))]) 232 66 rfl (fun x => a.length - x.1)
    (fun x => x.1 ≤ a.length ∧ x.2.length = a.length + w + 1 ∧ Lim x.2 ∧ val x.2 = val (a.take x.1) * 2 ^ b * 4294967296 ^ w ∧ (∃ c : Nat, c < 2 ^ b ∧ x.2[x.1 + w]? = some (c : Int)) ∧ ∀ p, x.1 + w < p → p < x.2.length → x.2[p]? = some 0)
    (0, List.replicate (a.length + w + 1) 0) [] ⟨Nat.zero_le _, by simp, Lim.rep _, by simp [val_rep, val], ⟨0, Nat.pow_pos (by decide), by show (List.replicate (a.length + w + 1) (0 : Int))[0 + w]? = some 0; rw [Nat.zero_add, List.getElem?_replicate, if_pos (by omega)]⟩, fun p _ hp => by simp at hp; simp [hp]⟩
    ⟨⟨rfl, rfl⟩, ⟨valI ?_, rfl⟩, ⟨valI ?_, rfl⟩, ⟨ownE rfl ?_, rfl⟩, ⟨rfl, rfl⟩, ⟨valI ?_, rfl⟩, ⟨rfl, rfl⟩, trivial⟩
    ⟨⟨rfl, .inr ⟨rfl, rfl⟩⟩, ⟨rfl, .inl ⟨celE ?_, irows_noid _ _⟩⟩, trivial⟩ rfl ?_
  · exact ew
  · rw [eb, IntKind.wrap_u64]; omega
  · rw [e3]; omega
  · rw [irows_len]
  · rw [e3, Int.toNat_natCast, ← irows_rep]; rfl
  rintro ⟨i, out⟩ hJ
  have hi : i ≤ a.length := hJ.1
  have hl : out.length = a.length + w + 1 := hJ.2.1
  have hL : Lim out := hJ.2.2.1
  have hv : val out = val (a.take i) * 2 ^ b * 4294967296 ^ w := hJ.2.2.2.1
  have hc : ∃ c : Nat, c < 2 ^ b ∧ out[i + w]? = some (c : Int) := hJ.2.2.2.2.1
  have hz : ∀ p, i + w < p → p < out.length → out[p]? = some 0 := hJ.2.2.2.2.2
  clear hJ
  obtain ⟨c, hcb, hc⟩ := hc
  conv => whnf
  refine caseb (fun h3 => ?_) (fun h3 => ?_)
  · have h3' : (i : Int) < (a.length : Int) := of_decide_eq_true h3
    have hlt : i < a.length := by omega
    have hx := hLa a[i] (List.getElem_mem _)
    conv => whnf
    refine ⟨[.val (.int .u32 a[i])], ⟨by omega, irows_get _ _ (List.getElem?_eq_getElem (by omega))⟩, ?_⟩
    conv => whnf
    refine ⟨by omega, ?_⟩
    conv => whnf
    have ei : IntKind.i64.wrap ((i : Int) + (w : Int)) = ((i + w : Nat) : Int) := by rw [IntWalk.i64_in _ (by omega)]; omega
    have ei1 : IntKind.i64.wrap (IntKind.i64.wrap ((i : Int) + (w : Int)) + 1) = ((i + w + 1 : Nat) : Int) := by rw [ei, IntWalk.i64_in _ (by omega)]; omega
    refine ⟨⟨by rw [ei]; omega, by rw [ei]; omega⟩, ?_⟩
    conv => whnf
    refine ⟨[.val (.int .u32 c)], (by rw [ei, Nat.zero_add, Int.toNat_natCast]; exact irows_get _ _ hc), ?_⟩
    conv => whnf
    refine ⟨⟨by rw [ei]; omega, by rw [ei]; omega⟩, ?_⟩
    conv => whnf
    refine ⟨by rw [ei, irows_len]; show 0 + ((i + w : Nat) : Int).toNat < out.length; omega, ?_⟩
    conv => whnf
    refine ⟨by decide, ?_⟩
    conv => whnf
    refine ⟨⟨by rw [ei1]; omega, by rw [ei1]; omega⟩, ?_⟩
    conv => whnf
    refine ⟨by rw [ei1, List.length_set, irows_len]; show 0 + ((i + w + 1 : Nat) : Int).toNat < out.length; omega, ?_⟩
    conv => whnf
    have hy2 : a[i].toNat * 2 ^ b < 4294967296 * 2 ^ b := Nat.mul_lt_mul_of_pos_right (by omega) (Nat.pow_pos (by decide))
    have hb31 : 2 ^ b ≤ 2 ^ 31 := Nat.pow_le_pow_right (by decide) (by omega)
    obtain ⟨y, hyy⟩ : ∃ y, y = a[i].toNat * 2 ^ b := ⟨_, rfl⟩
    have ey : IntKind.u64.wrap (IntKind.u64.wrap a[i] * 2 ^ (min (b : Int).toNat IntKind.u64.bits)) = (y : Int) := by
      rw [hyy]; exact shl_u64 hx (by omega)
    have eo : IntKind.u32.wrap ((BitVec.ofInt IntKind.u32.bits (c : Int) ||| BitVec.ofInt IntKind.u32.bits (IntKind.u32.wrap (y : Int))).toNat : Int) = ((c + y % 4294967296 : Nat) : Int) := by
      rw [hyy]; exact or_u32 (by omega) hcb
    have eh : IntKind.u32.wrap ((y : Int).fdiv (2 ^ (min (32 : Int).toNat IntKind.u64.bits))) = ((y / 4294967296 : Nat) : Int) := shr_u64 (by omega)
    have hpl : i + w + 1 < out.length := by omega
    have hc' : out[i + w] = (c : Int) := by
      have := List.getElem?_eq_getElem (l := out) (i := i + w) (by omega)
      rw [hc] at this
      exact (Option.some.inj this).symm
    have hz' : out[i + w + 1] = 0 := by
      have := List.getElem?_eq_getElem hpl
      rw [hz (i + w + 1) (by omega) hpl] at this
      exact (Option.some.inj this).symm
    have hst := shl_step (y := y) hpl hc' hz'
    have hcy : c + y % 4294967296 < 4294967296 := by
      rw [hyy, mod_shl _ (show b ≤ 32 by omega)]
      have := mod_shl_add a[i].toNat c (show b ≤ 32 by omega) hcb
      omega
    have hyb : y / 4294967296 < 2 ^ b := by
      rw [Nat.div_lt_iff_lt_mul (by decide), Nat.mul_comm]
      omega
    refine ⟨(i + 1, (out.set (i + w) ((c + y % 4294967296 : Nat) : Int)).set (i + w + 1) ((y / 4294967296 : Nat) : Int)), [], (by show a.length - (i + 1) < a.length - i; omega), ⟨(by show i + 1 ≤ a.length; omega), (by simp [hl]), (hL.set ⟨by omega, by omega⟩).set ⟨by omega, by omega⟩, ?_, ⟨y / 4294967296, hyb, ?_⟩, ?_⟩,
      ⟨⟨rfl, rfl⟩, ⟨rfl, rfl⟩, ⟨rfl, rfl⟩, ⟨rfl, rfl⟩, ⟨rfl, rfl⟩, ⟨rfl, rfl⟩, ⟨valI ?_, rfl⟩, trivial⟩, ⟨⟨rfl, .inr ⟨rfl, rfl⟩⟩, ⟨rfl, .inl ⟨celE ?_, irows_noid _ _⟩⟩, trivial⟩, rfl⟩
    · show val ((out.set (i + w) ((c + y % 4294967296 : Nat) : Int)).set (i + w + 1) ((y / 4294967296 : Nat) : Int)) = val (a.take (i + 1)) * 2 ^ b * 4294967296 ^ w
      rw [hst, hv, hyy, val_take_succ hlt, Nat.add_mul, Nat.add_mul, Nat.pow_add]
      congr 1
      rw [Nat.mul_assoc, Nat.mul_assoc, Nat.mul_assoc, Nat.mul_left_comm (2 ^ b)]
    · show ((out.set (i + w) ((c + y % 4294967296 : Nat) : Int)).set (i + w + 1) ((y / 4294967296 : Nat) : Int))[i + 1 + w]? = _
      rw [show i + 1 + w = i + w + 1 by omega, List.getElem?_set_self (by rw [List.length_set]; exact hpl)]
    · intro p hp1 hp2
      have hp1 : i + 1 + w < p := hp1
      show ((out.set (i + w) ((c + y % 4294967296 : Nat) : Int)).set (i + w + 1) ((y / 4294967296 : Nat) : Int))[p]? = some 0
      have hp2 : p < ((out.set (i + w) ((c + y % 4294967296 : Nat) : Int)).set (i + w + 1) ((y / 4294967296 : Nat) : Int)).length := hp2
      rw [List.length_set, List.length_set] at hp2
      rw [List.getElem?_set_ne (by omega), List.getElem?_set_ne (by omega)]
      exact hz p (by omega) hp2
    · show IntKind.i64.wrap ((i : Int) + 1) = ((i + 1 : Nat) : Int)
      rw [IntWalk.i64_in _ (by omega)]; omega
    · rw [ei1, ei, ey, eo, eh, Nat.zero_add, Nat.zero_add, Int.toNat_natCast, Int.toNat_natCast, ← irows_set, ← irows_set]
  · have h3' : ¬ (i : Int) < (a.length : Int) := of_decide_eq_false h3
    have hT := trim_ok out hL (by omega)
    have hlw : i = a.length := by omega
    rw [hlw, List.take_of_length_le (Nat.le_refl _)] at hv
    have hval : val out = val a * 2 ^ k.toNat := by
      rw [hv, Nat.mul_assoc, show k.toNat = b + 32 * w by omega, Nat.pow_add, Nat.pow_mul]
    have hT : AC Try.prog 64 [.sl 1 (List.take (a.length + w + 1) (List.drop 0 (irows .u32 out))) false] (.pure (natA (val out))) := by
      rw [List.drop_zero, List.take_of_length_le (by rw [irows_len]; omega)]
      exact hT
    conv => whnf
    refine ⟨by rw [irows_len]; show 0 + (a.length + w + 1) ≤ out.length; omega, _, hT, ?_⟩
    conv => whnf
    exact hfin _ hval

end Go.Proofs.Ytjpefafkejklaaa

/- Contracts of nat: shifts to the right. -/
set_option linter.unusedVariables false
namespace Go.Proofs.Ytjpefafkejklaaa
open Go Go.AL NM

theorem or_u64 {x h : Nat} (hx : x < 4294967296) (hh : h < 4294967296) : IntKind.u64.wrap ((BitVec.ofInt IntKind.u64.bits (x : Int) ||| BitVec.ofInt IntKind.u64.bits ((h * 4294967296 : Nat) : Int)).toNat : Int) = ((x + 4294967296 * h : Nat) : Int) := by
  have h1 := or_add' 64 h x 32 (by omega) (by omega)
  rw [show (2 : Nat) ^ 32 = 4294967296 by decide] at h1
  rw [show IntKind.u64.bits = 64 from rfl, h1, IntKind.wrap_u64]
  omega
theorem shl_32 {y : Int} (hy : 0 ≤ y ∧ y < 4294967296) : IntKind.u64.wrap (IntKind.u64.wrap y * 2 ^ (min (32 : Int).toNat IntKind.u64.bits)) = ((y.toNat * 4294967296 : Nat) : Int) := by
  show IntKind.u64.wrap (IntKind.u64.wrap y * 4294967296) = _
  simp only [IntKind.wrap_u64]
  omega
theorem shr_b {y b : Nat} (hb : b < 32) : IntKind.u32.wrap ((y : Int).fdiv (2 ^ (min (b : Int).toNat IntKind.u64.bits))) = ((y / 2 ^ b % 4294967296 : Nat) : Int) := by
  have e0 : min (b : Int).toNat IntKind.u64.bits = b := by rw [Int.toNat_natCast]; exact Nat.min_eq_left (by show b ≤ 64; omega)
  rw [e0, Int.fdiv_eq_ediv_of_nonneg _ (Int.pow_nonneg (by decide)), show ((2 : Int) ^ b) = ((2 ^ b : Nat) : Int) by rw [Int.natCast_pow]; rfl, IntKind.wrap_u32, ← Int.natCast_ediv]
  omega

theorem val_drop {a : List Int} (h : Lim a) {w : Nat} (hw : w ≤ a.length) : val (a.drop w) = val a / 4294967296 ^ w := by
  have h1 := val_append (a.take w) (a.drop w)
  rw [List.take_append_drop, List.length_take, Nat.min_eq_left hw] at h1
  have h2 := val_lt (l := a.take w) (fun x hx => h x (List.mem_of_mem_take hx))
  rw [List.length_take, Nat.min_eq_left hw] at h2
  rw [h1, Nat.add_mul_div_left _ _ (Nat.pow_pos (by decide)), Nat.div_eq_of_lt h2, Nat.zero_add]

theorem set_step {q : List Int} {L i : Nat} (hq : q.length = L) (hi : i < L) {v : Int} (hv : q[i]? = some v) : (q.take i ++ List.replicate (L - i) (0 : Int)).set i v = q.take (i + 1) ++ List.replicate (L - (i + 1)) (0 : Int) := by
  have h1 : (q.take i).length = i := by rw [List.length_take]; omega
  rw [List.set_append_right _ _ (by omega), h1, Nat.sub_self, show L - i = (L - (i + 1)) + 1 by omega, List.replicate_succ, List.set_cons_zero, List.take_add_one, hv]
  simp

theorem Shr_far (n : Nat) (k : Int) (hk : k < 1000000000) (hk0 : 0 < k) (hb : (limbs n).length < 1000000000) (hf : (limbs n).length ≤ k.toNat / 32) : AC Try.prog 33 [natA n, .val (.int .i64 k)] (.pure (natA (n / 2 ^ k.toNat))) := by
  have e0 : n / 2 ^ k.toNat = 0 := by
    apply Nat.div_eq_of_lt
    have := val_lt (limbs_lim n)
    rw [val_limbs, pow32] at this
    exact Nat.lt_of_lt_of_le this (Nat.pow_le_pow_right (by decide) (by omega))
  rw [e0]
  refine AC.le_res (v := .agg [.sl 0 [] true]) ?_ zero_le (natA_noid _)
  refine AC.of_body TTok Try.func33 rfl (enter_of Try.func33 (by kernel_rfl) (by kernel_rfl)) (noid2 (natA_noid n) (.val _)) zero_noid (Nat.le_of_ble_eq_true rfl) ?_
  unfold natA
  obtain ⟨w, hw⟩ : ∃ w : Nat, w = k.toNat / 32 := ⟨_, rfl⟩
  have ew : IntKind.i64.wrap (k.tdiv 32) = (w : Int) := by
    rw [Int.tdiv_eq_ediv_of_nonneg (by omega), IntWalk.i64_in _ (by omega)]; omega
  conv => whnf
  refine caseb (fun h1 => ?_) (fun h1 => ?_)
  · have h1' : k ≤ 0 := of_decide_eq_true h1
    omega
  conv => whnf
  refine ⟨by decide, ?_⟩
  conv => whnf
  refine ⟨by decide, ?_⟩
  conv => whnf
  refine caseb (fun h2 => ?_) (fun h2 => ?_)
  · conv => whnf
    exact rfl
  · have h2' : ¬ IntKind.i64.wrap (k.tdiv 32) ≥ ((irows .u32 (limbs n)).length : Int) := of_decide_eq_false h2
    rw [ew, irows_len] at h2'
    omega

theorem Shr_near (n : Nat) (k : Int) (hk : k < 1000000000) (hb : (limbs n).length < 1000000000) (hf : k ≤ 0 ∨ k.toNat / 32 < (limbs n).length) : AC Try.prog 33 [natA n, .val (.int .i64 k)] (.pure (natA (n / 2 ^ k.toNat))) := by
  refine AC.of_body TTok Try.func33 rfl (enter_of Try.func33 (by kernel_rfl) (by kernel_rfl)) (noid2 (natA_noid n) (.val _)) (natA_noid _) (Nat.le_of_ble_eq_true rfl) ?_
  have hva := val_limbs n
  have hLa := limbs_lim n
  have hz0 : k ≤ 0 → natA (n / 2 ^ k.toNat) = natA n := fun h => by rw [show k.toNat = 0 by omega, Nat.pow_zero, Nat.div_one]
  have hfin : ∀ l, val l = n / 2 ^ k.toNat → natA (val l) = natA (n / 2 ^ k.toNat) := fun l h => by rw [h]
  revert hz0 hfin
  generalize natA (n / 2 ^ k.toNat) = res
  unfold natA
  generalize limbs n = a at *
  subst hva
  intro hz0 hfin
  conv => whnf
  refine caseb (fun h1 => ?_) (fun h1 => ?_)
  · have h1' : k ≤ 0 := of_decide_eq_true h1
    conv => whnf
    exact (hz0 h1').symm
  have h1' : ¬ k ≤ 0 := of_decide_eq_false h1
  obtain ⟨w, hw⟩ : ∃ w : Nat, w = k.toNat / 32 := ⟨_, rfl⟩
  obtain ⟨b, hbb⟩ : ∃ b : Nat, b = k.toNat % 32 := ⟨_, rfl⟩
  have ew : IntKind.i64.wrap (k.tdiv 32) = (w : Int) := by
    rw [Int.tdiv_eq_ediv_of_nonneg (by omega), IntWalk.i64_in _ (by omega)]; omega
  have eb : k.tmod 32 = (b : Int) := by
    rw [Int.tmod_eq_emod_of_nonneg (by omega)]; omega
  have hwl : w < a.length := by omega
  conv => whnf
  refine ⟨by decide, ?_⟩
  conv => whnf
  refine ⟨by decide, ?_⟩
  conv => whnf
  refine caseb (fun h2 => ?_) (fun h2 => ?_)
  · have h2' : IntKind.i64.wrap (k.tdiv 32) ≥ ((irows .u32 a).length : Int) := of_decide_eq_true h2
    rw [ew, irows_len] at h2'
    omega
  have e3 : IntKind.i64.wrap (((irows .u32 a).length : Int) - IntKind.i64.wrap (k.tdiv 32)) = ((a.length - w : Nat) : Int) := by
    rw [irows_len, ew, IntWalk.i64_in _ (by omega)]; omega
  obtain ⟨s, hs⟩ : ∃ s, s = a.drop w := ⟨_, rfl⟩
  have hsl : s.length = a.length - w := by rw [hs, List.length_drop]
  have hsL : Lim s := by rw [hs]; exact fun x hx => hLa x (List.mem_of_mem_drop hx)
  have hsv : val (srl b s) = val a / 2 ^ k.toNat := by
    rw [srl_val b (by omega) s hsL, hs, val_drop hLa (by omega), Nat.div_div_eq_div_mul, pow32, ← Nat.pow_add, show 32 * w + b = k.toNat by omega]
  conv => whnf
  refine ⟨⟨by rw [e3]; omega, by rw [e3]; omega, ?_⟩, ?_⟩
  · rw [e3]; show ((a.length - w : Nat) : Int) * 4 ≤ _; omega
  conv => whnf
  refine SW.loopM TTok (fun i : Nat => [(2, .lp 0 0), (4, .lp 8 0), (5, .val (.int .i64 w)), (6, .val (.int .u64 b)), (7, .own 168 0 (a.length - w)), (31, .val (.int .i64 (a.length - w : Nat))), (32, .val (.int .i64 i))])
    (fun i => [(0, .cells 1 [[.sl 1 (irows .u32 a) false]]), (8, .cells 1 [[.sl 0 [] true]]), (168, .cells 1 (irows .u32 ((srl b s).take i ++ List.replicate (a.length - w - i) 0)))]) 208 73 rfl (fun i => a.length - w - i)
    (fun i => i ≤ a.length - w) 0 [] (Nat.zero_le _)
    ⟨⟨rfl, rfl⟩, ⟨rfl, rfl⟩, ⟨valI ew, rfl⟩, ⟨valI ?_, rfl⟩, ⟨ownE rfl ?_, rfl⟩, ⟨valI ?_, rfl⟩, ⟨rfl, rfl⟩, trivial⟩
    ⟨⟨rfl, .inr ⟨rfl, rfl⟩⟩, ⟨rfl, .inr ⟨rfl, rfl⟩⟩, ⟨rfl, .inl ⟨celE ?_, irows_noid _ _⟩⟩, trivial⟩ rfl ?_
  · rw [eb, IntKind.wrap_u64]; omega
  · rw [e3]; omega
  · rw [e3]; omega
  · rw [e3, Int.toNat_natCast]
    show _ = irows .u32 (List.replicate (a.length - w - 0) 0)
    rw [← irows_rep]; rfl
  intro i hi
  have hi : i ≤ a.length - w := hi
  have hol : ((srl b s).take i ++ List.replicate (a.length - w - i) (0 : Int)).length = a.length - w := by
    rw [List.length_append, List.length_take, srl_len, List.length_replicate, hsl]; omega
  obtain ⟨out, hout⟩ : ∃ out, out = (srl b s).take i ++ List.replicate (a.length - w - i) (0 : Int) := ⟨_, rfl⟩
  rw [← hout] at hol ⊢
  conv => whnf
  refine caseb (fun h3 => ?_) (fun h3 => ?_)
  · have h3' : (i : Int) < ((a.length - w : Nat) : Int) := of_decide_eq_true h3
    have hlt : i + w < a.length := by omega
    have hx := hLa a[i + w] (List.getElem_mem _)
    have ei : IntKind.i64.wrap ((i : Int) + (w : Int)) = ((i + w : Nat) : Int) := by rw [IntWalk.i64_in _ (by omega)]; omega
    have ei1 : IntKind.i64.wrap (IntKind.i64.wrap ((i : Int) + (w : Int)) + 1) = ((i + w + 1 : Nat) : Int) := by rw [ei, IntWalk.i64_in _ (by omega)]; omega
    conv => whnf
    refine ⟨[.val (.int .u32 a[i + w])], ⟨by rw [ei]; omega, by rw [ei]; exact irows_get _ _ (List.getElem?_eq_getElem (by omega))⟩, ?_⟩
    conv => whnf
    refine caseb (fun h4 => ?_) (fun h4 => ?_)
    · have h4' : IntKind.i64.wrap (IntKind.i64.wrap ((i : Int) + (w : Int)) + 1) < ((irows .u32 a).length : Int) := of_decide_eq_true h4
      rw [ei1, irows_len] at h4'
      have hx2 := hLa a[i + w + 1] (List.getElem_mem _)
      have hget := srl_get b s i (by omega)
      have hsi : s[i]'(by omega) = a[i + w] := by simp only [hs, List.getElem_drop, Nat.add_comm w i]
      have hsi1 : s.getD (i + 1) 0 = a[i + w + 1] := by
        rw [List.getD, List.getElem?_eq_getElem (by omega), Option.getD_some]
        simp only [hs, List.getElem_drop]
        congr 1; omega
      rw [hsi, hsi1] at hget
      have eor : IntKind.u64.wrap ((BitVec.ofInt IntKind.u64.bits (IntKind.u64.wrap a[i + w]) ||| BitVec.ofInt IntKind.u64.bits (IntKind.u64.wrap (IntKind.u64.wrap a[i + w + 1] * 2 ^ (min (32 : Int).toNat IntKind.u64.bits)))).toNat : Int) = ((a[i + w].toNat + 4294967296 * a[i + w + 1].toNat : Nat) : Int) := by
        rw [shl_32 hx2, show IntKind.u64.wrap a[i + w] = (a[i + w].toNat : Int) by rw [IntKind.wrap_u64]; omega]
        exact or_u64 (by omega) (by omega)
      conv => whnf
      refine ⟨[.val (.int .u32 a[i + w + 1])], ⟨by rw [ei1]; omega, by rw [ei1]; exact irows_get _ _ (List.getElem?_eq_getElem (by omega))⟩, ?_⟩
      conv => whnf
      refine ⟨by decide, ?_⟩
      conv => whnf
      refine ⟨by omega, ?_⟩
      conv => whnf
      refine ⟨⟨by omega, by omega⟩, ?_⟩
      conv => whnf
      refine ⟨by rw [irows_len]; show 0 + ((i : Nat) : Int).toNat < out.length; omega, ?_⟩
      conv => whnf
      refine ⟨i + 1, [], (by show a.length - w - (i + 1) < a.length - w - i; omega), (by show i + 1 ≤ a.length - w; omega),
        ⟨⟨rfl, rfl⟩, ⟨rfl, rfl⟩, ⟨rfl, rfl⟩, ⟨rfl, rfl⟩, ⟨rfl, rfl⟩, ⟨rfl, rfl⟩, ⟨valI ?_, rfl⟩, trivial⟩, ⟨⟨rfl, .inr ⟨rfl, rfl⟩⟩, ⟨rfl, .inr ⟨rfl, rfl⟩⟩, ⟨rfl, .inl ⟨celE ?_, irows_noid _ _⟩⟩, trivial⟩, rfl⟩
      · show IntKind.i64.wrap ((i : Int) + 1) = ((i + 1 : Nat) : Int)
        rw [IntWalk.i64_in _ (by omega)]; omega
      · rw [eor, shr_b (by omega), Nat.zero_add, Int.toNat_natCast, ← set_step (by rw [srl_len, hsl]) (by omega) hget, ← hout, irows_set]
    · have h4' : ¬ IntKind.i64.wrap (IntKind.i64.wrap ((i : Int) + (w : Int)) + 1) < ((irows .u32 a).length : Int) := of_decide_eq_false h4
      rw [ei1, irows_len] at h4'
      have hget := srl_get b s i (by omega)
      have hsi : s[i]'(by omega) = a[i + w] := by simp only [hs, List.getElem_drop, Nat.add_comm w i]
      have hsi1 : s.getD (i + 1) 0 = 0 := by
        rw [List.getD, List.getElem?_eq_none (by omega), Option.getD_none]
      rw [hsi, hsi1] at hget
      have ex : IntKind.u64.wrap a[i + w] = ((a[i + w].toNat + 4294967296 * (0 : Int).toNat : Nat) : Int) := by rw [IntKind.wrap_u64]; omega
      conv => whnf
      refine ⟨by omega, ?_⟩
      conv => whnf
      refine ⟨⟨by omega, by omega⟩, ?_⟩
      conv => whnf
      refine ⟨by rw [irows_len]; show 0 + ((i : Nat) : Int).toNat < out.length; omega, ?_⟩
      conv => whnf
      refine ⟨i + 1, [], (by show a.length - w - (i + 1) < a.length - w - i; omega), (by show i + 1 ≤ a.length - w; omega),
        ⟨⟨rfl, rfl⟩, ⟨rfl, rfl⟩, ⟨rfl, rfl⟩, ⟨rfl, rfl⟩, ⟨rfl, rfl⟩, ⟨rfl, rfl⟩, ⟨valI ?_, rfl⟩, trivial⟩, ⟨⟨rfl, .inr ⟨rfl, rfl⟩⟩, ⟨rfl, .inr ⟨rfl, rfl⟩⟩, ⟨rfl, .inl ⟨celE ?_, irows_noid _ _⟩⟩, trivial⟩, rfl⟩
      · show IntKind.i64.wrap ((i : Int) + 1) = ((i + 1 : Nat) : Int)
        rw [IntWalk.i64_in _ (by omega)]; omega
      · rw [ex, shr_b (by omega), Nat.zero_add, Int.toNat_natCast, ← set_step (by rw [srl_len, hsl]) (by omega) hget, ← hout, irows_set]
  · have h3' : ¬ (i : Int) < ((a.length - w : Nat) : Int) := of_decide_eq_false h3
    have hei : i = a.length - w := by omega
    have hos : out = srl b s := by
      rw [hout, hei, Nat.sub_self, List.replicate_zero, List.append_nil, List.take_of_length_le (by rw [srl_len, hsl]; exact Nat.le_refl _)]
    have hT : AC Try.prog 64 [.sl 1 (List.take (a.length - w) (List.drop 0 (irows .u32 out))) false] (.pure (natA (val out))) := by
      rw [List.drop_zero, List.take_of_length_le (by rw [irows_len]; omega)]
      exact trim_ok out (by rw [hos]; exact srl_lim b s) (by omega)
    conv => whnf
    refine ⟨by rw [irows_len]; show 0 + (a.length - w) ≤ out.length; omega, _, hT, ?_⟩
    conv => whnf
    exact hfin _ (by rw [hos]; exact hsv)

end Go.Proofs.Ytjpefafkejklaaa

/- Decimal digits that change: plain facts, no program in sight. -/
set_option linter.unusedVariables false
namespace NM

/-- The value of digits, the least one first. -/
def dval : List Int → Nat
  | [] => 0
  | x :: l => x.toNat + 10 * dval l
theorem dval_set : ∀ (l : List Int) (k : Nat) (v : Int) (hk : k < l.length), dval (l.set k v) + (l[k]).toNat * 10 ^ k = dval l + v.toNat * 10 ^ k
  | [], k, v, hk => absurd hk (Nat.not_lt_zero _)
  | x :: l, 0, v, hk => by simp [dval]; omega
  | x :: l, k + 1, v, hk => by
    have := dval_set l k v (by simpa using hk)
    simp only [List.set_cons_succ, dval, List.getElem_cons_succ, Nat.pow_succ]
    rw [← Nat.mul_assoc, ← Nat.mul_assoc]
    omega
theorem dval_rep (k : Nat) : dval (List.replicate k 0) = 0 := by
  induction k with
  | zero => rfl
  | succ k ih => rw [List.replicate_succ, dval, ih]; rfl
/-- One step of a row of a product. -/
theorem dmul_step {out : List Int} {p c t A : Nat} (hp : p < out.length) (hv : dval out + c * 10 ^ p = A) {z : Nat} (ht : t = z + (out[p]).toNat + c) :
    dval (out.set p ((t % 10 : Nat) : Int)) + t / 10 * 10 ^ (p + 1) = A + z * 10 ^ p := by
  have hs := dval_set out p ((t % 10 : Nat) : Int) hp
  have hd := Nat.mod_add_div t 10
  rw [Int.toNat_natCast] at hs
  generalize dval (out.set p ((t % 10 : Nat) : Int)) = V at *
  generalize (out[p]).toNat = o at *
  rw [Nat.pow_succ, ← Nat.mul_assoc]
  generalize 10 ^ p = B at *
  have e1 : t / 10 * B * 10 = 10 * (t / 10) * B := by rw [Nat.mul_comm (t / 10 * B), Nat.mul_assoc]
  have e2 : t * B = t % 10 * B + 10 * (t / 10) * B := by rw [← Nat.add_mul, hd]
  have e3 : t * B = z * B + o * B + c * B := by rw [ht, Nat.add_mul, Nat.add_mul]
  omega
/-- A number's first digits. -/
theorem mod_pow_succ (n i : Nat) : n % 10 ^ (i + 1) = n % 10 ^ i + n / 10 ^ i % 10 * 10 ^ i := by
  rw [Nat.pow_succ, Nat.mod_mul, Nat.mul_comm]

end NM

/- Contracts: shifts to the right; the reference's products. -/
set_option linter.unusedVariables false
namespace Go.Proofs.Ytjpefafkejklaaa
open Go Go.AL NM

theorem Shr_ok (n : Nat) (k : Int) (hk : k < 1000000000) (hb : (limbs n).length < 1000000000) : AC Try.prog 33 [natA n, .val (.int .i64 k)] (.pure (natA (n / 2 ^ k.toNat))) := by
  by_cases h : k ≤ 0 ∨ k.toNat / 32 < (limbs n).length
  · exact Shr_near n k hk hb h
  · exact Shr_far n k hk (by omega) hb (by omega)

theorem dval_valD : ∀ l : List Int, dval l = valD l
  | [] => rfl
  | x :: l => by rw [dval, valD, dval_valD l]
theorem mod_lt_dec {n i : Nat} (h : (decL n).length ≤ i) : n % 10 ^ i = n := Nat.mod_eq_of_lt (Nat.lt_of_lt_of_le (decL_lt n) (Nat.pow_le_pow_right (by decide) h))
theorem getE {l : List Int} {k : Nat} {v : Int} (hk : k < l.length) (h : l[k]? = some v) : l[k] = v := by
  rw [List.getElem?_eq_getElem hk] at h
  exact Option.some.inj h

theorem RMul_ok (n m : Nat) (hb : (decL n).length + (decL m).length < 1000000000) : AC Try.prog 28 [.val (.string (decS n)), .val (.string (decS m))] (.pure (.val (.string (decS (n * m))))) := by
  refine AC.of_body TTok Try.func28 rfl (enter_of Try.func28 (by kernel_rfl) (by kernel_rfl)) (noid2 (.val _) (.val _)) (.val _) (Nat.le_of_ble_eq_true rfl) ?_
  obtain ⟨la, hla⟩ : ∃ la, la = (decL n).length := ⟨_, rfl⟩
  obtain ⟨lb, hlb⟩ : ∃ lb, lb = (decL m).length := ⟨_, rfl⟩
  have z1 : (decS n).size = la := by rw [hla]; exact strL_size _
  have z2 : (decS m).size = lb := by rw [hlb]; exact strL_size _
  rw [← hla, ← hlb] at hb
  have dn : ∀ i, AC Try.prog 65 [.val (.string (decS n)), .val (.int .i64 (i : Nat))] (.pure (.val (.int .i64 (n / 10 ^ i % 10 : Nat)))) := fun i => by
    have := digit_ok (decL n) (decL_byt n) i (by omega)
    rwa [digE_dec] at this
  have dm : ∀ i, AC Try.prog 65 [.val (.string (decS m)), .val (.int .i64 (i : Nat))] (.pure (.val (.int .i64 (m / 10 ^ i % 10 : Nat)))) := fun i => by
    have := digit_ok (decL m) (decL_byt m) i (by omega)
    rwa [digE_dec] at this
  have e0 : IntKind.i64.wrap (IntKind.i64.wrap (((decS n).size : Int) + ((decS m).size : Int)) + 1) = ((la + lb + 1 : Nat) : Int) := by
    rw [z1, z2, IntWalk.i64_in ((la : Int) + (lb : Int)) (by omega), IntWalk.i64_in _ (by omega)]; omega
  conv => whnf
  refine ⟨⟨by rw [e0]; omega, by rw [e0]; omega, ?_⟩, ?_⟩
  · rw [e0]; show ((la + lb + 1 : Nat) : Int) * 8 ≤ _; omega
  conv => whnf
  refine SW.loopM TTok (fun x : Nat × List Int => [(0, .val (.string (decS n))), (1, .val (.string (decS m))), (5, .own 56 0 (la + lb + 1)), (6, .val (.int .i64 x.1))])
    (fun x => [(56, .cells 1 (irows .i64 x.2))]) 80 60 rfl (fun x => la - x.1)
    (fun x => x.1 ≤ la ∧ x.2.length = la + lb + 1 ∧ Dg x.2 ∧ dval x.2 = n % 10 ^ x.1 * m ∧ ∀ p, x.1 + lb ≤ p → p < x.2.length → x.2[p]? = some 0)
    (0, List.replicate (la + lb + 1) 0) [] ⟨Nat.zero_le _, by simp, (fun x hx => by have := List.eq_of_mem_replicate hx; omega), (by show dval (List.replicate (la + lb + 1) 0) = n % 1 * m; rw [dval_rep, Nat.mod_one, Nat.zero_mul]), fun p _ hp => by simp at hp; simp [hp]⟩
    ⟨⟨rfl, rfl⟩, ⟨rfl, rfl⟩, ⟨ownE rfl ?_, rfl⟩, ⟨rfl, rfl⟩, trivial⟩ ⟨⟨rfl, .inl ⟨celE ?_, irows_noid _ _⟩⟩, trivial⟩ rfl ?_
  · rw [e0]; omega
  · rw [e0, Int.toNat_natCast, ← irows_rep]; rfl
  rintro ⟨i, out⟩ hJ
  have hi : i ≤ la := hJ.1
  have hl : out.length = la + lb + 1 := hJ.2.1
  have hD : Dg out := hJ.2.2.1
  have hv : dval out = n % 10 ^ i * m := hJ.2.2.2.1
  have hz : ∀ p, i + lb ≤ p → p < out.length → out[p]? = some 0 := hJ.2.2.2.2
  clear hJ
  conv => whnf
  refine caseb (fun h1 => ?_) (fun h1 => ?_)
  · have h1' : (i : Int) < ((decS n).size : Int) := of_decide_eq_true h1
    rw [z1] at h1'
    conv => whnf
    refine SW.loopM TTok (fun x : Nat × Nat × List Int => [(0, .val (.string (decS n))), (1, .val (.string (decS m))), (5, .own 56 0 (la + lb + 1)), (6, .val (.int .i64 i)), (7, .val (.int .i64 x.2.1)), (8, .val (.int .i64 x.1))])
      (fun x => [(56, .cells 1 (irows .i64 x.2.2))]) 128 60 rfl (fun x => lb + 1 - x.1)
      (fun x => x.1 ≤ lb + 1 ∧ x.2.1 ≤ 9 ∧ (x.1 = lb + 1 → x.2.1 = 0) ∧ x.2.2.length = la + lb + 1 ∧ Dg x.2.2 ∧ dval x.2.2 + x.2.1 * 10 ^ (i + x.1) = n % 10 ^ i * m + n / 10 ^ i % 10 * (m % 10 ^ x.1) * 10 ^ i ∧ ∀ p, i + lb ≤ p → i + x.1 ≤ p → p < x.2.2.length → x.2.2[p]? = some 0)
      (0, 0, out) [] ⟨Nat.zero_le _, Nat.zero_le _, fun _ => rfl, hl, hD, (by show dval out + 0 * _ = n % 10 ^ i * m + n / 10 ^ i % 10 * (m % 1) * 10 ^ i; rw [hv, Nat.mod_one]; simp), fun p h1 _ h2 => hz p h1 h2⟩
      ⟨⟨rfl, rfl⟩, ⟨rfl, rfl⟩, ⟨rfl, rfl⟩, ⟨rfl, rfl⟩, ⟨rfl, rfl⟩, ⟨rfl, rfl⟩, trivial⟩ ⟨⟨rfl, .inl ⟨rfl, irows_noid _ _⟩⟩, trivial⟩ rfl ?_
    clear hl hD hv hz
    rintro ⟨j, c, out⟩ hJ
    have hj : j ≤ lb + 1 := hJ.1
    have hc : c ≤ 9 := hJ.2.1
    have hc0 : j = lb + 1 → c = 0 := hJ.2.2.1
    have hl : out.length = la + lb + 1 := hJ.2.2.2.1
    have hD : Dg out := hJ.2.2.2.2.1
    have hv : dval out + c * 10 ^ (i + j) = n % 10 ^ i * m + n / 10 ^ i % 10 * (m % 10 ^ j) * 10 ^ i := hJ.2.2.2.2.2.1
    have hz : ∀ p, i + lb ≤ p → i + j ≤ p → p < out.length → out[p]? = some 0 := hJ.2.2.2.2.2.2
    clear hJ
    conv => whnf
    refine caseb (fun h2 => ?a) (fun h2 => ?q)
    case' q =>
      conv => whnf
      refine caseb (fun h3 => ?b) (fun h3 => ?q2)
    case q2 =>
      have h2' : ¬ (j : Int) < ((decS m).size : Int) := of_decide_eq_false h2
      have h3' : ¬ (c : Int) > 0 := of_decide_eq_false h3
      rw [z2] at h2'
      conv => whnf
      refine ⟨(i + 1, out), [], (by show la - (i + 1) < la - i; omega), ⟨(by show i + 1 ≤ la; omega), hl, hD, ?_, fun p hp1 hp2 => hz p (by have : i + 1 + lb ≤ p := hp1; omega) (by have : i + 1 + lb ≤ p := hp1; omega) hp2⟩,
        ⟨⟨rfl, rfl⟩, ⟨rfl, rfl⟩, ⟨rfl, rfl⟩, ⟨valI ?_, rfl⟩, trivial⟩, ⟨⟨rfl, .inl ⟨rfl, irows_noid _ _⟩⟩, trivial⟩, rfl⟩
      · show dval out = n % 10 ^ (i + 1) * m
        rw [mod_pow_succ, Nat.add_mul]
        rw [show c = 0 by omega, mod_lt_dec (show (decL m).length ≤ j by omega)] at hv
        rw [Nat.zero_mul, Nat.add_zero] at hv
        rw [hv, Nat.mul_assoc, Nat.mul_assoc, Nat.mul_comm m]
      · show IntKind.i64.wrap ((i : Int) + 1) = ((i + 1 : Nat) : Int)
        rw [IntWalk.i64_in _ (by omega)]; omega
    case' a =>
      have hj1 : j ≤ lb := by
        have h2' : (j : Int) < ((decS m).size : Int) := of_decide_eq_true h2
        rw [z2] at h2'
        omega
    case' b =>
      have hj1 : j ≤ lb := by
        have h3' : (c : Int) > 0 := of_decide_eq_true h3
        rcases Nat.lt_or_ge j (lb + 1) with h | h
        · omega
        · have := hc0 (by omega); omega
    all_goals
      have ew : IntKind.i64.wrap ((i : Int) + (j : Int)) = ((i + j : Nat) : Int) := by rw [IntWalk.i64_in _ (by omega)]; omega
      have hp : i + j < out.length := by omega
      have ho := hD (out[i + j]'hp) (List.getElem_mem _)
      have h9 : n / 10 ^ i % 10 * (m / 10 ^ j % 10) ≤ 9 * 9 := Nat.mul_le_mul (by omega) (by omega)
      obtain ⟨t, ht⟩ : ∃ t, t = n / 10 ^ i % 10 * (m / 10 ^ j % 10) + (out[i + j]'hp).toNat + c := ⟨_, rfl⟩
      have et : IntKind.i64.wrap (IntKind.i64.wrap ((out[i + j]'hp) + IntKind.i64.wrap (((n / 10 ^ i % 10 : Nat) : Int) * ((m / 10 ^ j % 10 : Nat) : Int))) + (c : Int)) = (t : Int) := by
        rw [← Int.natCast_mul, IntWalk.i64_in ((n / 10 ^ i % 10 * (m / 10 ^ j % 10) : Nat) : Int) (by omega), IntWalk.i64_in ((out[i + j]'hp) + _) (by omega), IntWalk.i64_in _ (by omega)]; omega
      have em : (t : Int).tmod 10 = ((t % 10 : Nat) : Int) := by
        rw [Int.tmod_eq_emod_of_nonneg (Int.natCast_nonneg _)]; omega
      have ed : IntKind.i64.wrap ((t : Int).tdiv 10) = ((t / 10 : Nat) : Int) := by
        rw [Int.tdiv_eq_ediv_of_nonneg (Int.natCast_nonneg _), IntWalk.i64_in _ (by omega)]; omega
      have hst := dmul_step hp hv ht
      have ht99 : t ≤ 99 := by omega
      have hcn : j = lb → t / 10 = 0 := fun e => by
        have h0 : m / 10 ^ j = 0 := decL_div (show (decL m).length ≤ j by omega)
        have h1 := getE hp (hz (i + j) (by omega) (by omega) hp)
        rw [h0, h1] at ht
        simp at ht
        omega
      conv => whnf
      refine ⟨⟨by rw [ew]; omega, by rw [ew]; omega⟩, ?_⟩
      conv => whnf
      refine ⟨[.val (.int .i64 (out[i + j]'hp))], (by rw [ew, Nat.zero_add, Int.toNat_natCast]; exact irows_get _ _ (List.getElem?_eq_getElem (by omega))), ?_⟩
      conv => whnf
      refine ⟨_, dn i, ?_⟩
      conv => whnf
      refine ⟨_, dm j, ?_⟩
      conv => whnf
      refine ⟨by kernel_rfl, ?_⟩
      conv => whnf
      refine ⟨by decide, ?_⟩
      conv => whnf
      refine ⟨⟨by rw [ew]; omega, by rw [ew]; omega⟩, ?_⟩
      conv => whnf
      refine ⟨by rw [ew, irows_len]; show 0 + ((i + j : Nat) : Int).toNat < out.length; omega, ?_⟩
      conv => whnf
      refine ⟨by decide, ?_⟩
      conv => whnf
      refine ⟨(j + 1, t / 10, out.set (i + j) ((t % 10 : Nat) : Int)), [], (by show lb + 1 - (j + 1) < lb + 1 - j; omega), ⟨(by show j + 1 ≤ lb + 1; omega), (by show t / 10 ≤ 9; omega), (fun e => hcn (by have e : j + 1 = lb + 1 := e; omega)), (by show (out.set _ _).length = _; rw [List.length_set, hl]), ?_, ?_, ?_⟩,
        ⟨⟨rfl, rfl⟩, ⟨rfl, rfl⟩, ⟨rfl, rfl⟩, ⟨rfl, rfl⟩, ⟨valI ?_, rfl⟩, ⟨valI ?_, rfl⟩, trivial⟩, ⟨⟨rfl, .inl ⟨celE ?_, irows_noid _ _⟩⟩, trivial⟩, rfl⟩
      · intro x hx
        rcases List.mem_or_eq_of_mem_set hx with hx | rfl
        · exact hD x hx
        · omega
      · show dval (out.set (i + j) ((t % 10 : Nat) : Int)) + t / 10 * 10 ^ (i + (j + 1)) = n % 10 ^ i * m + n / 10 ^ i % 10 * (m % 10 ^ (j + 1)) * 10 ^ i
        rw [← Nat.add_assoc i j 1, hst, mod_pow_succ m j, Nat.mul_add, Nat.add_mul, Nat.add_assoc]
        congr 2
        rw [Nat.pow_add, Nat.mul_comm (10 ^ i), ← Nat.mul_assoc, ← Nat.mul_assoc]
      · intro p hp1 hp2 hp3
        have hp2 : i + (j + 1) ≤ p := hp2
        have hp3 : p < (out.set (i + j) ((t % 10 : Nat) : Int)).length := hp3
        rw [List.length_set] at hp3
        show (out.set (i + j) ((t % 10 : Nat) : Int))[p]? = some 0
        rw [List.getElem?_set_ne (by omega)]
        exact hz p hp1 (by omega) hp3
      · show IntKind.i64.wrap (Int.tdiv (IntKind.i64.wrap (IntKind.i64.wrap ((out[i + j]'hp) + IntKind.i64.wrap (((n / 10 ^ i % 10 : Nat) : Int) * ((m / 10 ^ j % 10 : Nat) : Int))) + (c : Int))) 10) = _
        rw [et, ed]
      · show IntKind.i64.wrap ((j : Int) + 1) = ((j + 1 : Nat) : Int)
        rw [IntWalk.i64_in _ (by omega)]; omega
      · show (irows .i64 out).set (0 + (IntKind.i64.wrap ((i : Int) + (j : Int))).toNat) [AV.val (.int .i64 (Int.tmod (IntKind.i64.wrap (IntKind.i64.wrap ((out[i + j]'hp) + IntKind.i64.wrap (((n / 10 ^ i % 10 : Nat) : Int) * ((m / 10 ^ j % 10 : Nat) : Int))) + (c : Int))) 10))] = _
        rw [et, em, ew, Nat.zero_add, Int.toNat_natCast, ← irows_set]
  · have h1' : ¬ (i : Int) < ((decS n).size : Int) := of_decide_eq_false h1
    rw [z1] at h1'
    have hvv : valD out = n * m := by rw [← dval_valD, hv, mod_lt_dec (show (decL n).length ≤ i by omega)]
    have hW := written_ok out hD (by omega)
    rw [hvv] at hW
    have hW : AC Try.prog 66 [.sl 1 (List.take (la + lb + 1) (List.drop 0 (irows .i64 out))) false] (.pure (.val (.string (decS (n * m))))) := by
      rw [List.drop_zero, List.take_of_length_le (by rw [irows_len]; omega)]
      exact hW
    conv => whnf
    refine ⟨by rw [irows_len]; show 0 + (la + lb + 1) ≤ out.length; omega, _, hW, ?_⟩
    conv => whnf
    exact rfl

end Go.Proofs.Ytjpefafkejklaaa

/- Contracts: the reference's quotients, powers of two. -/
set_option linter.unusedVariables false
namespace Go.Proofs.Ytjpefafkejklaaa
open Go Go.AL NM

theorem decS_one : decS 1 = ({ data := #[49] } : ByteArray) := by unfold decS; rw [decL_one 1 (by decide)]; rfl
theorem decS_zero : decS 0 = ({ data := #[48] } : ByteArray) := by unfold decS; rw [decL_one 0 (by decide)]; rfl
theorem decL_two (i : Nat) : (decL (2 ^ i)).length ≤ i + 1 := decL_len_le (by omega) (by
  have h1 : 2 ^ i ≤ 10 ^ i := Nat.pow_le_pow_left (by decide) i
  have h2 : 0 < 10 ^ i := Nat.pow_pos (by decide)
  rw [Nat.pow_succ]
  omega)

theorem RTwo_ok (k : Nat) (hk : k < 100000000) : AC Try.prog 31 [.val (.int .i64 k)] (.pure (.val (.string (decS (2 ^ k))))) := by
  refine AC.of_body TTok Try.func31 rfl (enter_of Try.func31 (by kernel_rfl) (by kernel_rfl)) (noid1 (.val _)) (.val _) (Nat.le_of_ble_eq_true rfl) ?_
  conv => whnf
  refine SW.loopM TTok (fun i : Nat => [(0, .val (.int .i64 k)), (3, .val (.string (decS (2 ^ i)))), (4, .val (.int .i64 i))]) (fun i => []) 24 14 rfl (fun i => k - i) (fun i => i ≤ k) 0 [] (Nat.zero_le _)
    ⟨⟨rfl, rfl⟩, ⟨strE decS_one.symm, rfl⟩, ⟨rfl, rfl⟩, trivial⟩ trivial rfl ?_
  intro i hi
  have hi : i ≤ k := hi
  conv => whnf
  refine caseb (fun h1 => ?_) (fun h1 => ?_)
  · have h1' : (i : Int) < (k : Int) := of_decide_eq_true h1
    have h2 := decL_two i
    conv => whnf
    refine ⟨_, RAdd_ok (2 ^ i) (2 ^ i) (by omega), ?_⟩
    conv => whnf
    refine ⟨i + 1, [], (by show k - (i + 1) < k - i; omega), (by show i + 1 ≤ k; omega), ⟨⟨rfl, rfl⟩, ⟨strE ?_, rfl⟩, ⟨valI ?_, rfl⟩, trivial⟩, trivial, rfl⟩
    · rw [Nat.pow_succ, show 2 ^ i * 2 = 2 ^ i + 2 ^ i by omega]
    · show IntKind.i64.wrap ((i : Int) + 1) = ((i + 1 : Nat) : Int)
      rw [IntWalk.i64_in _ (by omega)]; omega
  · have h1' : ¬ (i : Int) < (k : Int) := of_decide_eq_false h1
    have hik : i = k := by omega
    conv => whnf
    refine strE ?_
    show decS (2 ^ i) = decS (2 ^ k)
    rw [hik]

theorem RDivMod_ok (n m : Nat) (hm : 0 < m) (hb : (decL n).length + (decL m).length < 100000000) : AC Try.prog 26 [.val (.string (decS n)), .val (.string (decS m))] (.pure (.tup [.val (.string (decS (n / m))), .val (.string (decS (n % m)))])) := by
  refine AC.of_body TTok Try.func26 rfl (enter_of Try.func26 (by kernel_rfl) (by kernel_rfl)) (noid2 (.val _) (.val _)) (.tup _ (noid2 (.val _) (.val _))) (Nat.le_of_ble_eq_true rfl) ?_
  obtain ⟨la, hla⟩ : ∃ la, la = (decL n).length := ⟨_, rfl⟩
  have z1 : (decS n).size = la := by rw [hla]; exact strL_size _
  have hne := decL_ne n
  have hdn := decL_byt n
  have hpos : 0 < la := by rw [hla]; exact List.length_pos_iff.2 hne
  rw [← hla] at hb
  have hvn := valL_decL n
  conv => whnf
  refine ⟨⟨by decide, by rw [z1]; omega, by rw [z1]; show (la : Int) * 1 ≤ _; omega⟩, ?_⟩
  conv => whnf
  refine SW.loopM TTok (fun x : Nat × List Int => [(0, .val (.string (decS n))), (1, .val (.string (decS m))), (6, .own 32 0 x.2.length), (7, .val (.string (decS (valL ((decL n).take x.1) % m)))), (8, .val (.int .i64 x.1))])
    (fun x => [(32, .cells 1 (irows .u8 x.2))]) 64 50 rfl (fun x => la - x.1)
    (fun x => x.1 ≤ la ∧ Dig x.2 ∧ x.2.length = x.1 ∧ valL x.2 = valL ((decL n).take x.1) / m) (0, []) [] ⟨Nat.zero_le _, (fun x hx => (nomatch hx)), rfl, (by show 0 = 0 / m; rw [Nat.zero_div])⟩
    ⟨⟨rfl, rfl⟩, ⟨rfl, rfl⟩, ⟨ownE rfl rfl, rfl⟩, ⟨strE ?_, rfl⟩, ⟨rfl, rfl⟩, trivial⟩ ⟨⟨rfl, .inl ⟨celE ?_, irows_noid _ _⟩⟩, trivial⟩ rfl ?_
  · show ({ data := #[48] } : ByteArray) = decS (0 % m)
    rw [Nat.zero_mod, decS_zero]
  · rfl
  rintro ⟨i, q⟩ hJ
  have hi : i ≤ la := hJ.1
  have hD : Dig q := hJ.2.1
  have hl : q.length = i := hJ.2.2.1
  have hv : valL q = valL ((decL n).take i) / m := hJ.2.2.2
  clear hJ
  have hle : 0 + q.length ≤ (irows .u8 q).length := by rw [irows_len]; omega
  conv => whnf
  refine caseb (fun h1 => ?_) (fun h1 => ?_)
  · have h1' : (i : Int) < ((decS n).size : Int) := of_decide_eq_true h1
    rw [z1] at h1'
    have hlt : i < (decL n).length := by omega
    have hx := hdn (decL n)[i] (List.getElem_mem _)
    have htk := valL_take hlt
    obtain ⟨p, hp⟩ : ∃ p, p = valL ((decL n).take i) := ⟨_, rfl⟩
    obtain ⟨d, hd⟩ : ∃ d, d = ((decL n)[i] - 48).toNat := ⟨_, rfl⟩
    rw [← hp, ← hd] at htk
    rw [← hp] at hv
    obtain ⟨t, ht⟩ : ∃ t, t = 10 * (p % m) + d := ⟨_, rfl⟩
    have ei : IntKind.i64.wrap ((i : Int) + 1) = ((i + 1 : Nat) : Int) := by rw [IntWalk.i64_in _ (by omega)]; omega
    have hpm : p % m < m := Nat.mod_lt _ hm
    have ht10 : t < 10 * m := by omega
    have lr : ∀ r, r ≤ t → (decL r).length ≤ (decL m).length + 1 := fun r hr => decL_len_le (by omega) (by
      have := decL_lt m
      rw [Nat.pow_succ]
      omega)
    have ex : (decS n).extract ((i : Int)).toNat (IntKind.i64.wrap ((i : Int) + 1)).toNat = strL [(decL n)[i]] := by
      unfold decS
      rw [ei, Int.toNat_natCast, Int.toNat_natCast, strL_extract, List.take_succ_eq_append_getElem hlt, List.drop_append, List.length_take, Nat.min_eq_left (by omega), Nat.sub_self, List.drop_of_length_le (by rw [List.length_take]; omega)]
      rfl
    have hTr : AC Try.prog 39 [.val (.string (decS (valL ((decL n).take i) % m) ++ (decS n).extract ((i : Int)).toNat (IntKind.i64.wrap ((i : Int) + 1)).toNat))] (.pure (.val (.string (decS t)))) := by
      rw [← hp, ex]
      unfold decS
      rw [strL_append]
      have h1 := Trim_ok (decL (p % m) ++ [(decL n)[i]]) (fun x hx => by
        rcases List.mem_append.1 hx with hx | hx
        · exact decL_byt _ x hx
        · simp at hx; subst hx; exact hdn _ (List.getElem_mem _)) (by simp) (by
          have := lr (p % m) (by omega)
          simp; omega)
      rw [valL_snoc, valL_decL, ← hd, ← ht] at h1
      exact h1
    have sz1 : (decS (valL ((decL n).take i) % m)).size ≤ (decL m).length + 1 := by
      rw [← hp]; unfold decS; rw [strL_size]; exact lr _ (by omega)
    have sz2 : ((decS n).extract ((i : Int)).toNat (IntKind.i64.wrap ((i : Int) + 1)).toNat).size = 1 := by rw [ex, strL_size]; rfl
    conv => whnf
    refine ⟨⟨by omega, by rw [ei]; omega, by rw [ei, z1]; omega⟩, ?_⟩
    conv => whnf
    refine ⟨by show (decS (valL ((decL n).take i) % m)).size + ((decS n).extract ((i : Int)).toNat (IntKind.i64.wrap ((i : Int) + 1)).toNat).size ≤ _; omega, ?_⟩
    conv => whnf
    refine ⟨_, hTr, ?_⟩
    conv => whnf
    refine SW.loopM TTok (fun x : Nat × Nat => [(0, .val (.string (decS n))), (1, .val (.string (decS m))), (6, .own 32 0 q.length), (7, .val (.string (decS x.2))), (8, .val (.int .i64 i)), (9, .val (.int .i64 x.1))])
      (fun x => [(32, .cells 1 (irows .u8 q))]) 176 50 rfl (fun x => x.2) (fun x => x.2 + x.1 * m = t) (0, t) [] (by show t + 0 * m = t; omega)
      ⟨⟨rfl, rfl⟩, ⟨rfl, rfl⟩, ⟨rfl, rfl⟩, ⟨rfl, rfl⟩, ⟨rfl, rfl⟩, ⟨rfl, rfl⟩, trivial⟩ ⟨⟨rfl, .inl ⟨rfl, irows_noid _ _⟩⟩, trivial⟩ rfl ?_
    rintro ⟨c, r⟩ hJ
    have hcr : r + c * m = t := hJ
    clear hJ
    have hrt : r ≤ t := by omega
    have hc10 : c < 10 := by
      rcases Nat.lt_or_ge c 10 with h | h
      · exact h
      · have : 10 * m ≤ c * m := Nat.mul_le_mul_right _ h
        omega
    have hlr := lr r hrt
    conv => whnf
    refine ⟨_, RCmp_ok r m, ?_⟩
    conv => whnf
    refine caseb (fun h2 => ?ca) (fun h2 => ?cq)
    case' ca =>
      have h2' : cmpN r m ≥ 0 := of_decide_eq_true h2
      have hmr : m ≤ r := by
        rcases Nat.lt_or_ge r m with h | h
        · rw [cmpN_lt h] at h2'; omega
        · exact h
      conv => whnf
      refine caseb (fun h3 => ?cb) (fun h3 => ?cd)
    case cd =>
      have h3' : ¬ (c : Int) < 10 := of_decide_eq_false h3
      omega
    case cb =>
      conv => whnf
      refine ⟨_, RSub_ok r m hmr (by omega), ?_⟩
      conv => whnf
      refine ⟨(c + 1, r - m), [], (by show r - m < r; omega), (by show r - m + (c + 1) * m = t; rw [Nat.add_mul]; omega), ⟨⟨rfl, rfl⟩, ⟨rfl, rfl⟩, ⟨rfl, rfl⟩, ⟨rfl, rfl⟩, ⟨rfl, rfl⟩, ⟨valI ?_, rfl⟩, trivial⟩, ⟨⟨rfl, .inl ⟨rfl, irows_noid _ _⟩⟩, trivial⟩, rfl⟩
      show IntKind.i64.wrap ((c : Int) + 1) = ((c + 1 : Nat) : Int)
      rw [IntWalk.i64_in _ (by omega)]; omega
    case cq =>
      have h2' : ¬ cmpN r m ≥ 0 := of_decide_eq_false h2
      have hrm : r < m := by
        rcases Nat.lt_or_ge r m with h | h
        · exact h
        · exfalso
          apply h2'
          unfold cmpN
          rw [if_neg (by omega)]
          split <;> decide
      have htq : t / m = c := by
        rw [← hcr, Nat.add_mul_div_right _ _ hm, Nat.div_eq_of_lt hrm, Nat.zero_add]
      have htr : t % m = r := by
        rw [← hcr, Nat.add_mul_mod_self_right, Nat.mod_eq_of_lt hrm]
      have hP : 10 * p + d = t + 10 * (p / m) * m := by
        have := Nat.mod_add_div p m
        have h5 : 10 * (p / m) * m = 10 * (m * (p / m)) := by rw [Nat.mul_assoc, Nat.mul_comm (p / m)]
        omega
      have hPq : (10 * p + d) / m = 10 * (p / m) + c := by
        rw [hP, Nat.add_mul_div_right _ _ hm, htq]; omega
      have hPr : (10 * p + d) % m = r := by
        rw [hP, Nat.add_mul_mod_self_right, htr]
      conv => whnf
      refine ⟨⟨hle, by show (q.length + 1) * 1 ≤ 140737488355328; omega, Nat.le_of_ble_eq_true rfl⟩, ?_⟩
      conv => whnf
      refine ⟨(i + 1, q ++ [((48 + c : Nat) : Int)]), [(32, 280)], (by show la - (i + 1) < la - i; omega), ⟨(by show i + 1 ≤ la; omega), ?_, (by show (q ++ [_]).length = i + 1; simp [hl]), ?_⟩,
        ⟨⟨rfl, rfl⟩, ⟨rfl, rfl⟩, ⟨ownE rfl ?_, rfl⟩, ⟨strE ?_, rfl⟩, ⟨valI ei, rfl⟩, trivial⟩, ⟨⟨rfl, .inl ⟨celE ?_, irows_noid _ _⟩⟩, trivial⟩, rfl⟩
      · intro x hx
        rcases List.mem_append.1 hx with hx | hx
        · exact hD x hx
        · simp at hx; omega
      · show valL (q ++ [((48 + c : Nat) : Int)]) = valL ((decL n).take (i + 1)) / m
        rw [htk, hPq, valL_snoc, hv]
        omega
      · show q.length + 1 = (q ++ [_]).length
        simp
      · show decS r = decS (valL ((decL n).take (i + 1)) % m)
        rw [htk, hPr]
      · show List.take q.length (List.drop 0 (irows .u8 q)) ++ [[AV.val (.int .u8 (IntKind.u8.wrap (IntKind.i64.wrap (48 + (c : Int)))))]] = _
        have e : IntKind.u8.wrap (IntKind.i64.wrap (48 + (c : Int))) = ((48 + c : Nat) : Int) := by
          rw [IntWalk.i64_in _ (by omega), IntKind.wrap_u8]; omega
        rw [e, List.drop_zero, List.take_of_length_le (by rw [irows_len]; exact Nat.le_refl _), ← irows_append]
        rfl
  · have h1' : ¬ (i : Int) < ((decS n).size : Int) := of_decide_eq_false h1
    rw [z1] at h1'
    have hil : i = la := by omega
    have htk : (decL n).take i = decL n := List.take_of_length_le (by omega)
    rw [htk, hvn] at hv
    have hqne : q ≠ [] := fun e => by rw [e] at hl; simp at hl; omega
    have hTr := Trim_ok q hD hqne (by omega)
    rw [hv] at hTr
    conv => whnf
    refine ⟨q, ⟨hle, ?_⟩, ?_⟩
    · show List.take q.length (irows .u8 q) = irows .u8 q
      rw [List.take_of_length_le (by rw [irows_len]; exact Nat.le_refl _)]
    conv => whnf
    refine ⟨_, hTr, ?_⟩
    conv => whnf
    refine tup2 rfl (strE ?_)
    show decS (valL ((decL n).take i) % m) = _
    rw [htk, hvn]

end Go.Proofs.Ytjpefafkejklaaa

/- The statement NatShifts: the walk through the law. -/
set_option linter.unusedVariables false
namespace Go.Proofs.Ytjpefafkejklaaa.natShifts
open Go Go.AL NM

theorem bad (a : List Int) (k : Int) (x : Nat) (xs : ByteArray) (tx : Bool)
    (h1 : AC Try.prog 21 [.val (.string (strL a))] (.pure (.tup [natA x, .val (.string xs), .val (.bool tx)])))
    (hw : tx = false ∨ 300 < k) :
    AC Try.prog 6 [.val (.string (strL a)), .val (.int .i64 k)] (.pure (.val (.bool true))) := by
  cases tx
  all_goals
    refine AC.of_body TTok Try.func6 rfl (enter_of Try.func6 (by kernel_rfl) (by kernel_rfl)) (noid2 (.val _) (.val _)) (.val _) (Nat.le_of_ble_eq_true rfl) ?_
    conv => whnf
    refine ⟨_, h1, ?_⟩
    conv => whnf
  · refine ⟨_, awake_ok, ?_⟩
    conv => whnf
    exact rfl
  · refine caseb (fun h2 => ?_) (fun h2 => ?_)
    · conv => whnf
      refine ⟨_, awake_ok, ?_⟩
      conv => whnf
      exact rfl
    · have h2' : ¬ k > 300 := of_decide_eq_false h2
      rcases hw with hw | hw
      · cases hw
      · omega

theorem mul_two_lt {n k a e : Nat} (hn : n < 10 ^ a) (hk : k ≤ e) : n * 2 ^ k < 10 ^ (a + e) := by
  have h3 : 2 ^ k ≤ 10 ^ e := Nat.le_trans (Nat.pow_le_pow_left (by decide : 2 ≤ 10) k) (Nat.pow_le_pow_right (by decide) hk)
  have h4 : n * 2 ^ k < 10 ^ a * 2 ^ k := Nat.mul_lt_mul_of_pos_right hn (Nat.pow_pos (by decide))
  have h5 : 10 ^ a * 2 ^ k ≤ 10 ^ a * 10 ^ e := Nat.mul_le_mul_left _ h3
  rw [← Nat.pow_add] at h5
  exact Nat.lt_of_lt_of_le h4 h5
theorem shl_lim {n k a e : Nat} (hn : n < 10 ^ a) (hk : k ≤ e) : (limbs (n * 2 ^ k)).length ≤ a + e := limbs_ten (mul_two_lt hn hk)
theorem selfb (s : ByteArray) : (s.toList == s.toList) = true := beq_self_eq_true _
theorem good (a : List Int) (n : Nat) (k : Int) (ha : Rd a n) (hk : k ≤ 300) : AC Try.prog 6 [.val (.string (strL a)), .val (.int .i64 k)] (.pure (.val (.bool true))) := by
  obtain ⟨hn, dn, ln, h1⟩ := ha
  have d2 := decL_two k.toNat
  have ek : (if (0 : Int) > k then (0 : Int) else k) = ((k.toNat : Nat) : Int) := by split <;> omega
  have hT := RTwo_ok k.toNat (by omega)
  have hDM := RDivMod_ok n (2 ^ k.toNat) (Nat.pow_pos (by decide)) (by omega)
  have hS := Shl_ok n k (by omega) (by omega)
  have hlim : (limbs (n * 2 ^ k.toNat)).length ≤ 120 + 300 := shl_lim hn (by omega)
  have hlim2 : (limbs (n / 2 ^ k.toNat)).length ≤ 120 := limbs_ten (Nat.lt_of_le_of_lt (Nat.div_le_self _ _) hn)
  have hTS := Text_ok (n * 2 ^ k.toNat) (by omega)
  have hM := RMul_ok n (2 ^ k.toNat) (by omega)
  have hR := Shr_ok n k (by omega) (by omega)
  have hTR := Text_ok (n / 2 ^ k.toNat) (by omega)
  have hB := Shr_ok (n * 2 ^ k.toNat) k (by omega) (by omega)
  rw [Nat.mul_div_cancel _ (Nat.pow_pos (by decide))] at hB
  have hC := Cmp_ok n n (by omega) (by omega)
  rw [show cmpN n n = 0 by unfold cmpN; rw [if_neg (by omega), if_pos rfl]] at hC
  clear hlim hlim2 d2
  revert hT hDM hS hTS hM hR hTR hB
  generalize n * 2 ^ k.toNat = p
  generalize n / 2 ^ k.toNat = q
  generalize n % 2 ^ k.toNat = r
  generalize 2 ^ k.toNat = t
  intro hT hDM hS hTS hM hR hTR hB
  rw [← ek] at hT
  refine AC.of_body TTok Try.func6 rfl (enter_of Try.func6 (by kernel_rfl) (by kernel_rfl)) (noid2 (.val _) (.val _)) (.val _) (Nat.le_of_ble_eq_true rfl) ?_
  conv => whnf
  refine ⟨_, h1, ?_⟩
  conv => whnf
  refine caseb (fun h2 => ?_) (fun h2 => ?_)
  · have h2' : k > 300 := of_decide_eq_true h2
    omega
  conv => whnf
  refine ⟨_, hT, ?_⟩
  conv => whnf
  refine ⟨_, hDM, ?_⟩
  conv => whnf
  refine ⟨_, hS, ?_⟩
  conv => whnf
  refine ⟨_, hTS, ?_⟩
  conv => whnf
  refine ⟨_, hT, ?_⟩
  conv => whnf
  refine ⟨_, hM, ?_⟩
  conv => whnf
  refine caseb (fun _ => ?_) (fun h => Bool.noConfusion ((selfb _).symm.trans h))
  conv => whnf
  refine ⟨_, hR, ?_⟩
  conv => whnf
  refine ⟨_, hTR, ?_⟩
  conv => whnf
  refine caseb (fun _ => ?_) (fun h => Bool.noConfusion ((selfb _).symm.trans h))
  conv => whnf
  refine ⟨_, hS, ?_⟩
  conv => whnf
  refine ⟨_, hB, ?_⟩
  conv => whnf
  refine ⟨_, hC, ?_⟩
  conv => whnf
  refine ⟨_, awake_ok, ?_⟩
  conv => whnf
  refine ⟨by kernel_rfl, ?_⟩
  conv => whnf
  exact rfl

theorem holds (a : ByteArray) (k : Int) (ha : a.size < 140737488355328) (hk : -9223372036854775808 ≤ k ∧ k < 9223372036854775808) : AC Try.prog 6 [.val (.string a), .val (.int .i64 k)] (.pure (.val (.bool true))) := by
  have ea : strL (bytesL a) = a := strL_bytesL a
  have ra := read_any (bytesL a) (bytesL_byt a) (by rw [bytesL_len]; exact ha)
  rw [← ea]
  rcases ra with ⟨n, ra⟩ | ⟨wa, ra⟩
  · rcases Int.lt_or_le 300 k with hk | hk
    · exact bad _ k _ _ _ ra.2.2.2 (.inr hk)
    · exact good _ n k ra hk
  · exact bad _ k _ _ _ ra (.inl rfl)

end Go.Proofs.Ytjpefafkejklaaa.natShifts
