/- Contracts of nat: differences. -/
import Derived.Test.YtjpefafkejklaaaB2
set_option linter.unusedVariables false
namespace Go.Proofs.Ytjpefafkejklaaa
open Go Go.AL NM

/-- The borrow of a difference of 32 bits, as its bits tell it. -/
theorem borrow_bits (x y d : BitVec 32) : (((~~~ x &&& y) ||| (~~~ (x ^^^ y) &&& d)).toNat / 2147483648) = if ((!x.msb && y.msb) || (!(x.msb ^^ y.msb) && d.msb)) = true then 1 else 0 := by
  have h : ∀ z : BitVec 32, z.toNat / 2147483648 = if z.msb = true then 1 else 0 := by
    intro z
    have hz := z.isLt
    rw [BitVec.msb_eq_decide]
    by_cases hc : 2 ^ (32 - 1) ≤ z.toNat
    · rw [if_pos (by simpa using hc)]
      simp at hc
      omega
    · rw [if_neg (by simpa using hc)]
      simp at hc
      omega
  rw [h, BitVec.msb_or, BitVec.msb_and, BitVec.msb_and, BitVec.msb_not, BitVec.msb_not, BitVec.msb_xor]
  rfl
theorem msb_int {x : Int} (h : 0 ≤ x ∧ x < 4294967296) : (BitVec.ofInt 32 x).msb = decide (2147483648 ≤ x) := by
  rw [BitVec.msb_eq_decide, BitVec.toNat_ofInt]
  apply decide_eq_decide.2
  omega
theorem ofw (z : BitVec 32) : BitVec.ofInt 32 (IntKind.u32.wrap (z.toNat : Int)) = z := by
  have hz := z.isLt
  rw [IntKind.wrap_u32, show (z.toNat : Int) % 4294967296 = (z.toNat : Int) by omega, BitVec.ofInt_natCast, BitVec.ofNat_toNat, BitVec.setWidth_eq]
theorem ones_xor (z : BitVec 32) : BitVec.ofInt 32 4294967295 ^^^ z = ~~~ z := by
  rw [show BitVec.ofInt 32 4294967295 = BitVec.allOnes 32 by decide, BitVec.allOnes_xor]

theorem Sub32_ok (x y c : Int) (hx : 0 ≤ x ∧ x < 4294967296) (hy : 0 ≤ y ∧ y < 4294967296) (hc : 0 ≤ c ∧ c ≤ 1) : AC Try.prog 70 [.val (.int .u32 x), .val (.int .u32 y), .val (.int .u32 c)] (.pure (.tup [.val (.int .u32 ((x - y - c) % 4294967296)), .val (.int .u32 (if x < y + c then 1 else 0))])) := by
  refine AC.of_body TTok Try.func70 rfl (enter_of Try.func70 (by kernel_rfl) (by kernel_rfl)) (by intro z hz; simp at hz; rcases hz with rfl | rfl | rfl <;> exact .val _) (.tup _ (noid2 (.val _) (.val _))) (Nat.le_of_ble_eq_true rfl) ?_
  conv => whnf
  refine ⟨by decide, ?_⟩
  conv => whnf
  refine tup2 (valI ?_) (valI ?_)
  · simp only [IntKind.wrap_u32]; omega
  · show (IntKind.u32.wrap ((BitVec.ofInt 32 (IntKind.u32.wrap ((BitVec.ofInt 32 (IntKind.u32.wrap ((BitVec.ofInt 32 4294967295 ^^^ BitVec.ofInt 32 x).toNat : Int)) &&& BitVec.ofInt 32 y).toNat : Int)) |||
      BitVec.ofInt 32 (IntKind.u32.wrap ((BitVec.ofInt 32 (IntKind.u32.wrap ((BitVec.ofInt 32 4294967295 ^^^ BitVec.ofInt 32 (IntKind.u32.wrap ((BitVec.ofInt 32 x ^^^ BitVec.ofInt 32 y).toNat : Int))).toNat : Int)) &&&
        BitVec.ofInt 32 (IntKind.u32.wrap (IntKind.u32.wrap (x - y) - c))).toNat : Int))).toNat : Int)).fdiv 2147483648 = _
    simp only [ofw, ones_xor]
    have hb := borrow_bits (BitVec.ofInt 32 x) (BitVec.ofInt 32 y) (BitVec.ofInt 32 (IntKind.u32.wrap (IntKind.u32.wrap (x - y) - c)))
    generalize hZ : ((~~~ BitVec.ofInt 32 x &&& BitVec.ofInt 32 y) ||| (~~~ (BitVec.ofInt 32 x ^^^ BitVec.ofInt 32 y) &&& BitVec.ofInt 32 (IntKind.u32.wrap (IntKind.u32.wrap (x - y) - c)))) = Z at *
    have hz := Z.isLt
    rw [Int.fdiv_eq_ediv_of_nonneg _ (by decide), IntKind.wrap_u32]
    have hd : 0 ≤ IntKind.u32.wrap (IntKind.u32.wrap (x - y) - c) ∧ IntKind.u32.wrap (IntKind.u32.wrap (x - y) - c) < 4294967296 := by
      simp only [IntKind.wrap_u32]; omega
    rw [msb_int hx, msb_int hy, msb_int hd] at hb
    have hd2 : IntKind.u32.wrap (IntKind.u32.wrap (x - y) - c) = (x - y - c) % 4294967296 := by simp only [IntKind.wrap_u32]; omega
    rw [hd2] at hb
    by_cases p : 2147483648 ≤ x <;> by_cases q : 2147483648 ≤ y <;> by_cases r : 2147483648 ≤ (x - y - c) % 4294967296 <;> by_cases u : x < y + c <;>
      simp [p, q, r] at hb <;> simp only [u, if_true, if_false] <;> omega

end Go.Proofs.Ytjpefafkejklaaa

/- Contracts of nat: differences of numbers. -/
set_option linter.unusedVariables false
namespace Go.Proofs.Ytjpefafkejklaaa
open Go Go.AL NM

theorem Sub_ge (n m : Nat) (hnm : m ≤ n) (hb : (limbs n).length < 4000000000) : AC Try.prog 47 [natA n, natA m] (.pure (.tup [natA (n - m), .val (.bool true)])) := by
  refine AC.of_body TTok Try.func47 rfl (enter_of Try.func47 (by kernel_rfl) (by kernel_rfl)) (noid2 (natA_noid n) (natA_noid m)) (.tup _ (noid2 (natA_noid _) (.val _))) (Nat.le_of_ble_eq_true rfl) ?_
  have hlm := limbs_len_mono hnm
  have hcmp := Cmp_ok n m hb (by omega)
  have hcn : ¬ cmpN n m < 0 := by
    unfold cmpN
    rw [if_neg (by omega)]
    split <;> decide
  generalize cmpN n m = cc at *
  unfold natA at hcmp
  unfold natA
  have hva := val_limbs n
  have hvb := val_limbs m
  have hLa := limbs_lim n
  have hLb := limbs_lim m
  generalize limbs n = a at *
  generalize limbs m = b at *
  subst hva
  subst hvb
  conv => whnf
  refine ⟨_, hcmp, ?_⟩
  conv => whnf
  refine caseb (fun h1 => absurd (of_decide_eq_true h1) hcn) (fun _ => ?_)
  conv => whnf
  refine ⟨⟨by rw [irows_len]; omega, by rw [irows_len]; omega, ?_⟩, ?_⟩
  · rw [irows_len]; show (a.length : Int) * 4 ≤ _; omega
  conv => whnf
  refine SW.loopM TTok (fun z : Nat × Nat × List Int => [(2, .lp 0 0), (3, .lp 8 0), (4, .lp 16 0), (6, .own 88 0 a.length), (7, .val (.int .u32 z.2.1)), (21, .val (.int .i64 a.length)), (22, .val (.int .i64 z.1))])
    (fun z => [(0, .cells 1 [[.sl 1 (irows .u32 a) false]]), (8, .cells 1 [[.sl 1 (irows .u32 b) false]]), (16, .cells 1 [[.sl 0 [] true]]), (88, .cells 1 (irows .u32 z.2.2))]) 144 52 rfl (fun z => a.length - z.1)
    (fun z => z.1 ≤ a.length ∧ z.2.1 ≤ 1 ∧ z.2.2.length = a.length ∧ Lim z.2.2 ∧ val z.2.2 + val (b.take z.1) = val (a.take z.1) + z.2.1 * 4294967296 ^ z.1 ∧ ∀ k, z.1 ≤ k → k < z.2.2.length → z.2.2[k]? = some 0)
    (0, 0, List.replicate a.length 0) [] ⟨Nat.zero_le _, Nat.zero_le _, by simp, Lim.rep _, by simp [val_rep, val], fun k _ hk => by simp at hk; simp [hk]⟩
    ⟨⟨rfl, rfl⟩, ⟨rfl, rfl⟩, ⟨rfl, rfl⟩, ⟨ownE rfl ?_, rfl⟩, ⟨rfl, rfl⟩, ⟨valI ?_, rfl⟩, ⟨rfl, rfl⟩, trivial⟩
    ⟨⟨rfl, .inr ⟨rfl, rfl⟩⟩, ⟨rfl, .inr ⟨rfl, rfl⟩⟩, ⟨rfl, .inr ⟨rfl, rfl⟩⟩, ⟨rfl, .inl ⟨celE ?_, irows_noid _ _⟩⟩, trivial⟩ rfl ?_
  · rw [irows_len]; omega
  · rw [irows_len]
  · rw [irows_len, Int.toNat_natCast, ← irows_rep]; rfl
  rintro ⟨i, c, out⟩ ⟨hi, hc, hl, hL, hv, hz⟩
  have hi : i ≤ a.length := hi
  have hc : c ≤ 1 := hc
  have hl : out.length = a.length := hl
  have hL : Lim out := hL
  have hv : val out + val (b.take i) = val (a.take i) + c * 4294967296 ^ i := hv
  have hz : ∀ k, i ≤ k → k < out.length → out[k]? = some 0 := hz
  conv => whnf
  refine caseb (fun h1 => ?_) (fun h1 => ?_)
  · have h1' : (i : Int) < (a.length : Int) := of_decide_eq_true h1
    have hlt : i < a.length := by omega
    have hklt : i < out.length := by omega
    have h0 : out[i]'hklt = 0 := by
      have := List.getElem?_eq_getElem (l := out) (i := i) hklt
      rw [hz i (Nat.le_refl _) hklt] at this
      injection this with this
      exact this.symm
    have hx := hLa (a[i]'hlt) (List.getElem_mem _)
    conv => whnf
    refine caseb (fun h2 => ?_) (fun h2 => ?_)
    · have h2' : (i : Int) < ((irows .u32 b).length : Int) := of_decide_eq_true h2
      rw [irows_len] at h2'
      have hylt : i < b.length := by omega
      have hy := hLb (b[i]'hylt) (List.getElem_mem _)
      have hys : val (b.take (i + 1)) = val (b.take i) + (b[i]'hylt).toNat * 4294967296 ^ i := val_take_succ hylt
      conv => whnf
      refine ⟨[.val (.int .u32 (b[i]'hylt))], ⟨by omega, irows_get _ _ (List.getElem?_eq_getElem hylt)⟩, ?_⟩
      conv => whnf
      refine ⟨[.val (.int .u32 (a[i]'hlt))], ⟨by omega, irows_get _ _ (List.getElem?_eq_getElem hlt)⟩, ?_⟩
      conv => whnf
      refine ⟨_, Sub32_ok (a[i]'hlt) (b[i]'hylt) (c : Int) hx hy ⟨by omega, by omega⟩, ?_⟩
      conv => whnf
      refine ⟨⟨by omega, by omega⟩, ?_⟩
      conv => whnf
      refine ⟨by rw [irows_len, hl]; omega, ?_⟩
      conv => whnf
      have hO : 0 ≤ (b[i]'hylt) ∧ (b[i]'hylt) < 4294967296 := hy
      obtain ⟨d, hd⟩ : ∃ d : Nat, (d : Int) = (a[i]'hlt - (b[i]'hylt) - (c : Int)) % 4294967296 := ⟨((a[i]'hlt - (b[i]'hylt) - (c : Int)) % 4294967296).toNat, by omega⟩
      obtain ⟨c', hc'⟩ : ∃ c' : Nat, (c' : Int) = (if a[i]'hlt < (b[i]'hylt) + (c : Int) then 1 else 0) := ⟨if a[i]'hlt < (b[i]'hylt) + (c : Int) then 1 else 0, by split <;> rfl⟩
      have hc1 : c' ≤ 1 := by split at hc' <;> omega
      have hdd : d + ((b[i]'hylt) : Int).toNat + c = (a[i]'hlt).toNat + c' * 4294967296 := by split at hc' <;> omega
      have hs := val_set out i (d : Int) hklt
      rw [h0] at hs
      simp only [Int.toNat_zero, Nat.zero_mul, Nat.add_zero, Int.toNat_natCast] at hs
      refine ⟨(i + 1, c', out.set i (d : Int)), [], (by show a.length - (i + 1) < a.length - i; omega), ⟨(by show i + 1 ≤ a.length; omega), hc1, ?_, ?_, ?_, ?_⟩,
        ⟨⟨rfl, rfl⟩, ⟨rfl, rfl⟩, ⟨rfl, rfl⟩, ⟨rfl, rfl⟩, ⟨valI hc'.symm, rfl⟩, ⟨rfl, rfl⟩, ⟨valI ?_, rfl⟩, trivial⟩,
        ⟨⟨rfl, .inr ⟨rfl, rfl⟩⟩, ⟨rfl, .inr ⟨rfl, rfl⟩⟩, ⟨rfl, .inr ⟨rfl, rfl⟩⟩, ⟨rfl, .inl ⟨celE ?_, irows_noid _ _⟩⟩, trivial⟩, rfl⟩
      · show (out.set i (d : Int)).length = _
        rw [List.length_set, hl]
      · exact hL.set ⟨by omega, by omega⟩
      · show val (out.set i (d : Int)) + val (b.take (i + 1)) = val (a.take (i + 1)) + c' * 4294967296 ^ (i + 1)
        rw [hs, val_take_succ hlt, hys, Nat.pow_succ, Nat.mul_comm (4294967296 ^ i) 4294967296, ← Nat.mul_assoc]
        have h9 : (d + ((b[i]'hylt) : Int).toNat + c) * 4294967296 ^ i = ((a[i]'hlt).toNat + c' * 4294967296) * 4294967296 ^ i := by rw [hdd]
        rw [Nat.add_mul, Nat.add_mul, Nat.add_mul] at h9
        omega
      · show ∀ k, i + 1 ≤ k → k < (out.set i (d : Int)).length → (out.set i (d : Int))[k]? = some 0
        intro k hk1 hk2
        rw [List.length_set] at hk2
        rw [List.getElem?_set_ne (by omega)]
        exact hz k (by omega) hk2
      · show IntKind.i64.wrap ((i : Int) + 1) = ((i + 1 : Nat) : Int)
        rw [IntWalk.i64_in _ (by omega)]; omega
      · show (irows .u32 out).set (0 + (i : Int).toNat) [AV.val (.int .u32 ((a[i]'hlt - (b[i]'hylt) - (c : Int)) % 4294967296))] = _
        rw [← hd, Nat.zero_add, Int.toNat_natCast, ← irows_set]
    · have h2' : ¬ (i : Int) < ((irows .u32 b).length : Int) := of_decide_eq_false h2
      rw [irows_len] at h2'
      have hys : val (b.take (i + 1)) = val (b.take i) + (0 : Int).toNat * 4294967296 ^ i := by
        rw [List.take_of_length_le (by omega), List.take_of_length_le (by omega)]
        simp
      conv => whnf
      refine ⟨[.val (.int .u32 (a[i]'hlt))], ⟨by omega, irows_get _ _ (List.getElem?_eq_getElem hlt)⟩, ?_⟩
      conv => whnf
      refine ⟨_, Sub32_ok (a[i]'hlt) (0 : Int) (c : Int) hx ⟨by decide, by decide⟩ ⟨by omega, by omega⟩, ?_⟩
      conv => whnf
      refine ⟨⟨by omega, by omega⟩, ?_⟩
      conv => whnf
      refine ⟨by rw [irows_len, hl]; omega, ?_⟩
      conv => whnf
      have hO : 0 ≤ (0 : Int) ∧ (0 : Int) < 4294967296 := ⟨by decide, by decide⟩
      obtain ⟨d, hd⟩ : ∃ d : Nat, (d : Int) = (a[i]'hlt - (0 : Int) - (c : Int)) % 4294967296 := ⟨((a[i]'hlt - (0 : Int) - (c : Int)) % 4294967296).toNat, by omega⟩
      obtain ⟨c', hc'⟩ : ∃ c' : Nat, (c' : Int) = (if a[i]'hlt < (0 : Int) + (c : Int) then 1 else 0) := ⟨if a[i]'hlt < (0 : Int) + (c : Int) then 1 else 0, by split <;> rfl⟩
      have hc1 : c' ≤ 1 := by split at hc' <;> omega
      have hdd : d + ((0 : Int) : Int).toNat + c = (a[i]'hlt).toNat + c' * 4294967296 := by split at hc' <;> omega
      have hs := val_set out i (d : Int) hklt
      rw [h0] at hs
      simp only [Int.toNat_zero, Nat.zero_mul, Nat.add_zero, Int.toNat_natCast] at hs
      refine ⟨(i + 1, c', out.set i (d : Int)), [], (by show a.length - (i + 1) < a.length - i; omega), ⟨(by show i + 1 ≤ a.length; omega), hc1, ?_, ?_, ?_, ?_⟩,
        ⟨⟨rfl, rfl⟩, ⟨rfl, rfl⟩, ⟨rfl, rfl⟩, ⟨rfl, rfl⟩, ⟨valI hc'.symm, rfl⟩, ⟨rfl, rfl⟩, ⟨valI ?_, rfl⟩, trivial⟩,
        ⟨⟨rfl, .inr ⟨rfl, rfl⟩⟩, ⟨rfl, .inr ⟨rfl, rfl⟩⟩, ⟨rfl, .inr ⟨rfl, rfl⟩⟩, ⟨rfl, .inl ⟨celE ?_, irows_noid _ _⟩⟩, trivial⟩, rfl⟩
      · show (out.set i (d : Int)).length = _
        rw [List.length_set, hl]
      · exact hL.set ⟨by omega, by omega⟩
      · show val (out.set i (d : Int)) + val (b.take (i + 1)) = val (a.take (i + 1)) + c' * 4294967296 ^ (i + 1)
        rw [hs, val_take_succ hlt, hys, Nat.pow_succ, Nat.mul_comm (4294967296 ^ i) 4294967296, ← Nat.mul_assoc]
        have h9 : (d + ((0 : Int) : Int).toNat + c) * 4294967296 ^ i = ((a[i]'hlt).toNat + c' * 4294967296) * 4294967296 ^ i := by rw [hdd]
        rw [Nat.add_mul, Nat.add_mul, Nat.add_mul] at h9
        omega
      · show ∀ k, i + 1 ≤ k → k < (out.set i (d : Int)).length → (out.set i (d : Int))[k]? = some 0
        intro k hk1 hk2
        rw [List.length_set] at hk2
        rw [List.getElem?_set_ne (by omega)]
        exact hz k (by omega) hk2
      · show IntKind.i64.wrap ((i : Int) + 1) = ((i + 1 : Nat) : Int)
        rw [IntWalk.i64_in _ (by omega)]; omega
      · show (irows .u32 out).set (0 + (i : Int).toNat) [AV.val (.int .u32 ((a[i]'hlt - (0 : Int) - (c : Int)) % 4294967296))] = _
        rw [← hd, Nat.zero_add, Int.toNat_natCast, ← irows_set]
  · have h1' : ¬ (i : Int) < (a.length : Int) := of_decide_eq_false h1
    have hia : i = a.length := by omega
    rw [hia, List.take_of_length_le (Nat.le_refl _), List.take_of_length_le (by omega)] at hv
    have hvl := val_lt hL
    rw [hl] at hvl
    have hc0 : c = 0 := by
      rcases Nat.eq_zero_or_pos c with h | h
      · exact h
      · have : c = 1 := by omega
        rw [this] at hv
        omega
    rw [hc0] at hv
    have ht := trim_ok out hL (by omega)
    rw [show val out = val a - val b by omega] at ht
    conv => whnf
    refine ⟨by show 0 + a.length ≤ (irows .u32 out).length; rw [irows_len]; omega, .pure (natA (val a - val b)), ?_, ?_⟩
    · show AC Try.prog 64 [.sl 1 (List.take a.length (List.drop 0 (irows .u32 out))) false] _
      rw [List.drop_zero, List.take_of_length_le (by rw [irows_len, hl]; exact Nat.le_refl _)]
      exact ht
    conv => whnf
    exact rfl

theorem Sub_lt (n m : Nat) (hnm : n < m) (hb : (limbs n).length < 4000000000) (hb' : (limbs m).length < 4000000000) : AC Try.prog 47 [natA n, natA m] (.pure (.tup [natA 0, .val (.bool false)])) := by
  refine AC.le_res (v := .tup [.agg [.sl 0 [] true], .val (.bool false)]) ?_ (.tup2 zero_le (.refl _)) (.tup _ (noid2 (natA_noid _) (.val _)))
  refine AC.of_body TTok Try.func47 rfl (enter_of Try.func47 (by kernel_rfl) (by kernel_rfl)) (noid2 (natA_noid n) (natA_noid m)) (.tup _ (noid2 zero_noid (.val _))) (Nat.le_of_ble_eq_true rfl) ?_
  have hcmp := Cmp_ok n m hb hb'
  rw [cmpN_lt hnm] at hcmp
  conv => whnf
  refine ⟨_, hcmp, ?_⟩
  conv => whnf
  exact rfl

end Go.Proofs.Ytjpefafkejklaaa

/- Digits of a number from the end on. -/
set_option linter.unusedVariables false
namespace Go.Proofs.Ytjpefafkejklaaa
open Go Go.AL NM

theorem decR_get (n i : Nat) : (decR n).getD i 48 = ((48 + n / 10 ^ i % 10 : Nat) : Int) := by
  induction i generalizing n with
  | zero =>
    by_cases h : n = 0
    · subst h; rw [decR_zero]; rfl
    · rw [decR_pos (by omega)]; simp
  | succ i ih =>
    by_cases h : n = 0
    · subst h; rw [decR_zero]; simp
    · rw [decR_pos (by omega), List.getD_cons_succ, ih, Nat.pow_succ, Nat.mul_comm, Nat.div_div_eq_div_mul]
theorem digE_dec (n i : Nat) : digE (decL n) i = ((n / 10 ^ i % 10 : Nat) : Int) := by
  have hg := decR_get n i
  by_cases h0 : n = 0
  · subst h0
    unfold digE decL
    rw [if_pos rfl]
    rcases i with _ | i
    · rfl
    · simp
  · unfold digE decL
    rw [if_neg h0, List.reverse_reverse, List.length_reverse]
    split
    · rename_i h
      rw [List.getD, List.getElem?_eq_getElem h, Option.getD_some] at *
      omega
    · rename_i h
      rw [List.getD, List.getElem?_eq_none (by omega), Option.getD_none] at hg
      omega

end Go.Proofs.Ytjpefafkejklaaa

/- Contracts of the reference: sums. -/
set_option linter.unusedVariables false
namespace Go.Proofs.Ytjpefafkejklaaa
open Go Go.AL NM

theorem decR_lt (n : Nat) : n < 10 ^ (decR n).length := by
  induction n using Nat.strongRecOn with
  | _ n ih =>
    by_cases h : n = 0
    · subst h; rw [decR_zero]; decide
    · have := ih (n / 10) (by omega)
      rw [decR_pos (by omega), List.length_cons, Nat.pow_succ]
      omega
theorem decL_lt (n : Nat) : n < 10 ^ (decL n).length := by
  unfold decL
  split
  · rename_i h; subst h; decide
  · rw [List.length_reverse]; exact decR_lt n
theorem decL_div {n i : Nat} (h : (decL n).length ≤ i) : n / 10 ^ i = 0 :=
  Nat.div_eq_of_lt (Nat.lt_of_lt_of_le (decL_lt n) (Nat.pow_le_pow_right (by decide) h))
theorem div_pow_succ (n i : Nat) : n / 10 ^ i = n / 10 ^ i % 10 + 10 * (n / 10 ^ (i + 1)) := by
  rw [Nat.pow_succ, ← Nat.div_div_eq_div_mul]
  omega

theorem RAdd_ok (n m : Nat) (hb : (decL n).length + (decL m).length < 1000000000) : AC Try.prog 50 [.val (.string (decS n)), .val (.string (decS m))] (.pure (.val (.string (decS (n + m))))) := by
  refine AC.of_body TTok Try.func50 rfl (enter_of Try.func50 (by kernel_rfl) (by kernel_rfl)) (noid2 (.val _) (.val _)) (.val _) (Nat.le_of_ble_eq_true rfl) ?_
  have z1 : (decS n).size = (decL n).length := strL_size _
  have z2 : (decS m).size = (decL m).length := strL_size _
  have dn : ∀ i, AC Try.prog 65 [.val (.string (decS n)), .val (.int .i64 (i : Nat))] (.pure (.val (.int .i64 (n / 10 ^ i % 10 : Nat)))) := fun i => by
    have := digit_ok (decL n) (decL_byt n) i (by omega)
    rwa [digE_dec] at this
  have dm : ∀ i, AC Try.prog 65 [.val (.string (decS m)), .val (.int .i64 (i : Nat))] (.pure (.val (.int .i64 (m / 10 ^ i % 10 : Nat)))) := fun i => by
    have := digit_ok (decL m) (decL_byt m) i (by omega)
    rwa [digE_dec] at this
  conv => whnf
  refine SW.nil 5 1 rfl ?_
  refine SW.loopM TTok (fun x : Nat × Nat × List Int => [(0, .val (.string (decS n))), (1, .val (.string (decS m))), (5, .own 32 0 x.2.2.length), (6, .val (.int .i64 x.2.1)), (7, .val (.int .i64 x.1))])
    (fun x => [(32, .cells 1 (irows .i64 x.2.2))]) 40 43 rfl (fun x => (decL n).length + (decL m).length + 1 - x.1)
    (fun x => x.1 ≤ (decL n).length + (decL m).length + 1 ∧ (x.1 = (decL n).length + (decL m).length + 1 → x.2.1 = 0) ∧ x.2.1 ≤ 1 ∧ Dg x.2.2 ∧ x.2.2.length = x.1 ∧ valD x.2.2 + 10 ^ x.1 * (n / 10 ^ x.1 + m / 10 ^ x.1 + x.2.1) = n + m) (0, 0, []) [] ⟨Nat.zero_le _, fun h => rfl, Nat.zero_le _, (fun x hx => (nomatch hx)), rfl, by simp [valD]⟩
    ⟨⟨rfl, rfl⟩, ⟨rfl, rfl⟩, ⟨rfl, rfl⟩, ⟨rfl, rfl⟩, ⟨rfl, rfl⟩, trivial⟩ ⟨⟨rfl, .inr ⟨rfl, rfl⟩⟩, trivial⟩ rfl ?_
  rintro ⟨i, c, out⟩ ⟨hi, hc0, hc, hD, hl, hv⟩
  have hi : i ≤ (decL n).length + (decL m).length + 1 := hi
  have hc0 : i = (decL n).length + (decL m).length + 1 → c = 0 := hc0
  have hc : c ≤ 1 := hc
  have hD : Dg out := hD
  have hl : out.length = i := hl
  have hv : valD out + 10 ^ i * (n / 10 ^ i + m / 10 ^ i + c) = n + m := hv
  have hle : 0 + out.length ≤ (irows .i64 out).length := by rw [irows_len]; omega
  have fin : (decL n).length ≤ i → (decL m).length ≤ i → c = 0 → ∃ r, AC Try.prog 66 [.sl 1 ((irows .i64 out).take out.length) false] (.pure r) ∧ r = .val (.string (decS (n + m))) := fun h1 h2 h3 => by
    refine ⟨_, ?_, rfl⟩
    have := written_ok out hD (by omega)
    rw [show valD out = n + m by rw [← hv, h3, decL_div h1, decL_div h2]; simp] at this
    rw [List.take_of_length_le (by rw [irows_len]; exact Nat.le_refl _)]
    exact this
  have step : (i < (decL n).length ∨ i < (decL m).length ∨ 0 < c) → ∃ d c' : Nat, d = n / 10 ^ i % 10 + m / 10 ^ i % 10 + c ∧ c' = d / 10 ∧ d ≤ 19 ∧ i + 1 ≤ (decL n).length + (decL m).length + 1 ∧ (i + 1 = (decL n).length + (decL m).length + 1 → c' = 0) ∧ c' ≤ 1 ∧ Dg (out ++ [((d % 10 : Nat) : Int)]) ∧ valD (out ++ [((d % 10 : Nat) : Int)]) + 10 ^ (i + 1) * (n / 10 ^ (i + 1) + m / 10 ^ (i + 1) + c') = n + m := fun h => by
    have hi1 : i + 1 ≤ (decL n).length + (decL m).length + 1 := by
      rcases Nat.lt_or_ge i ((decL n).length + (decL m).length + 1) with h' | h'
      · exact h'
      · have := hc0 (by omega); omega
    refine ⟨_, _, rfl, rfl, by omega, hi1, fun e => ?_, by omega, ?_, ?_⟩
    · rw [decL_div (show (decL n).length ≤ i by omega), decL_div (show (decL m).length ≤ i by omega)]
      omega
    · intro x hx
      rcases List.mem_append.1 hx with hx | hx
      · exact hD x hx
      · simp at hx; omega
    · rw [valD_snoc, hl, ← hv, div_pow_succ n i, div_pow_succ m i, Nat.pow_succ 10 i, Nat.mul_assoc, Nat.add_assoc, ← Nat.mul_add]
      congr 2
      rw [← Nat.pow_succ]
      generalize n / 10 ^ (i + 1) = a
      generalize m / 10 ^ (i + 1) = b
      omega
  conv => whnf
  refine caseb (fun h1 => ?a) (fun h1 => ?q)
  case' q =>
    conv => whnf
    refine caseb (fun h2 => ?b) (fun h2 => ?q2)
  case' q2 =>
    conv => whnf
    refine caseb (fun h3 => ?c) (fun h3 => ?q3)
  case q3 =>
    have h1' : ¬ (i : Int) < (decS n).size := of_decide_eq_false h1
    have h2' : ¬ (i : Int) < (decS m).size := of_decide_eq_false h2
    have h3' : ¬ (c : Int) > 0 := of_decide_eq_false h3
    rw [z1] at h1'
    rw [z2] at h2'
    obtain ⟨r, hr, rfl⟩ := fin (by omega) (by omega) (by omega)
    conv => whnf
    refine ⟨hle, _, hr, ?_⟩
    conv => whnf
    exact rfl
  case' a =>
    have h1' : (i : Int) < (decS n).size := of_decide_eq_true h1
    rw [z1] at h1'
    have hst := step (.inl (by omega))
  case' b =>
    have h2' : (i : Int) < (decS m).size := of_decide_eq_true h2
    rw [z2] at h2'
    have hst := step (.inr (.inl (by omega)))
  case' c =>
    have h3' : (c : Int) > 0 := of_decide_eq_true h3
    have hst := step (.inr (.inr (by omega)))
  all_goals
    conv => whnf
    obtain ⟨d, c', hd, hc', hd19, s1, s2, s3, s4, s5⟩ := hst
    have e0 : IntKind.i64.wrap (IntKind.i64.wrap (((n / 10 ^ i % 10 : Nat) : Int) + ((m / 10 ^ i % 10 : Nat) : Int)) + (c : Int)) = (d : Int) := by
      rw [IntWalk.i64_in (((n / 10 ^ i % 10 : Nat) : Int) + ((m / 10 ^ i % 10 : Nat) : Int)) (by omega), IntWalk.i64_in _ (by omega)]; omega
    have e1 : (d : Int).tmod 10 = ((d % 10 : Nat) : Int) := by
      rw [Int.tmod_eq_emod_of_nonneg (Int.natCast_nonneg _)]; omega
    have e2 : IntKind.i64.wrap ((d : Int).tdiv 10) = (c' : Int) := by
      rw [Int.tdiv_eq_ediv_of_nonneg (Int.natCast_nonneg _), IntWalk.i64_in _ (by omega)]; omega
    conv => whnf
    refine ⟨_, dn i, ?_⟩
    conv => whnf
    refine ⟨_, dm i, ?_⟩
    conv => whnf
    refine ⟨by decide, ?_⟩
    conv => whnf
    refine ⟨⟨hle, by show (out.length + 1) * 8 ≤ 140737488355328; omega, Nat.le_of_ble_eq_true rfl⟩, ?_⟩
    conv => whnf
    refine ⟨by decide, ?_⟩
    conv => whnf
    refine ⟨(i + 1, c', out ++ [((d % 10 : Nat) : Int)]), [(32, 264)], (by show (decL n).length + (decL m).length + 1 - (i + 1) < (decL n).length + (decL m).length + 1 - i; omega), ⟨s1, s2, s3, s4, (by show (out ++ [((d % 10 : Nat) : Int)]).length = i + 1; simp [hl]), s5⟩,
      ⟨⟨rfl, rfl⟩, ⟨rfl, rfl⟩, ⟨ownE rfl ?_, rfl⟩, ⟨valI ?_, rfl⟩, ⟨valI ?_, rfl⟩, trivial⟩, ⟨⟨rfl, .inl ⟨celE ?_, irows_noid _ _⟩⟩, trivial⟩, rfl⟩
    · show out.length + 1 = (out ++ [((d % 10 : Nat) : Int)]).length
      simp
    · show IntKind.i64.wrap (Int.tdiv (IntKind.i64.wrap (IntKind.i64.wrap (((n / 10 ^ i % 10 : Nat) : Int) + ((m / 10 ^ i % 10 : Nat) : Int)) + (c : Int))) 10) = (c' : Int)
      rw [e0, e2]
    · show IntKind.i64.wrap ((i : Int) + 1) = ((i + 1 : Nat) : Int)
      rw [IntWalk.i64_in _ (by omega)]; omega
    · show List.take out.length (List.drop 0 (irows .i64 out)) ++ [[AV.val (.int .i64 (Int.tmod (IntKind.i64.wrap (IntKind.i64.wrap (((n / 10 ^ i % 10 : Nat) : Int) + ((m / 10 ^ i % 10 : Nat) : Int)) + (c : Int))) 10))]] = _
      rw [e0, e1, List.drop_zero, List.take_of_length_le (by rw [irows_len]; exact Nat.le_refl _), ← irows_append]
      rfl

end Go.Proofs.Ytjpefafkejklaaa

/- Contracts of the reference: differences. -/
set_option linter.unusedVariables false
namespace Go.Proofs.Ytjpefafkejklaaa
open Go Go.AL NM

theorem valD_lt {l : List Int} (h : Dg l) : valD l < 10 ^ l.length := by
  induction l with
  | nil => decide
  | cons x l ih =>
    have h1 := h x List.mem_cons_self
    have h2 := ih (fun y hy => h y (List.mem_cons_of_mem _ hy))
    rw [valD, List.length_cons, Nat.pow_succ]
    omega

theorem RSub_ok (n m : Nat) (hnm : m ≤ n) (hb : (decL n).length + (decL m).length < 1000000000) : AC Try.prog 49 [.val (.string (decS n)), .val (.string (decS m))] (.pure (.val (.string (decS (n - m))))) := by
  refine AC.of_body TTok Try.func49 rfl (enter_of Try.func49 (by kernel_rfl) (by kernel_rfl)) (noid2 (.val _) (.val _)) (.val _) (Nat.le_of_ble_eq_true rfl) ?_
  have z1 : (decS n).size = (decL n).length := strL_size _
  have dn : ∀ i, AC Try.prog 65 [.val (.string (decS n)), .val (.int .i64 (i : Nat))] (.pure (.val (.int .i64 (n / 10 ^ i % 10 : Nat)))) := fun i => by
    have := digit_ok (decL n) (decL_byt n) i (by omega)
    rwa [digE_dec] at this
  have dm : ∀ i, AC Try.prog 65 [.val (.string (decS m)), .val (.int .i64 (i : Nat))] (.pure (.val (.int .i64 (m / 10 ^ i % 10 : Nat)))) := fun i => by
    have := digit_ok (decL m) (decL_byt m) i (by omega)
    rwa [digE_dec] at this
  conv => whnf
  refine SW.nil 5 1 rfl ?_
  refine SW.loopM TTok (fun x : Nat × Nat × List Int => [(0, .val (.string (decS n))), (1, .val (.string (decS m))), (5, .own 32 0 x.2.2.length), (6, .val (.int .i64 x.2.1)), (7, .val (.int .i64 x.1))])
    (fun x => [(32, .cells 1 (irows .i64 x.2.2))]) 40 34 rfl (fun x => (decL n).length - x.1)
    (fun x => x.1 ≤ (decL n).length ∧ x.2.1 ≤ 1 ∧ Dg x.2.2 ∧ x.2.2.length = x.1 ∧ valD x.2.2 + 10 ^ x.1 * (n / 10 ^ x.1) = (n - m) + 10 ^ x.1 * (m / 10 ^ x.1 + x.2.1)) (0, 0, []) [] ⟨Nat.zero_le _, Nat.zero_le _, (fun x hx => (nomatch hx)), rfl, by simp [valD]; omega⟩
    ⟨⟨rfl, rfl⟩, ⟨rfl, rfl⟩, ⟨rfl, rfl⟩, ⟨rfl, rfl⟩, ⟨rfl, rfl⟩, trivial⟩ ⟨⟨rfl, .inr ⟨rfl, rfl⟩⟩, trivial⟩ rfl ?_
  rintro ⟨i, c, out⟩ ⟨hi, hc, hD, hl, hv⟩
  have hi : i ≤ (decL n).length := hi
  have hc : c ≤ 1 := hc
  have hD : Dg out := hD
  have hl : out.length = i := hl
  have hv : valD out + 10 ^ i * (n / 10 ^ i) = (n - m) + 10 ^ i * (m / 10 ^ i + c) := hv
  have hle : 0 + out.length ≤ (irows .i64 out).length := by rw [irows_len]; omega
  have fin : (decL n).length ≤ i → ∃ r, AC Try.prog 66 [.sl 1 ((irows .i64 out).take out.length) false] (.pure r) ∧ r = .val (.string (decS (n - m))) := fun h1 => by
    refine ⟨_, ?_, rfl⟩
    have := written_ok out hD (by omega)
    have e : valD out = n - m := by
      have h2 := valD_lt hD
      rw [hl] at h2
      rw [decL_div h1, Nat.div_eq_of_lt (Nat.lt_of_le_of_lt hnm (Nat.lt_of_lt_of_le (decL_lt n) (Nat.pow_le_pow_right (by decide) h1)))] at hv
      rcases Nat.eq_zero_or_pos c with h0 | h0
      · subst h0; omega
      · have : 10 ^ i ≤ 10 ^ i * (0 + c) := Nat.le_mul_of_pos_right _ (by omega)
        omega
    rw [e] at this
    rw [List.take_of_length_le (by rw [irows_len]; exact Nat.le_refl _)]
    exact this
  have step : ∀ d c' : Nat, d ≤ 9 → c' ≤ 1 → d + m / 10 ^ i % 10 + c = n / 10 ^ i % 10 + 10 * c' → Dg (out ++ [(d : Int)]) ∧ valD (out ++ [(d : Int)]) + 10 ^ (i + 1) * (n / 10 ^ (i + 1)) = (n - m) + 10 ^ (i + 1) * (m / 10 ^ (i + 1) + c') := fun d c' h9 hc1 he => by
    refine ⟨?_, ?_⟩
    · intro x hx
      rcases List.mem_append.1 hx with hx | hx
      · exact hD x hx
      · simp at hx; omega
    · rw [div_pow_succ n i, div_pow_succ m i] at hv
      rw [valD_snoc, hl]
      revert hv
      generalize n / 10 ^ (i + 1) = a
      generalize m / 10 ^ (i + 1) = b
      rw [Nat.pow_succ, Nat.mul_assoc, Nat.mul_assoc]
      generalize n / 10 ^ i % 10 = u at *
      generalize m / 10 ^ i % 10 = v at *
      intro hv
      have h2 : 10 ^ i * (d + v + c) = 10 ^ i * (u + 10 * c') := by rw [he]
      simp only [Nat.mul_add] at hv h2 ⊢
      omega
  conv => whnf
  refine caseb (fun h1 => ?_) (fun h1 => ?_)
  · have h1' : (i : Int) < (decS n).size := of_decide_eq_true h1
    rw [z1] at h1'
    have ed : IntKind.i64.wrap (IntKind.i64.wrap (((n / 10 ^ i % 10 : Nat) : Int) - ((m / 10 ^ i % 10 : Nat) : Int)) - (c : Int)) = ((n / 10 ^ i % 10 : Nat) : Int) - ((m / 10 ^ i % 10 : Nat) : Int) - (c : Int) := by
      rw [IntWalk.i64_in (((n / 10 ^ i % 10 : Nat) : Int) - ((m / 10 ^ i % 10 : Nat) : Int)) (by omega), IntWalk.i64_in _ (by omega)]
    conv => whnf
    refine ⟨_, dn i, ?_⟩
    conv => whnf
    refine ⟨_, dm i, ?_⟩
    conv => whnf
    refine caseb (fun h2 => ?_) (fun h2 => ?_)
    · have h2' : IntKind.i64.wrap (IntKind.i64.wrap (((n / 10 ^ i % 10 : Nat) : Int) - ((m / 10 ^ i % 10 : Nat) : Int)) - (c : Int)) < 0 := of_decide_eq_true h2
      rw [ed] at h2'
      obtain ⟨s1, s2⟩ := step (n / 10 ^ i % 10 + 10 - m / 10 ^ i % 10 - c) 1 (by omega) (by omega) (by omega)
      conv => whnf
      refine ⟨⟨hle, by show (out.length + 1) * 8 ≤ 140737488355328; omega, Nat.le_of_ble_eq_true rfl⟩, ?_⟩
      conv => whnf
      refine ⟨(i + 1, 1, out ++ [((n / 10 ^ i % 10 + 10 - m / 10 ^ i % 10 - c : Nat) : Int)]), [(32, 232)], (by show (decL n).length - (i + 1) < (decL n).length - i; omega), ⟨(by show i + 1 ≤ (decL n).length; omega), Nat.le_refl 1, s1, (by show (out ++ [((n / 10 ^ i % 10 + 10 - m / 10 ^ i % 10 - c : Nat) : Int)]).length = i + 1; simp [hl]), s2⟩,
        ⟨⟨rfl, rfl⟩, ⟨rfl, rfl⟩, ⟨ownE rfl ?_, rfl⟩, ⟨rfl, rfl⟩, ⟨valI ?_, rfl⟩, trivial⟩, ⟨⟨rfl, .inl ⟨celE ?_, irows_noid _ _⟩⟩, trivial⟩, rfl⟩
      · show out.length + 1 = (out ++ [((n / 10 ^ i % 10 + 10 - m / 10 ^ i % 10 - c : Nat) : Int)]).length
        simp
      · show IntKind.i64.wrap ((i : Int) + 1) = ((i + 1 : Nat) : Int)
        rw [IntWalk.i64_in _ (by omega)]; omega
      · show List.take out.length (List.drop 0 (irows .i64 out)) ++ [[AV.val (.int .i64 (IntKind.i64.wrap (IntKind.i64.wrap (IntKind.i64.wrap (((n / 10 ^ i % 10 : Nat) : Int) - ((m / 10 ^ i % 10 : Nat) : Int)) - (c : Int)) + 10)))]] = _
        rw [ed, IntWalk.i64_in _ (by omega), show ((n / 10 ^ i % 10 : Nat) : Int) - ((m / 10 ^ i % 10 : Nat) : Int) - (c : Int) + 10 = ((n / 10 ^ i % 10 + 10 - m / 10 ^ i % 10 - c : Nat) : Int) by omega, List.drop_zero, List.take_of_length_le (by rw [irows_len]; exact Nat.le_refl _), ← irows_append]
        rfl
    · have h2' : ¬ IntKind.i64.wrap (IntKind.i64.wrap (((n / 10 ^ i % 10 : Nat) : Int) - ((m / 10 ^ i % 10 : Nat) : Int)) - (c : Int)) < 0 := of_decide_eq_false h2
      rw [ed] at h2'
      obtain ⟨s1, s2⟩ := step (n / 10 ^ i % 10 - m / 10 ^ i % 10 - c) 0 (by omega) (by omega) (by omega)
      conv => whnf
      refine ⟨⟨hle, by show (out.length + 1) * 8 ≤ 140737488355328; omega, Nat.le_of_ble_eq_true rfl⟩, ?_⟩
      conv => whnf
      refine ⟨(i + 1, 0, out ++ [((n / 10 ^ i % 10 - m / 10 ^ i % 10 - c : Nat) : Int)]), [(32, 200)], (by show (decL n).length - (i + 1) < (decL n).length - i; omega), ⟨(by show i + 1 ≤ (decL n).length; omega), Nat.zero_le 1, s1, (by show (out ++ [((n / 10 ^ i % 10 - m / 10 ^ i % 10 - c : Nat) : Int)]).length = i + 1; simp [hl]), s2⟩,
        ⟨⟨rfl, rfl⟩, ⟨rfl, rfl⟩, ⟨ownE rfl ?_, rfl⟩, ⟨rfl, rfl⟩, ⟨valI ?_, rfl⟩, trivial⟩, ⟨⟨rfl, .inl ⟨celE ?_, irows_noid _ _⟩⟩, trivial⟩, rfl⟩
      · show out.length + 1 = (out ++ [((n / 10 ^ i % 10 - m / 10 ^ i % 10 - c : Nat) : Int)]).length
        simp
      · show IntKind.i64.wrap ((i : Int) + 1) = ((i + 1 : Nat) : Int)
        rw [IntWalk.i64_in _ (by omega)]; omega
      · show List.take out.length (List.drop 0 (irows .i64 out)) ++ [[AV.val (.int .i64 (IntKind.i64.wrap (IntKind.i64.wrap (((n / 10 ^ i % 10 : Nat) : Int) - ((m / 10 ^ i % 10 : Nat) : Int)) - (c : Int))))]] = _
        rw [ed, show ((n / 10 ^ i % 10 : Nat) : Int) - ((m / 10 ^ i % 10 : Nat) : Int) - (c : Int) = ((n / 10 ^ i % 10 - m / 10 ^ i % 10 - c : Nat) : Int) by omega, List.drop_zero, List.take_of_length_le (by rw [irows_len]; exact Nat.le_refl _), ← irows_append]
        rfl
  · have h1' : ¬ (i : Int) < (decS n).size := of_decide_eq_false h1
    rw [z1] at h1'
    obtain ⟨r, hr, rfl⟩ := fin (by omega)
    conv => whnf
    refine ⟨hle, _, hr, ?_⟩
    conv => whnf
    exact rfl

end Go.Proofs.Ytjpefafkejklaaa

/- What the laws of two numbers read: every text. -/
set_option linter.unusedVariables false
namespace Go.Proofs.Ytjpefafkejklaaa
open Go Go.AL NM

theorem decL_len_le {n k : Nat} (hk : 1 ≤ k) (h : n < 10 ^ k) : (decL n).length ≤ k := by
  unfold decL
  split
  · simpa using hk
  · rw [List.length_reverse]; exact decR_len h

/-- What is read of a text: a number, or that it is none. -/
def Rd (l : List Int) (n : Nat) : Prop := n < 10 ^ 120 ∧ (decL n).length ≤ 120 ∧ (limbs n).length ≤ 120 ∧ AC Try.prog 21 [.val (.string (strL l))] (.pure (.tup [natA n, .val (.string (decS n)), .val (.bool true)]))
theorem read_any (l : List Int) (hB : Byt l) (hb : l.length < 140737488355328) : (∃ n, Rd l n) ∨ ((120 < l.length ∨ right l = false) ∧ AC Try.prog 21 [.val (.string (strL l))] (.pure (.tup [natA 0, .val (.string (strL [])), .val (.bool false)]))) := by
  by_cases h : l.length ≤ 120 ∧ right l = true
  · obtain ⟨hd, hne, _⟩ := right_dig h.2
    have h1 : valL l < 10 ^ 120 := Nat.lt_of_lt_of_le (valL_lt hd) (Nat.pow_le_pow_right (by decide) h.1)
    exact .inl ⟨valL l, h1, decL_len_le (by decide) h1, limbs_ten h1, read_ok l h.1 h.2⟩
  · refine .inr ⟨?_, read_bad l hB hb h⟩
    by_cases h1 : l.length ≤ 120
    · right
      cases hr : right l with
      | false => rfl
      | true => exact absurd ⟨h1, hr⟩ h
    · left; omega

end Go.Proofs.Ytjpefafkejklaaa

/- The statement NatSums: the walk through the law. -/
set_option linter.unusedVariables false
namespace Go.Proofs.Ytjpefafkejklaaa.natSums
open Go Go.AL NM

theorem bad (a b : List Int) (hBa : Byt a) (hBb : Byt b) (hla : a.length < 140737488355328) (hlb : b.length < 140737488355328) (x y : Nat) (xs ys : ByteArray) (tx ty : Bool)
    (h1 : AC Try.prog 21 [.val (.string (strL a))] (.pure (.tup [natA x, .val (.string xs), .val (.bool tx)])))
    (h2 : AC Try.prog 21 [.val (.string (strL b))] (.pure (.tup [natA y, .val (.string ys), .val (.bool ty)])))
    (ht : (tx && ty) = false) (hw : 120 < a.length ∨ 120 < b.length ∨ right a = false ∨ right b = false) :
    AC Try.prog 9 [.val (.string (strL a)), .val (.string (strL b))] (.pure (.val (.bool true))) := by
  have hRa := Right_ok a hBa hla
  have hRb := Right_ok b hBb hlb
  have za := strL_size a
  have zb := strL_size b
  cases tx <;> cases ty <;> first | (exfalso; exact Bool.noConfusion ht) | skip
  all_goals
    refine AC.of_body TTok Try.func9 rfl (enter_of Try.func9 (by kernel_rfl) (by kernel_rfl)) (noid2 (.val _) (.val _)) (.val _) (Nat.le_of_ble_eq_true rfl) ?_
    conv => whnf
    refine ⟨_, h1, ?_⟩
    conv => whnf
    refine ⟨_, h2, ?_⟩
    conv => whnf
    refine ⟨_, awake_ok, ?_⟩
    conv => whnf
    refine caseb (fun h3 => ?_) (fun h3 => ?_)
    · conv => whnf
      exact rfl
    · have h3' : ¬ ((strL a).size : Int) > 120 := of_decide_eq_false h3
      conv => whnf
      refine caseb (fun h4 => ?_) (fun h4 => ?_)
      · conv => whnf
        exact rfl
      · have h4' : ¬ ((strL b).size : Int) > 120 := of_decide_eq_false h4
        conv => whnf
        refine ⟨_, hRa, ?_⟩
        conv => whnf
        refine caseb (fun h5 => ?_) (fun h5 => ?_)
        · conv => whnf
          exact rfl
        · conv => whnf
          refine ⟨_, hRb, ?_⟩
          conv => whnf
          refine valB ?_
          show (!right b) = true
          cases hb : right b with
          | false => rfl
          | true =>
            cases ha : right a with
            | false => rw [ha] at h5; cases h5
            | true =>
              exfalso
              rw [ha, hb] at hw
              rcases hw with hw | hw | hw | hw
              · omega
              · omega
              · cases hw
              · cases hw

theorem selfb (s : ByteArray) : (s.toList == s.toList) = true := beq_self_eq_true _
theorem good (a b : List Int) (n m : Nat) (ha : Rd a n) (hb : Rd b m) : AC Try.prog 9 [.val (.string (strL a)), .val (.string (strL b))] (.pure (.val (.bool true))) := by
  obtain ⟨_, dn, ln, h1⟩ := ha
  obtain ⟨_, dm, lm, h2⟩ := hb
  have hC := Cmp_ok n m (by omega) (by omega)
  have hRC := RCmp_ok n m
  have hA := Add_ok n m (by omega)
  have hRA := RAdd_ok n m (by omega)
  have hsum : (limbs (n + m)).length < 4294967296 := by
    have : n + m < 10 ^ 121 := by omega
    have := limbs_ten this
    omega
  have hTA := Text_ok (n + m) hsum
  have cself : (cmpN n m == cmpN n m) = true := beq_self_eq_true _
  rcases Nat.lt_or_ge n m with hnm | hnm
  · have hS := Sub_lt n m hnm (by omega) (by omega)
    have hT0 := Text_ok 0 (by rw [limbs_zero]; decide)
    have hcmp : cmpN n m = -1 := cmpN_lt hnm
    have hs0 : ((decS 0).toList == ({ data := #[48] } : ByteArray).toList) = true := by
      have := decS_is 0 [48] (by intro x hx; simp at hx; omega)
      rw [decL_one 0 (by decide)] at this
      exact this
    refine AC.of_body TTok Try.func9 rfl (enter_of Try.func9 (by kernel_rfl) (by kernel_rfl)) (noid2 (.val _) (.val _)) (.val _) (Nat.le_of_ble_eq_true rfl) ?_
    conv => whnf
    refine ⟨_, h1, ?_⟩
    conv => whnf
    refine ⟨_, h2, ?_⟩
    conv => whnf
    refine ⟨_, hS, ?_⟩
    conv => whnf
    refine ⟨_, hRC, ?_⟩
    conv => whnf
    refine caseb (fun h3 => ?_) (fun h3 => ?_)
    · have h3' : cmpN n m ≥ 0 := of_decide_eq_true h3
      rw [hcmp] at h3'
      omega
    conv => whnf
    refine ⟨_, hA, ?_⟩
    conv => whnf
    refine ⟨_, hTA, ?_⟩
    conv => whnf
    refine ⟨_, hRA, ?_⟩
    conv => whnf
    refine caseb (fun _ => ?_) (fun h => Bool.noConfusion ((selfb _).symm.trans h))
    conv => whnf
    refine ⟨_, hC, ?_⟩
    conv => whnf
    refine ⟨_, hRC, ?_⟩
    conv => whnf
    refine caseb (fun _ => ?_) (fun h => Bool.noConfusion (cself.symm.trans h))
    conv => whnf
    refine ⟨_, hT0, ?_⟩
    conv => whnf
    refine caseb (fun _ => ?_) (fun h => Bool.noConfusion (hs0.symm.trans h))
    conv => whnf
    refine ⟨_, hRC, ?_⟩
    have h6 : (false == decide (cmpN n m ≥ 0)) = true := by rw [hcmp]; rfl
    conv => whnf
    refine caseb (fun _ => ?_) (fun h => Bool.noConfusion (h6.symm.trans h))
    conv => whnf
    refine ⟨_, awake_ok, ?_⟩
    conv => whnf
    exact rfl
  · have hS := Sub_ge n m hnm (by omega)
    have hRS := RSub_ok n m hnm (by omega)
    have hTS := Text_ok (n - m) (by
      have : n - m < 10 ^ 120 := by omega
      have := limbs_ten this
      omega)
    have hcmp : 0 ≤ cmpN n m := by
      unfold cmpN
      rw [if_neg (by omega)]
      split <;> omega
    refine AC.of_body TTok Try.func9 rfl (enter_of Try.func9 (by kernel_rfl) (by kernel_rfl)) (noid2 (.val _) (.val _)) (.val _) (Nat.le_of_ble_eq_true rfl) ?_
    conv => whnf
    refine ⟨_, h1, ?_⟩
    conv => whnf
    refine ⟨_, h2, ?_⟩
    conv => whnf
    refine ⟨_, hS, ?_⟩
    conv => whnf
    refine ⟨_, hRC, ?_⟩
    conv => whnf
    refine caseb (fun h3 => ?_) (fun h3 => ?_)
    rotate_left
    · have h3' : ¬ cmpN n m ≥ 0 := of_decide_eq_false h3
      omega
    conv => whnf
    refine ⟨_, hRS, ?_⟩
    conv => whnf
    refine ⟨_, hA, ?_⟩
    conv => whnf
    refine ⟨_, hTA, ?_⟩
    conv => whnf
    refine ⟨_, hRA, ?_⟩
    conv => whnf
    refine caseb (fun _ => ?_) (fun h => Bool.noConfusion ((selfb _).symm.trans h))
    conv => whnf
    refine ⟨_, hC, ?_⟩
    conv => whnf
    refine ⟨_, hRC, ?_⟩
    conv => whnf
    refine caseb (fun _ => ?_) (fun h => Bool.noConfusion (cself.symm.trans h))
    conv => whnf
    refine ⟨_, hTS, ?_⟩
    conv => whnf
    refine caseb (fun _ => ?_) (fun h => Bool.noConfusion ((selfb _).symm.trans h))
    conv => whnf
    refine ⟨_, hRC, ?_⟩
    have h6 : (true == decide (cmpN n m ≥ 0)) = true := by rw [decide_eq_true hcmp]; rfl
    conv => whnf
    refine caseb (fun _ => ?_) (fun h => Bool.noConfusion (h6.symm.trans h))
    conv => whnf
    refine ⟨_, awake_ok, ?_⟩
    conv => whnf
    exact rfl

theorem holds (a b : ByteArray) (ha : a.size < 140737488355328) (hb : b.size < 140737488355328) : AC Try.prog 9 [.val (.string a), .val (.string b)] (.pure (.val (.bool true))) := by
  have ea : strL (bytesL a) = a := strL_bytesL a
  have eb : strL (bytesL b) = b := strL_bytesL b
  have ra := read_any (bytesL a) (bytesL_byt a) (by rw [bytesL_len]; exact ha)
  have rb := read_any (bytesL b) (bytesL_byt b) (by rw [bytesL_len]; exact hb)
  rw [← ea, ← eb]
  rcases ra with ⟨n, ra⟩ | ⟨wa, ra⟩
  · rcases rb with ⟨m, rb⟩ | ⟨wb, rb⟩
    · exact good _ _ n m ra rb
    · exact bad _ _ (bytesL_byt a) (bytesL_byt b) (by rw [bytesL_len]; exact ha) (by rw [bytesL_len]; exact hb) _ _ _ _ _ _ ra.2.2.2 rb rfl (wb.elim (fun h => .inr (.inl h)) (fun h => .inr (.inr (.inr h))))
  · rcases rb with ⟨m, rb⟩ | ⟨wb, rb⟩
    · exact bad _ _ (bytesL_byt a) (bytesL_byt b) (by rw [bytesL_len]; exact ha) (by rw [bytesL_len]; exact hb) _ _ _ _ _ _ ra rb.2.2.2 rfl (wa.elim (fun h => .inl h) (fun h => .inr (.inr (.inl h))))
    · exact bad _ _ (bytesL_byt a) (bytesL_byt b) (by rw [bytesL_len]; exact ha) (by rw [bytesL_len]; exact hb) _ _ _ _ _ _ ra rb rfl (wa.elim (fun h => .inl h) (fun h => .inr (.inr (.inl h))))

end Go.Proofs.Ytjpefafkejklaaa.natSums
