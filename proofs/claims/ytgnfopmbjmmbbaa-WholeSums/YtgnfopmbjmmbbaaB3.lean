/- Contracts of nat: differences of numbers. -/
import Derived.Test.YtgnfopmbjmmbbaaB2
set_option linter.unusedVariables false
namespace Go.Proofs.Ytgnfopmbjmmbbaa
open Go Go.AL NM

theorem Sub_ge (n m : Nat) (hnm : m ≤ n) (hb : (limbs n).length < 4000000000) : AC Try.prog 49 [natA n, natA m] (.pure (.tup [natA (n - m), .val (.bool true)])) := by
  refine AC.of_body TTok Try.func49 rfl (enter_of Try.func49 (by kernel_rfl) (by kernel_rfl)) (noid2 (natA_noid n) (natA_noid m)) (.tup _ (noid2 (natA_noid _) (.val _))) (Nat.le_of_ble_eq_true rfl) ?_
  have hlm := limbs_len_mono hnm
  have hcmp := Cmp_ok n m hb (by omega)
  have hcn : ¬ cmpN n m < 0 := by
    unfold cmpN
    rw [if_neg (by omega)]
    split <;> decide
  generalize cmpN n m = cc at *
  unfold natA at hcmp
  unfold natA
  have hva := val_limbs n
  have hvb := val_limbs m
  have hLa := limbs_lim n
  have hLb := limbs_lim m
  generalize limbs n = a at *
  generalize limbs m = b at *
  subst hva
  subst hvb
  conv => whnf
  refine ⟨_, hcmp, ?_⟩
  conv => whnf
  refine caseb (fun h1 => absurd (of_decide_eq_true h1) hcn) (fun _ => ?_)
  conv => whnf
  refine ⟨⟨by rw [irows_len]; omega, by rw [irows_len]; omega, ?_⟩, ?_⟩
  · rw [irows_len]; show (a.length : Int) * 4 ≤ _; omega
  conv => whnf
  refine SW.loopM TTok (fun z : Nat × Nat × List Int => [(2, .lp 0 0), (3, .lp 8 0), (4, .lp 16 0), (6, .own 88 0 a.length), (7, .val (.int .u32 z.2.1)), (21, .val (.int .i64 a.length)), (22, .val (.int .i64 z.1))])
    (fun z => [(0, .cells 1 [[.sl 1 (irows .u32 a) false]]), (8, .cells 1 [[.sl 1 (irows .u32 b) false]]), (16, .cells 1 [[.sl 0 [] true]]), (88, .cells 1 (irows .u32 z.2.2))]) 144 52 rfl (fun z => a.length - z.1)
    (fun z => z.1 ≤ a.length ∧ z.2.1 ≤ 1 ∧ z.2.2.length = a.length ∧ Lim z.2.2 ∧ val z.2.2 + val (b.take z.1) = val (a.take z.1) + z.2.1 * 4294967296 ^ z.1 ∧ ∀ k, z.1 ≤ k → k < z.2.2.length → z.2.2[k]? = some 0)
    (0, 0, List.replicate a.length 0) [] ⟨Nat.zero_le _, Nat.zero_le _, by simp, Lim.rep _, by simp [val_rep, val], fun k _ hk => by simp at hk; simp [hk]⟩
    ⟨⟨rfl, rfl⟩, ⟨rfl, rfl⟩, ⟨rfl, rfl⟩, ⟨ownE rfl ?_, rfl⟩, ⟨rfl, rfl⟩, ⟨valI ?_, rfl⟩, ⟨rfl, rfl⟩, trivial⟩
    ⟨⟨rfl, .inr ⟨rfl, rfl⟩⟩, ⟨rfl, .inr ⟨rfl, rfl⟩⟩, ⟨rfl, .inr ⟨rfl, rfl⟩⟩, ⟨rfl, .inl ⟨celE ?_, irows_noid _ _⟩⟩, trivial⟩ rfl ?_
  · rw [irows_len]; omega
  · rw [irows_len]
  · rw [irows_len, Int.toNat_natCast, ← irows_rep]; rfl
  rintro ⟨i, c, out⟩ ⟨hi, hc, hl, hL, hv, hz⟩
  have hi : i ≤ a.length := hi
  have hc : c ≤ 1 := hc
  have hl : out.length = a.length := hl
  have hL : Lim out := hL
  have hv : val out + val (b.take i) = val (a.take i) + c * 4294967296 ^ i := hv
  have hz : ∀ k, i ≤ k → k < out.length → out[k]? = some 0 := hz
  conv => whnf
  refine caseb (fun h1 => ?_) (fun h1 => ?_)
  · have h1' : (i : Int) < (a.length : Int) := of_decide_eq_true h1
    have hlt : i < a.length := by omega
    have hklt : i < out.length := by omega
    have h0 : out[i]'hklt = 0 := by
      have := List.getElem?_eq_getElem (l := out) (i := i) hklt
      rw [hz i (Nat.le_refl _) hklt] at this
      injection this with this
      exact this.symm
    have hx := hLa (a[i]'hlt) (List.getElem_mem _)
    conv => whnf
    refine caseb (fun h2 => ?_) (fun h2 => ?_)
    · have h2' : (i : Int) < ((irows .u32 b).length : Int) := of_decide_eq_true h2
      rw [irows_len] at h2'
      have hylt : i < b.length := by omega
      have hy := hLb (b[i]'hylt) (List.getElem_mem _)
      have hys : val (b.take (i + 1)) = val (b.take i) + (b[i]'hylt).toNat * 4294967296 ^ i := val_take_succ hylt
      conv => whnf
      refine ⟨[.val (.int .u32 (b[i]'hylt))], ⟨by omega, irows_get _ _ (List.getElem?_eq_getElem hylt)⟩, ?_⟩
      conv => whnf
      refine ⟨[.val (.int .u32 (a[i]'hlt))], ⟨by omega, irows_get _ _ (List.getElem?_eq_getElem hlt)⟩, ?_⟩
      conv => whnf
      refine ⟨_, Sub32_ok (a[i]'hlt) (b[i]'hylt) (c : Int) hx hy ⟨by omega, by omega⟩, ?_⟩
      conv => whnf
      refine ⟨⟨by omega, by omega⟩, ?_⟩
      conv => whnf
      refine ⟨by rw [irows_len, hl]; omega, ?_⟩
      conv => whnf
      have hO : 0 ≤ (b[i]'hylt) ∧ (b[i]'hylt) < 4294967296 := hy
      obtain ⟨d, hd⟩ : ∃ d : Nat, (d : Int) = (a[i]'hlt - (b[i]'hylt) - (c : Int)) % 4294967296 := ⟨((a[i]'hlt - (b[i]'hylt) - (c : Int)) % 4294967296).toNat, by omega⟩
      obtain ⟨c', hc'⟩ : ∃ c' : Nat, (c' : Int) = (if a[i]'hlt < (b[i]'hylt) + (c : Int) then 1 else 0) := ⟨if a[i]'hlt < (b[i]'hylt) + (c : Int) then 1 else 0, by split <;> rfl⟩
      have hc1 : c' ≤ 1 := by split at hc' <;> omega
      have hdd : d + ((b[i]'hylt) : Int).toNat + c = (a[i]'hlt).toNat + c' * 4294967296 := by split at hc' <;> omega
      have hs := val_set out i (d : Int) hklt
      rw [h0] at hs
      simp only [Int.toNat_zero, Nat.zero_mul, Nat.add_zero, Int.toNat_natCast] at hs
      refine ⟨(i + 1, c', out.set i (d : Int)), [], (by show a.length - (i + 1) < a.length - i; omega), ⟨(by show i + 1 ≤ a.length; omega), hc1, ?_, ?_, ?_, ?_⟩,
        ⟨⟨rfl, rfl⟩, ⟨rfl, rfl⟩, ⟨rfl, rfl⟩, ⟨rfl, rfl⟩, ⟨valI hc'.symm, rfl⟩, ⟨rfl, rfl⟩, ⟨valI ?_, rfl⟩, trivial⟩,
        ⟨⟨rfl, .inr ⟨rfl, rfl⟩⟩, ⟨rfl, .inr ⟨rfl, rfl⟩⟩, ⟨rfl, .inr ⟨rfl, rfl⟩⟩, ⟨rfl, .inl ⟨celE ?_, irows_noid _ _⟩⟩, trivial⟩, rfl⟩
      · show (out.set i (d : Int)).length = _
        rw [List.length_set, hl]
      · exact hL.set ⟨by omega, by omega⟩
      · show val (out.set i (d : Int)) + val (b.take (i + 1)) = val (a.take (i + 1)) + c' * 4294967296 ^ (i + 1)
        rw [hs, val_take_succ hlt, hys, Nat.pow_succ, Nat.mul_comm (4294967296 ^ i) 4294967296, ← Nat.mul_assoc]
        have h9 : (d + ((b[i]'hylt) : Int).toNat + c) * 4294967296 ^ i = ((a[i]'hlt).toNat + c' * 4294967296) * 4294967296 ^ i := by rw [hdd]
        rw [Nat.add_mul, Nat.add_mul, Nat.add_mul] at h9
        omega
      · show ∀ k, i + 1 ≤ k → k < (out.set i (d : Int)).length → (out.set i (d : Int))[k]? = some 0
        intro k hk1 hk2
        rw [List.length_set] at hk2
        rw [List.getElem?_set_ne (by omega)]
        exact hz k (by omega) hk2
      · show IntKind.i64.wrap ((i : Int) + 1) = ((i + 1 : Nat) : Int)
        rw [IntWalk.i64_in _ (by omega)]; omega
      · show (irows .u32 out).set (0 + (i : Int).toNat) [AV.val (.int .u32 ((a[i]'hlt - (b[i]'hylt) - (c : Int)) % 4294967296))] = _
        rw [← hd, Nat.zero_add, Int.toNat_natCast, ← irows_set]
    · have h2' : ¬ (i : Int) < ((irows .u32 b).length : Int) := of_decide_eq_false h2
      rw [irows_len] at h2'
      have hys : val (b.take (i + 1)) = val (b.take i) + (0 : Int).toNat * 4294967296 ^ i := by
        rw [List.take_of_length_le (by omega), List.take_of_length_le (by omega)]
        simp
      conv => whnf
      refine ⟨[.val (.int .u32 (a[i]'hlt))], ⟨by omega, irows_get _ _ (List.getElem?_eq_getElem hlt)⟩, ?_⟩
      conv => whnf
      refine ⟨_, Sub32_ok (a[i]'hlt) (0 : Int) (c : Int) hx ⟨by decide, by decide⟩ ⟨by omega, by omega⟩, ?_⟩
      conv => whnf
      refine ⟨⟨by omega, by omega⟩, ?_⟩
      conv => whnf
      refine ⟨by rw [irows_len, hl]; omega, ?_⟩
      conv => whnf
      have hO : 0 ≤ (0 : Int) ∧ (0 : Int) < 4294967296 := ⟨by decide, by decide⟩
      obtain ⟨d, hd⟩ : ∃ d : Nat, (d : Int) = (a[i]'hlt - (0 : Int) - (c : Int)) % 4294967296 := ⟨((a[i]'hlt - (0 : Int) - (c : Int)) % 4294967296).toNat, by omega⟩
      obtain ⟨c', hc'⟩ : ∃ c' : Nat, (c' : Int) = (if a[i]'hlt < (0 : Int) + (c : Int) then 1 else 0) := ⟨if a[i]'hlt < (0 : Int) + (c : Int) then 1 else 0, by split <;> rfl⟩
      have hc1 : c' ≤ 1 := by split at hc' <;> omega
      have hdd : d + ((0 : Int) : Int).toNat + c = (a[i]'hlt).toNat + c' * 4294967296 := by split at hc' <;> omega
      have hs := val_set out i (d : Int) hklt
      rw [h0] at hs
      simp only [Int.toNat_zero, Nat.zero_mul, Nat.add_zero, Int.toNat_natCast] at hs
      refine ⟨(i + 1, c', out.set i (d : Int)), [], (by show a.length - (i + 1) < a.length - i; omega), ⟨(by show i + 1 ≤ a.length; omega), hc1, ?_, ?_, ?_, ?_⟩,
        ⟨⟨rfl, rfl⟩, ⟨rfl, rfl⟩, ⟨rfl, rfl⟩, ⟨rfl, rfl⟩, ⟨valI hc'.symm, rfl⟩, ⟨rfl, rfl⟩, ⟨valI ?_, rfl⟩, trivial⟩,
        ⟨⟨rfl, .inr ⟨rfl, rfl⟩⟩, ⟨rfl, .inr ⟨rfl, rfl⟩⟩, ⟨rfl, .inr ⟨rfl, rfl⟩⟩, ⟨rfl, .inl ⟨celE ?_, irows_noid _ _⟩⟩, trivial⟩, rfl⟩
      · show (out.set i (d : Int)).length = _
        rw [List.length_set, hl]
      · exact hL.set ⟨by omega, by omega⟩
      · show val (out.set i (d : Int)) + val (b.take (i + 1)) = val (a.take (i + 1)) + c' * 4294967296 ^ (i + 1)
        rw [hs, val_take_succ hlt, hys, Nat.pow_succ, Nat.mul_comm (4294967296 ^ i) 4294967296, ← Nat.mul_assoc]
        have h9 : (d + ((0 : Int) : Int).toNat + c) * 4294967296 ^ i = ((a[i]'hlt).toNat + c' * 4294967296) * 4294967296 ^ i := by rw [hdd]
        rw [Nat.add_mul, Nat.add_mul, Nat.add_mul] at h9
        omega
      · show ∀ k, i + 1 ≤ k → k < (out.set i (d : Int)).length → (out.set i (d : Int))[k]? = some 0
        intro k hk1 hk2
        rw [List.length_set] at hk2
        rw [List.getElem?_set_ne (by omega)]
        exact hz k (by omega) hk2
      · show IntKind.i64.wrap ((i : Int) + 1) = ((i + 1 : Nat) : Int)
        rw [IntWalk.i64_in _ (by omega)]; omega
      · show (irows .u32 out).set (0 + (i : Int).toNat) [AV.val (.int .u32 ((a[i]'hlt - (0 : Int) - (c : Int)) % 4294967296))] = _
        rw [← hd, Nat.zero_add, Int.toNat_natCast, ← irows_set]
  · have h1' : ¬ (i : Int) < (a.length : Int) := of_decide_eq_false h1
    have hia : i = a.length := by omega
    rw [hia, List.take_of_length_le (Nat.le_refl _), List.take_of_length_le (by omega)] at hv
    have hvl := val_lt hL
    rw [hl] at hvl
    have hc0 : c = 0 := by
      rcases Nat.eq_zero_or_pos c with h | h
      · exact h
      · have : c = 1 := by omega
        rw [this] at hv
        omega
    rw [hc0] at hv
    have ht := trim_ok out hL (by omega)
    rw [show val out = val a - val b by omega] at ht
    conv => whnf
    refine ⟨by show 0 + a.length ≤ (irows .u32 out).length; rw [irows_len]; omega, .pure (natA (val a - val b)), ?_, ?_⟩
    · show AC Try.prog 52 [.sl 1 (List.take a.length (List.drop 0 (irows .u32 out))) false] _
      rw [List.drop_zero, List.take_of_length_le (by rw [irows_len, hl]; exact Nat.le_refl _)]
      exact ht
    conv => whnf
    exact rfl

theorem Sub_lt (n m : Nat) (hnm : n < m) (hb : (limbs n).length < 4000000000) (hb' : (limbs m).length < 4000000000) : AC Try.prog 49 [natA n, natA m] (.pure (.tup [natA 0, .val (.bool false)])) := by
  refine AC.le_res (v := .tup [.agg [.sl 0 [] true], .val (.bool false)]) ?_ (.tup2 zero_le (.refl _)) (.tup _ (noid2 (natA_noid _) (.val _)))
  refine AC.of_body TTok Try.func49 rfl (enter_of Try.func49 (by kernel_rfl) (by kernel_rfl)) (noid2 (natA_noid n) (natA_noid m)) (.tup _ (noid2 zero_noid (.val _))) (Nat.le_of_ble_eq_true rfl) ?_
  have hcmp := Cmp_ok n m hb hb'
  rw [cmpN_lt hnm] at hcmp
  conv => whnf
  refine ⟨_, hcmp, ?_⟩
  conv => whnf
  exact rfl

end Go.Proofs.Ytgnfopmbjmmbbaa

/- Digits of a number from the end on. -/
set_option linter.unusedVariables false
namespace Go.Proofs.Ytgnfopmbjmmbbaa
open Go Go.AL NM

theorem decR_get (n i : Nat) : (decR n).getD i 48 = ((48 + n / 10 ^ i % 10 : Nat) : Int) := by
  induction i generalizing n with
  | zero =>
    by_cases h : n = 0
    · subst h; rw [decR_zero]; rfl
    · rw [decR_pos (by omega)]; simp
  | succ i ih =>
    by_cases h : n = 0
    · subst h; rw [decR_zero]; simp
    · rw [decR_pos (by omega), List.getD_cons_succ, ih, Nat.pow_succ, Nat.mul_comm, Nat.div_div_eq_div_mul]
theorem digE_dec (n i : Nat) : digE (decL n) i = ((n / 10 ^ i % 10 : Nat) : Int) := by
  have hg := decR_get n i
  by_cases h0 : n = 0
  · subst h0
    unfold digE decL
    rw [if_pos rfl]
    rcases i with _ | i
    · rfl
    · simp
  · unfold digE decL
    rw [if_neg h0, List.reverse_reverse, List.length_reverse]
    split
    · rename_i h
      rw [List.getD, List.getElem?_eq_getElem h, Option.getD_some] at *
      omega
    · rename_i h
      rw [List.getD, List.getElem?_eq_none (by omega), Option.getD_none] at hg
      omega

end Go.Proofs.Ytgnfopmbjmmbbaa

/- Contracts of the reference: sums. -/
set_option linter.unusedVariables false
namespace Go.Proofs.Ytgnfopmbjmmbbaa
open Go Go.AL NM

theorem decR_lt (n : Nat) : n < 10 ^ (decR n).length := by
  induction n using Nat.strongRecOn with
  | _ n ih =>
    by_cases h : n = 0
    · subst h; rw [decR_zero]; decide
    · have := ih (n / 10) (by omega)
      rw [decR_pos (by omega), List.length_cons, Nat.pow_succ]
      omega
theorem decL_lt (n : Nat) : n < 10 ^ (decL n).length := by
  unfold decL
  split
  · rename_i h; subst h; decide
  · rw [List.length_reverse]; exact decR_lt n
theorem decL_div {n i : Nat} (h : (decL n).length ≤ i) : n / 10 ^ i = 0 :=
  Nat.div_eq_of_lt (Nat.lt_of_lt_of_le (decL_lt n) (Nat.pow_le_pow_right (by decide) h))
theorem div_pow_succ (n i : Nat) : n / 10 ^ i = n / 10 ^ i % 10 + 10 * (n / 10 ^ (i + 1)) := by
  rw [Nat.pow_succ, ← Nat.div_div_eq_div_mul]
  omega

theorem RAdd_ok (n m : Nat) (hb : (decL n).length + (decL m).length < 1000000000) : AC Try.prog 40 [.val (.string (decS n)), .val (.string (decS m))] (.pure (.val (.string (decS (n + m))))) := by
  refine AC.of_body TTok Try.func40 rfl (enter_of Try.func40 (by kernel_rfl) (by kernel_rfl)) (noid2 (.val _) (.val _)) (.val _) (Nat.le_of_ble_eq_true rfl) ?_
  have z1 : (decS n).size = (decL n).length := strL_size _
  have z2 : (decS m).size = (decL m).length := strL_size _
  have dn : ∀ i, AC Try.prog 56 [.val (.string (decS n)), .val (.int .i64 (i : Nat))] (.pure (.val (.int .i64 (n / 10 ^ i % 10 : Nat)))) := fun i => by
    have := digit_ok (decL n) (decL_byt n) i (by omega)
    rwa [digE_dec] at this
  have dm : ∀ i, AC Try.prog 56 [.val (.string (decS m)), .val (.int .i64 (i : Nat))] (.pure (.val (.int .i64 (m / 10 ^ i % 10 : Nat)))) := fun i => by
    have := digit_ok (decL m) (decL_byt m) i (by omega)
    rwa [digE_dec] at this
  conv => whnf
  refine SW.nil 5 1 rfl ?_
  refine SW.loopM TTok (fun x : Nat × Nat × List Int => [(0, .val (.string (decS n))), (1, .val (.string (decS m))), (5, .own 32 0 x.2.2.length), (6, .val (.int .i64 x.2.1)), (7, .val (.int .i64 x.1))])
    (fun x => [(32, .cells 1 (irows .i64 x.2.2))]) 40 43 rfl (fun x => (decL n).length + (decL m).length + 1 - x.1)
    (fun x => x.1 ≤ (decL n).length + (decL m).length + 1 ∧ (x.1 = (decL n).length + (decL m).length + 1 → x.2.1 = 0) ∧ x.2.1 ≤ 1 ∧ Dg x.2.2 ∧ x.2.2.length = x.1 ∧ valD x.2.2 + 10 ^ x.1 * (n / 10 ^ x.1 + m / 10 ^ x.1 + x.2.1) = n + m) (0, 0, []) [] ⟨Nat.zero_le _, fun h => rfl, Nat.zero_le _, (fun x hx => (nomatch hx)), rfl, by simp [valD]⟩
    ⟨⟨rfl, rfl⟩, ⟨rfl, rfl⟩, ⟨rfl, rfl⟩, ⟨rfl, rfl⟩, ⟨rfl, rfl⟩, trivial⟩ ⟨⟨rfl, .inr ⟨rfl, rfl⟩⟩, trivial⟩ rfl ?_
  rintro ⟨i, c, out⟩ ⟨hi, hc0, hc, hD, hl, hv⟩
  have hi : i ≤ (decL n).length + (decL m).length + 1 := hi
  have hc0 : i = (decL n).length + (decL m).length + 1 → c = 0 := hc0
  have hc : c ≤ 1 := hc
  have hD : Dg out := hD
  have hl : out.length = i := hl
  have hv : valD out + 10 ^ i * (n / 10 ^ i + m / 10 ^ i + c) = n + m := hv
  have hle : 0 + out.length ≤ (irows .i64 out).length := by rw [irows_len]; omega
  have fin : (decL n).length ≤ i → (decL m).length ≤ i → c = 0 → ∃ r, AC Try.prog 53 [.sl 1 ((irows .i64 out).take out.length) false] (.pure r) ∧ r = .val (.string (decS (n + m))) := fun h1 h2 h3 => by
    refine ⟨_, ?_, rfl⟩
    have := written_ok out hD (by omega)
    rw [show valD out = n + m by rw [← hv, h3, decL_div h1, decL_div h2]; simp] at this
    rw [List.take_of_length_le (by rw [irows_len]; exact Nat.le_refl _)]
    exact this
  have step : (i < (decL n).length ∨ i < (decL m).length ∨ 0 < c) → ∃ d c' : Nat, d = n / 10 ^ i % 10 + m / 10 ^ i % 10 + c ∧ c' = d / 10 ∧ d ≤ 19 ∧ i + 1 ≤ (decL n).length + (decL m).length + 1 ∧ (i + 1 = (decL n).length + (decL m).length + 1 → c' = 0) ∧ c' ≤ 1 ∧ Dg (out ++ [((d % 10 : Nat) : Int)]) ∧ valD (out ++ [((d % 10 : Nat) : Int)]) + 10 ^ (i + 1) * (n / 10 ^ (i + 1) + m / 10 ^ (i + 1) + c') = n + m := fun h => by
    have hi1 : i + 1 ≤ (decL n).length + (decL m).length + 1 := by
      rcases Nat.lt_or_ge i ((decL n).length + (decL m).length + 1) with h' | h'
      · exact h'
      · have := hc0 (by omega); omega
    refine ⟨_, _, rfl, rfl, by omega, hi1, fun e => ?_, by omega, ?_, ?_⟩
    · rw [decL_div (show (decL n).length ≤ i by omega), decL_div (show (decL m).length ≤ i by omega)]
      omega
    · intro x hx
      rcases List.mem_append.1 hx with hx | hx
      · exact hD x hx
      · simp at hx; omega
    · rw [valD_snoc, hl, ← hv, div_pow_succ n i, div_pow_succ m i, Nat.pow_succ 10 i, Nat.mul_assoc, Nat.add_assoc, ← Nat.mul_add]
      congr 2
      rw [← Nat.pow_succ]
      generalize n / 10 ^ (i + 1) = a
      generalize m / 10 ^ (i + 1) = b
      omega
  conv => whnf
  refine caseb (fun h1 => ?a) (fun h1 => ?q)
  case' q =>
    conv => whnf
    refine caseb (fun h2 => ?b) (fun h2 => ?q2)
  case' q2 =>
    conv => whnf
    refine caseb (fun h3 => ?c) (fun h3 => ?q3)
  case q3 =>
    have h1' : ¬ (i : Int) < (decS n).size := of_decide_eq_false h1
    have h2' : ¬ (i : Int) < (decS m).size := of_decide_eq_false h2
    have h3' : ¬ (c : Int) > 0 := of_decide_eq_false h3
    rw [z1] at h1'
    rw [z2] at h2'
    obtain ⟨r, hr, rfl⟩ := fin (by omega) (by omega) (by omega)
    conv => whnf
    refine ⟨hle, _, hr, ?_⟩
    conv => whnf
    exact rfl
  case' a =>
    have h1' : (i : Int) < (decS n).size := of_decide_eq_true h1
    rw [z1] at h1'
    have hst := step (.inl (by omega))
  case' b =>
    have h2' : (i : Int) < (decS m).size := of_decide_eq_true h2
    rw [z2] at h2'
    have hst := step (.inr (.inl (by omega)))
  case' c =>
    have h3' : (c : Int) > 0 := of_decide_eq_true h3
    have hst := step (.inr (.inr (by omega)))
  all_goals
    conv => whnf
    obtain ⟨d, c', hd, hc', hd19, s1, s2, s3, s4, s5⟩ := hst
    have e0 : IntKind.i64.wrap (IntKind.i64.wrap (((n / 10 ^ i % 10 : Nat) : Int) + ((m / 10 ^ i % 10 : Nat) : Int)) + (c : Int)) = (d : Int) := by
      rw [IntWalk.i64_in (((n / 10 ^ i % 10 : Nat) : Int) + ((m / 10 ^ i % 10 : Nat) : Int)) (by omega), IntWalk.i64_in _ (by omega)]; omega
    have e1 : (d : Int).tmod 10 = ((d % 10 : Nat) : Int) := by
      rw [Int.tmod_eq_emod_of_nonneg (Int.natCast_nonneg _)]; omega
    have e2 : IntKind.i64.wrap ((d : Int).tdiv 10) = (c' : Int) := by
      rw [Int.tdiv_eq_ediv_of_nonneg (Int.natCast_nonneg _), IntWalk.i64_in _ (by omega)]; omega
    conv => whnf
    refine ⟨_, dn i, ?_⟩
    conv => whnf
    refine ⟨_, dm i, ?_⟩
    conv => whnf
    refine ⟨by decide, ?_⟩
    conv => whnf
    refine ⟨⟨hle, by show (out.length + 1) * 8 ≤ 140737488355328; omega, Nat.le_of_ble_eq_true rfl⟩, ?_⟩
    conv => whnf
    refine ⟨by decide, ?_⟩
    conv => whnf
    refine ⟨(i + 1, c', out ++ [((d % 10 : Nat) : Int)]), [(32, 264)], (by show (decL n).length + (decL m).length + 1 - (i + 1) < (decL n).length + (decL m).length + 1 - i; omega), ⟨s1, s2, s3, s4, (by show (out ++ [((d % 10 : Nat) : Int)]).length = i + 1; simp [hl]), s5⟩,
      ⟨⟨rfl, rfl⟩, ⟨rfl, rfl⟩, ⟨ownE rfl ?_, rfl⟩, ⟨valI ?_, rfl⟩, ⟨valI ?_, rfl⟩, trivial⟩, ⟨⟨rfl, .inl ⟨celE ?_, irows_noid _ _⟩⟩, trivial⟩, rfl⟩
    · show out.length + 1 = (out ++ [((d % 10 : Nat) : Int)]).length
      simp
    · show IntKind.i64.wrap (Int.tdiv (IntKind.i64.wrap (IntKind.i64.wrap (((n / 10 ^ i % 10 : Nat) : Int) + ((m / 10 ^ i % 10 : Nat) : Int)) + (c : Int))) 10) = (c' : Int)
      rw [e0, e2]
    · show IntKind.i64.wrap ((i : Int) + 1) = ((i + 1 : Nat) : Int)
      rw [IntWalk.i64_in _ (by omega)]; omega
    · show List.take out.length (List.drop 0 (irows .i64 out)) ++ [[AV.val (.int .i64 (Int.tmod (IntKind.i64.wrap (IntKind.i64.wrap (((n / 10 ^ i % 10 : Nat) : Int) + ((m / 10 ^ i % 10 : Nat) : Int)) + (c : Int))) 10))]] = _
      rw [e0, e1, List.drop_zero, List.take_of_length_le (by rw [irows_len]; exact Nat.le_refl _), ← irows_append]
      rfl

end Go.Proofs.Ytgnfopmbjmmbbaa

/- Contracts of the reference: differences. -/
set_option linter.unusedVariables false
namespace Go.Proofs.Ytgnfopmbjmmbbaa
open Go Go.AL NM

theorem valD_lt {l : List Int} (h : Dg l) : valD l < 10 ^ l.length := by
  induction l with
  | nil => decide
  | cons x l ih =>
    have h1 := h x List.mem_cons_self
    have h2 := ih (fun y hy => h y (List.mem_cons_of_mem _ hy))
    rw [valD, List.length_cons, Nat.pow_succ]
    omega

theorem RSub_ok (n m : Nat) (hnm : m ≤ n) (hb : (decL n).length + (decL m).length < 1000000000) : AC Try.prog 42 [.val (.string (decS n)), .val (.string (decS m))] (.pure (.val (.string (decS (n - m))))) := by
  refine AC.of_body TTok Try.func42 rfl (enter_of Try.func42 (by kernel_rfl) (by kernel_rfl)) (noid2 (.val _) (.val _)) (.val _) (Nat.le_of_ble_eq_true rfl) ?_
  have z1 : (decS n).size = (decL n).length := strL_size _
  have dn : ∀ i, AC Try.prog 56 [.val (.string (decS n)), .val (.int .i64 (i : Nat))] (.pure (.val (.int .i64 (n / 10 ^ i % 10 : Nat)))) := fun i => by
    have := digit_ok (decL n) (decL_byt n) i (by omega)
    rwa [digE_dec] at this
  have dm : ∀ i, AC Try.prog 56 [.val (.string (decS m)), .val (.int .i64 (i : Nat))] (.pure (.val (.int .i64 (m / 10 ^ i % 10 : Nat)))) := fun i => by
    have := digit_ok (decL m) (decL_byt m) i (by omega)
    rwa [digE_dec] at this
  conv => whnf
  refine SW.nil 5 1 rfl ?_
  refine SW.loopM TTok (fun x : Nat × Nat × List Int => [(0, .val (.string (decS n))), (1, .val (.string (decS m))), (5, .own 32 0 x.2.2.length), (6, .val (.int .i64 x.2.1)), (7, .val (.int .i64 x.1))])
    (fun x => [(32, .cells 1 (irows .i64 x.2.2))]) 40 34 rfl (fun x => (decL n).length - x.1)
    (fun x => x.1 ≤ (decL n).length ∧ x.2.1 ≤ 1 ∧ Dg x.2.2 ∧ x.2.2.length = x.1 ∧ valD x.2.2 + 10 ^ x.1 * (n / 10 ^ x.1) = (n - m) + 10 ^ x.1 * (m / 10 ^ x.1 + x.2.1)) (0, 0, []) [] ⟨Nat.zero_le _, Nat.zero_le _, (fun x hx => (nomatch hx)), rfl, by simp [valD]; omega⟩
    ⟨⟨rfl, rfl⟩, ⟨rfl, rfl⟩, ⟨rfl, rfl⟩, ⟨rfl, rfl⟩, ⟨rfl, rfl⟩, trivial⟩ ⟨⟨rfl, .inr ⟨rfl, rfl⟩⟩, trivial⟩ rfl ?_
  rintro ⟨i, c, out⟩ ⟨hi, hc, hD, hl, hv⟩
  have hi : i ≤ (decL n).length := hi
  have hc : c ≤ 1 := hc
  have hD : Dg out := hD
  have hl : out.length = i := hl
  have hv : valD out + 10 ^ i * (n / 10 ^ i) = (n - m) + 10 ^ i * (m / 10 ^ i + c) := hv
  have hle : 0 + out.length ≤ (irows .i64 out).length := by rw [irows_len]; omega
  have fin : (decL n).length ≤ i → ∃ r, AC Try.prog 53 [.sl 1 ((irows .i64 out).take out.length) false] (.pure r) ∧ r = .val (.string (decS (n - m))) := fun h1 => by
    refine ⟨_, ?_, rfl⟩
    have := written_ok out hD (by omega)
    have e : valD out = n - m := by
      have h2 := valD_lt hD
      rw [hl] at h2
      rw [decL_div h1, Nat.div_eq_of_lt (Nat.lt_of_le_of_lt hnm (Nat.lt_of_lt_of_le (decL_lt n) (Nat.pow_le_pow_right (by decide) h1)))] at hv
      rcases Nat.eq_zero_or_pos c with h0 | h0
      · subst h0; omega
      · have : 10 ^ i ≤ 10 ^ i * (0 + c) := Nat.le_mul_of_pos_right _ (by omega)
        omega
    rw [e] at this
    rw [List.take_of_length_le (by rw [irows_len]; exact Nat.le_refl _)]
    exact this
  have step : ∀ d c' : Nat, d ≤ 9 → c' ≤ 1 → d + m / 10 ^ i % 10 + c = n / 10 ^ i % 10 + 10 * c' → Dg (out ++ [(d : Int)]) ∧ valD (out ++ [(d : Int)]) + 10 ^ (i + 1) * (n / 10 ^ (i + 1)) = (n - m) + 10 ^ (i + 1) * (m / 10 ^ (i + 1) + c') := fun d c' h9 hc1 he => by
    refine ⟨?_, ?_⟩
    · intro x hx
      rcases List.mem_append.1 hx with hx | hx
      · exact hD x hx
      · simp at hx; omega
    · rw [div_pow_succ n i, div_pow_succ m i] at hv
      rw [valD_snoc, hl]
      revert hv
      generalize n / 10 ^ (i + 1) = a
      generalize m / 10 ^ (i + 1) = b
      rw [Nat.pow_succ, Nat.mul_assoc, Nat.mul_assoc]
      generalize n / 10 ^ i % 10 = u at *
      generalize m / 10 ^ i % 10 = v at *
      intro hv
      have h2 : 10 ^ i * (d + v + c) = 10 ^ i * (u + 10 * c') := by rw [he]
      simp only [Nat.mul_add] at hv h2 ⊢
      omega
  conv => whnf
  refine caseb (fun h1 => ?_) (fun h1 => ?_)
  · have h1' : (i : Int) < (decS n).size := of_decide_eq_true h1
    rw [z1] at h1'
    have ed : IntKind.i64.wrap (IntKind.i64.wrap (((n / 10 ^ i % 10 : Nat) : Int) - ((m / 10 ^ i % 10 : Nat) : Int)) - (c : Int)) = ((n / 10 ^ i % 10 : Nat) : Int) - ((m / 10 ^ i % 10 : Nat) : Int) - (c : Int) := by
      rw [IntWalk.i64_in (((n / 10 ^ i % 10 : Nat) : Int) - ((m / 10 ^ i % 10 : Nat) : Int)) (by omega), IntWalk.i64_in _ (by omega)]
    conv => whnf
    refine ⟨_, dn i, ?_⟩
    conv => whnf
    refine ⟨_, dm i, ?_⟩
    conv => whnf
    refine caseb (fun h2 => ?_) (fun h2 => ?_)
    · have h2' : IntKind.i64.wrap (IntKind.i64.wrap (((n / 10 ^ i % 10 : Nat) : Int) - ((m / 10 ^ i % 10 : Nat) : Int)) - (c : Int)) < 0 := of_decide_eq_true h2
      rw [ed] at h2'
      obtain ⟨s1, s2⟩ := step (n / 10 ^ i % 10 + 10 - m / 10 ^ i % 10 - c) 1 (by omega) (by omega) (by omega)
      conv => whnf
      refine ⟨⟨hle, by show (out.length + 1) * 8 ≤ 140737488355328; omega, Nat.le_of_ble_eq_true rfl⟩, ?_⟩
      conv => whnf
      refine ⟨(i + 1, 1, out ++ [((n / 10 ^ i % 10 + 10 - m / 10 ^ i % 10 - c : Nat) : Int)]), [(32, 232)], (by show (decL n).length - (i + 1) < (decL n).length - i; omega), ⟨(by show i + 1 ≤ (decL n).length; omega), Nat.le_refl 1, s1, (by show (out ++ [((n / 10 ^ i % 10 + 10 - m / 10 ^ i % 10 - c : Nat) : Int)]).length = i + 1; simp [hl]), s2⟩,
        ⟨⟨rfl, rfl⟩, ⟨rfl, rfl⟩, ⟨ownE rfl ?_, rfl⟩, ⟨rfl, rfl⟩, ⟨valI ?_, rfl⟩, trivial⟩, ⟨⟨rfl, .inl ⟨celE ?_, irows_noid _ _⟩⟩, trivial⟩, rfl⟩
      · show out.length + 1 = (out ++ [((n / 10 ^ i % 10 + 10 - m / 10 ^ i % 10 - c : Nat) : Int)]).length
        simp
      · show IntKind.i64.wrap ((i : Int) + 1) = ((i + 1 : Nat) : Int)
        rw [IntWalk.i64_in _ (by omega)]; omega
      · show List.take out.length (List.drop 0 (irows .i64 out)) ++ [[AV.val (.int .i64 (IntKind.i64.wrap (IntKind.i64.wrap (IntKind.i64.wrap (((n / 10 ^ i % 10 : Nat) : Int) - ((m / 10 ^ i % 10 : Nat) : Int)) - (c : Int)) + 10)))]] = _
        rw [ed, IntWalk.i64_in _ (by omega), show ((n / 10 ^ i % 10 : Nat) : Int) - ((m / 10 ^ i % 10 : Nat) : Int) - (c : Int) + 10 = ((n / 10 ^ i % 10 + 10 - m / 10 ^ i % 10 - c : Nat) : Int) by omega, List.drop_zero, List.take_of_length_le (by rw [irows_len]; exact Nat.le_refl _), ← irows_append]
        rfl
    · have h2' : ¬ IntKind.i64.wrap (IntKind.i64.wrap (((n / 10 ^ i % 10 : Nat) : Int) - ((m / 10 ^ i % 10 : Nat) : Int)) - (c : Int)) < 0 := of_decide_eq_false h2
      rw [ed] at h2'
      obtain ⟨s1, s2⟩ := step (n / 10 ^ i % 10 - m / 10 ^ i % 10 - c) 0 (by omega) (by omega) (by omega)
      conv => whnf
      refine ⟨⟨hle, by show (out.length + 1) * 8 ≤ 140737488355328; omega, Nat.le_of_ble_eq_true rfl⟩, ?_⟩
      conv => whnf
      refine ⟨(i + 1, 0, out ++ [((n / 10 ^ i % 10 - m / 10 ^ i % 10 - c : Nat) : Int)]), [(32, 200)], (by show (decL n).length - (i + 1) < (decL n).length - i; omega), ⟨(by show i + 1 ≤ (decL n).length; omega), Nat.zero_le 1, s1, (by show (out ++ [((n / 10 ^ i % 10 - m / 10 ^ i % 10 - c : Nat) : Int)]).length = i + 1; simp [hl]), s2⟩,
        ⟨⟨rfl, rfl⟩, ⟨rfl, rfl⟩, ⟨ownE rfl ?_, rfl⟩, ⟨rfl, rfl⟩, ⟨valI ?_, rfl⟩, trivial⟩, ⟨⟨rfl, .inl ⟨celE ?_, irows_noid _ _⟩⟩, trivial⟩, rfl⟩
      · show out.length + 1 = (out ++ [((n / 10 ^ i % 10 - m / 10 ^ i % 10 - c : Nat) : Int)]).length
        simp
      · show IntKind.i64.wrap ((i : Int) + 1) = ((i + 1 : Nat) : Int)
        rw [IntWalk.i64_in _ (by omega)]; omega
      · show List.take out.length (List.drop 0 (irows .i64 out)) ++ [[AV.val (.int .i64 (IntKind.i64.wrap (IntKind.i64.wrap (((n / 10 ^ i % 10 : Nat) : Int) - ((m / 10 ^ i % 10 : Nat) : Int)) - (c : Int))))]] = _
        rw [ed, show ((n / 10 ^ i % 10 : Nat) : Int) - ((m / 10 ^ i % 10 : Nat) : Int) - (c : Int) = ((n / 10 ^ i % 10 - m / 10 ^ i % 10 - c : Nat) : Int) by omega, List.drop_zero, List.take_of_length_le (by rw [irows_len]; exact Nat.le_refl _), ← irows_append]
        rfl
  · have h1' : ¬ (i : Int) < (decS n).size := of_decide_eq_false h1
    rw [z1] at h1'
    obtain ⟨r, hr, rfl⟩ := fin (by omega)
    conv => whnf
    refine ⟨hle, _, hr, ?_⟩
    conv => whnf
    exact rfl

end Go.Proofs.Ytgnfopmbjmmbbaa

/- What the laws of two numbers read: every text. -/
set_option linter.unusedVariables false
namespace Go.Proofs.Ytgnfopmbjmmbbaa
open Go Go.AL NM

theorem decL_len_le {n k : Nat} (hk : 1 ≤ k) (h : n < 10 ^ k) : (decL n).length ≤ k := by
  unfold decL
  split
  · simpa using hk
  · rw [List.length_reverse]; exact decR_len h

end Go.Proofs.Ytgnfopmbjmmbbaa

/- An abstract program logic over tree values (part 27): a live block is frozen between steps; loops whose end is weakened first. -/
set_option linter.unusedVariables false
set_option linter.unusedSimpArgs false
namespace Go.AL
open Go Go.RowKit

theorem Wk.refl (s : St) : Wk s s := fun _ _ _ _ _ h => h
theorem Wk.trans {s s' s'' : St} (h1 : Wk s s') (h2 : Wk s' s'') : Wk s s'' := fun gh w0 F0 a w h => h2 gh w0 F0 a w (h1 gh w0 F0 a w h)

/-- A live block that stands in a slot is frozen there. -/
theorem Wk.frz {s : St} (d id off len sz : Nat) {rows : List (List AV)} (h1 : s.t d = .own id off len) (h2 : s.h id = some (.cells sz rows)) (hz : 0 < sz) (hl : off + len ≤ rows.length)
    (hno : NoId (.sl sz ((rows.drop off).take len) false)) : Wk s ⟨upd s.t d (.sl sz ((rows.drop off).take len) false), updH s.h id none, s.n, s.m⟩ := by
  intro gh w0 F0 a w ⟨F, ρ, hR⟩
  have hv := hR.vals d
  rw [h1] at hv
  have hf : AL.frz s.h (.own id off len) = some (.sl sz ((rows.drop off).take len) false, [off + len ≤ rows.length], [(id, none)], [(id, true)]) := by
    unfold AL.frz
    simp only [h2]
    cases sz with
    | zero => exact absurd hz (Nat.lt_irrefl 0)
    | succ k => rfl
  obtain ⟨F', hF, hR', hv'⟩ := frz_ok hR hv hf hl hno
  refine ⟨F', ρ, { hR' with vals := fun t => ?_ }⟩
  show VR w F' ρ _ (upd s.t d _ t)
  by_cases e : t = d
  · subst e
    rw [upd_same]
    exact hv'
  · rw [upd_ne _ _ e]
    exact hR'.vals t

/-- A loop as in loopM; what stands at a round's end is weakened first. -/
theorem SW.loopW {P : Program} {TT : Nat → Option TI} (hT : TTok P TT) {α : Type} {c : Code} {Q : Exit → St → Prop} {s : St} (ts : α → List (Nat × AV)) (hs : α → List (Nat × LB)) (n m : Nat) (hm : s.m = m)
    (μ : α → Nat) (J : α → Prop) (x0 : α) (σ0 : List (Nat × Nat)) (h0 : J x0) (e1 : okT s (σf σ0) n (ts x0)) (e2 : okH s (σf σ0) n (hs x0)) (e3 : distinct (((hs x0).map (·.1)).map (σf σ0)) = true)
    (round : ∀ x, J x → axp P TT c (loopQ Q fun s2 => ∃ (s3 : St) (x' : α) (σ : List (Nat × Nat)), Wk s2 s3 ∧ s3.m = s2.m ∧ μ x' < μ x ∧ J x' ∧ okT s3 (σf σ) n (ts x') ∧ okH s3 (σf σ) n (hs x') ∧ distinct (((hs x').map (·.1)).map (σf σ)) = true) (mkS (ts x) (hs x) n m)) : SW P (.loop c) Q s := by
  refine SW.loop (fun k s1 => ∃ x, μ x = k ∧ J x ∧ s1 = mkS (ts x) (hs x) n m) (μ x0) (mkS (ts x0) (hs x0) n m) (Wk.of _ _ _ _ _ hm e1 e2 e3) hm.symm ⟨x0, rfl, h0, rfl⟩ ?_
  rintro k s1 hm1 ⟨x, rfl, hJ, rfl⟩
  refine ((axp_sound hT _ _ _ (round x hJ)).keep).mono fun e s' hq => ?_
  obtain ⟨hq, hms⟩ := hq
  cases e with
  | normal =>
    obtain ⟨s3, x', σ, w1, w2, g1, g2, g3, g4, g5⟩ := hq
    exact ⟨μ x', mkS (ts x') (hs x') n m, g1, w1.trans (Wk.of _ _ _ _ _ (by rw [w2, hms]; rfl) g3 g4 g5), (by rw [hms]; rfl), x', rfl, g2, rfl⟩
  | _ => exact hq

end Go.AL

/- Groups of nine digits: plain facts. -/
set_option linter.unusedVariables false
namespace NM

/-- The value of groups of nine digits, the greatest one first. -/
def valG (l : List Int) : Nat := l.foldl (fun a x => a * 1000000000 + x.toNat) 0
theorem valG_nil : valG [] = 0 := rfl
theorem valG_snoc (l : List Int) (x : Int) : valG (l ++ [x]) = valG l * 1000000000 + x.toNat := by
  unfold valG; rw [List.foldl_append]; rfl
def Gd (l : List Int) : Prop := ∀ x ∈ l, 0 ≤ x ∧ x < 1000000000
theorem Gd.snoc {l : List Int} {x : Int} (h : Gd l) (hx : 0 ≤ x ∧ x < 1000000000) : Gd (l ++ [x]) := by
  intro y hy
  rcases List.mem_append.1 hy with hy | hy
  · exact h y hy
  · simp at hy; subst hy; exact hx
theorem valG_take {l : List Int} {k : Nat} (h : k < l.length) : valG (l.take (k + 1)) = valG (l.take k) * 1000000000 + (l[k]).toNat := by
  rw [List.take_succ_eq_append_getElem h, valG_snoc]

theorem valL_take {l : List Int} {k : Nat} (h : k < l.length) : valL (l.take (k + 1)) = 10 * valL (l.take k) + (l[k] - 48).toNat := by
  rw [List.take_succ_eq_append_getElem h, valL_snoc]

end NM
namespace NM
/-- One digit more: how many digits are left, the group begun, the groups done. -/
def gstep (s : Nat × Nat × List Int) (c : Int) : Nat × Nat × List Int :=
  if (s.1 - 1) % 9 = 0 then (s.1 - 1, 0, s.2.2 ++ [((s.2.1 * 10 + (c - 48).toNat : Nat) : Int)]) else (s.1 - 1, s.2.1 * 10 + (c - 48).toNat, s.2.2)
def gat (l : List Int) (i : Nat) : Nat × Nat × List Int := (l.take i).foldl gstep (l.length, 0, [])
def grp (l : List Int) : List Int := (gat l l.length).2.2
theorem gat_succ {l : List Int} {i : Nat} (h : i < l.length) : gat l (i + 1) = gstep (gat l i) l[i] := by
  unfold gat
  rw [List.take_succ_eq_append_getElem h, List.foldl_append]
  rfl
theorem gat_inv {l : List Int} (hd : Dig l) : ∀ i, i ≤ l.length → (gat l i).1 = l.length - i ∧ ∃ r, r + (l.length - i) % 9 ≤ 9 ∧ ((l.length - i) % 9 = 0 → r = 0) ∧ (gat l i).2.1 < 10 ^ r ∧ Gd (gat l i).2.2 ∧ valL (l.take i) = valG (gat l i).2.2 * 10 ^ r + (gat l i).2.1 ∧ (gat l i).2.2.length ≤ i ∧ (valG (gat l i).2.2 = 0 ∨ r + (l.length - i) % 9 = 9 ∨ (l.length - i) % 9 = 0) := by
  intro i
  induction i with
  | zero =>
    intro _
    refine ⟨rfl, 0, by omega, fun _ => rfl, Nat.zero_lt_one, fun x hx => (nomatch hx), rfl, Nat.le_refl 0, .inl rfl⟩
  | succ i ih =>
    intro hi
    have hlt : i < l.length := hi
    obtain ⟨e1, r, h1, h2, h3, h4, h5, h6, h7⟩ := ih (by omega)
    have hx := hd l[i] (List.getElem_mem _)
    rw [gat_succ hlt, valL_take hlt]
    revert e1 h3 h4 h5 h6 h7
    generalize gat l i = s
    obtain ⟨k, acc, out⟩ := s
    intro e1 h3 h4 h5 h6 h7
    have e1 : k = l.length - i := e1
    have h3 : acc < 10 ^ r := h3
    have h4 : Gd out := h4
    have h5 : valL (l.take i) = valG out * 10 ^ r + acc := h5
    have h6 : out.length ≤ i := h6
    have h7 : valG out = 0 ∨ r + (l.length - i) % 9 = 9 ∨ (l.length - i) % 9 = 0 := h7
    have h3' : acc * 10 + (l[i] - 48).toNat < 10 ^ (r + 1) := by rw [Nat.pow_succ]; omega
    have h5' : 10 * valL (l.take i) + (l[i] - 48).toNat = valG out * 10 ^ (r + 1) + (acc * 10 + (l[i] - 48).toNat) := by
      rw [h5, Nat.pow_succ, ← Nat.mul_assoc]; omega
    subst e1
    unfold gstep
    show (if (l.length - i - 1) % 9 = 0 then (l.length - i - 1, 0, out ++ [((acc * 10 + (l[i] - 48).toNat : Nat) : Int)]) else (l.length - i - 1, acc * 10 + (l[i] - 48).toNat, out)).1 = _ ∧ _
    have hr8 : r + 1 ≤ 9 := by omega
    split
    · rename_i hk
      have hlt9 : acc * 10 + (l[i] - 48).toNat < 1000000000 := Nat.lt_of_lt_of_le h3' (by
        rw [show 1000000000 = 10 ^ 9 from rfl]
        exact Nat.pow_le_pow_right (by decide) hr8)
      have hr9 : (l.length - i) % 9 = 1 := by omega
      generalize acc * 10 + (l[i] - 48).toNat = t at *
      refine ⟨by show l.length - i - 1 = l.length - (i + 1); omega, 0, by omega, fun _ => rfl, Nat.zero_lt_one, Gd.snoc h4 ⟨Int.natCast_nonneg t, by omega⟩, ?_, (by show (out ++ [_]).length ≤ i + 1; simp; exact h6), .inr (.inr (by omega))⟩
      show _ = valG (out ++ [_]) * 1 + 0
      rw [valG_snoc, Int.toNat_natCast, h5']
      rcases h7 with h7 | h7 | h7
      · rw [h7]; omega
      · rw [show r + 1 = 9 by omega]; omega
      · omega
    · rename_i hk
      refine ⟨by show l.length - i - 1 = l.length - (i + 1); omega, r + 1, by omega, by omega, h3', h4, h5', (by show out.length ≤ i + 1; omega), ?_⟩
      show valG out = 0 ∨ _
      rcases h7 with h7 | h7 | h7
      · exact .inl h7
      · right; omega
      · right; omega
end NM
namespace NM
/-- One group more of what is divided by 65536: what is left, the quotient's groups. -/
def dstep (s : Nat × List Int) (g : Int) : Nat × List Int :=
  ((s.1 * 1000000000 + g.toNat) % 65536, if 0 < s.2.length ∨ 0 < (s.1 * 1000000000 + g.toNat) / 65536 then s.2 ++ [(((s.1 * 1000000000 + g.toNat) / 65536 : Nat) : Int)] else s.2)
theorem dstep_eq (r : Nat) (q : List Int) (g : Int) (t : Nat) (ht : t = r * 1000000000 + g.toNat) : dstep (r, q) g = (t % 65536, if 0 < q.length ∨ 0 < t / 65536 then q ++ [((t / 65536 : Nat) : Int)] else q) := by
  subst ht
  unfold dstep
  simp only
def dat (l : List Int) (i : Nat) : Nat × List Int := (l.take i).foldl dstep (0, [])
theorem dat_succ {l : List Int} {i : Nat} (h : i < l.length) : dat l (i + 1) = dstep (dat l i) l[i] := by
  unfold dat
  rw [List.take_succ_eq_append_getElem h, List.foldl_append]
  rfl
theorem dat_inv {l : List Int} (hd : Gd l) : ∀ i, i ≤ l.length → (dat l i).1 < 65536 ∧ Gd (dat l i).2 ∧ valG (l.take i) = valG (dat l i).2 * 65536 + (dat l i).1 ∧ (dat l i).2.length ≤ i ∧ ((dat l i).2 = [] ∨ 0 < valG (dat l i).2) := by
  intro i
  induction i with
  | zero => intro _; exact ⟨(by show 0 < 65536; omega), fun x hx => (nomatch hx), (by show 0 = 0 * 65536 + 0; omega), Nat.le_refl 0, .inl rfl⟩
  | succ i ih =>
    intro hi
    have hlt : i < l.length := hi
    obtain ⟨h1, h2, h3, h4, h5⟩ := ih (by omega)
    have hx := hd l[i] (List.getElem_mem _)
    rw [dat_succ hlt, valG_take hlt]
    revert h1 h2 h3 h4 h5
    generalize dat l i = s
    obtain ⟨r, q⟩ := s
    intro h1 h2 h3 h4 h5
    have h1 : r < 65536 := h1
    have h2 : Gd q := h2
    have h3 : valG (l.take i) = valG q * 65536 + r := h3
    have h4 : q.length ≤ i := h4
    have h5 : q = [] ∨ 0 < valG q := h5
    unfold dstep
    show (r * 1000000000 + l[i].toNat) % 65536 < 65536 ∧ _
    have hq : (r * 1000000000 + l[i].toNat) / 65536 < 1000000000 := by omega
    refine ⟨Nat.mod_lt _ (by decide), ?_⟩
    show Gd (if 0 < q.length ∨ 0 < (r * 1000000000 + l[i].toNat) / 65536 then q ++ [(((r * 1000000000 + l[i].toNat) / 65536 : Nat) : Int)] else q) ∧ valG (l.take i) * 1000000000 + l[i].toNat = valG (if 0 < q.length ∨ 0 < (r * 1000000000 + l[i].toNat) / 65536 then q ++ [(((r * 1000000000 + l[i].toNat) / 65536 : Nat) : Int)] else q) * 65536 + (r * 1000000000 + l[i].toNat) % 65536 ∧ (if 0 < q.length ∨ 0 < (r * 1000000000 + l[i].toNat) / 65536 then q ++ [(((r * 1000000000 + l[i].toNat) / 65536 : Nat) : Int)] else q).length ≤ i + 1 ∧ ((if 0 < q.length ∨ 0 < (r * 1000000000 + l[i].toNat) / 65536 then q ++ [(((r * 1000000000 + l[i].toNat) / 65536 : Nat) : Int)] else q) = [] ∨ 0 < valG (if 0 < q.length ∨ 0 < (r * 1000000000 + l[i].toNat) / 65536 then q ++ [(((r * 1000000000 + l[i].toNat) / 65536 : Nat) : Int)] else q))
    split
    · rename_i hc
      rw [valG_snoc, Int.toNat_natCast, h3]
      refine ⟨Gd.snoc h2 (by omega), by omega, by simp; exact h4, .inr ?_⟩
      rcases hc with hc | hc
      · rcases h5 with h5 | h5
        · subst h5; simp at hc
        · omega
      · omega
    · rename_i hc
      have hq0 : q = [] := List.eq_nil_of_length_eq_zero (by omega)
      subst hq0
      rw [h3, valG_nil]
      refine ⟨h2, by omega, by simp, .inl rfl⟩
end NM

/- Contracts of the reference: groups of nine digits. -/
set_option linter.unusedVariables false
namespace Go.Proofs.Ytgnfopmbjmmbbaa
open Go Go.AL NM

theorem grp_ok {l : List Int} (hd : Dig l) : Gd (grp l) ∧ valG (grp l) = valL l ∧ (grp l).length ≤ l.length := by
  obtain ⟨e1, r, g1, g2, g3, g4, g5, g6, g7⟩ := gat_inv hd l.length (Nat.le_refl _)
  have hr := g2 (by omega)
  subst hr
  rw [List.take_of_length_le (Nat.le_refl _), Nat.pow_zero] at *
  refine ⟨g4, ?_, g6⟩
  show valG (gat l l.length).2.2 = _
  rw [g5]
  omega

end Go.Proofs.Ytgnfopmbjmmbbaa

/- Contracts of the reference: how many bits and limbs a number has. -/
set_option linter.unusedVariables false
namespace Go.Proofs.Ytgnfopmbjmmbbaa
open Go Go.AL NM

theorem blen_zero : blen 0 = 0 := rfl
theorem blen_gt {n k : Nat} (h : 2 ^ k ≤ n) : k < blen n := by
  rw [blen_div h]
  have : 0 < n / 2 ^ k := Nat.div_pos h (Nat.pow_pos (by decide))
  unfold blen
  rw [if_neg (by omega)]
  omega
theorem pow32 (k : Nat) : 4294967296 ^ k = 2 ^ (32 * k) := by rw [Nat.pow_mul]
theorem limbs_blen (n : Nat) : (limbs n).length = (blen n + 31) / 32 := by
  by_cases h0 : n = 0
  · subst h0; rw [limbs_zero, blen_zero]; rfl
  · have h1 : blen n ≤ 32 * (limbs n).length := blen_le (by rw [← pow32]; have := val_lt (limbs_lim n); rwa [val_limbs] at this)
    have hl : 0 < (limbs n).length := by rw [limbs_pos (by omega)]; simp
    have h2 : 32 * ((limbs n).length - 1) < blen n := by
      apply blen_gt
      rw [← pow32]
      rcases Nat.lt_or_ge n (4294967296 ^ ((limbs n).length - 1)) with h | h
      · have := limbs_len_le h; omega
      · exact h
    omega
theorem blen_half {n : Nat} (h : 0 < n) : blen n = blen (n / 2) + 1 := by
  rcases Nat.lt_or_ge n 2 with h2 | h2
  · have : n = 1 := by omega
    subst this
    rfl
  · have := blen_div (n := n) (k := 1) h2
    simpa using this

theorem bits_et {rest : Nat} {x : Int} {t : Nat} (d1 : rest < 65536) (hx : 0 ≤ x ∧ x < 1000000000) (htt : t = rest * 1000000000 + x.toNat) : IntKind.i64.wrap (IntKind.i64.wrap ((rest : Int) * 1000000000) + x) = (t : Int) := by
  rw [IntWalk.i64_in ((rest : Int) * 1000000000) (by omega), IntWalk.i64_in _ (by omega)]; omega
theorem bits_ht {rest : Nat} {x : Int} {t : Nat} (d1 : rest < 65536) (hx : 0 ≤ x ∧ x < 1000000000) (htt : t = rest * 1000000000 + x.toNat) : t < 65536000000000 := by omega
theorem bits_em (t : Nat) : (t : Int).tmod 65536 = ((t % 65536 : Nat) : Int) := by
  rw [Int.tmod_eq_emod_of_nonneg (Int.natCast_nonneg _)]; omega
theorem bits_ed {t : Nat} (h : t < 65536000000000) : IntKind.i64.wrap ((t : Int).tdiv 65536) = ((t / 65536 : Nat) : Int) := by
  rw [Int.tdiv_eq_ediv_of_nonneg (Int.natCast_nonneg _), IntWalk.i64_in _ (by omega)]; omega

theorem bits_div {n i v rest : Nat} (h : v * 65536 + rest = n / 2 ^ (16 * i)) (hr : rest < 65536) : v = n / 2 ^ (16 * (i + 1)) := by
  rw [show 16 * (i + 1) = 16 * i + 16 by omega, Nat.pow_add, ← Nat.div_div_eq_div_mul, ← h]
  show v = (v * 65536 + rest) / 65536
  omega

theorem bits_half {r : Nat} (h : r < 65536) : IntKind.i64.wrap ((r : Int).tdiv 2) = ((r / 2 : Nat) : Int) := by
  rw [Int.tdiv_eq_ediv_of_nonneg (Int.natCast_nonneg _), IntWalk.i64_in _ (by omega)]; omega
theorem bits_half_lt {r : Nat} (h : r < 65536) : r / 2 < 65536 := by omega

end Go.Proofs.Ytgnfopmbjmmbbaa

/- Shifts of limbs, digits that change: plain facts, no program in sight. -/
set_option linter.unusedVariables false
namespace NM

/-- One limb shifted to the left, its high part laid on the next one. -/
theorem shl_step {out : List Int} {p c y : Nat} (hp : p + 1 < out.length) (hc : out[p] = (c : Int)) (hz : out[p + 1] = 0) :
    val ((out.set p ((c + y % 4294967296 : Nat) : Int)).set (p + 1) ((y / 4294967296 : Nat) : Int)) = val out + y * 4294967296 ^ p := by
  have h1 := val_set out p ((c + y % 4294967296 : Nat) : Int) (by omega)
  have h2 := val_set (out.set p ((c + y % 4294967296 : Nat) : Int)) (p + 1) ((y / 4294967296 : Nat) : Int) (by rw [List.length_set]; exact hp)
  rw [List.getElem_set_ne (by omega), hz] at h2
  rw [hc] at h1
  rw [Int.toNat_natCast] at h1 h2
  rw [Int.toNat_natCast] at h1
  have hd := Nat.mod_add_div y 4294967296
  generalize val (out.set p ((c + y % 4294967296 : Nat) : Int)) = V at *
  generalize val ((out.set p ((c + y % 4294967296 : Nat) : Int)).set (p + 1) ((y / 4294967296 : Nat) : Int)) = W at *
  rw [Nat.pow_succ] at h2
  generalize 4294967296 ^ p = B at *
  have e1 : y / 4294967296 * (B * 4294967296) = 4294967296 * (y / 4294967296) * B := by rw [Nat.mul_comm B, ← Nat.mul_assoc, Nat.mul_comm (y / 4294967296)]
  have e2 : y * B = y % 4294967296 * B + 4294967296 * (y / 4294967296) * B := by rw [← Nat.add_mul, hd]
  have e3 : (c + y % 4294967296) * B = c * B + y % 4294967296 * B := Nat.add_mul _ _ _
  simp at h2
  omega

/-- Limbs shifted to the right by fewer bits than a limb has. -/
def srl (b : Nat) : List Int → List Int
  | [] => []
  | x :: l => (((x.toNat + 4294967296 * (l.headD 0).toNat) / 2 ^ b % 4294967296 : Nat) : Int) :: srl b l
theorem srl_len (b : Nat) : ∀ l, (srl b l).length = l.length
  | [] => rfl
  | x :: l => by simp [srl, srl_len b l]
theorem srl_lim (b : Nat) : ∀ l, Lim (srl b l)
  | [] => by intro x hx; cases hx
  | x :: l => by
    intro y hy
    rcases List.mem_cons.1 hy with rfl | hy
    · omega
    · exact srl_lim b l y hy
theorem srl_get (b : Nat) : ∀ (l : List Int) (i : Nat) (h : i < l.length), (srl b l)[i]? = some ((((l[i]).toNat + 4294967296 * (l.getD (i + 1) 0).toNat) / 2 ^ b % 4294967296 : Nat) : Int)
  | [], i, h => absurd h (Nat.not_lt_zero _)
  | x :: l, 0, h => by
    cases l <;> rfl
  | x :: l, i + 1, h => by
    have := srl_get b l i (by simpa using h)
    simpa [srl] using this
theorem srl_val (b : Nat) (hb : b ≤ 32) : ∀ l, Lim l → val (srl b l) = val l / 2 ^ b
  | [], _ => by simp [srl, val]
  | x :: l, h => by
    obtain ⟨hx, hl⟩ := h.cons
    have ih := srl_val b hb l hl
    have hB : 4294967296 = 2 ^ b * 2 ^ (32 - b) := by rw [← Nat.pow_add, show b + (32 - b) = 32 by omega]
    have hp : 0 < 2 ^ b := Nat.pow_pos (by decide)
    have hq : 0 < 2 ^ (32 - b) := Nat.pow_pos (by decide)
    have hh : val l % 2 ^ b = (l.headD 0).toNat % 2 ^ b := by
      cases l with
      | nil => rfl
      | cons y l =>
        show (y.toNat + 4294967296 * val l) % 2 ^ b = y.toNat % 2 ^ b
        rw [hB, Nat.mul_assoc, Nat.add_mul_mod_self_left]
    show (((x.toNat + 4294967296 * (l.headD 0).toNat) / 2 ^ b % 4294967296 : Nat) : Int).toNat + 4294967296 * val (srl b l) = (x.toNat + 4294967296 * val l) / 2 ^ b
    rw [ih, Int.toNat_natCast]
    have hxB : x.toNat < 2 ^ b * 2 ^ (32 - b) := by rw [← hB]; omega
    have hxd : x.toNat / 2 ^ b < 2 ^ (32 - b) := Nat.div_lt_of_lt_mul hxB
    revert hh hxd
    generalize (l.headD 0).toNat = g
    generalize val l = V
    generalize x.toNat = X
    intro hh hxd
    rw [hB]
    generalize hP : 2 ^ b = P at *
    generalize hQ : 2 ^ (32 - b) = Q at *
    have e1 : (X + P * Q * g) / P = X / P + Q * g := by rw [Nat.mul_assoc, Nat.add_mul_div_left _ _ hp]
    have e2 : (X + P * Q * V) / P = X / P + Q * V := by rw [Nat.mul_assoc, Nat.add_mul_div_left _ _ hp]
    rw [e1, e2]
    have e3 : (X / P + Q * g) % (P * Q) = X / P + Q * (g % P) := by
      have h1 : Q * g = Q * (g % P) + P * Q * (g / P) := by
        rw [Nat.mul_comm P Q, Nat.mul_assoc, ← Nat.mul_add, Nat.mod_add_div]
      rw [h1, ← Nat.add_assoc, Nat.add_mul_mod_self_left]
      apply Nat.mod_eq_of_lt
      have h2 : g % P < P := Nat.mod_lt _ hp
      have h3 : Q * (g % P + 1) ≤ Q * P := Nat.mul_le_mul_left _ h2
      rw [Nat.mul_add, Nat.mul_one, Nat.mul_comm Q P] at h3
      omega
    rw [e3, ← hh]
    have h4 : Q * V = Q * (V % P) + P * Q * (V / P) := by
      rw [Nat.mul_comm P Q, Nat.mul_assoc, ← Nat.mul_add, Nat.mod_add_div]
    omega

end NM

/- Contracts of nat: shifts. -/
set_option linter.unusedVariables false
namespace Go.Proofs.Ytgnfopmbjmmbbaa
open Go Go.AL NM

theorem B_split {b : Nat} (hb : b ≤ 32) : 4294967296 = 2 ^ (32 - b) * 2 ^ b := by rw [← Nat.pow_add, show 32 - b + b = 32 by omega]
theorem mod_shl (x : Nat) {b : Nat} (hb : b ≤ 32) : x * 2 ^ b % 4294967296 = x % 2 ^ (32 - b) * 2 ^ b := by
  rw [B_split hb, Nat.mul_mod_mul_right]
theorem mod_shl_add (x c : Nat) {b : Nat} (hb : b ≤ 32) (hc : c < 2 ^ b) : x % 2 ^ (32 - b) * 2 ^ b + c < 4294967296 := by
  have h1 : x % 2 ^ (32 - b) + 1 ≤ 2 ^ (32 - b) := Nat.mod_lt _ (Nat.pow_pos (by decide))
  have h2 := Nat.mul_le_mul_right (2 ^ b) h1
  rw [← B_split hb, Nat.add_mul, Nat.one_mul] at h2
  omega
theorem shl_u64 {x : Int} {b : Nat} (hx : 0 ≤ x ∧ x < 4294967296) (hb : b < 32) : IntKind.u64.wrap (IntKind.u64.wrap x * 2 ^ (min (b : Int).toNat IntKind.u64.bits)) = ((x.toNat * 2 ^ b : Nat) : Int) := by
  have hy2 : x.toNat * 2 ^ b < 4294967296 * 2 ^ b := Nat.mul_lt_mul_of_pos_right (by omega) (Nat.pow_pos (by decide))
  have hb31 : 2 ^ b ≤ 2 ^ 31 := Nat.pow_le_pow_right (by decide) (by omega)
  have e0 : min (b : Int).toNat IntKind.u64.bits = b := by rw [Int.toNat_natCast]; exact Nat.min_eq_left (by show b ≤ 64; omega)
  have e1 : IntKind.u64.wrap x = (x.toNat : Int) := by rw [IntKind.wrap_u64]; omega
  rw [e0, e1, show ((x.toNat : Int) * 2 ^ b) = ((x.toNat * 2 ^ b : Nat) : Int) by rw [Int.natCast_mul, Int.natCast_pow]; rfl, IntKind.wrap_u64]
  omega
theorem or_u32 {x c b : Nat} (hb : b ≤ 32) (hc : c < 2 ^ b) : IntKind.u32.wrap ((BitVec.ofInt IntKind.u32.bits (c : Int) ||| BitVec.ofInt IntKind.u32.bits (IntKind.u32.wrap ((x * 2 ^ b : Nat) : Int))).toNat : Int) = ((c + x * 2 ^ b % 4294967296 : Nat) : Int) := by
  have h1 := mod_shl_add x c hb hc
  have e1 : IntKind.u32.wrap ((x * 2 ^ b : Nat) : Int) = ((x % 2 ^ (32 - b) * 2 ^ b : Nat) : Int) := by
    rw [IntKind.wrap_u32, ← mod_shl x hb]; omega
  rw [e1, mod_shl x hb]
  show IntKind.u32.wrap ((BitVec.ofInt 32 (c : Int) ||| BitVec.ofInt 32 ((x % 2 ^ (32 - b) * 2 ^ b : Nat) : Int)).toNat : Int) = _
  rw [or_add' 32 _ c b hc h1, IntKind.wrap_u32]
  omega
theorem shr_u64 {y : Nat} (h : y < 18446744073709551616) : IntKind.u32.wrap ((y : Int).fdiv (2 ^ (min (32 : Int).toNat IntKind.u64.bits))) = ((y / 4294967296 : Nat) : Int) := by
  show IntKind.u32.wrap ((y : Int).fdiv 4294967296) = _
  rw [Int.fdiv_eq_ediv_of_nonneg _ (by decide), IntKind.wrap_u32]
  omega

theorem Shl_ok (n : Nat) (k : Int) (hk : k < 1000000000) (hb : (limbs n).length < 1000000000) : AC Try.prog 61 [natA n, .val (.int .i64 k)] (.pure (natA (n * 2 ^ k.toNat))) := by
  refine AC.of_body TTok Try.func61 rfl (enter_of Try.func61 (by kernel_rfl) (by kernel_rfl)) (noid2 (natA_noid n) (.val _)) (natA_noid _) (Nat.le_of_ble_eq_true rfl) ?_
  have hva := val_limbs n
  have hLa := limbs_lim n
  have hnil := limbs_nil n
  have hz0 : k ≤ 0 → natA (n * 2 ^ k.toNat) = natA n := fun h => by rw [show k.toNat = 0 by omega]; simp
  have hz1 : limbs n = [] → natA (n * 2 ^ k.toNat) = natA n := fun h => by rw [hnil.1 h]; simp
  have hfin : ∀ l, val l = n * 2 ^ k.toNat → natA (val l) = natA (n * 2 ^ k.toNat) := fun l h => by rw [h]
  revert hz0 hz1 hfin
  generalize natA (n * 2 ^ k.toNat) = res
  unfold natA
  generalize limbs n = a at *
  subst hva
  intro hz0 hz1 hfin
  conv => whnf
  refine caseb (fun h1 => ?_) (fun h1 => ?_)
  · have h1' : k ≤ 0 := of_decide_eq_true h1
    conv => whnf
    exact (hz0 h1').symm
  have h1' : ¬ k ≤ 0 := of_decide_eq_false h1
  conv => whnf
  refine caseb (fun h2 => ?_) (fun h2 => ?_)
  · have h2' : ((irows .u32 a).length : Int) = 0 := of_decide_eq_true h2
    rw [irows_len] at h2'
    conv => whnf
    exact (hz1 (List.eq_nil_of_length_eq_zero (by omega))).symm
  have h2' : ¬ ((irows .u32 a).length : Int) = 0 := of_decide_eq_false h2
  rw [irows_len] at h2'
  obtain ⟨w, hw⟩ : ∃ w : Nat, w = k.toNat / 32 := ⟨_, rfl⟩
  obtain ⟨b, hbb⟩ : ∃ b : Nat, b = k.toNat % 32 := ⟨_, rfl⟩
  have ew : IntKind.i64.wrap (k.tdiv 32) = (w : Int) := by
    rw [Int.tdiv_eq_ediv_of_nonneg (by omega), IntWalk.i64_in _ (by omega)]; omega
  have eb : k.tmod 32 = (b : Int) := by
    rw [Int.tmod_eq_emod_of_nonneg (by omega)]; omega
  conv => whnf
  refine ⟨by decide, ?_⟩
  conv => whnf
  refine ⟨by decide, ?_⟩
  conv => whnf
  have e3 : IntKind.i64.wrap (IntKind.i64.wrap (((irows .u32 a).length : Int) + IntKind.i64.wrap (k.tdiv 32)) + 1) = ((a.length + w + 1 : Nat) : Int) := by
    rw [irows_len, ew, IntWalk.i64_in ((a.length : Int) + (w : Int)) (by omega), IntWalk.i64_in _ (by omega)]; omega
  refine ⟨⟨by rw [e3]; omega, by rw [e3]; omega, ?_⟩, ?_⟩
  · rw [e3]; show ((a.length + w + 1 : Nat) : Int) * 4 ≤ _; omega
  conv => whnf
  refine SW.loopM TTok (fun x : Nat × List Int => [(4, .lp 8 0), (5, .val (.int .i64 w)), (6, .val (.int .u64 b)), (7, .own 184 0 (a.length + w + 1)), (33, .sl 1 (irows .u32 a) false), (34, .val (.int .i64 a.length)), (35, .val (.int .i64 x.1))])
    (fun x => [(8, .cells 1 [[.sl 0 [] true]]), (184, .cells 1 (irows .u32 x.2))]) 232 66 rfl (fun x => a.length - x.1)
    (fun x => x.1 ≤ a.length ∧ x.2.length = a.length + w + 1 ∧ Lim x.2 ∧ val x.2 = val (a.take x.1) * 2 ^ b * 4294967296 ^ w ∧ (∃ c : Nat, c < 2 ^ b ∧ x.2[x.1 + w]? = some (c : Int)) ∧ ∀ p, x.1 + w < p → p < x.2.length → x.2[p]? = some 0)
    (0, List.replicate (a.length + w + 1) 0) [] ⟨Nat.zero_le _, by simp, Lim.rep _, by simp [val_rep, val], ⟨0, Nat.pow_pos (by decide), by show (List.replicate (a.length + w + 1) (0 : Int))[0 + w]? = some 0; rw [Nat.zero_add, List.getElem?_replicate, if_pos (by omega)]⟩, fun p _ hp => by simp at hp; simp [hp]⟩
    ⟨⟨rfl, rfl⟩, ⟨valI ?_, rfl⟩, ⟨valI ?_, rfl⟩, ⟨ownE rfl ?_, rfl⟩, ⟨rfl, rfl⟩, ⟨valI ?_, rfl⟩, ⟨rfl, rfl⟩, trivial⟩
    ⟨⟨rfl, .inr ⟨rfl, rfl⟩⟩, ⟨rfl, .inl ⟨celE ?_, irows_noid _ _⟩⟩, trivial⟩ rfl ?_
  · exact ew
  · rw [eb, IntKind.wrap_u64]; omega
  · rw [e3]; omega
  · rw [irows_len]
  · rw [e3, Int.toNat_natCast, ← irows_rep]; rfl
  rintro ⟨i, out⟩ hJ
  have hi : i ≤ a.length := hJ.1
  have hl : out.length = a.length + w + 1 := hJ.2.1
  have hL : Lim out := hJ.2.2.1
  have hv : val out = val (a.take i) * 2 ^ b * 4294967296 ^ w := hJ.2.2.2.1
  have hc : ∃ c : Nat, c < 2 ^ b ∧ out[i + w]? = some (c : Int) := hJ.2.2.2.2.1
  have hz : ∀ p, i + w < p → p < out.length → out[p]? = some 0 := hJ.2.2.2.2.2
  clear hJ
  obtain ⟨c, hcb, hc⟩ := hc
  conv => whnf
  refine caseb (fun h3 => ?_) (fun h3 => ?_)
  · have h3' : (i : Int) < (a.length : Int) := of_decide_eq_true h3
    have hlt : i < a.length := by omega
    have hx := hLa a[i] (List.getElem_mem _)
    conv => whnf
    refine ⟨[.val (.int .u32 a[i])], ⟨by omega, irows_get _ _ (List.getElem?_eq_getElem (by omega))⟩, ?_⟩
    conv => whnf
    refine ⟨by omega, ?_⟩
    conv => whnf
    have ei : IntKind.i64.wrap ((i : Int) + (w : Int)) = ((i + w : Nat) : Int) := by rw [IntWalk.i64_in _ (by omega)]; omega
    have ei1 : IntKind.i64.wrap (IntKind.i64.wrap ((i : Int) + (w : Int)) + 1) = ((i + w + 1 : Nat) : Int) := by rw [ei, IntWalk.i64_in _ (by omega)]; omega
    refine ⟨⟨by rw [ei]; omega, by rw [ei]; omega⟩, ?_⟩
    conv => whnf
    refine ⟨[.val (.int .u32 c)], (by rw [ei, Nat.zero_add, Int.toNat_natCast]; exact irows_get _ _ hc), ?_⟩
    conv => whnf
    refine ⟨⟨by rw [ei]; omega, by rw [ei]; omega⟩, ?_⟩
    conv => whnf
    refine ⟨by rw [ei, irows_len]; show 0 + ((i + w : Nat) : Int).toNat < out.length; omega, ?_⟩
    conv => whnf
    refine ⟨by decide, ?_⟩
    conv => whnf
    refine ⟨⟨by rw [ei1]; omega, by rw [ei1]; omega⟩, ?_⟩
    conv => whnf
    refine ⟨by rw [ei1, List.length_set, irows_len]; show 0 + ((i + w + 1 : Nat) : Int).toNat < out.length; omega, ?_⟩
    conv => whnf
    have hy2 : a[i].toNat * 2 ^ b < 4294967296 * 2 ^ b := Nat.mul_lt_mul_of_pos_right (by omega) (Nat.pow_pos (by decide))
    have hb31 : 2 ^ b ≤ 2 ^ 31 := Nat.pow_le_pow_right (by decide) (by omega)
    obtain ⟨y, hyy⟩ : ∃ y, y = a[i].toNat * 2 ^ b := ⟨_, rfl⟩
    have ey : IntKind.u64.wrap (IntKind.u64.wrap a[i] * 2 ^ (min (b : Int).toNat IntKind.u64.bits)) = (y : Int) := by
      rw [hyy]; exact shl_u64 hx (by omega)
    have eo : IntKind.u32.wrap ((BitVec.ofInt IntKind.u32.bits (c : Int) ||| BitVec.ofInt IntKind.u32.bits (IntKind.u32.wrap (y : Int))).toNat : Int) = ((c + y % 4294967296 : Nat) : Int) := by
      rw [hyy]; exact or_u32 (by omega) hcb
    have eh : IntKind.u32.wrap ((y : Int).fdiv (2 ^ (min (32 : Int).toNat IntKind.u64.bits))) = ((y / 4294967296 : Nat) : Int) := shr_u64 (by omega)
    have hpl : i + w + 1 < out.length := by omega
    have hc' : out[i + w] = (c : Int) := by
      have := List.getElem?_eq_getElem (l := out) (i := i + w) (by omega)
      rw [hc] at this
      exact (Option.some.inj this).symm
    have hz' : out[i + w + 1] = 0 := by
      have := List.getElem?_eq_getElem hpl
      rw [hz (i + w + 1) (by omega) hpl] at this
      exact (Option.some.inj this).symm
    have hst := shl_step (y := y) hpl hc' hz'
    have hcy : c + y % 4294967296 < 4294967296 := by
      rw [hyy, mod_shl _ (show b ≤ 32 by omega)]
      have := mod_shl_add a[i].toNat c (show b ≤ 32 by omega) hcb
      omega
    have hyb : y / 4294967296 < 2 ^ b := by
      rw [Nat.div_lt_iff_lt_mul (by decide), Nat.mul_comm]
      omega
    refine ⟨(i + 1, (out.set (i + w) ((c + y % 4294967296 : Nat) : Int)).set (i + w + 1) ((y / 4294967296 : Nat) : Int)), [], (by show a.length - (i + 1) < a.length - i; omega), ⟨(by show i + 1 ≤ a.length; omega), (by simp [hl]), (hL.set ⟨by omega, by omega⟩).set ⟨by omega, by omega⟩, ?_, ⟨y / 4294967296, hyb, ?_⟩, ?_⟩,
      ⟨⟨rfl, rfl⟩, ⟨rfl, rfl⟩, ⟨rfl, rfl⟩, ⟨rfl, rfl⟩, ⟨rfl, rfl⟩, ⟨rfl, rfl⟩, ⟨valI ?_, rfl⟩, trivial⟩, ⟨⟨rfl, .inr ⟨rfl, rfl⟩⟩, ⟨rfl, .inl ⟨celE ?_, irows_noid _ _⟩⟩, trivial⟩, rfl⟩
    · show val ((out.set (i + w) ((c + y % 4294967296 : Nat) : Int)).set (i + w + 1) ((y / 4294967296 : Nat) : Int)) = val (a.take (i + 1)) * 2 ^ b * 4294967296 ^ w
      rw [hst, hv, hyy, val_take_succ hlt, Nat.add_mul, Nat.add_mul, Nat.pow_add]
      congr 1
      rw [Nat.mul_assoc, Nat.mul_assoc, Nat.mul_assoc, Nat.mul_left_comm (2 ^ b)]
    · show ((out.set (i + w) ((c + y % 4294967296 : Nat) : Int)).set (i + w + 1) ((y / 4294967296 : Nat) : Int))[i + 1 + w]? = _
      rw [show i + 1 + w = i + w + 1 by omega, List.getElem?_set_self (by rw [List.length_set]; exact hpl)]
    · intro p hp1 hp2
      have hp1 : i + 1 + w < p := hp1
      show ((out.set (i + w) ((c + y % 4294967296 : Nat) : Int)).set (i + w + 1) ((y / 4294967296 : Nat) : Int))[p]? = some 0
      have hp2 : p < ((out.set (i + w) ((c + y % 4294967296 : Nat) : Int)).set (i + w + 1) ((y / 4294967296 : Nat) : Int)).length := hp2
      rw [List.length_set, List.length_set] at hp2
      rw [List.getElem?_set_ne (by omega), List.getElem?_set_ne (by omega)]
      exact hz p (by omega) hp2
    · show IntKind.i64.wrap ((i : Int) + 1) = ((i + 1 : Nat) : Int)
      rw [IntWalk.i64_in _ (by omega)]; omega
    · rw [ei1, ei, ey, eo, eh, Nat.zero_add, Nat.zero_add, Int.toNat_natCast, Int.toNat_natCast, ← irows_set, ← irows_set]
  · have h3' : ¬ (i : Int) < (a.length : Int) := of_decide_eq_false h3
    have hT := trim_ok out hL (by omega)
    have hlw : i = a.length := by omega
    rw [hlw, List.take_of_length_le (Nat.le_refl _)] at hv
    have hval : val out = val a * 2 ^ k.toNat := by
      rw [hv, Nat.mul_assoc, show k.toNat = b + 32 * w by omega, Nat.pow_add, Nat.pow_mul]
    have hT : AC Try.prog 52 [.sl 1 (List.take (a.length + w + 1) (List.drop 0 (irows .u32 out))) false] (.pure (natA (val out))) := by
      rw [List.drop_zero, List.take_of_length_le (by rw [irows_len]; omega)]
      exact hT
    conv => whnf
    refine ⟨by rw [irows_len]; show 0 + (a.length + w + 1) ≤ out.length; omega, _, hT, ?_⟩
    conv => whnf
    exact hfin _ hval

end Go.Proofs.Ytgnfopmbjmmbbaa

/- Contracts of nat: shifts to the right. -/
set_option linter.unusedVariables false
namespace Go.Proofs.Ytgnfopmbjmmbbaa
open Go Go.AL NM

theorem or_u64 {x h : Nat} (hx : x < 4294967296) (hh : h < 4294967296) : IntKind.u64.wrap ((BitVec.ofInt IntKind.u64.bits (x : Int) ||| BitVec.ofInt IntKind.u64.bits ((h * 4294967296 : Nat) : Int)).toNat : Int) = ((x + 4294967296 * h : Nat) : Int) := by
  have h1 := or_add' 64 h x 32 (by omega) (by omega)
  rw [show (2 : Nat) ^ 32 = 4294967296 by decide] at h1
  rw [show IntKind.u64.bits = 64 from rfl, h1, IntKind.wrap_u64]
  omega
theorem shl_32 {y : Int} (hy : 0 ≤ y ∧ y < 4294967296) : IntKind.u64.wrap (IntKind.u64.wrap y * 2 ^ (min (32 : Int).toNat IntKind.u64.bits)) = ((y.toNat * 4294967296 : Nat) : Int) := by
  show IntKind.u64.wrap (IntKind.u64.wrap y * 4294967296) = _
  simp only [IntKind.wrap_u64]
  omega
theorem shr_b {y b : Nat} (hb : b < 32) : IntKind.u32.wrap ((y : Int).fdiv (2 ^ (min (b : Int).toNat IntKind.u64.bits))) = ((y / 2 ^ b % 4294967296 : Nat) : Int) := by
  have e0 : min (b : Int).toNat IntKind.u64.bits = b := by rw [Int.toNat_natCast]; exact Nat.min_eq_left (by show b ≤ 64; omega)
  rw [e0, Int.fdiv_eq_ediv_of_nonneg _ (Int.pow_nonneg (by decide)), show ((2 : Int) ^ b) = ((2 ^ b : Nat) : Int) by rw [Int.natCast_pow]; rfl, IntKind.wrap_u32, ← Int.natCast_ediv]
  omega

theorem val_drop {a : List Int} (h : Lim a) {w : Nat} (hw : w ≤ a.length) : val (a.drop w) = val a / 4294967296 ^ w := by
  have h1 := val_append (a.take w) (a.drop w)
  rw [List.take_append_drop, List.length_take, Nat.min_eq_left hw] at h1
  have h2 := val_lt (l := a.take w) (fun x hx => h x (List.mem_of_mem_take hx))
  rw [List.length_take, Nat.min_eq_left hw] at h2
  rw [h1, Nat.add_mul_div_left _ _ (Nat.pow_pos (by decide)), Nat.div_eq_of_lt h2, Nat.zero_add]

theorem set_step {q : List Int} {L i : Nat} (hq : q.length = L) (hi : i < L) {v : Int} (hv : q[i]? = some v) : (q.take i ++ List.replicate (L - i) (0 : Int)).set i v = q.take (i + 1) ++ List.replicate (L - (i + 1)) (0 : Int) := by
  have h1 : (q.take i).length = i := by rw [List.length_take]; omega
  rw [List.set_append_right _ _ (by omega), h1, Nat.sub_self, show L - i = (L - (i + 1)) + 1 by omega, List.replicate_succ, List.set_cons_zero, List.take_add_one, hv]
  simp

theorem Shr_far (n : Nat) (k : Int) (hk : k < 1000000000) (hk0 : 0 < k) (hb : (limbs n).length < 1000000000) (hf : (limbs n).length ≤ k.toNat / 32) : AC Try.prog 64 [natA n, .val (.int .i64 k)] (.pure (natA (n / 2 ^ k.toNat))) := by
  have e0 : n / 2 ^ k.toNat = 0 := by
    apply Nat.div_eq_of_lt
    have := val_lt (limbs_lim n)
    rw [val_limbs, pow32] at this
    exact Nat.lt_of_lt_of_le this (Nat.pow_le_pow_right (by decide) (by omega))
  rw [e0]
  refine AC.le_res (v := .agg [.sl 0 [] true]) ?_ zero_le (natA_noid _)
  refine AC.of_body TTok Try.func64 rfl (enter_of Try.func64 (by kernel_rfl) (by kernel_rfl)) (noid2 (natA_noid n) (.val _)) zero_noid (Nat.le_of_ble_eq_true rfl) ?_
  unfold natA
  obtain ⟨w, hw⟩ : ∃ w : Nat, w = k.toNat / 32 := ⟨_, rfl⟩
  have ew : IntKind.i64.wrap (k.tdiv 32) = (w : Int) := by
    rw [Int.tdiv_eq_ediv_of_nonneg (by omega), IntWalk.i64_in _ (by omega)]; omega
  conv => whnf
  refine caseb (fun h1 => ?_) (fun h1 => ?_)
  · have h1' : k ≤ 0 := of_decide_eq_true h1
    omega
  conv => whnf
  refine ⟨by decide, ?_⟩
  conv => whnf
  refine ⟨by decide, ?_⟩
  conv => whnf
  refine caseb (fun h2 => ?_) (fun h2 => ?_)
  · conv => whnf
    exact rfl
  · have h2' : ¬ IntKind.i64.wrap (k.tdiv 32) ≥ ((irows .u32 (limbs n)).length : Int) := of_decide_eq_false h2
    rw [ew, irows_len] at h2'
    omega

theorem Shr_near (n : Nat) (k : Int) (hk : k < 1000000000) (hb : (limbs n).length < 1000000000) (hf : k ≤ 0 ∨ k.toNat / 32 < (limbs n).length) : AC Try.prog 64 [natA n, .val (.int .i64 k)] (.pure (natA (n / 2 ^ k.toNat))) := by
  refine AC.of_body TTok Try.func64 rfl (enter_of Try.func64 (by kernel_rfl) (by kernel_rfl)) (noid2 (natA_noid n) (.val _)) (natA_noid _) (Nat.le_of_ble_eq_true rfl) ?_
  have hva := val_limbs n
  have hLa := limbs_lim n
  have hz0 : k ≤ 0 → natA (n / 2 ^ k.toNat) = natA n := fun h => by rw [show k.toNat = 0 by omega, Nat.pow_zero, Nat.div_one]
  have hfin : ∀ l, val l = n / 2 ^ k.toNat → natA (val l) = natA (n / 2 ^ k.toNat) := fun l h => by rw [h]
  revert hz0 hfin
  generalize natA (n / 2 ^ k.toNat) = res
  unfold natA
  generalize limbs n = a at *
  subst hva
  intro hz0 hfin
  conv => whnf
  refine caseb (fun h1 => ?_) (fun h1 => ?_)
  · have h1' : k ≤ 0 := of_decide_eq_true h1
    conv => whnf
    exact (hz0 h1').symm
  have h1' : ¬ k ≤ 0 := of_decide_eq_false h1
  obtain ⟨w, hw⟩ : ∃ w : Nat, w = k.toNat / 32 := ⟨_, rfl⟩
  obtain ⟨b, hbb⟩ : ∃ b : Nat, b = k.toNat % 32 := ⟨_, rfl⟩
  have ew : IntKind.i64.wrap (k.tdiv 32) = (w : Int) := by
    rw [Int.tdiv_eq_ediv_of_nonneg (by omega), IntWalk.i64_in _ (by omega)]; omega
  have eb : k.tmod 32 = (b : Int) := by
    rw [Int.tmod_eq_emod_of_nonneg (by omega)]; omega
  have hwl : w < a.length := by omega
  conv => whnf
  refine ⟨by decide, ?_⟩
  conv => whnf
  refine ⟨by decide, ?_⟩
  conv => whnf
  refine caseb (fun h2 => ?_) (fun h2 => ?_)
  · have h2' : IntKind.i64.wrap (k.tdiv 32) ≥ ((irows .u32 a).length : Int) := of_decide_eq_true h2
    rw [ew, irows_len] at h2'
    omega
  have e3 : IntKind.i64.wrap (((irows .u32 a).length : Int) - IntKind.i64.wrap (k.tdiv 32)) = ((a.length - w : Nat) : Int) := by
    rw [irows_len, ew, IntWalk.i64_in _ (by omega)]; omega
  obtain ⟨s, hs⟩ : ∃ s, s = a.drop w := ⟨_, rfl⟩
  have hsl : s.length = a.length - w := by rw [hs, List.length_drop]
  have hsL : Lim s := by rw [hs]; exact fun x hx => hLa x (List.mem_of_mem_drop hx)
  have hsv : val (srl b s) = val a / 2 ^ k.toNat := by
    rw [srl_val b (by omega) s hsL, hs, val_drop hLa (by omega), Nat.div_div_eq_div_mul, pow32, ← Nat.pow_add, show 32 * w + b = k.toNat by omega]
  conv => whnf
  refine ⟨⟨by rw [e3]; omega, by rw [e3]; omega, ?_⟩, ?_⟩
  · rw [e3]; show ((a.length - w : Nat) : Int) * 4 ≤ _; omega
  conv => whnf
  refine SW.loopM TTok (fun i : Nat => [(2, .lp 0 0), (4, .lp 8 0), (5, .val (.int .i64 w)), (6, .val (.int .u64 b)), (7, .own 168 0 (a.length - w)), (31, .val (.int .i64 (a.length - w : Nat))), (32, .val (.int .i64 i))])
    (fun i => [(0, .cells 1 [[.sl 1 (irows .u32 a) false]]), (8, .cells 1 [[.sl 0 [] true]]), (168, .cells 1 (irows .u32 ((srl b s).take i ++ List.replicate (a.length - w - i) 0)))]) 208 73 rfl (fun i => a.length - w - i)
    (fun i => i ≤ a.length - w) 0 [] (Nat.zero_le _)
    ⟨⟨rfl, rfl⟩, ⟨rfl, rfl⟩, ⟨valI ew, rfl⟩, ⟨valI ?_, rfl⟩, ⟨ownE rfl ?_, rfl⟩, ⟨valI ?_, rfl⟩, ⟨rfl, rfl⟩, trivial⟩
    ⟨⟨rfl, .inr ⟨rfl, rfl⟩⟩, ⟨rfl, .inr ⟨rfl, rfl⟩⟩, ⟨rfl, .inl ⟨celE ?_, irows_noid _ _⟩⟩, trivial⟩ rfl ?_
  · rw [eb, IntKind.wrap_u64]; omega
  · rw [e3]; omega
  · rw [e3]; omega
  · rw [e3, Int.toNat_natCast]
    show _ = irows .u32 (List.replicate (a.length - w - 0) 0)
    rw [← irows_rep]; rfl
  intro i hi
  have hi : i ≤ a.length - w := hi
  have hol : ((srl b s).take i ++ List.replicate (a.length - w - i) (0 : Int)).length = a.length - w := by
    rw [List.length_append, List.length_take, srl_len, List.length_replicate, hsl]; omega
  obtain ⟨out, hout⟩ : ∃ out, out = (srl b s).take i ++ List.replicate (a.length - w - i) (0 : Int) := ⟨_, rfl⟩
  rw [← hout] at hol ⊢
  conv => whnf
  refine caseb (fun h3 => ?_) (fun h3 => ?_)
  · have h3' : (i : Int) < ((a.length - w : Nat) : Int) := of_decide_eq_true h3
    have hlt : i + w < a.length := by omega
    have hx := hLa a[i + w] (List.getElem_mem _)
    have ei : IntKind.i64.wrap ((i : Int) + (w : Int)) = ((i + w : Nat) : Int) := by rw [IntWalk.i64_in _ (by omega)]; omega
    have ei1 : IntKind.i64.wrap (IntKind.i64.wrap ((i : Int) + (w : Int)) + 1) = ((i + w + 1 : Nat) : Int) := by rw [ei, IntWalk.i64_in _ (by omega)]; omega
    conv => whnf
    refine ⟨[.val (.int .u32 a[i + w])], ⟨by rw [ei]; omega, by rw [ei]; exact irows_get _ _ (List.getElem?_eq_getElem (by omega))⟩, ?_⟩
    conv => whnf
    refine caseb (fun h4 => ?_) (fun h4 => ?_)
    · have h4' : IntKind.i64.wrap (IntKind.i64.wrap ((i : Int) + (w : Int)) + 1) < ((irows .u32 a).length : Int) := of_decide_eq_true h4
      rw [ei1, irows_len] at h4'
      have hx2 := hLa a[i + w + 1] (List.getElem_mem _)
      have hget := srl_get b s i (by omega)
      have hsi : s[i]'(by omega) = a[i + w] := by simp only [hs, List.getElem_drop, Nat.add_comm w i]
      have hsi1 : s.getD (i + 1) 0 = a[i + w + 1] := by
        rw [List.getD, List.getElem?_eq_getElem (by omega), Option.getD_some]
        simp only [hs, List.getElem_drop]
        congr 1; omega
      rw [hsi, hsi1] at hget
      have eor : IntKind.u64.wrap ((BitVec.ofInt IntKind.u64.bits (IntKind.u64.wrap a[i + w]) ||| BitVec.ofInt IntKind.u64.bits (IntKind.u64.wrap (IntKind.u64.wrap a[i + w + 1] * 2 ^ (min (32 : Int).toNat IntKind.u64.bits)))).toNat : Int) = ((a[i + w].toNat + 4294967296 * a[i + w + 1].toNat : Nat) : Int) := by
        rw [shl_32 hx2, show IntKind.u64.wrap a[i + w] = (a[i + w].toNat : Int) by rw [IntKind.wrap_u64]; omega]
        exact or_u64 (by omega) (by omega)
      conv => whnf
      refine ⟨[.val (.int .u32 a[i + w + 1])], ⟨by rw [ei1]; omega, by rw [ei1]; exact irows_get _ _ (List.getElem?_eq_getElem (by omega))⟩, ?_⟩
      conv => whnf
      refine ⟨by decide, ?_⟩
      conv => whnf
      refine ⟨by omega, ?_⟩
      conv => whnf
      refine ⟨⟨by omega, by omega⟩, ?_⟩
      conv => whnf
      refine ⟨by rw [irows_len]; show 0 + ((i : Nat) : Int).toNat < out.length; omega, ?_⟩
      conv => whnf
      refine ⟨i + 1, [], (by show a.length - w - (i + 1) < a.length - w - i; omega), (by show i + 1 ≤ a.length - w; omega),
        ⟨⟨rfl, rfl⟩, ⟨rfl, rfl⟩, ⟨rfl, rfl⟩, ⟨rfl, rfl⟩, ⟨rfl, rfl⟩, ⟨rfl, rfl⟩, ⟨valI ?_, rfl⟩, trivial⟩, ⟨⟨rfl, .inr ⟨rfl, rfl⟩⟩, ⟨rfl, .inr ⟨rfl, rfl⟩⟩, ⟨rfl, .inl ⟨celE ?_, irows_noid _ _⟩⟩, trivial⟩, rfl⟩
      · show IntKind.i64.wrap ((i : Int) + 1) = ((i + 1 : Nat) : Int)
        rw [IntWalk.i64_in _ (by omega)]; omega
      · rw [eor, shr_b (by omega), Nat.zero_add, Int.toNat_natCast, ← set_step (by rw [srl_len, hsl]) (by omega) hget, ← hout, irows_set]
    · have h4' : ¬ IntKind.i64.wrap (IntKind.i64.wrap ((i : Int) + (w : Int)) + 1) < ((irows .u32 a).length : Int) := of_decide_eq_false h4
      rw [ei1, irows_len] at h4'
      have hget := srl_get b s i (by omega)
      have hsi : s[i]'(by omega) = a[i + w] := by simp only [hs, List.getElem_drop, Nat.add_comm w i]
      have hsi1 : s.getD (i + 1) 0 = 0 := by
        rw [List.getD, List.getElem?_eq_none (by omega), Option.getD_none]
      rw [hsi, hsi1] at hget
      have ex : IntKind.u64.wrap a[i + w] = ((a[i + w].toNat + 4294967296 * (0 : Int).toNat : Nat) : Int) := by rw [IntKind.wrap_u64]; omega
      conv => whnf
      refine ⟨by omega, ?_⟩
      conv => whnf
      refine ⟨⟨by omega, by omega⟩, ?_⟩
      conv => whnf
      refine ⟨by rw [irows_len]; show 0 + ((i : Nat) : Int).toNat < out.length; omega, ?_⟩
      conv => whnf
      refine ⟨i + 1, [], (by show a.length - w - (i + 1) < a.length - w - i; omega), (by show i + 1 ≤ a.length - w; omega),
        ⟨⟨rfl, rfl⟩, ⟨rfl, rfl⟩, ⟨rfl, rfl⟩, ⟨rfl, rfl⟩, ⟨rfl, rfl⟩, ⟨rfl, rfl⟩, ⟨valI ?_, rfl⟩, trivial⟩, ⟨⟨rfl, .inr ⟨rfl, rfl⟩⟩, ⟨rfl, .inr ⟨rfl, rfl⟩⟩, ⟨rfl, .inl ⟨celE ?_, irows_noid _ _⟩⟩, trivial⟩, rfl⟩
      · show IntKind.i64.wrap ((i : Int) + 1) = ((i + 1 : Nat) : Int)
        rw [IntWalk.i64_in _ (by omega)]; omega
      · rw [ex, shr_b (by omega), Nat.zero_add, Int.toNat_natCast, ← set_step (by rw [srl_len, hsl]) (by omega) hget, ← hout, irows_set]
  · have h3' : ¬ (i : Int) < ((a.length - w : Nat) : Int) := of_decide_eq_false h3
    have hei : i = a.length - w := by omega
    have hos : out = srl b s := by
      rw [hout, hei, Nat.sub_self, List.replicate_zero, List.append_nil, List.take_of_length_le (by rw [srl_len, hsl]; exact Nat.le_refl _)]
    have hT : AC Try.prog 52 [.sl 1 (List.take (a.length - w) (List.drop 0 (irows .u32 out))) false] (.pure (natA (val out))) := by
      rw [List.drop_zero, List.take_of_length_le (by rw [irows_len]; omega)]
      exact trim_ok out (by rw [hos]; exact srl_lim b s) (by omega)
    conv => whnf
    refine ⟨by rw [irows_len]; show 0 + (a.length - w) ≤ out.length; omega, _, hT, ?_⟩
    conv => whnf
    exact hfin _ (by rw [hos]; exact hsv)

end Go.Proofs.Ytgnfopmbjmmbbaa

/- Decimal digits that change: plain facts, no program in sight. -/
set_option linter.unusedVariables false
namespace NM

/-- The value of digits, the least one first. -/
def dval : List Int → Nat
  | [] => 0
  | x :: l => x.toNat + 10 * dval l
theorem dval_set : ∀ (l : List Int) (k : Nat) (v : Int) (hk : k < l.length), dval (l.set k v) + (l[k]).toNat * 10 ^ k = dval l + v.toNat * 10 ^ k
  | [], k, v, hk => absurd hk (Nat.not_lt_zero _)
  | x :: l, 0, v, hk => by simp [dval]; omega
  | x :: l, k + 1, v, hk => by
    have := dval_set l k v (by simpa using hk)
    simp only [List.set_cons_succ, dval, List.getElem_cons_succ, Nat.pow_succ]
    rw [← Nat.mul_assoc, ← Nat.mul_assoc]
    omega
theorem dval_rep (k : Nat) : dval (List.replicate k 0) = 0 := by
  induction k with
  | zero => rfl
  | succ k ih => rw [List.replicate_succ, dval, ih]; rfl
/-- One step of a row of a product. -/
theorem dmul_step {out : List Int} {p c t A : Nat} (hp : p < out.length) (hv : dval out + c * 10 ^ p = A) {z : Nat} (ht : t = z + (out[p]).toNat + c) :
    dval (out.set p ((t % 10 : Nat) : Int)) + t / 10 * 10 ^ (p + 1) = A + z * 10 ^ p := by
  have hs := dval_set out p ((t % 10 : Nat) : Int) hp
  have hd := Nat.mod_add_div t 10
  rw [Int.toNat_natCast] at hs
  generalize dval (out.set p ((t % 10 : Nat) : Int)) = V at *
  generalize (out[p]).toNat = o at *
  rw [Nat.pow_succ, ← Nat.mul_assoc]
  generalize 10 ^ p = B at *
  have e1 : t / 10 * B * 10 = 10 * (t / 10) * B := by rw [Nat.mul_comm (t / 10 * B), Nat.mul_assoc]
  have e2 : t * B = t % 10 * B + 10 * (t / 10) * B := by rw [← Nat.add_mul, hd]
  have e3 : t * B = z * B + o * B + c * B := by rw [ht, Nat.add_mul, Nat.add_mul]
  omega
/-- A number's first digits. -/
theorem mod_pow_succ (n i : Nat) : n % 10 ^ (i + 1) = n % 10 ^ i + n / 10 ^ i % 10 * 10 ^ i := by
  rw [Nat.pow_succ, Nat.mod_mul, Nat.mul_comm]

end NM

/- Contracts: shifts to the right; the reference's products. -/
set_option linter.unusedVariables false
namespace Go.Proofs.Ytgnfopmbjmmbbaa
open Go Go.AL NM

theorem Shr_ok (n : Nat) (k : Int) (hk : k < 1000000000) (hb : (limbs n).length < 1000000000) : AC Try.prog 64 [natA n, .val (.int .i64 k)] (.pure (natA (n / 2 ^ k.toNat))) := by
  by_cases h : k ≤ 0 ∨ k.toNat / 32 < (limbs n).length
  · exact Shr_near n k hk hb h
  · exact Shr_far n k hk (by omega) hb (by omega)

theorem dval_valD : ∀ l : List Int, dval l = valD l
  | [] => rfl
  | x :: l => by rw [dval, valD, dval_valD l]
theorem mod_lt_dec {n i : Nat} (h : (decL n).length ≤ i) : n % 10 ^ i = n := Nat.mod_eq_of_lt (Nat.lt_of_lt_of_le (decL_lt n) (Nat.pow_le_pow_right (by decide) h))
theorem getE {l : List Int} {k : Nat} {v : Int} (hk : k < l.length) (h : l[k]? = some v) : l[k] = v := by
  rw [List.getElem?_eq_getElem hk] at h
  exact Option.some.inj h

theorem RMul_ok (n m : Nat) (hb : (decL n).length + (decL m).length < 1000000000) : AC Try.prog 47 [.val (.string (decS n)), .val (.string (decS m))] (.pure (.val (.string (decS (n * m))))) := by
  refine AC.of_body TTok Try.func47 rfl (enter_of Try.func47 (by kernel_rfl) (by kernel_rfl)) (noid2 (.val _) (.val _)) (.val _) (Nat.le_of_ble_eq_true rfl) ?_
  obtain ⟨la, hla⟩ : ∃ la, la = (decL n).length := ⟨_, rfl⟩
  obtain ⟨lb, hlb⟩ : ∃ lb, lb = (decL m).length := ⟨_, rfl⟩
  have z1 : (decS n).size = la := by rw [hla]; exact strL_size _
  have z2 : (decS m).size = lb := by rw [hlb]; exact strL_size _
  rw [← hla, ← hlb] at hb
  have dn : ∀ i, AC Try.prog 56 [.val (.string (decS n)), .val (.int .i64 (i : Nat))] (.pure (.val (.int .i64 (n / 10 ^ i % 10 : Nat)))) := fun i => by
    have := digit_ok (decL n) (decL_byt n) i (by omega)
    rwa [digE_dec] at this
  have dm : ∀ i, AC Try.prog 56 [.val (.string (decS m)), .val (.int .i64 (i : Nat))] (.pure (.val (.int .i64 (m / 10 ^ i % 10 : Nat)))) := fun i => by
    have := digit_ok (decL m) (decL_byt m) i (by omega)
    rwa [digE_dec] at this
  have e0 : IntKind.i64.wrap (IntKind.i64.wrap (((decS n).size : Int) + ((decS m).size : Int)) + 1) = ((la + lb + 1 : Nat) : Int) := by
    rw [z1, z2, IntWalk.i64_in ((la : Int) + (lb : Int)) (by omega), IntWalk.i64_in _ (by omega)]; omega
  conv => whnf
  refine ⟨⟨by rw [e0]; omega, by rw [e0]; omega, ?_⟩, ?_⟩
  · rw [e0]; show ((la + lb + 1 : Nat) : Int) * 8 ≤ _; omega
  conv => whnf
  refine SW.loopM TTok (fun x : Nat × List Int => [(0, .val (.string (decS n))), (1, .val (.string (decS m))), (5, .own 56 0 (la + lb + 1)), (6, .val (.int .i64 x.1))])
    (fun x => [(56, .cells 1 (irows .i64 x.2))]) 80 60 rfl (fun x => la - x.1)
    (fun x => x.1 ≤ la ∧ x.2.length = la + lb + 1 ∧ Dg x.2 ∧ dval x.2 = n % 10 ^ x.1 * m ∧ ∀ p, x.1 + lb ≤ p → p < x.2.length → x.2[p]? = some 0)
    (0, List.replicate (la + lb + 1) 0) [] ⟨Nat.zero_le _, by simp, (fun x hx => by have := List.eq_of_mem_replicate hx; omega), (by show dval (List.replicate (la + lb + 1) 0) = n % 1 * m; rw [dval_rep, Nat.mod_one, Nat.zero_mul]), fun p _ hp => by simp at hp; simp [hp]⟩
    ⟨⟨rfl, rfl⟩, ⟨rfl, rfl⟩, ⟨ownE rfl ?_, rfl⟩, ⟨rfl, rfl⟩, trivial⟩ ⟨⟨rfl, .inl ⟨celE ?_, irows_noid _ _⟩⟩, trivial⟩ rfl ?_
  · rw [e0]; omega
  · rw [e0, Int.toNat_natCast, ← irows_rep]; rfl
  rintro ⟨i, out⟩ hJ
  have hi : i ≤ la := hJ.1
  have hl : out.length = la + lb + 1 := hJ.2.1
  have hD : Dg out := hJ.2.2.1
  have hv : dval out = n % 10 ^ i * m := hJ.2.2.2.1
  have hz : ∀ p, i + lb ≤ p → p < out.length → out[p]? = some 0 := hJ.2.2.2.2
  clear hJ
  conv => whnf
  refine caseb (fun h1 => ?_) (fun h1 => ?_)
  · have h1' : (i : Int) < ((decS n).size : Int) := of_decide_eq_true h1
    rw [z1] at h1'
    conv => whnf
    refine SW.loopM TTok (fun x : Nat × Nat × List Int => [(0, .val (.string (decS n))), (1, .val (.string (decS m))), (5, .own 56 0 (la + lb + 1)), (6, .val (.int .i64 i)), (7, .val (.int .i64 x.2.1)), (8, .val (.int .i64 x.1))])
      (fun x => [(56, .cells 1 (irows .i64 x.2.2))]) 128 60 rfl (fun x => lb + 1 - x.1)
      (fun x => x.1 ≤ lb + 1 ∧ x.2.1 ≤ 9 ∧ (x.1 = lb + 1 → x.2.1 = 0) ∧ x.2.2.length = la + lb + 1 ∧ Dg x.2.2 ∧ dval x.2.2 + x.2.1 * 10 ^ (i + x.1) = n % 10 ^ i * m + n / 10 ^ i % 10 * (m % 10 ^ x.1) * 10 ^ i ∧ ∀ p, i + lb ≤ p → i + x.1 ≤ p → p < x.2.2.length → x.2.2[p]? = some 0)
      (0, 0, out) [] ⟨Nat.zero_le _, Nat.zero_le _, fun _ => rfl, hl, hD, (by show dval out + 0 * _ = n % 10 ^ i * m + n / 10 ^ i % 10 * (m % 1) * 10 ^ i; rw [hv, Nat.mod_one]; simp), fun p h1 _ h2 => hz p h1 h2⟩
      ⟨⟨rfl, rfl⟩, ⟨rfl, rfl⟩, ⟨rfl, rfl⟩, ⟨rfl, rfl⟩, ⟨rfl, rfl⟩, ⟨rfl, rfl⟩, trivial⟩ ⟨⟨rfl, .inl ⟨rfl, irows_noid _ _⟩⟩, trivial⟩ rfl ?_
    clear hl hD hv hz
    rintro ⟨j, c, out⟩ hJ
    have hj : j ≤ lb + 1 := hJ.1
    have hc : c ≤ 9 := hJ.2.1
    have hc0 : j = lb + 1 → c = 0 := hJ.2.2.1
    have hl : out.length = la + lb + 1 := hJ.2.2.2.1
    have hD : Dg out := hJ.2.2.2.2.1
    have hv : dval out + c * 10 ^ (i + j) = n % 10 ^ i * m + n / 10 ^ i % 10 * (m % 10 ^ j) * 10 ^ i := hJ.2.2.2.2.2.1
    have hz : ∀ p, i + lb ≤ p → i + j ≤ p → p < out.length → out[p]? = some 0 := hJ.2.2.2.2.2.2
    clear hJ
    conv => whnf
    refine caseb (fun h2 => ?a) (fun h2 => ?q)
    case' q =>
      conv => whnf
      refine caseb (fun h3 => ?b) (fun h3 => ?q2)
    case q2 =>
      have h2' : ¬ (j : Int) < ((decS m).size : Int) := of_decide_eq_false h2
      have h3' : ¬ (c : Int) > 0 := of_decide_eq_false h3
      rw [z2] at h2'
      conv => whnf
      refine ⟨(i + 1, out), [], (by show la - (i + 1) < la - i; omega), ⟨(by show i + 1 ≤ la; omega), hl, hD, ?_, fun p hp1 hp2 => hz p (by have : i + 1 + lb ≤ p := hp1; omega) (by have : i + 1 + lb ≤ p := hp1; omega) hp2⟩,
        ⟨⟨rfl, rfl⟩, ⟨rfl, rfl⟩, ⟨rfl, rfl⟩, ⟨valI ?_, rfl⟩, trivial⟩, ⟨⟨rfl, .inl ⟨rfl, irows_noid _ _⟩⟩, trivial⟩, rfl⟩
      · show dval out = n % 10 ^ (i + 1) * m
        rw [mod_pow_succ, Nat.add_mul]
        rw [show c = 0 by omega, mod_lt_dec (show (decL m).length ≤ j by omega)] at hv
        rw [Nat.zero_mul, Nat.add_zero] at hv
        rw [hv, Nat.mul_assoc, Nat.mul_assoc, Nat.mul_comm m]
      · show IntKind.i64.wrap ((i : Int) + 1) = ((i + 1 : Nat) : Int)
        rw [IntWalk.i64_in _ (by omega)]; omega
    case' a =>
      have hj1 : j ≤ lb := by
        have h2' : (j : Int) < ((decS m).size : Int) := of_decide_eq_true h2
        rw [z2] at h2'
        omega
    case' b =>
      have hj1 : j ≤ lb := by
        have h3' : (c : Int) > 0 := of_decide_eq_true h3
        rcases Nat.lt_or_ge j (lb + 1) with h | h
        · omega
        · have := hc0 (by omega); omega
    all_goals
      have ew : IntKind.i64.wrap ((i : Int) + (j : Int)) = ((i + j : Nat) : Int) := by rw [IntWalk.i64_in _ (by omega)]; omega
      have hp : i + j < out.length := by omega
      have ho := hD (out[i + j]'hp) (List.getElem_mem _)
      have h9 : n / 10 ^ i % 10 * (m / 10 ^ j % 10) ≤ 9 * 9 := Nat.mul_le_mul (by omega) (by omega)
      obtain ⟨t, ht⟩ : ∃ t, t = n / 10 ^ i % 10 * (m / 10 ^ j % 10) + (out[i + j]'hp).toNat + c := ⟨_, rfl⟩
      have et : IntKind.i64.wrap (IntKind.i64.wrap ((out[i + j]'hp) + IntKind.i64.wrap (((n / 10 ^ i % 10 : Nat) : Int) * ((m / 10 ^ j % 10 : Nat) : Int))) + (c : Int)) = (t : Int) := by
        rw [← Int.natCast_mul, IntWalk.i64_in ((n / 10 ^ i % 10 * (m / 10 ^ j % 10) : Nat) : Int) (by omega), IntWalk.i64_in ((out[i + j]'hp) + _) (by omega), IntWalk.i64_in _ (by omega)]; omega
      have em : (t : Int).tmod 10 = ((t % 10 : Nat) : Int) := by
        rw [Int.tmod_eq_emod_of_nonneg (Int.natCast_nonneg _)]; omega
      have ed : IntKind.i64.wrap ((t : Int).tdiv 10) = ((t / 10 : Nat) : Int) := by
        rw [Int.tdiv_eq_ediv_of_nonneg (Int.natCast_nonneg _), IntWalk.i64_in _ (by omega)]; omega
      have hst := dmul_step hp hv ht
      have ht99 : t ≤ 99 := by omega
      have hcn : j = lb → t / 10 = 0 := fun e => by
        have h0 : m / 10 ^ j = 0 := decL_div (show (decL m).length ≤ j by omega)
        have h1 := getE hp (hz (i + j) (by omega) (by omega) hp)
        rw [h0, h1] at ht
        simp at ht
        omega
      conv => whnf
      refine ⟨⟨by rw [ew]; omega, by rw [ew]; omega⟩, ?_⟩
      conv => whnf
      refine ⟨[.val (.int .i64 (out[i + j]'hp))], (by rw [ew, Nat.zero_add, Int.toNat_natCast]; exact irows_get _ _ (List.getElem?_eq_getElem (by omega))), ?_⟩
      conv => whnf
      refine ⟨_, dn i, ?_⟩
      conv => whnf
      refine ⟨_, dm j, ?_⟩
      conv => whnf
      refine ⟨by kernel_rfl, ?_⟩
      conv => whnf
      refine ⟨by decide, ?_⟩
      conv => whnf
      refine ⟨⟨by rw [ew]; omega, by rw [ew]; omega⟩, ?_⟩
      conv => whnf
      refine ⟨by rw [ew, irows_len]; show 0 + ((i + j : Nat) : Int).toNat < out.length; omega, ?_⟩
      conv => whnf
      refine ⟨by decide, ?_⟩
      conv => whnf
      refine ⟨(j + 1, t / 10, out.set (i + j) ((t % 10 : Nat) : Int)), [], (by show lb + 1 - (j + 1) < lb + 1 - j; omega), ⟨(by show j + 1 ≤ lb + 1; omega), (by show t / 10 ≤ 9; omega), (fun e => hcn (by have e : j + 1 = lb + 1 := e; omega)), (by show (out.set _ _).length = _; rw [List.length_set, hl]), ?_, ?_, ?_⟩,
        ⟨⟨rfl, rfl⟩, ⟨rfl, rfl⟩, ⟨rfl, rfl⟩, ⟨rfl, rfl⟩, ⟨valI ?_, rfl⟩, ⟨valI ?_, rfl⟩, trivial⟩, ⟨⟨rfl, .inl ⟨celE ?_, irows_noid _ _⟩⟩, trivial⟩, rfl⟩
      · intro x hx
        rcases List.mem_or_eq_of_mem_set hx with hx | rfl
        · exact hD x hx
        · omega
      · show dval (out.set (i + j) ((t % 10 : Nat) : Int)) + t / 10 * 10 ^ (i + (j + 1)) = n % 10 ^ i * m + n / 10 ^ i % 10 * (m % 10 ^ (j + 1)) * 10 ^ i
        rw [← Nat.add_assoc i j 1, hst, mod_pow_succ m j, Nat.mul_add, Nat.add_mul, Nat.add_assoc]
        congr 2
        rw [Nat.pow_add, Nat.mul_comm (10 ^ i), ← Nat.mul_assoc, ← Nat.mul_assoc]
      · intro p hp1 hp2 hp3
        have hp2 : i + (j + 1) ≤ p := hp2
        have hp3 : p < (out.set (i + j) ((t % 10 : Nat) : Int)).length := hp3
        rw [List.length_set] at hp3
        show (out.set (i + j) ((t % 10 : Nat) : Int))[p]? = some 0
        rw [List.getElem?_set_ne (by omega)]
        exact hz p hp1 (by omega) hp3
      · show IntKind.i64.wrap (Int.tdiv (IntKind.i64.wrap (IntKind.i64.wrap ((out[i + j]'hp) + IntKind.i64.wrap (((n / 10 ^ i % 10 : Nat) : Int) * ((m / 10 ^ j % 10 : Nat) : Int))) + (c : Int))) 10) = _
        rw [et, ed]
      · show IntKind.i64.wrap ((j : Int) + 1) = ((j + 1 : Nat) : Int)
        rw [IntWalk.i64_in _ (by omega)]; omega
      · show (irows .i64 out).set (0 + (IntKind.i64.wrap ((i : Int) + (j : Int))).toNat) [AV.val (.int .i64 (Int.tmod (IntKind.i64.wrap (IntKind.i64.wrap ((out[i + j]'hp) + IntKind.i64.wrap (((n / 10 ^ i % 10 : Nat) : Int) * ((m / 10 ^ j % 10 : Nat) : Int))) + (c : Int))) 10))] = _
        rw [et, em, ew, Nat.zero_add, Int.toNat_natCast, ← irows_set]
  · have h1' : ¬ (i : Int) < ((decS n).size : Int) := of_decide_eq_false h1
    rw [z1] at h1'
    have hvv : valD out = n * m := by rw [← dval_valD, hv, mod_lt_dec (show (decL n).length ≤ i by omega)]
    have hW := written_ok out hD (by omega)
    rw [hvv] at hW
    have hW : AC Try.prog 53 [.sl 1 (List.take (la + lb + 1) (List.drop 0 (irows .i64 out))) false] (.pure (.val (.string (decS (n * m))))) := by
      rw [List.drop_zero, List.take_of_length_le (by rw [irows_len]; omega)]
      exact hW
    conv => whnf
    refine ⟨by rw [irows_len]; show 0 + (la + lb + 1) ≤ out.length; omega, _, hW, ?_⟩
    conv => whnf
    exact rfl

end Go.Proofs.Ytgnfopmbjmmbbaa

/- Contracts: the reference's quotients, powers of two. -/
set_option linter.unusedVariables false
namespace Go.Proofs.Ytgnfopmbjmmbbaa
open Go Go.AL NM

theorem decS_one : decS 1 = ({ data := #[49] } : ByteArray) := by unfold decS; rw [decL_one 1 (by decide)]; rfl
theorem decS_zero : decS 0 = ({ data := #[48] } : ByteArray) := by unfold decS; rw [decL_one 0 (by decide)]; rfl
theorem decL_two (i : Nat) : (decL (2 ^ i)).length ≤ i + 1 := decL_len_le (by omega) (by
  have h1 : 2 ^ i ≤ 10 ^ i := Nat.pow_le_pow_left (by decide) i
  have h2 : 0 < 10 ^ i := Nat.pow_pos (by decide)
  rw [Nat.pow_succ]
  omega)

theorem RDivMod_ok (n m : Nat) (hm : 0 < m) (hb : (decL n).length + (decL m).length < 100000000) : AC Try.prog 51 [.val (.string (decS n)), .val (.string (decS m))] (.pure (.tup [.val (.string (decS (n / m))), .val (.string (decS (n % m)))])) := by
  refine AC.of_body TTok Try.func51 rfl (enter_of Try.func51 (by kernel_rfl) (by kernel_rfl)) (noid2 (.val _) (.val _)) (.tup _ (noid2 (.val _) (.val _))) (Nat.le_of_ble_eq_true rfl) ?_
  obtain ⟨la, hla⟩ : ∃ la, la = (decL n).length := ⟨_, rfl⟩
  have z1 : (decS n).size = la := by rw [hla]; exact strL_size _
  have hne := decL_ne n
  have hdn := decL_byt n
  have hpos : 0 < la := by rw [hla]; exact List.length_pos_iff.2 hne
  rw [← hla] at hb
  have hvn := valL_decL n
  conv => whnf
  refine ⟨⟨by decide, by rw [z1]; omega, by rw [z1]; show (la : Int) * 1 ≤ _; omega⟩, ?_⟩
  conv => whnf
  refine SW.loopM TTok (fun x : Nat × List Int => [(0, .val (.string (decS n))), (1, .val (.string (decS m))), (6, .own 32 0 x.2.length), (7, .val (.string (decS (valL ((decL n).take x.1) % m)))), (8, .val (.int .i64 x.1))])
    (fun x => [(32, .cells 1 (irows .u8 x.2))]) 64 50 rfl (fun x => la - x.1)
    (fun x => x.1 ≤ la ∧ Dig x.2 ∧ x.2.length = x.1 ∧ valL x.2 = valL ((decL n).take x.1) / m) (0, []) [] ⟨Nat.zero_le _, (fun x hx => (nomatch hx)), rfl, (by show 0 = 0 / m; rw [Nat.zero_div])⟩
    ⟨⟨rfl, rfl⟩, ⟨rfl, rfl⟩, ⟨ownE rfl rfl, rfl⟩, ⟨strE ?_, rfl⟩, ⟨rfl, rfl⟩, trivial⟩ ⟨⟨rfl, .inl ⟨celE ?_, irows_noid _ _⟩⟩, trivial⟩ rfl ?_
  · show ({ data := #[48] } : ByteArray) = decS (0 % m)
    rw [Nat.zero_mod, decS_zero]
  · rfl
  rintro ⟨i, q⟩ hJ
  have hi : i ≤ la := hJ.1
  have hD : Dig q := hJ.2.1
  have hl : q.length = i := hJ.2.2.1
  have hv : valL q = valL ((decL n).take i) / m := hJ.2.2.2
  clear hJ
  have hle : 0 + q.length ≤ (irows .u8 q).length := by rw [irows_len]; omega
  conv => whnf
  refine caseb (fun h1 => ?_) (fun h1 => ?_)
  · have h1' : (i : Int) < ((decS n).size : Int) := of_decide_eq_true h1
    rw [z1] at h1'
    have hlt : i < (decL n).length := by omega
    have hx := hdn (decL n)[i] (List.getElem_mem _)
    have htk := valL_take hlt
    obtain ⟨p, hp⟩ : ∃ p, p = valL ((decL n).take i) := ⟨_, rfl⟩
    obtain ⟨d, hd⟩ : ∃ d, d = ((decL n)[i] - 48).toNat := ⟨_, rfl⟩
    rw [← hp, ← hd] at htk
    rw [← hp] at hv
    obtain ⟨t, ht⟩ : ∃ t, t = 10 * (p % m) + d := ⟨_, rfl⟩
    have ei : IntKind.i64.wrap ((i : Int) + 1) = ((i + 1 : Nat) : Int) := by rw [IntWalk.i64_in _ (by omega)]; omega
    have hpm : p % m < m := Nat.mod_lt _ hm
    have ht10 : t < 10 * m := by omega
    have lr : ∀ r, r ≤ t → (decL r).length ≤ (decL m).length + 1 := fun r hr => decL_len_le (by omega) (by
      have := decL_lt m
      rw [Nat.pow_succ]
      omega)
    have ex : (decS n).extract ((i : Int)).toNat (IntKind.i64.wrap ((i : Int) + 1)).toNat = strL [(decL n)[i]] := by
      unfold decS
      rw [ei, Int.toNat_natCast, Int.toNat_natCast, strL_extract, List.take_succ_eq_append_getElem hlt, List.drop_append, List.length_take, Nat.min_eq_left (by omega), Nat.sub_self, List.drop_of_length_le (by rw [List.length_take]; omega)]
      rfl
    have hTr : AC Try.prog 55 [.val (.string (decS (valL ((decL n).take i) % m) ++ (decS n).extract ((i : Int)).toNat (IntKind.i64.wrap ((i : Int) + 1)).toNat))] (.pure (.val (.string (decS t)))) := by
      rw [← hp, ex]
      unfold decS
      rw [strL_append]
      have h1 := Trim_ok (decL (p % m) ++ [(decL n)[i]]) (fun x hx => by
        rcases List.mem_append.1 hx with hx | hx
        · exact decL_byt _ x hx
        · simp at hx; subst hx; exact hdn _ (List.getElem_mem _)) (by simp) (by
          have := lr (p % m) (by omega)
          simp; omega)
      rw [valL_snoc, valL_decL, ← hd, ← ht] at h1
      exact h1
    have sz1 : (decS (valL ((decL n).take i) % m)).size ≤ (decL m).length + 1 := by
      rw [← hp]; unfold decS; rw [strL_size]; exact lr _ (by omega)
    have sz2 : ((decS n).extract ((i : Int)).toNat (IntKind.i64.wrap ((i : Int) + 1)).toNat).size = 1 := by rw [ex, strL_size]; rfl
    conv => whnf
    refine ⟨⟨by omega, by rw [ei]; omega, by rw [ei, z1]; omega⟩, ?_⟩
    conv => whnf
    refine ⟨by show (decS (valL ((decL n).take i) % m)).size + ((decS n).extract ((i : Int)).toNat (IntKind.i64.wrap ((i : Int) + 1)).toNat).size ≤ _; omega, ?_⟩
    conv => whnf
    refine ⟨_, hTr, ?_⟩
    conv => whnf
    refine SW.loopM TTok (fun x : Nat × Nat => [(0, .val (.string (decS n))), (1, .val (.string (decS m))), (6, .own 32 0 q.length), (7, .val (.string (decS x.2))), (8, .val (.int .i64 i)), (9, .val (.int .i64 x.1))])
      (fun x => [(32, .cells 1 (irows .u8 q))]) 176 50 rfl (fun x => x.2) (fun x => x.2 + x.1 * m = t) (0, t) [] (by show t + 0 * m = t; omega)
      ⟨⟨rfl, rfl⟩, ⟨rfl, rfl⟩, ⟨rfl, rfl⟩, ⟨rfl, rfl⟩, ⟨rfl, rfl⟩, ⟨rfl, rfl⟩, trivial⟩ ⟨⟨rfl, .inl ⟨rfl, irows_noid _ _⟩⟩, trivial⟩ rfl ?_
    rintro ⟨c, r⟩ hJ
    have hcr : r + c * m = t := hJ
    clear hJ
    have hrt : r ≤ t := by omega
    have hc10 : c < 10 := by
      rcases Nat.lt_or_ge c 10 with h | h
      · exact h
      · have : 10 * m ≤ c * m := Nat.mul_le_mul_right _ h
        omega
    have hlr := lr r hrt
    conv => whnf
    refine ⟨_, RCmp_ok r m, ?_⟩
    conv => whnf
    refine caseb (fun h2 => ?ca) (fun h2 => ?cq)
    case' ca =>
      have h2' : cmpN r m ≥ 0 := of_decide_eq_true h2
      have hmr : m ≤ r := by
        rcases Nat.lt_or_ge r m with h | h
        · rw [cmpN_lt h] at h2'; omega
        · exact h
      conv => whnf
      refine caseb (fun h3 => ?cb) (fun h3 => ?cd)
    case cd =>
      have h3' : ¬ (c : Int) < 10 := of_decide_eq_false h3
      omega
    case cb =>
      conv => whnf
      refine ⟨_, RSub_ok r m hmr (by omega), ?_⟩
      conv => whnf
      refine ⟨(c + 1, r - m), [], (by show r - m < r; omega), (by show r - m + (c + 1) * m = t; rw [Nat.add_mul]; omega), ⟨⟨rfl, rfl⟩, ⟨rfl, rfl⟩, ⟨rfl, rfl⟩, ⟨rfl, rfl⟩, ⟨rfl, rfl⟩, ⟨valI ?_, rfl⟩, trivial⟩, ⟨⟨rfl, .inl ⟨rfl, irows_noid _ _⟩⟩, trivial⟩, rfl⟩
      show IntKind.i64.wrap ((c : Int) + 1) = ((c + 1 : Nat) : Int)
      rw [IntWalk.i64_in _ (by omega)]; omega
    case cq =>
      have h2' : ¬ cmpN r m ≥ 0 := of_decide_eq_false h2
      have hrm : r < m := by
        rcases Nat.lt_or_ge r m with h | h
        · exact h
        · exfalso
          apply h2'
          unfold cmpN
          rw [if_neg (by omega)]
          split <;> decide
      have htq : t / m = c := by
        rw [← hcr, Nat.add_mul_div_right _ _ hm, Nat.div_eq_of_lt hrm, Nat.zero_add]
      have htr : t % m = r := by
        rw [← hcr, Nat.add_mul_mod_self_right, Nat.mod_eq_of_lt hrm]
      have hP : 10 * p + d = t + 10 * (p / m) * m := by
        have := Nat.mod_add_div p m
        have h5 : 10 * (p / m) * m = 10 * (m * (p / m)) := by rw [Nat.mul_assoc, Nat.mul_comm (p / m)]
        omega
      have hPq : (10 * p + d) / m = 10 * (p / m) + c := by
        rw [hP, Nat.add_mul_div_right _ _ hm, htq]; omega
      have hPr : (10 * p + d) % m = r := by
        rw [hP, Nat.add_mul_mod_self_right, htr]
      conv => whnf
      refine ⟨⟨hle, by show (q.length + 1) * 1 ≤ 140737488355328; omega, Nat.le_of_ble_eq_true rfl⟩, ?_⟩
      conv => whnf
      refine ⟨(i + 1, q ++ [((48 + c : Nat) : Int)]), [(32, 280)], (by show la - (i + 1) < la - i; omega), ⟨(by show i + 1 ≤ la; omega), ?_, (by show (q ++ [_]).length = i + 1; simp [hl]), ?_⟩,
        ⟨⟨rfl, rfl⟩, ⟨rfl, rfl⟩, ⟨ownE rfl ?_, rfl⟩, ⟨strE ?_, rfl⟩, ⟨valI ei, rfl⟩, trivial⟩, ⟨⟨rfl, .inl ⟨celE ?_, irows_noid _ _⟩⟩, trivial⟩, rfl⟩
      · intro x hx
        rcases List.mem_append.1 hx with hx | hx
        · exact hD x hx
        · simp at hx; omega
      · show valL (q ++ [((48 + c : Nat) : Int)]) = valL ((decL n).take (i + 1)) / m
        rw [htk, hPq, valL_snoc, hv]
        omega
      · show q.length + 1 = (q ++ [_]).length
        simp
      · show decS r = decS (valL ((decL n).take (i + 1)) % m)
        rw [htk, hPr]
      · show List.take q.length (List.drop 0 (irows .u8 q)) ++ [[AV.val (.int .u8 (IntKind.u8.wrap (IntKind.i64.wrap (48 + (c : Int)))))]] = _
        have e : IntKind.u8.wrap (IntKind.i64.wrap (48 + (c : Int))) = ((48 + c : Nat) : Int) := by
          rw [IntWalk.i64_in _ (by omega), IntKind.wrap_u8]; omega
        rw [e, List.drop_zero, List.take_of_length_le (by rw [irows_len]; exact Nat.le_refl _), ← irows_append]
        rfl
  · have h1' : ¬ (i : Int) < ((decS n).size : Int) := of_decide_eq_false h1
    rw [z1] at h1'
    have hil : i = la := by omega
    have htk : (decL n).take i = decL n := List.take_of_length_le (by omega)
    rw [htk, hvn] at hv
    have hqne : q ≠ [] := fun e => by rw [e] at hl; simp at hl; omega
    have hTr := Trim_ok q hD hqne (by omega)
    rw [hv] at hTr
    conv => whnf
    refine ⟨q, ⟨hle, ?_⟩, ?_⟩
    · show List.take q.length (irows .u8 q) = irows .u8 q
      rw [List.take_of_length_le (by rw [irows_len]; exact Nat.le_refl _)]
    conv => whnf
    refine ⟨_, hTr, ?_⟩
    conv => whnf
    refine tup2 rfl (strE ?_)
    show decS (valL ((decL n).take i) % m) = _
    rw [htk, hvn]

end Go.Proofs.Ytgnfopmbjmmbbaa

/- Contracts: powers. -/
set_option linter.unusedVariables false
namespace Go.Proofs.Ytgnfopmbjmmbbaa
open Go Go.AL NM

theorem selfS (s : ByteArray) : (s.toList == s.toList) = true := beq_self_eq_true _
theorem decL_inj {n m : Nat} (h : decL n = decL m) : n = m := by rw [← valL_decL n, ← valL_decL m, h]
theorem isd (n d : Nat) (hd : d < 10) : ((decS n).toList == (strL [((48 + d : Nat) : Int)]).toList) = decide (n = d) := by
  rw [decS_is n _ (by intro x hx; simp at hx; omega)]
  by_cases h : n = d
  · subst h
    rw [decide_eq_true rfl, decide_eq_true (decL_one n hd)]
  · rw [decide_eq_false h, decide_eq_false (fun e => h (decL_inj (e.trans (decL_one d hd).symm)))]
theorem is0 (n : Nat) : ((decS n).toList == ({ data := #[48] } : ByteArray).toList) = decide (n = 0) := isd n 0 (by decide)
theorem is1 (n : Nat) : ((decS n).toList == ({ data := #[49] } : ByteArray).toList) = decide (n = 1) := isd n 1 (by decide)
theorem limbs_mul (x y : Nat) : (limbs (x * y)).length ≤ (limbs x).length + (limbs y).length := by
  apply limbs_len_le
  have h1 := val_lt (limbs_lim x)
  have h2 := val_lt (limbs_lim y)
  rw [val_limbs] at h1 h2
  rw [Nat.pow_add]
  exact Nat.mul_lt_mul'' h1 h2
theorem decL_limbs (n : Nat) : (decL n).length ≤ 10 * (limbs n).length + 1 := by
  have := decR_limbs n
  unfold decL
  split
  · simp
  · rw [List.length_reverse]; omega
theorem blen_limbs' (n : Nat) : blen n ≤ 32 * (limbs n).length := by rw [limbs_blen]; omega
theorem limbs_pow_le {a i k : Nat} (ha : 0 < a) (h : i ≤ k) : (limbs (a ^ i)).length ≤ (limbs (a ^ k)).length := limbs_len_mono (Nat.pow_le_pow_right ha h)
theorem limbs_1 : (limbs 1).length = 1 := by rw [limbs_pos (by decide), show 1 / 4294967296 = 0 from rfl, limbs_zero]; rfl

end Go.Proofs.Ytgnfopmbjmmbbaa

/- Contracts of whole numbers: small functions. -/
set_option linter.unusedVariables false
namespace Go.Proofs.Ytgnfopmbjmmbbaa
open Go Go.AL NM

/-- A whole number: as the program has it, as the document's answer has it. -/
def WI (a : Int) : AV := .agg [.sl 1 (irows .u32 (limbs a.natAbs)) false, .val (.bool (decide (a < 0)))]
def WR (a : Int) : AV := .agg [.val (.bool (decide (a < 0))), .val (.string (decS a.natAbs))]
theorem WI_noid (a : Int) : NoId (WI a) := .agg _ (noid2 (noid_sl _ _ _) (.val _))
theorem WR_noid (a : Int) : NoId (WR a) := .agg _ (noid2 (.val _) (.val _))
def sgn (s : Bool) (n : Nat) : Int := if s then -(n : Int) else n
theorem sgn_abs (s : Bool) (n : Nat) : (sgn s n).natAbs = n := by cases s <;> simp [sgn]
theorem sgn_neg (s : Bool) (n : Nat) : decide (sgn s n < 0) = (s && !decide (n = 0)) := by
  cases s
  · simp [sgn]
  · simp only [sgn, if_true, Bool.true_and]
    by_cases h : n = 0
    · subst h; rfl
    · rw [decide_eq_true (by omega), decide_eq_false h]; rfl
theorem sgn_self (a : Int) : sgn (decide (a < 0)) a.natAbs = a := by
  unfold sgn
  by_cases h : a < 0
  · rw [decide_eq_true h, if_pos rfl]; omega
  · rw [decide_eq_false h, if_neg (by decide)]; omega

theorem agg2 {a b c d : AV} (h1 : a = c) (h2 : b = d) : AV.agg [a, b] = AV.agg [c, d] := by rw [h1, h2]

theorem WOf_ok (s : Bool) (n : Nat) : AC Try.prog 35 [.val (.bool s), natA n] (.pure (WI (sgn s n))) := by
  refine AC.of_body TTok Try.func35 rfl (enter_of Try.func35 (by kernel_rfl) (by kernel_rfl)) (noid2 (.val _) (natA_noid n)) (WI_noid _) (Nat.le_of_ble_eq_true rfl) ?_
  have hz := Zero_ok n
  unfold WI
  rw [sgn_abs, sgn_neg]
  unfold natA at hz ⊢
  cases s
  · conv => whnf
    refine ⟨by kernel_rfl, ?_⟩
    conv => whnf
    exact agg2 rfl rfl
  · conv => whnf
    refine ⟨_, hz, ?_⟩
    conv => whnf
    refine ⟨by kernel_rfl, ?_⟩
    conv => whnf
    exact agg2 rfl rfl

theorem ROfW_ok (s : Bool) (n : Nat) (hb : (decL n).length < 4294967296) : AC Try.prog 39 [.val (.bool s), .val (.string (decS n))] (.pure (WR (sgn s n))) := by
  refine AC.of_body TTok Try.func39 rfl (enter_of Try.func39 (by kernel_rfl) (by kernel_rfl)) (noid2 (.val _) (.val _)) (WR_noid _) (Nat.le_of_ble_eq_true rfl) ?_
  have hT := Trim_ok (decL n) (decL_byt n) (decL_ne n) hb
  rw [valL_decL] at hT
  have h0 : ((decS n).toList == ({ data := #[48] } : ByteArray).toList) = decide (n = 0) := by
    have h1 := decS_is n [48] (by intro x hx; simp at hx; omega)
    refine h1.trans (decide_eq_decide.2 ⟨fun h => ?_, fun h => by rw [h]; exact decL_one 0 (by decide)⟩)
    have := valL_decL n
    rw [h] at this
    exact this.symm
  unfold WR
  rw [sgn_abs, sgn_neg]
  cases s
  · conv => whnf
    refine ⟨_, hT, ?_⟩
    conv => whnf
    exact agg2 rfl rfl
  · conv => whnf
    refine ⟨_, hT, ?_⟩
    conv => whnf
    refine agg2 (valB ?_) rfl
    show (!((decS n).toList == ({ data := #[48] } : ByteArray).toList)) = _
    rw [h0]; rfl

theorem Minus_ok (a : Int) : AC Try.prog 13 [WI a] (.pure (WI (-a))) := by
  refine AC.of_body TTok Try.func13 rfl (enter_of Try.func13 (by kernel_rfl) (by kernel_rfl)) (noid1 (WI_noid a)) (WI_noid _) (Nat.le_of_ble_eq_true rfl) ?_
  have h := WOf_ok (!decide (a < 0)) a.natAbs
  have e : WI (sgn (!decide (a < 0)) a.natAbs) = WI (-a) := by
    congr 1
    unfold sgn
    by_cases h : a < 0
    · rw [decide_eq_true h]; simp; omega
    · rw [decide_eq_false h]; simp; omega
  rw [e] at h
  revert h
  generalize -a = na
  intro h
  unfold WI natA at *
  conv => whnf
  refine ⟨_, h, ?_⟩
  conv => whnf
  exact rfl

theorem RMinus_ok (a : Int) (hb : (decL a.natAbs).length < 4294967296) : AC Try.prog 26 [WR a] (.pure (WR (-a))) := by
  refine AC.of_body TTok Try.func26 rfl (enter_of Try.func26 (by kernel_rfl) (by kernel_rfl)) (noid1 (WR_noid a)) (WR_noid _) (Nat.le_of_ble_eq_true rfl) ?_
  have h := ROfW_ok (!decide (a < 0)) a.natAbs hb
  have e : WR (sgn (!decide (a < 0)) a.natAbs) = WR (-a) := by
    congr 1
    unfold sgn
    by_cases h : a < 0
    · rw [decide_eq_true h]; simp; omega
    · rw [decide_eq_false h]; simp; omega
  rw [e] at h
  revert h
  generalize -a = na
  intro h
  unfold WR at *
  conv => whnf
  refine ⟨_, h, ?_⟩
  conv => whnf
  exact rfl

/-- A sign ahead of digits. -/
def digs (a : Int) (s : ByteArray) : ByteArray := if a < 0 then s ++ decS a.natAbs else decS a.natAbs
theorem Digits_ok (a : Int) (s : ByteArray) (hs : s.size < 1000000) (hb : (limbs a.natAbs).length < 1000000) : AC Try.prog 10 [WI a, .val (.string s)] (.pure (.val (.string (digs a s)))) := by
  refine AC.of_body TTok Try.func10 rfl (enter_of Try.func10 (by kernel_rfl) (by kernel_rfl)) (noid2 (WI_noid a) (.val _)) (.val _) (Nat.le_of_ble_eq_true rfl) ?_
  have hT := Text_ok a.natAbs (by omega)
  have hd : (decS a.natAbs).size ≤ 10 * (limbs a.natAbs).length + 1 := by
    have h1 : (decS a.natAbs).size = (decL a.natAbs).length := strL_size _
    have := decR_limbs a.natAbs
    rw [h1]
    unfold decL
    split
    · simp
    · rw [List.length_reverse]; omega
  unfold natA at hT
  unfold WI digs
  by_cases h : a < 0
  · rw [decide_eq_true h, if_pos h]
    conv => whnf
    refine ⟨_, hT, ?_⟩
    conv => whnf
    refine ⟨by omega, ?_⟩
    conv => whnf
    exact rfl
  · rw [decide_eq_false h, if_neg h]
    conv => whnf
    refine ⟨_, hT, ?_⟩
    conv => whnf
    exact rfl
theorem RDigits_ok (a : Int) (s : ByteArray) (hs : s.size < 1000000) (hb : (decL a.natAbs).length < 1000000) : AC Try.prog 11 [WR a, .val (.string s)] (.pure (.val (.string (digs a s)))) := by
  refine AC.of_body TTok Try.func11 rfl (enter_of Try.func11 (by kernel_rfl) (by kernel_rfl)) (noid2 (WR_noid a) (.val _)) (.val _) (Nat.le_of_ble_eq_true rfl) ?_
  have h1 : (decS a.natAbs).size = (decL a.natAbs).length := strL_size _
  unfold WR digs
  by_cases h : a < 0
  · rw [decide_eq_true h, if_pos h]
    conv => whnf
    refine ⟨by omega, ?_⟩
    conv => whnf
    exact rfl
  · rw [decide_eq_false h, if_neg h]
    conv => whnf
    exact rfl

theorem NegW_ok (a : Int) : AC Try.prog 21 [WI a] (.pure (.val (.bool (decide (a < 0))))) := by
  refine AC.of_body TTok Try.func21 rfl (enter_of Try.func21 (by kernel_rfl) (by kernel_rfl)) (noid1 (WI_noid a)) (.val _) (Nat.le_of_ble_eq_true rfl) ?_
  conv => whnf
  exact rfl
theorem SizeW_ok (a : Int) : AC Try.prog 22 [WI a] (.pure (natA a.natAbs)) := by
  refine AC.of_body TTok Try.func22 rfl (enter_of Try.func22 (by kernel_rfl) (by kernel_rfl)) (noid1 (WI_noid a)) (natA_noid _) (Nat.le_of_ble_eq_true rfl) ?_
  conv => whnf
  exact rfl
def sigW (a : Int) : Int := if a = 0 then 0 else if a < 0 then -1 else 1
theorem SignW_ok (a : Int) : AC Try.prog 24 [WI a] (.pure (.val (.int .i64 (sigW a)))) := by
  refine AC.of_body TTok Try.func24 rfl (enter_of Try.func24 (by kernel_rfl) (by kernel_rfl)) (noid1 (WI_noid a)) (.val _) (Nat.le_of_ble_eq_true rfl) ?_
  have hz := Zero_ok a.natAbs
  unfold natA at hz
  unfold WI sigW
  by_cases h0 : a = 0
  · rw [decide_eq_true (show a.natAbs = 0 by omega)] at hz
    rw [if_pos h0]
    conv => whnf
    refine ⟨_, hz, ?_⟩
    conv => whnf
    exact rfl
  · rw [decide_eq_false (show ¬ a.natAbs = 0 by omega)] at hz
    rw [if_neg h0]
    by_cases h : a < 0
    · rw [decide_eq_true h, if_pos h]
      conv => whnf
      refine ⟨_, hz, ?_⟩
      conv => whnf
      exact rfl
    · rw [decide_eq_false h, if_neg h]
      conv => whnf
      refine ⟨_, hz, ?_⟩
      conv => whnf
      exact rfl

end Go.Proofs.Ytgnfopmbjmmbbaa

/- Contracts of whole numbers: numbers of 64 bits, order, sums. -/
set_option linter.unusedVariables false
namespace Go.Proofs.Ytgnfopmbjmmbbaa
open Go Go.AL NM

theorem neg64 {n : Int} (h0 : n < 0) (h1 : -9223372036854775808 ≤ n) : IntKind.u64.wrap (IntKind.u64.wrap (IntKind.i64.wrap (0 - (IntKind.i64.wrap (n + 1)))) + 1) = ((n.natAbs : Nat) : Int) := by
  rw [IntWalk.i64_in (n + 1) (by omega), IntWalk.i64_in _ (by omega)]
  simp only [IntKind.wrap_u64]
  omega
theorem pos64 {n : Int} (h0 : ¬ n < 0) (h1 : n < 9223372036854775808) : IntKind.u64.wrap n = ((n.natAbs : Nat) : Int) := by
  simp only [IntKind.wrap_u64]
  omega

theorem From_ok (n : Int) (hn : -9223372036854775808 ≤ n ∧ n < 9223372036854775808) : AC Try.prog 8 [.val (.int .i64 n)] (.pure (WI n)) := by
  refine AC.of_body TTok Try.func8 rfl (enter_of Try.func8 (by kernel_rfl) (by kernel_rfl)) (noid1 (.val _)) (WI_noid _) (Nat.le_of_ble_eq_true rfl) ?_
  have hO := Of_ok n.natAbs (by omega)
  unfold WI natA at *
  conv => whnf
  refine caseb (fun h1 => ?_) (fun h1 => ?_)
  · have h1' : n < 0 := of_decide_eq_true h1
    rw [← neg64 h1' hn.1] at hO
    rw [decide_eq_true h1']
    conv => whnf
    refine ⟨_, hO, ?_⟩
    conv => whnf
    exact rfl
  · have h1' : ¬ n < 0 := of_decide_eq_false h1
    rw [← pos64 h1' hn.2] at hO
    rw [decide_eq_false h1']
    conv => whnf
    refine ⟨_, hO, ?_⟩
    conv => whnf
    exact rfl
theorem RFrom_ok (n : Int) (hn : -9223372036854775808 ≤ n ∧ n < 9223372036854775808) : AC Try.prog 12 [.val (.int .i64 n)] (.pure (WR n)) := by
  refine AC.of_body TTok Try.func12 rfl (enter_of Try.func12 (by kernel_rfl) (by kernel_rfl)) (noid1 (.val _)) (WR_noid _) (Nat.le_of_ble_eq_true rfl) ?_
  have hO := ROf_ok n.natAbs (by omega)
  unfold WR at *
  conv => whnf
  refine caseb (fun h1 => ?_) (fun h1 => ?_)
  · have h1' : n < 0 := of_decide_eq_true h1
    rw [← neg64 h1' hn.1] at hO
    rw [decide_eq_true h1']
    conv => whnf
    refine ⟨_, hO, ?_⟩
    conv => whnf
    exact rfl
  · have h1' : ¬ n < 0 := of_decide_eq_false h1
    rw [← pos64 h1' hn.2] at hO
    rw [decide_eq_false h1']
    conv => whnf
    refine ⟨_, hO, ?_⟩
    conv => whnf
    exact rfl

def fit (a : Int) : Prop := -9223372036854775808 ≤ a ∧ a < 9223372036854775808
instance (a : Int) : Decidable (fit a) := inferInstanceAs (Decidable (_ ∧ _))
theorem IntW_ok (a : Int) : AC Try.prog 9 [WI a] (.pure (.tup [.val (.int .i64 (if fit a then a else 0)), .val (.bool (decide (fit a)))])) := by
  refine AC.of_body TTok Try.func9 rfl (enter_of Try.func9 (by kernel_rfl) (by kernel_rfl)) (noid1 (WI_noid a)) (.tup _ (noid2 (.val _) (.val _))) (Nat.le_of_ble_eq_true rfl) ?_
  have hU := Uint_ok a.natAbs
  by_cases h64 : a.natAbs < 18446744073709551616
  · rw [if_pos h64, decide_eq_true h64] at hU
    obtain ⟨n, hn⟩ : ∃ n, n = a.natAbs := ⟨_, rfl⟩
    unfold WI natA at *
    rw [← hn] at hU ⊢
    conv => whnf
    refine ⟨_, hU, ?_⟩
    conv => whnf
    refine caseb (fun h1 => ?_) (fun h1 => ?_)
    · have h1' : (n : Int) > 9223372036854775808 := of_decide_eq_true h1
      have hf : ¬ fit a := fun h => by unfold fit at h; omega
      rw [if_neg hf, decide_eq_false hf]
      conv => whnf
      exact rfl
    have h1' : ¬ (n : Int) > 9223372036854775808 := of_decide_eq_false h1
    by_cases ha : a < 0
    · have hf : fit a := by unfold fit; omega
      rw [if_pos hf, decide_eq_true hf, decide_eq_true ha]
      have e : IntKind.i64.wrap (IntKind.i64.wrap (0 - (IntKind.i64.wrap (IntKind.u64.wrap ((n : Int) - 1)))) - 1) = a := by
        simp only [IntKind.wrap_u64]
        rw [IntWalk.i64_in (((n : Int) - 1) % 18446744073709551616) (by omega), IntWalk.i64_in (0 - (((n : Int) - 1) % 18446744073709551616)) (by omega), IntWalk.i64_in _ (by omega)]
        omega
      conv => whnf
      refine caseb (fun h2 => ?_) (fun h2 => ?_)
      · conv => whnf
        exact tup2 (valI e) rfl
      · conv => whnf
        exact tup2 (valI e) rfl
    · rw [decide_eq_false ha]
      conv => whnf
      refine caseb (fun h2 => ?_) (fun h2 => ?_)
      · have h2' : (n : Int) = 9223372036854775808 := by simpa using h2
        have hf : ¬ fit a := fun h => by unfold fit at h; omega
        rw [if_neg hf, decide_eq_false hf]
        conv => whnf
        exact rfl
      · have h2' : ¬ (n : Int) = 9223372036854775808 := by simpa using h2
        have hf : fit a := by unfold fit; omega
        rw [if_pos hf, decide_eq_true hf]
        conv => whnf
        refine tup2 (valI ?_) rfl
        show IntKind.i64.wrap (n : Int) = a
        rw [IntWalk.i64_in _ (by omega)]; omega
  · rw [if_neg h64, decide_eq_false h64] at hU
    have hf : ¬ fit a := fun h => by unfold fit at h; omega
    rw [if_neg hf, decide_eq_false hf]
    unfold WI natA at *
    conv => whnf
    refine ⟨_, hU, ?_⟩
    conv => whnf
    exact rfl

theorem RSmall_ok (a : Int) (hb : (decL a.natAbs).length < 100000000) : AC Try.prog 20 [WR a] (.pure (.tup [.val (.int .i64 (if fit a then a else 0)), .val (.bool (decide (fit a)))])) := by
  refine AC.of_body TTok Try.func20 rfl (enter_of Try.func20 (by kernel_rfl) (by kernel_rfl)) (noid1 (WR_noid a)) (.tup _ (noid2 (.val _) (.val _))) (Nat.le_of_ble_eq_true rfl) ?_
  have hU := RUint_ok a.natAbs (by omega)
  by_cases h64 : a.natAbs < 18446744073709551616
  · rw [if_pos h64, decide_eq_true h64] at hU
    obtain ⟨n, hn⟩ : ∃ n, n = a.natAbs := ⟨_, rfl⟩
    unfold WR at *
    rw [← hn] at hU ⊢
    by_cases ha : a < 0
    · rw [decide_eq_true ha]
      conv => whnf
      refine ⟨_, hU, ?_⟩
      conv => whnf
      refine caseb (fun h1 => ?_) (fun h1 => ?_)
      · have h1' : (n : Int) > 9223372036854775808 := of_decide_eq_true h1
        have hf : ¬ fit a := fun h => by unfold fit at h; omega
        rw [if_neg hf, decide_eq_false hf]
        conv => whnf
        exact rfl
      · have h1' : ¬ (n : Int) > 9223372036854775808 := of_decide_eq_false h1
        have hf : fit a := by unfold fit; omega
        rw [if_pos hf, decide_eq_true hf]
        conv => whnf
        refine tup2 (valI ?_) rfl
        show IntKind.i64.wrap (IntKind.i64.wrap (0 - (IntKind.i64.wrap (IntKind.u64.wrap ((n : Int) - 1)))) - 1) = a
        simp only [IntKind.wrap_u64]
        rw [IntWalk.i64_in (((n : Int) - 1) % 18446744073709551616) (by omega), IntWalk.i64_in (0 - (((n : Int) - 1) % 18446744073709551616)) (by omega), IntWalk.i64_in _ (by omega)]
        omega
    · rw [decide_eq_false ha]
      conv => whnf
      refine ⟨_, hU, ?_⟩
      conv => whnf
      refine caseb (fun h1 => ?_) (fun h1 => ?_)
      · have h1' : (n : Int) > 9223372036854775807 := of_decide_eq_true h1
        have hf : ¬ fit a := fun h => by unfold fit at h; omega
        rw [if_neg hf, decide_eq_false hf]
        conv => whnf
        exact rfl
      · have h1' : ¬ (n : Int) > 9223372036854775807 := of_decide_eq_false h1
        have hf : fit a := by unfold fit; omega
        rw [if_pos hf, decide_eq_true hf]
        conv => whnf
        refine tup2 (valI ?_) rfl
        show IntKind.i64.wrap (n : Int) = a
        rw [IntWalk.i64_in _ (by omega)]; omega
  · rw [if_neg h64, decide_eq_false h64] at hU
    have hf : ¬ fit a := fun h => by unfold fit at h; omega
    rw [if_neg hf, decide_eq_false hf]
    unfold WR at *
    conv => whnf
    refine ⟨_, hU, ?_⟩
    conv => whnf
    exact rfl

theorem is0W (n : Nat) : ((decS n).toList == ({ data := #[48] } : ByteArray).toList) = decide (n = 0) := by
  have h1 := decS_is n [48] (by intro x hx; simp at hx; omega)
  refine h1.trans (decide_eq_decide.2 ⟨fun h => ?_, fun h => by rw [h]; exact decL_one 0 (by decide)⟩)
  have := valL_decL n
  rw [h] at this
  exact this.symm
theorem RSignW_ok (a : Int) : AC Try.prog 25 [WR a] (.pure (.val (.int .i64 (sigW a)))) := by
  refine AC.of_body TTok Try.func25 rfl (enter_of Try.func25 (by kernel_rfl) (by kernel_rfl)) (noid1 (WR_noid a)) (.val _) (Nat.le_of_ble_eq_true rfl) ?_
  have hz := is0W a.natAbs
  unfold WR sigW
  by_cases h0 : a = 0
  · rw [decide_eq_true (show a.natAbs = 0 by omega)] at hz
    rw [if_pos h0]
    conv => whnf
    refine caseb (fun _ => ?_) (fun h => Bool.noConfusion (hz.symm.trans h))
    conv => whnf
    exact rfl
  · rw [decide_eq_false (show ¬ a.natAbs = 0 by omega)] at hz
    rw [if_neg h0]
    by_cases h : a < 0
    · rw [decide_eq_true h, if_pos h]
      conv => whnf
      refine caseb (fun h => Bool.noConfusion (hz.symm.trans h)) (fun _ => ?_)
      conv => whnf
      exact rfl
    · rw [decide_eq_false h, if_neg h]
      conv => whnf
      refine caseb (fun h => Bool.noConfusion (hz.symm.trans h)) (fun _ => ?_)
      conv => whnf
      exact rfl

end Go.Proofs.Ytgnfopmbjmmbbaa

/- Contracts of whole numbers: order, sums. -/
set_option linter.unusedVariables false
namespace Go.Proofs.Ytgnfopmbjmmbbaa
open Go Go.AL NM

def cmpZ (a b : Int) : Int := if a < b then -1 else if a = b then 0 else 1
theorem cmpN_Z (n m : Nat) : cmpN n m = cmpZ n m := by
  unfold cmpN cmpZ
  repeat' split
  all_goals omega
theorem cmpZ_pp {a b : Int} (ha : ¬ a < 0) (hb : ¬ b < 0) : cmpN a.natAbs b.natAbs = cmpZ a b := by
  rw [cmpN_Z, show ((a.natAbs : Nat) : Int) = a by omega, show ((b.natAbs : Nat) : Int) = b by omega]
theorem cmpZ_nn {a b : Int} (ha : a < 0) (hb : b < 0) : cmpN b.natAbs a.natAbs = cmpZ a b := by
  unfold cmpN cmpZ
  repeat' split
  all_goals omega

theorem CmpW_ok (a b : Int) (ha : (limbs a.natAbs).length < 4000000000) (hb : (limbs b.natAbs).length < 4000000000) : AC Try.prog 14 [WI a, WI b] (.pure (.val (.int .i64 (cmpZ a b)))) := by
  refine AC.of_body TTok Try.func14 rfl (enter_of Try.func14 (by kernel_rfl) (by kernel_rfl)) (noid2 (WI_noid a) (WI_noid b)) (.val _) (Nat.le_of_ble_eq_true rfl) ?_
  have h1 := Cmp_ok a.natAbs b.natAbs ha hb
  have h2 := Cmp_ok b.natAbs a.natAbs hb ha
  unfold natA at h1 h2
  unfold WI
  by_cases na : a < 0
  · by_cases nb : b < 0
    · rw [cmpZ_nn na nb] at h2
      rw [decide_eq_true na, decide_eq_true nb]
      conv => whnf
      refine ⟨_, h2, ?_⟩
      conv => whnf
      exact rfl
    · rw [decide_eq_true na, decide_eq_false nb, show cmpZ a b = -1 from if_pos (by omega)]
      conv => whnf
      exact rfl
  · by_cases nb : b < 0
    · rw [decide_eq_false na, decide_eq_true nb, show cmpZ a b = 1 by unfold cmpZ; rw [if_neg (by omega), if_neg (by omega)]]
      conv => whnf
      exact rfl
    · rw [cmpZ_pp na nb] at h1
      rw [decide_eq_false na, decide_eq_false nb]
      conv => whnf
      refine ⟨_, h1, ?_⟩
      conv => whnf
      exact rfl

theorem RCmpW_ok (a b : Int) : AC Try.prog 19 [WR a, WR b] (.pure (.val (.int .i64 (cmpZ a b)))) := by
  refine AC.of_body TTok Try.func19 rfl (enter_of Try.func19 (by kernel_rfl) (by kernel_rfl)) (noid2 (WR_noid a) (WR_noid b)) (.val _) (Nat.le_of_ble_eq_true rfl) ?_
  have sa := RSignW_ok a
  have sb := RSignW_ok b
  have h1 := RCmp_ok a.natAbs b.natAbs
  have h2 := RCmp_ok b.natAbs a.natAbs
  obtain ⟨x, hx⟩ : ∃ x, x = sigW a := ⟨_, rfl⟩
  obtain ⟨y, hy⟩ : ∃ y, y = sigW b := ⟨_, rfl⟩
  rw [← hx] at sa
  rw [← hy] at sb
  unfold sigW at hx hy
  unfold WR at *
  conv => whnf
  refine ⟨_, sa, ?_⟩
  conv => whnf
  refine ⟨_, sb, ?_⟩
  conv => whnf
  refine ⟨by kernel_rfl, ?_⟩
  conv => whnf
  refine caseb (fun h3 => ?_) (fun h3 => ?_)
  · have h3' : x ≠ y := bne_iff_ne.1 h3
    conv => whnf
    refine ⟨_, sa, ?_⟩
    conv => whnf
    refine ⟨_, sb, ?_⟩
    conv => whnf
    refine ⟨by kernel_rfl, ?_⟩
    conv => whnf
    refine caseb (fun h4 => ?_) (fun h4 => ?_)
    · have h4' : x < y := of_decide_eq_true h4
      conv => whnf
      refine valI ?_
      show -1 = cmpZ a b
      unfold cmpZ
      rw [if_pos]
      split at hx <;> split at hy <;> omega
    · have h4' : ¬ x < y := of_decide_eq_false h4
      conv => whnf
      refine valI ?_
      show 1 = cmpZ a b
      unfold cmpZ
      have : ¬ a < b ∧ ¬ a = b := by
        split at hx <;> split at hy <;> omega
      rw [if_neg this.1, if_neg this.2]
  · have h3' : ¬ x ≠ y := fun h => by rw [bne_iff_ne.2 h] at h3; cases h3
    have hxy : x = y := Decidable.byContradiction h3'
    by_cases na : a < 0
    · have nb : b < 0 := by split at hx <;> split at hy <;> omega
      rw [cmpZ_nn na nb] at h2
      rw [decide_eq_true na, decide_eq_true nb]
      conv => whnf
      refine ⟨_, h2, ?_⟩
      conv => whnf
      exact rfl
    · have nb : ¬ b < 0 := by split at hx <;> split at hy <;> omega
      rw [cmpZ_pp na nb] at h1
      rw [decide_eq_false na, decide_eq_false nb]
      conv => whnf
      refine ⟨_, h1, ?_⟩
      conv => whnf
      exact rfl

theorem sgn_add {a b : Int} (h : decide (a < 0) = decide (b < 0)) : sgn (decide (a < 0)) (a.natAbs + b.natAbs) = a + b := by
  have h' : a < 0 ↔ b < 0 := decide_eq_decide.1 h
  unfold sgn
  by_cases na : a < 0
  · rw [decide_eq_true na, if_pos rfl]; have := h'.1 na; omega
  · rw [decide_eq_false na, if_neg (by decide)]; have : ¬ b < 0 := fun hb => na (h'.2 hb); omega
theorem sgn_sub {a b : Int} (h : ¬ decide (a < 0) = decide (b < 0)) (hle : b.natAbs ≤ a.natAbs) : sgn (decide (a < 0)) (a.natAbs - b.natAbs) = a + b := by
  unfold sgn
  by_cases na : a < 0
  · have nb : ¬ b < 0 := fun nb => h (by rw [decide_eq_true na, decide_eq_true nb])
    rw [decide_eq_true na, if_pos rfl]; omega
  · have nb : b < 0 := Decidable.byContradiction fun nb => h (by rw [decide_eq_false na, decide_eq_false nb])
    rw [decide_eq_false na, if_neg (by decide)]; omega

theorem plus_ok (a b : Int) (ha : (limbs a.natAbs).length < 1000000000) (hb : (limbs b.natAbs).length < 1000000000) : AC Try.prog 38 [WI a, WI b] (.pure (WI (a + b))) := by
  refine AC.of_body TTok Try.func38 rfl (enter_of Try.func38 (by kernel_rfl) (by kernel_rfl)) (noid2 (WI_noid a) (WI_noid b)) (WI_noid _) (Nat.le_of_ble_eq_true rfl) ?_
  by_cases hs : decide (a < 0) = decide (b < 0)
  · have hA := Add_ok a.natAbs b.natAbs (by omega)
    have hO := WOf_ok (decide (a < 0)) (a.natAbs + b.natAbs)
    rw [sgn_add hs] at hO
    have hself : (decide (b < 0) == decide (b < 0)) = true := beq_self_eq_true _
    revert hO
    generalize a + b = c
    intro hO
    unfold WI natA at *
    rw [hs] at *
    conv => whnf
    refine caseb (fun _ => ?_) (fun h => Bool.noConfusion (hself.symm.trans h))
    conv => whnf
    refine ⟨_, hA, ?_⟩
    conv => whnf
    refine ⟨_, hO, ?_⟩
    conv => whnf
    refine ⟨by kernel_rfl, ?_⟩
    conv => whnf
    exact rfl
  · have hne : (decide (a < 0) == decide (b < 0)) = false := by
      cases h : (decide (a < 0) == decide (b < 0)) with
      | false => rfl
      | true => exact absurd (eq_of_beq h) hs
    rcases Nat.lt_or_ge a.natAbs b.natAbs with hlt | hge
    · have hS1 := Sub_lt a.natAbs b.natAbs hlt (by omega) (by omega)
      have hS2 := Sub_ge b.natAbs a.natAbs (by omega) (by omega)
      have hO := WOf_ok (decide (b < 0)) (b.natAbs - a.natAbs)
      rw [sgn_sub (fun h => hs h.symm) (by omega), Int.add_comm] at hO
      revert hO
      generalize a + b = c
      intro hO
      unfold WI natA at *
      conv => whnf
      refine caseb (fun h => Bool.noConfusion (hne.symm.trans h)) (fun _ => ?_)
      conv => whnf
      refine ⟨_, hS1, ?_⟩
      conv => whnf
      refine ⟨_, hS2, ?_⟩
      conv => whnf
      refine ⟨_, hO, ?_⟩
      conv => whnf
      exact rfl
    · have hS1 := Sub_ge a.natAbs b.natAbs hge (by omega)
      have hO := WOf_ok (decide (a < 0)) (a.natAbs - b.natAbs)
      rw [sgn_sub hs hge] at hO
      revert hO
      generalize a + b = c
      intro hO
      unfold WI natA at *
      conv => whnf
      refine caseb (fun h => Bool.noConfusion (hne.symm.trans h)) (fun _ => ?_)
      conv => whnf
      refine ⟨_, hS1, ?_⟩
      conv => whnf
      refine ⟨_, hO, ?_⟩
      conv => whnf
      exact rfl

theorem RAddW_ok (a b : Int) (hb : (decL a.natAbs).length + (decL b.natAbs).length < 100000000) (hc : (decL (a.natAbs + b.natAbs)).length < 1000000000) : AC Try.prog 18 [WR a, WR b] (.pure (WR (a + b))) := by
  refine AC.of_body TTok Try.func18 rfl (enter_of Try.func18 (by kernel_rfl) (by kernel_rfl)) (noid2 (WR_noid a) (WR_noid b)) (WR_noid _) (Nat.le_of_ble_eq_true rfl) ?_
  have hdm : ∀ x, x ≤ a.natAbs + b.natAbs → (decL x).length < 1000000000 := fun x hx => Nat.lt_of_le_of_lt (decL_len_le (List.length_pos_iff.2 (decL_ne (a.natAbs + b.natAbs))) (Nat.lt_of_le_of_lt hx (decL_lt _))) hc
  by_cases hs : decide (a < 0) = decide (b < 0)
  · have hA := RAdd_ok a.natAbs b.natAbs (by omega)
    have hO := ROfW_ok (decide (a < 0)) (a.natAbs + b.natAbs) (by omega)
    rw [sgn_add hs] at hO
    have hself : (decide (b < 0) == decide (b < 0)) = true := beq_self_eq_true _
    revert hO
    generalize a + b = c
    intro hO
    unfold WR at *
    rw [hs] at *
    conv => whnf
    refine caseb (fun _ => ?_) (fun h => Bool.noConfusion (hself.symm.trans h))
    conv => whnf
    refine ⟨_, hA, ?_⟩
    conv => whnf
    refine ⟨_, hO, ?_⟩
    conv => whnf
    refine ⟨by kernel_rfl, ?_⟩
    conv => whnf
    exact rfl
  · have hne : (decide (a < 0) == decide (b < 0)) = false := by
      cases h : (decide (a < 0) == decide (b < 0)) with
      | false => rfl
      | true => exact absurd (eq_of_beq h) hs
    have hC := RCmp_ok a.natAbs b.natAbs
    rcases Nat.lt_or_ge a.natAbs b.natAbs with hlt | hge
    · rw [cmpN_lt hlt] at hC
      have hS2 := RSub_ok b.natAbs a.natAbs (by omega) (by omega)
      have hO := ROfW_ok (decide (b < 0)) (b.natAbs - a.natAbs) (by have := hdm (b.natAbs - a.natAbs) (by omega); omega)
      rw [sgn_sub (fun h => hs h.symm) (by omega), Int.add_comm] at hO
      revert hO
      generalize a + b = c
      intro hO
      unfold WR at *
      conv => whnf
      refine caseb (fun h => Bool.noConfusion (hne.symm.trans h)) (fun _ => ?_)
      conv => whnf
      refine ⟨_, hC, ?_⟩
      conv => whnf
      refine ⟨_, hS2, ?_⟩
      conv => whnf
      refine ⟨_, hO, ?_⟩
      conv => whnf
      refine ⟨by kernel_rfl, ?_⟩
      conv => whnf
      exact rfl
    · obtain ⟨x, hx⟩ : ∃ x, x = cmpN a.natAbs b.natAbs := ⟨_, rfl⟩
      have hx0 : x ≥ 0 := by
        rw [hx]; unfold cmpN
        rw [if_neg (by omega)]
        split <;> decide
      rw [← hx] at hC
      have hS1 := RSub_ok a.natAbs b.natAbs hge (by omega)
      have hO := ROfW_ok (decide (a < 0)) (a.natAbs - b.natAbs) (by have := hdm (a.natAbs - b.natAbs) (by omega); omega)
      rw [sgn_sub hs hge] at hO
      revert hO
      generalize a + b = c
      intro hO
      unfold WR at *
      conv => whnf
      refine caseb (fun h => Bool.noConfusion (hne.symm.trans h)) (fun _ => ?_)
      conv => whnf
      refine ⟨_, hC, ?_⟩
      conv => whnf
      refine caseb (fun _ => ?_) (fun h => absurd hx0 (of_decide_eq_false h))
      conv => whnf
      refine ⟨_, hS1, ?_⟩
      conv => whnf
      refine ⟨_, hO, ?_⟩
      conv => whnf
      refine ⟨by kernel_rfl, ?_⟩
      conv => whnf
      exact rfl

end Go.Proofs.Ytgnfopmbjmmbbaa

/- Contracts of whole numbers: sums and products of many. -/
set_option linter.unusedVariables false
namespace Go.Proofs.Ytgnfopmbjmmbbaa
open Go Go.AL NM

def rowW (b : Int) : List AV := [.sl 1 (irows .u32 (limbs b.natAbs)) false, .val (.bool (decide (b < 0)))]
theorem rowW_noid (b : Int) : ∀ x ∈ rowW b, NoId x := noid2 (noid_sl _ _ _) (.val _)
theorem rowsW_noid (l : List Int) : ∀ r ∈ l.map rowW, ∀ x ∈ r, NoId x := by
  intro r hr
  obtain ⟨b, _, rfl⟩ := List.mem_map.1 hr
  exact rowW_noid b

theorem Plus_ok (a : Int) (l : List Int) (f : Nat → Int) (h0 : f 0 = a) (hf : ∀ k (h : k < l.length), f (k + 1) = f k + l[k]) (hl : l.length < 1000)
    (hb : ∀ k, k ≤ l.length → (limbs (f k).natAbs).length < 1000000000) (hbl : ∀ k (h : k < l.length), (limbs (l[k]).natAbs).length < 1000000000) :
    AC Try.prog 17 [WI a, .sl 2 (l.map rowW) false] (.pure (WI (f l.length))) := by
  refine AC.of_body TTok Try.func17 rfl (enter_of Try.func17 (by kernel_rfl) (by kernel_rfl)) (noid2 (WI_noid a) (.sl _ _ _ (rowsW_noid l))) (WI_noid _) (Nat.le_of_ble_eq_true rfl) ?_
  conv => whnf
  refine SW.loopM TTok (fun k : Nat => [(2, .lp 0 0), (4, .lp 8 0), (7, .sl 2 (l.map rowW) false), (8, .val (.int .i64 l.length)), (9, .val (.int .i64 k))])
    (fun k => [(0, .cells 2 [rowW (f k)]), (8, .cells 2 [[.sl 0 [] true, .val (.bool false)]])]) 40 18 rfl (fun k => l.length - k) (fun k => k ≤ l.length) 0 [] (Nat.zero_le _)
    ⟨⟨rfl, rfl⟩, ⟨rfl, rfl⟩, ⟨rfl, rfl⟩, ⟨valI (by simp), rfl⟩, ⟨rfl, rfl⟩, trivial⟩ ⟨⟨rfl, .inl ⟨?_, ?_⟩⟩, ⟨rfl, .inr ⟨rfl, rfl⟩⟩, trivial⟩ rfl ?_
  · rw [h0]; rfl
  · intro r hr; simp at hr; subst hr; exact rowW_noid _
  intro k hk
  have hk : k ≤ l.length := hk
  conv => whnf
  refine caseb (fun h1 => ?_) (fun h1 => ?_)
  · have h1' : (k : Int) < (l.length : Int) := of_decide_eq_true h1
    have hlt : k < l.length := by omega
    have hP := plus_ok (f k) l[k] (hb k hk) (hbl k hlt)
    rw [← hf k hlt] at hP
    conv => whnf
    refine ⟨rowW l[k], ⟨by omega, by rw [List.getElem?_map, show ((k : Int)).toNat = k by omega, List.getElem?_eq_getElem hlt]; rfl⟩, ?_⟩
    conv => whnf
    refine ⟨_, hP, ?_⟩
    conv => whnf
    refine ⟨k + 1, [], (by show l.length - (k + 1) < l.length - k; omega), (by show k + 1 ≤ l.length; omega), ⟨⟨rfl, rfl⟩, ⟨rfl, rfl⟩, ⟨rfl, rfl⟩, ⟨rfl, rfl⟩, ⟨valI ?_, rfl⟩, trivial⟩, ⟨⟨rfl, .inl ⟨rfl, fun r hr => by simp at hr; subst hr; exact rowW_noid _⟩⟩, ⟨rfl, .inr ⟨rfl, rfl⟩⟩, trivial⟩, rfl⟩
    show IntKind.i64.wrap ((k : Int) + 1) = ((k + 1 : Nat) : Int)
    rw [IntWalk.i64_in _ (by omega)]; omega
  · have h1' : ¬ (k : Int) < (l.length : Int) := of_decide_eq_false h1
    have hkl : k = l.length := by omega
    conv => whnf
    show WI (f k) = _
    rw [hkl]

theorem Plus_nil (a : Int) : AC Try.prog 17 [WI a, .sl 0 [] true] (.pure (WI a)) := by
  refine AC.of_body TTok Try.func17 rfl (enter_of Try.func17 (by kernel_rfl) (by kernel_rfl)) (noid2 (WI_noid a) (.sl _ _ _ (fun r hr => (nomatch hr)))) (WI_noid _) (Nat.le_of_ble_eq_true rfl) ?_
  conv => whnf
  refine SW.loopM TTok (fun k : Nat => [(2, .lp 0 0), (4, .lp 8 0), (8, .val (.int .i64 0)), (9, .val (.int .i64 0))])
    (fun k => [(0, .cells 2 [rowW a]), (8, .cells 2 [[.sl 0 [] true, .val (.bool false)]])]) 40 18 rfl (fun k => k) (fun k => True) 0 [] trivial
    ⟨⟨rfl, rfl⟩, ⟨rfl, rfl⟩, ⟨rfl, rfl⟩, ⟨rfl, rfl⟩, trivial⟩ ⟨⟨rfl, .inl ⟨rfl, fun r hr => by simp at hr; subst hr; exact rowW_noid _⟩⟩, ⟨rfl, .inr ⟨rfl, rfl⟩⟩, trivial⟩ rfl ?_
  intro k hk
  conv => whnf
  exact rfl

theorem sgn_mul (a b : Int) : sgn (!(decide (a < 0) == decide (b < 0))) (a.natAbs * b.natAbs) = a * b := by
  have h : ∀ x : Int, x = sgn (decide (x < 0)) x.natAbs := fun x => (sgn_self x).symm
  rw [h a, h b, sgn_abs, sgn_abs]
  generalize a.natAbs = n
  generalize b.natAbs = m
  cases decide (a < 0) <;> cases decide (b < 0)
  all_goals
    rw [sgn_neg, sgn_neg]
    by_cases h1 : n = 0
    · subst h1; simp [sgn]
    · by_cases h2 : m = 0
      · subst h2; simp [sgn]
      · simp [sgn, h1, h2, Int.neg_mul, Int.mul_neg]

theorem Times_ok (a : Int) (l : List Int) (f : Nat → Int) (h0 : f 0 = a) (hf : ∀ k (h : k < l.length), f (k + 1) = f k * l[k]) (hl : l.length < 1000)
    (hb : ∀ k, k ≤ l.length → (limbs (f k).natAbs).length < 1000000000) (hbl : ∀ k (h : k < l.length), (limbs (l[k]).natAbs).length < 1000000000) :
    AC Try.prog 27 [WI a, .sl 2 (l.map rowW) false] (.pure (WI (f l.length))) := by
  refine AC.of_body TTok Try.func27 rfl (enter_of Try.func27 (by kernel_rfl) (by kernel_rfl)) (noid2 (WI_noid a) (.sl _ _ _ (rowsW_noid l))) (WI_noid _) (Nat.le_of_ble_eq_true rfl) ?_
  conv => whnf
  refine SW.loopM TTok (fun k : Nat => [(2, .lp 0 0), (4, .lp 8 0), (7, .sl 2 (l.map rowW) false), (8, .val (.int .i64 l.length)), (9, .val (.int .i64 k))])
    (fun k => [(0, .cells 2 [rowW (f k)]), (8, .cells 2 [[.sl 0 [] true, .val (.bool false)]])]) 40 26 rfl (fun k => l.length - k) (fun k => k ≤ l.length) 0 [] (Nat.zero_le _)
    ⟨⟨rfl, rfl⟩, ⟨rfl, rfl⟩, ⟨rfl, rfl⟩, ⟨valI (by simp), rfl⟩, ⟨rfl, rfl⟩, trivial⟩ ⟨⟨rfl, .inl ⟨?_, ?_⟩⟩, ⟨rfl, .inr ⟨rfl, rfl⟩⟩, trivial⟩ rfl ?_
  · rw [h0]; rfl
  · intro r hr; simp at hr; subst hr; exact rowW_noid _
  intro k hk
  have hk : k ≤ l.length := hk
  conv => whnf
  refine caseb (fun h1 => ?_) (fun h1 => ?_)
  · have h1' : (k : Int) < (l.length : Int) := of_decide_eq_true h1
    have hlt : k < l.length := by omega
    have hM := Mul_ok (f k).natAbs (l[k]).natAbs (by have := hb k hk; have := hbl k hlt; omega)
    have hP := WOf_ok (!(decide (f k < 0) == decide (l[k] < 0))) ((f k).natAbs * (l[k]).natAbs)
    rw [sgn_mul, ← hf k hlt] at hP
    unfold natA at hM hP
    conv => whnf
    refine ⟨rowW l[k], ⟨by omega, by rw [List.getElem?_map, show ((k : Int)).toNat = k by omega, List.getElem?_eq_getElem hlt]; rfl⟩, ?_⟩
    conv => whnf
    refine ⟨_, hM, ?_⟩
    conv => whnf
    refine ⟨_, hP, ?_⟩
    conv => whnf
    refine ⟨by kernel_rfl, ?_⟩
    conv => whnf
    refine ⟨k + 1, [], (by show l.length - (k + 1) < l.length - k; omega), (by show k + 1 ≤ l.length; omega), ⟨⟨rfl, rfl⟩, ⟨rfl, rfl⟩, ⟨rfl, rfl⟩, ⟨rfl, rfl⟩, ⟨valI ?_, rfl⟩, trivial⟩, ⟨⟨rfl, .inl ⟨rfl, fun r hr => by simp at hr; subst hr; exact rowW_noid _⟩⟩, ⟨rfl, .inr ⟨rfl, rfl⟩⟩, trivial⟩, rfl⟩
    show IntKind.i64.wrap ((k : Int) + 1) = ((k + 1 : Nat) : Int)
    rw [IntWalk.i64_in _ (by omega)]; omega
  · have h1' : ¬ (k : Int) < (l.length : Int) := of_decide_eq_false h1
    have hkl : k = l.length := by omega
    conv => whnf
    show WI (f k) = _
    rw [hkl]

theorem RMulW_ok (a b : Int) (hb : (decL a.natAbs).length + (decL b.natAbs).length < 100000000) (hc : (decL (a.natAbs * b.natAbs)).length < 1000000000) : AC Try.prog 28 [WR a, WR b] (.pure (WR (a * b))) := by
  refine AC.of_body TTok Try.func28 rfl (enter_of Try.func28 (by kernel_rfl) (by kernel_rfl)) (noid2 (WR_noid a) (WR_noid b)) (WR_noid _) (Nat.le_of_ble_eq_true rfl) ?_
  have hM := RMul_ok a.natAbs b.natAbs (by omega)
  have hP := ROfW_ok (!(decide (a < 0) == decide (b < 0))) (a.natAbs * b.natAbs) (by omega)
  rw [sgn_mul] at hP
  revert hP
  generalize a * b = c
  intro hP
  unfold WR at *
  conv => whnf
  refine ⟨_, hM, ?_⟩
  conv => whnf
  refine ⟨_, hP, ?_⟩
  conv => whnf
  refine ⟨by kernel_rfl, ?_⟩
  conv => whnf
  exact rfl

end Go.Proofs.Ytgnfopmbjmmbbaa

/- Contracts of whole numbers: floors, what is read, the chapter's examples. -/
set_option linter.unusedVariables false
namespace Go.Proofs.Ytgnfopmbjmmbbaa
open Go Go.AL NM

def flS (a b : Int) : Bool := decide (decide (a < 0) = decide (b < 0) ∨ a.natAbs % b.natAbs = 0)
def flQ (a b : Int) : Int := if flS a b then sgn (!(decide (a < 0) == decide (b < 0))) (a.natAbs / b.natAbs) else sgn true (a.natAbs / b.natAbs + 1)
def flR (a b : Int) : Int := if flS a b then sgn (decide (b < 0)) (a.natAbs % b.natAbs) else sgn (decide (b < 0)) (b.natAbs - a.natAbs % b.natAbs)

theorem Floor_ok (a b : Int) (hb0 : b ≠ 0) (ha : (limbs a.natAbs).length < 1000000000) (hb : (limbs b.natAbs).length < 1000000000)
    (hDM : AC Try.prog 48 [natA a.natAbs, natA b.natAbs] (.pure (.tup [natA (a.natAbs / b.natAbs), natA (a.natAbs % b.natAbs), .val (.bool true)]))) :
    AC Try.prog 29 [WI a, WI b] (.pure (.tup [WI (flQ a b), WI (flR a b), .val (.bool true)])) := by
  refine AC.of_body TTok Try.func29 rfl (enter_of Try.func29 (by kernel_rfl) (by kernel_rfl)) (noid2 (WI_noid a) (WI_noid b)) (.tup _ (noid3 (WI_noid _) (WI_noid _) (.val _))) (Nat.le_of_ble_eq_true rfl) ?_
  have hz := Zero_ok (a.natAbs % b.natAbs)
  have hq := limbs_len_mono (Nat.div_le_self a.natAbs b.natAbs)
  have hrb : a.natAbs % b.natAbs < b.natAbs := Nat.mod_lt _ (by omega)
  have hS := Sub_ge b.natAbs (a.natAbs % b.natAbs) (by omega) (by omega)
  have hO1 := WOf_ok (!(decide (a < 0) == decide (b < 0))) (a.natAbs / b.natAbs)
  have hO2 := WOf_ok (decide (b < 0)) (a.natAbs % b.natAbs)
  have hO3 := WOf_ok true (a.natAbs / b.natAbs + 1)
  have hO4 := WOf_ok (decide (b < 0)) (b.natAbs - a.natAbs % b.natAbs)
  have l1 : (limbs 1).length = 1 := by rw [limbs_pos (by decide), show 1 / 4294967296 = 0 from rfl, limbs_zero]; rfl
  have h1 := Of_ok 1 (by decide)
  have hA := Add_ok (a.natAbs / b.natAbs) 1 (by omega)
  unfold flQ flR
  cases hs : flS a b with
  | true =>
    have hs' : decide (a < 0) = decide (b < 0) ∨ a.natAbs % b.natAbs = 0 := of_decide_eq_true hs
    rw [if_pos rfl, if_pos rfl]
    revert hO1 hO2
    generalize sgn (!(decide (a < 0) == decide (b < 0))) (a.natAbs / b.natAbs) = q
    generalize sgn (decide (b < 0)) (a.natAbs % b.natAbs) = r
    intro hO1 hO2
    clear hO3 hO4 hA hS
    revert hDM hz hO1 hO2 hs'
    generalize a.natAbs / b.natAbs = x
    generalize a.natAbs % b.natAbs = y
    intro hDM hz hs' hO1 hO2
    unfold WI natA at *
    conv => whnf
    refine ⟨_, hDM, ?_⟩
    conv => whnf
    refine caseb (fun h3 => ?ca) (fun h3 => ?cb)
    case' cb =>
      have h3' : ¬ decide (a < 0) = decide (b < 0) := fun h => by rw [h] at h3; rw [beq_self_eq_true] at h3; cases h3
      rw [decide_eq_true (hs'.resolve_left h3')] at hz
      conv => whnf
      refine ⟨_, hz, ?_⟩
    all_goals
      conv => whnf
      refine ⟨_, hO1, ?_⟩
      conv => whnf
      refine ⟨_, hO2, ?_⟩
      conv => whnf
      refine ⟨by kernel_rfl, ?_⟩
      conv => whnf
      exact rfl
  | false =>
    have hs' : ¬ (decide (a < 0) = decide (b < 0) ∨ a.natAbs % b.natAbs = 0) := of_decide_eq_false hs
    have hne : (decide (a < 0) == decide (b < 0)) = false := by
      cases h : (decide (a < 0) == decide (b < 0)) with
      | false => rfl
      | true => exact absurd (.inl (eq_of_beq h)) hs'
    rw [decide_eq_false (fun h => hs' (.inr h))] at hz
    rw [if_neg (by decide), if_neg (by decide)]
    revert hO3 hO4
    generalize sgn true (a.natAbs / b.natAbs + 1) = q
    generalize sgn (decide (b < 0)) (b.natAbs - a.natAbs % b.natAbs) = r
    intro hO3 hO4
    clear hO1 hO2 hs hs' hq hrb
    revert hDM hz hO3 hO4 hA hS
    generalize a.natAbs / b.natAbs + 1 = x1
    generalize a.natAbs / b.natAbs = x
    generalize b.natAbs - a.natAbs % b.natAbs = y1
    generalize a.natAbs % b.natAbs = y
    intro hDM hz hS hA hO3 hO4
    unfold WI natA at *
    conv => whnf
    refine ⟨_, hDM, ?_⟩
    conv => whnf
    refine caseb (fun h => Bool.noConfusion (hne.symm.trans h)) (fun _ => ?_)
    conv => whnf
    refine ⟨_, hz, ?_⟩
    conv => whnf
    refine ⟨_, hS, ?_⟩
    conv => whnf
    refine ⟨_, h1, ?_⟩
    conv => whnf
    refine ⟨_, hA, ?_⟩
    conv => whnf
    refine ⟨_, hO3, ?_⟩
    conv => whnf
    refine ⟨_, hO4, ?_⟩
    conv => whnf
    refine ⟨by kernel_rfl, ?_⟩
    conv => whnf
    exact rfl

theorem ROfW_any (s : Bool) (l : List Int) (hd : Dig l) (hne : l ≠ []) (hb : l.length < 4294967296) : AC Try.prog 39 [.val (.bool s), .val (.string (strL l))] (.pure (WR (sgn s (valL l)))) := by
  refine AC.of_body TTok Try.func39 rfl (enter_of Try.func39 (by kernel_rfl) (by kernel_rfl)) (noid2 (.val _) (.val _)) (WR_noid _) (Nat.le_of_ble_eq_true rfl) ?_
  have hT := Trim_ok l hd hne hb
  have h0 := is0W (valL l)
  revert hT h0
  generalize valL l = n
  intro hT h0
  unfold WR
  rw [sgn_abs, sgn_neg]
  cases s
  · conv => whnf
    refine ⟨_, hT, ?_⟩
    conv => whnf
    exact agg2 rfl rfl
  · conv => whnf
    refine ⟨_, hT, ?_⟩
    conv => whnf
    refine agg2 (valB ?_) rfl
    show (!((decS n).toList == ({ data := #[48] } : ByteArray).toList)) = _
    rw [h0]; rfl

/-- The whole number that a text is. -/
def parseW (l : List Int) : Option Int :=
  match l with
  | [] => none
  | x :: r => if x = 45 then (if right r = true then some (sgn true (valL r)) else none) else (if right (x :: r) = true then some (sgn false (valL (x :: r))) else none)

theorem WR_zero : WR 0 = .agg [.val (.bool false), .val (.string { data := #[48] })] := by
  unfold WR
  rw [show (0 : Int).natAbs = 0 from rfl, decS_zero]
  rfl

theorem RRead_ok (l : List Int) (hB : Byt l) (hb : l.length < 140737488355328) : AC Try.prog 36 [.val (.string (strL l))] (.pure (.tup [WR ((parseW l).getD 0), .val (.bool (parseW l).isSome)])) := by
  have hsz := strL_size l
  have core : ∀ (neg : Bool) (r : List Int), r.length < 140737488355328 → Byt r → (right r = true → AC Try.prog 39 [.val (.bool neg), .val (.string (strL r))] (.pure (WR (sgn neg (valL r))))) := fun neg r h1 h2 h3 => by
    obtain ⟨hd, hne, hl⟩ := right_dig h3
    exact ROfW_any neg r hd hne (by omega)
  cases l with
  | nil =>
    have hR := Right_ok [] hB hb
    rw [show right [] = false from rfl] at hR
    rw [show parseW [] = none from rfl]
    show AC Try.prog 36 _ (.pure (.tup [WR 0, .val (.bool false)]))
    rw [WR_zero]
    refine AC.of_body TTok Try.func36 rfl (enter_of Try.func36 (by kernel_rfl) (by kernel_rfl)) (noid1 (.val _)) (.tup _ (noid2 (.agg _ (noid2 (.val _) (.val _))) (.val _))) (Nat.le_of_ble_eq_true rfl) ?_
    conv => whnf
    refine ⟨_, hR, ?_⟩
    conv => whnf
    exact rfl
  | cons x r =>
    have hx := hB x List.mem_cons_self
    have hBr : Byt r := fun y hy => hB y (List.mem_cons_of_mem _ hy)
    have hlr : r.length < 140737488355328 := by simp at hb; omega
    have hby : byteAt (strL (x :: r)) 0 = x := byteAt_strL hB (Int.le_refl 0) rfl
    have hex : (strL (x :: r)).extract 1 (strL (x :: r)).size = strL r := by
      rw [strL_extract, strL_size, List.take_of_length_le (Nat.le_refl _)]
      rfl
    have hRr := Right_ok r hBr hlr
    have hRl := Right_ok (x :: r) hB hb
    by_cases h45 : x = 45
    · have hp : parseW (x :: r) = if right r = true then some (sgn true (valL r)) else none := if_pos h45
      rw [hp]
      cases hr : right r with
      | true =>
        rw [hr] at hRr
        have eb : (byteAt (strL (x :: r)) 0 == 45) = true := by rw [hby, h45]; rfl
        have hO := core (byteAt (strL (x :: r)) 0 == 45) r hlr hBr hr
        rw [show WR (sgn (byteAt (strL (x :: r)) 0 == 45) (valL r)) = WR (sgn true (valL r)) by rw [eb]] at hO
        rw [if_pos rfl]
        show AC Try.prog 36 _ (.pure (.tup [WR (sgn true (valL r)), .val (.bool true)]))
        revert hO
        generalize sgn true (valL r) = a
        intro hO
        rw [← hex] at hO hRr
        refine AC.of_body TTok Try.func36 rfl (enter_of Try.func36 (by kernel_rfl) (by kernel_rfl)) (noid1 (.val _)) (.tup _ (noid2 (WR_noid _) (.val _))) (Nat.le_of_ble_eq_true rfl) ?_
        unfold WR at *
        conv => whnf
        refine caseb (fun h1 => ?_) (fun h1 => ?_)
        rotate_left
        · have h1' : ¬ ((strL (x :: r)).size : Int) > 0 := of_decide_eq_false h1
          rw [hsz] at h1'
          simp at h1'
        conv => whnf
        refine ⟨⟨by decide, by rw [hsz]; simp⟩, ?_⟩
        conv => whnf
        refine caseb (fun h2 => ?_) (fun h2 => ?_)
        rotate_left
        · have h2' : ¬ byteAt (strL (x :: r)) 0 = 45 := of_decide_eq_false h2
          exact absurd (hby.trans h45) h2'
        conv => whnf
        refine ⟨⟨by decide, by rw [hsz]; simp; omega⟩, ?_⟩
        conv => whnf
        refine ⟨_, hRr, ?_⟩
        conv => whnf
        refine ⟨_, hO, ?_⟩
        conv => whnf
        exact rfl
      | false =>
        rw [hr] at hRr
        rw [if_neg (by decide)]
        rw [← hex] at hRr
        show AC Try.prog 36 _ (.pure (.tup [WR 0, .val (.bool false)]))
        rw [WR_zero]
        refine AC.of_body TTok Try.func36 rfl (enter_of Try.func36 (by kernel_rfl) (by kernel_rfl)) (noid1 (.val _)) (.tup _ (noid2 (.agg _ (noid2 (.val _) (.val _))) (.val _))) (Nat.le_of_ble_eq_true rfl) ?_
        conv => whnf
        refine caseb (fun h1 => ?_) (fun h1 => ?_)
        rotate_left
        · have h1' : ¬ ((strL (x :: r)).size : Int) > 0 := of_decide_eq_false h1
          rw [hsz] at h1'
          simp at h1'
        conv => whnf
        refine ⟨⟨by decide, by rw [hsz]; simp⟩, ?_⟩
        conv => whnf
        refine caseb (fun h2 => ?_) (fun h2 => ?_)
        rotate_left
        · have h2' : ¬ byteAt (strL (x :: r)) 0 = 45 := of_decide_eq_false h2
          exact absurd (hby.trans h45) h2'
        conv => whnf
        refine ⟨⟨by decide, by rw [hsz]; simp; omega⟩, ?_⟩
        conv => whnf
        refine ⟨_, hRr, ?_⟩
        conv => whnf
        exact rfl
    · have hp : parseW (x :: r) = if right (x :: r) = true then some (sgn false (valL (x :: r))) else none := if_neg h45
      rw [hp]
      cases hr : right (x :: r) with
      | true =>
        rw [hr] at hRl
        have eb : (byteAt (strL (x :: r)) 0 == 45) = false := by rw [hby]; exact beq_false_of_ne h45
        have hO := core (byteAt (strL (x :: r)) 0 == 45) (x :: r) hb hB hr
        rw [show WR (sgn (byteAt (strL (x :: r)) 0 == 45) (valL (x :: r))) = WR (sgn false (valL (x :: r))) by rw [eb]] at hO
        rw [if_pos rfl]
        show AC Try.prog 36 _ (.pure (.tup [WR (sgn false (valL (x :: r))), .val (.bool true)]))
        revert hO
        generalize sgn false (valL (x :: r)) = a
        intro hO
        refine AC.of_body TTok Try.func36 rfl (enter_of Try.func36 (by kernel_rfl) (by kernel_rfl)) (noid1 (.val _)) (.tup _ (noid2 (WR_noid _) (.val _))) (Nat.le_of_ble_eq_true rfl) ?_
        unfold WR at *
        conv => whnf
        refine caseb (fun h1 => ?_) (fun h1 => ?_)
        rotate_left
        · have h1' : ¬ ((strL (x :: r)).size : Int) > 0 := of_decide_eq_false h1
          rw [hsz] at h1'
          simp at h1'
        conv => whnf
        refine ⟨⟨by decide, by rw [hsz]; simp⟩, ?_⟩
        conv => whnf
        refine caseb (fun h2 => ?_) (fun h2 => ?_)
        · have h2' : byteAt (strL (x :: r)) 0 = 45 := of_decide_eq_true h2
          exact absurd (hby.symm.trans h2') h45
        conv => whnf
        refine ⟨_, hRl, ?_⟩
        conv => whnf
        refine ⟨_, hO, ?_⟩
        conv => whnf
        exact rfl
      | false =>
        rw [hr] at hRl
        rw [if_neg (by decide)]
        show AC Try.prog 36 _ (.pure (.tup [WR 0, .val (.bool false)]))
        rw [WR_zero]
        refine AC.of_body TTok Try.func36 rfl (enter_of Try.func36 (by kernel_rfl) (by kernel_rfl)) (noid1 (.val _)) (.tup _ (noid2 (.agg _ (noid2 (.val _) (.val _))) (.val _))) (Nat.le_of_ble_eq_true rfl) ?_
        conv => whnf
        refine caseb (fun h1 => ?_) (fun h1 => ?_)
        rotate_left
        · have h1' : ¬ ((strL (x :: r)).size : Int) > 0 := of_decide_eq_false h1
          rw [hsz] at h1'
          simp at h1'
        conv => whnf
        refine ⟨⟨by decide, by rw [hsz]; simp⟩, ?_⟩
        conv => whnf
        refine caseb (fun h2 => ?_) (fun h2 => ?_)
        · have h2' : byteAt (strL (x :: r)) 0 = 45 := of_decide_eq_true h2
          exact absurd (hby.symm.trans h2') h45
        conv => whnf
        refine ⟨_, hRl, ?_⟩
        conv => whnf
        exact rfl

end Go.Proofs.Ytgnfopmbjmmbbaa

/- Contracts of whole numbers: what is read, the chapter's examples. -/
set_option linter.unusedVariables false
namespace Go.Proofs.Ytgnfopmbjmmbbaa
open Go Go.AL NM

theorem Dig_val0 {l : List Int} : True := trivial
/-- What is read of a text. -/
def RdW (l : List Int) (a : Int) (t : Bool) : Prop := (t = true → a.natAbs < 10 ^ 100 ∧ (decL a.natAbs).length ≤ 100 ∧ (limbs a.natAbs).length ≤ 100) ∧ AC Try.prog 16 [.val (.string (strL l))] (.pure (.tup [WI a, WR a, .val (.bool t)]))

theorem WI_zero : WI 0 = .agg [.sl 1 (irows .u32 (limbs 0)) false, .val (.bool false)] := rfl

theorem readW_any (l : List Int) (hB : Byt l) (hb : l.length < 140737488355328) : ∃ a t, RdW l a t := by
  unfold RdW
  have hRd := RRead_ok l hB hb
  have hsz := strL_size l
  cases hp : parseW l with
  | none =>
    rw [hp] at hRd
    have hRd : AC Try.prog 36 [.val (.string (strL l))] (.pure (.tup [WR 0, .val (.bool false)])) := hRd
    refine ⟨0, false, (fun h => Bool.noConfusion h), ?_⟩
    have hP : AC Try.prog 37 [.val (.string (decS 0))] (.pure (.tup [natA 0, .val (.bool true)])) := by
      have := Parse_ok (decL 0) (decL_byt 0) (decL_ne 0) (by rw [decL_one 0 (by decide)]; decide)
      rwa [valL_decL] at this
    have hO := WOf_ok false 0
    rw [show sgn false 0 = 0 from rfl] at hO
    rw [show decS 0 = decS (0 : Int).natAbs from rfl] at hP
    refine AC.of_body TTok Try.func16 rfl (enter_of Try.func16 (by kernel_rfl) (by kernel_rfl)) (noid1 (.val _)) (.tup _ (noid3 (WI_noid _) (WR_noid _) (.val _))) (Nat.le_of_ble_eq_true rfl) ?_
    unfold WR WI natA at *
    rw [show decide ((0 : Int) < 0) = false from rfl] at *
    conv => whnf
    refine ⟨_, hRd, ?_⟩
    conv => whnf
    refine ⟨_, hP, ?_⟩
    conv => whnf
    refine ⟨_, hO, ?_⟩
    conv => whnf
    refine ⟨by kernel_rfl, ?_⟩
    conv => whnf
    exact rfl
  | some a =>
    rw [hp] at hRd
    have hRd : AC Try.prog 36 [.val (.string (strL l))] (.pure (.tup [WR a, .val (.bool true)])) := hRd
    have key : (decL a.natAbs).length ≤ l.length ∧ (decL a.natAbs).length ≤ 2000 := by
      cases l with
      | nil => cases hp
      | cons x r =>
        have h1 : ∀ (s : Bool) (q : List Int), right q = true → a = sgn s (valL q) → (decL a.natAbs).length ≤ q.length ∧ (decL a.natAbs).length ≤ 2000 := fun s q hq ha => by
          obtain ⟨hd, hne, hl⟩ := right_dig hq
          rw [ha, sgn_abs]
          have := decL_len_le (List.length_pos_iff.2 hne) (valL_lt hd)
          omega
        by_cases h45 : x = 45
        · rw [show parseW (x :: r) = if right r = true then some (sgn true (valL r)) else none from if_pos h45] at hp
          by_cases hr : right r = true
          · rw [if_pos hr] at hp
            have := h1 true r hr (Option.some.inj hp).symm
            simp; omega
          · rw [if_neg hr] at hp; cases hp
        · rw [show parseW (x :: r) = if right (x :: r) = true then some (sgn false (valL (x :: r))) else none from if_neg h45] at hp
          by_cases hr : right (x :: r) = true
          · rw [if_pos hr] at hp
            exact h1 false (x :: r) hr (Option.some.inj hp).symm
          · rw [if_neg hr] at hp; cases hp
    have hP : AC Try.prog 37 [.val (.string (decS a.natAbs))] (.pure (.tup [natA a.natAbs, .val (.bool true)])) := by
      have := Parse_ok (decL a.natAbs) (decL_byt _) (decL_ne _) key.2
      rwa [valL_decL] at this
    have hO := WOf_ok (decide (a < 0)) a.natAbs
    rw [sgn_self] at hO
    refine ⟨a, decide (((strL l).size : Int) ≤ 100), fun h => ?_, ?_⟩
    · have h' : ((strL l).size : Int) ≤ 100 := of_decide_eq_true h
      rw [hsz] at h'
      have h2 : a.natAbs < 10 ^ 100 := Nat.lt_of_lt_of_le (decL_lt _) (Nat.pow_le_pow_right (by decide) (by omega))
      exact ⟨h2, by omega, limbs_ten h2⟩
    refine AC.of_body TTok Try.func16 rfl (enter_of Try.func16 (by kernel_rfl) (by kernel_rfl)) (noid1 (.val _)) (.tup _ (noid3 (WI_noid _) (WR_noid _) (.val _))) (Nat.le_of_ble_eq_true rfl) ?_
    unfold WR WI natA at *
    conv => whnf
    refine ⟨_, hRd, ?_⟩
    conv => whnf
    refine ⟨_, hP, ?_⟩
    conv => whnf
    refine ⟨_, hO, ?_⟩
    conv => whnf
    refine ⟨by kernel_rfl, ?_⟩
    conv => whnf
    exact rfl

theorem digs_is (a : Int) (s : ByteArray) (t : ByteArray) (h : digs a s = t) : ((digs a s).toList == t.toList) = true := by rw [h]; exact beq_self_eq_true _

theorem awakeW_ok : AC Try.prog 15 [] (.pure (.val (.bool true))) := by
  have f7 := From_ok (-7) (by decide)
  have f2 := From_ok 2 (by decide)
  have f7' := From_ok 7 (by decide)
  have f2' := From_ok (-2) (by decide)
  have s : ∀ k : Nat, k < 10 → (limbs k).length ≤ 1 := fun k hk => limbs_ten (k := 1) (by omega)
  have hDM : AC Try.prog 48 [natA 7, natA 2] (.pure (.tup [natA (7 / 2), natA (7 % 2), .val (.bool true)])) :=
    DivMod_one 7 2 (by decide) (by decide) (by decide) (by have := s 7 (by decide); omega)
  have b7 : (limbs (-7 : Int).natAbs).length < 1000000000 := by have := s 7 (by decide); show (limbs 7).length < _; omega
  have b2 : (limbs (2 : Int).natAbs).length < 1000000000 := by have := s 2 (by decide); show (limbs 2).length < _; omega
  have b7' : (limbs (7 : Int).natAbs).length < 1000000000 := by have := s 7 (by decide); show (limbs 7).length < _; omega
  have b2' : (limbs (-2 : Int).natAbs).length < 1000000000 := by have := s 2 (by decide); show (limbs 2).length < _; omega
  have F1 := Floor_ok (-7) 2 (by decide) b7 b2 hDM
  have F2 := Floor_ok 7 (-2) (by decide) b7' b2' hDM
  rw [show flQ (-7) 2 = -4 from rfl, show flR (-7) 2 = 1 from rfl] at F1
  rw [show flQ 7 (-2) = -4 from rfl, show flR 7 (-2) = -1 from rfl] at F2
  have ss : ({ data := #[45] } : ByteArray).size < 1000000 := by decide
  have d4 := Digits_ok (-4) { data := #[45] } ss (by have := s 4 (by decide); show (limbs 4).length < _; omega)
  have d1 := Digits_ok 1 { data := #[45] } ss (by have := s 1 (by decide); show (limbs 1).length < _; omega)
  have d1' := Digits_ok (-1) { data := #[45] } ss (by have := s 1 (by decide); show (limbs 1).length < _; omega)
  have e4 : digs (-4) { data := #[45] } = { data := #[45, 52] } := by
    show ({ data := #[45] } : ByteArray) ++ decS 4 = _
    unfold decS; rw [decL_one 4 (by decide)]; rfl
  have e1 : digs 1 { data := #[45] } = { data := #[49] } := by
    show decS 1 = _
    exact decS_one
  have e1' : digs (-1) { data := #[45] } = { data := #[45, 49] } := by
    show ({ data := #[45] } : ByteArray) ++ decS 1 = _
    rw [decS_one]; rfl
  have q4 := digs_is _ _ _ e4
  have q1 := digs_is _ _ _ e1
  have q1' := digs_is _ _ _ e1'
  revert d4 d1 d1' q4 q1 q1'
  generalize digs (-4) { data := #[45] } = t4
  generalize digs 1 { data := #[45] } = t1
  generalize digs (-1) { data := #[45] } = t1'
  intro d4 d1 d1' q4 q1 q1'
  clear hDM
  refine AC.of_body TTok Try.func15 rfl (enter_of Try.func15 (by kernel_rfl) (by kernel_rfl)) (by intro x hx; cases hx) (.val _) (Nat.le_of_ble_eq_true rfl) ?_
  unfold WI at *
  conv => whnf
  refine ⟨_, f7, ?_⟩
  conv => whnf
  refine ⟨_, f2, ?_⟩
  conv => whnf
  refine ⟨_, F1, ?_⟩
  conv => whnf
  refine ⟨_, f7', ?_⟩
  conv => whnf
  refine ⟨_, f2', ?_⟩
  conv => whnf
  refine ⟨_, F2, ?_⟩
  conv => whnf
  refine ⟨_, d4, ?_⟩
  conv => whnf
  refine caseb (fun _ => ?_) (fun h => Bool.noConfusion (q4.symm.trans h))
  conv => whnf
  refine ⟨_, d1, ?_⟩
  conv => whnf
  refine caseb (fun _ => ?_) (fun h => Bool.noConfusion (q1.symm.trans h))
  conv => whnf
  refine ⟨_, d4, ?_⟩
  conv => whnf
  refine caseb (fun _ => ?_) (fun h => Bool.noConfusion (q4.symm.trans h))
  conv => whnf
  refine ⟨_, d1', ?_⟩
  conv => whnf
  refine valB ?_
  exact q1'

end Go.Proofs.Ytgnfopmbjmmbbaa

/- Contracts of whole numbers: sums and products of one and two, sizes. -/
set_option linter.unusedVariables false
namespace Go.Proofs.Ytgnfopmbjmmbbaa
open Go Go.AL NM

theorem Plus1 (a b : Int) (ha : (limbs a.natAbs).length < 100000) (hb : (limbs b.natAbs).length < 100000) (hs : (limbs (a + b).natAbs).length < 100000) : AC Try.prog 17 [WI a, .sl 2 [rowW b] false] (.pure (WI (a + b))) :=
  Plus_ok a [b] (fun k => if k = 0 then a else a + b) rfl (fun k h => by
    have hk : k = 0 := by simp at h; omega
    subst hk; rfl) (by simp) (fun k hk => by
    show (limbs (if k = 0 then a else a + b).natAbs).length < _
    split <;> omega) (fun k h => by
    have hk : k = 0 := by simp at h; omega
    subst hk
    show (limbs b.natAbs).length < _
    omega)
theorem Plus2 (a b c : Int) (ha : (limbs a.natAbs).length < 100000) (hb : (limbs b.natAbs).length < 100000) (hc : (limbs c.natAbs).length < 100000) (hs : (limbs (a + b).natAbs).length < 100000) (hs2 : (limbs (a + b + c).natAbs).length < 100000) : AC Try.prog 17 [WI a, .sl 2 [rowW b, rowW c] false] (.pure (WI (a + b + c))) :=
  Plus_ok a [b, c] (fun k => if k = 0 then a else if k = 1 then a + b else a + b + c) rfl (fun k h => by
    have hk : k = 0 ∨ k = 1 := by simp at h; omega
    rcases hk with rfl | rfl <;> rfl) (by simp) (fun k hk => by
    show (limbs (if k = 0 then a else if k = 1 then a + b else a + b + c).natAbs).length < _
    split
    · omega
    · split <;> omega) (fun k h => by
    have hk : k = 0 ∨ k = 1 := by simp at h; omega
    rcases hk with rfl | rfl
    · show (limbs b.natAbs).length < _
      omega
    · show (limbs c.natAbs).length < _
      omega)
theorem limbs_abs_add (a b : Int) : (limbs (a + b).natAbs).length ≤ (limbs a.natAbs).length + (limbs b.natAbs).length + 1 := by
  apply limbs_len_le
  have h1 := val_lt (limbs_lim a.natAbs)
  have h2 := val_lt (limbs_lim b.natAbs)
  rw [val_limbs] at h1 h2
  have h3 : (a + b).natAbs ≤ a.natAbs + b.natAbs := by omega
  have h4 : 4294967296 ^ (limbs a.natAbs).length ≤ 4294967296 ^ ((limbs a.natAbs).length + (limbs b.natAbs).length) := Nat.pow_le_pow_right (by decide) (by omega)
  have h5 : 4294967296 ^ (limbs b.natAbs).length ≤ 4294967296 ^ ((limbs a.natAbs).length + (limbs b.natAbs).length) := Nat.pow_le_pow_right (by decide) (by omega)
  rw [Nat.pow_succ]
  omega
theorem decL_abs (n : Nat) : (decL n).length ≤ 10 * (limbs n).length + 1 := by
  have := decR_limbs n
  unfold decL
  split
  · simp
  · rw [List.length_reverse]; omega


theorem Times1 (a b : Int) (ha : (limbs a.natAbs).length < 100000) (hb : (limbs b.natAbs).length < 100000) (hs : (limbs (a * b).natAbs).length < 100000) : AC Try.prog 27 [WI a, .sl 2 [rowW b] false] (.pure (WI (a * b))) :=
  Times_ok a [b] (fun k => if k = 0 then a else a * b) rfl (fun k h => by
    have hk : k = 0 := by simp at h; omega
    subst hk; rfl) (by simp) (fun k hk => by
    show (limbs (if k = 0 then a else a * b).natAbs).length < _
    split <;> omega) (fun k h => by
    have hk : k = 0 := by simp at h; omega
    subst hk
    show (limbs b.natAbs).length < _
    omega)
theorem Times2 (a b c : Int) (ha : (limbs a.natAbs).length < 100000) (hb : (limbs b.natAbs).length < 100000) (hc : (limbs c.natAbs).length < 100000) (hs : (limbs (a * b).natAbs).length < 100000) (hs2 : (limbs (a * b * c).natAbs).length < 100000) : AC Try.prog 27 [WI a, .sl 2 [rowW b, rowW c] false] (.pure (WI (a * b * c))) :=
  Times_ok a [b, c] (fun k => if k = 0 then a else if k = 1 then a * b else a * b * c) rfl (fun k h => by
    have hk : k = 0 ∨ k = 1 := by simp at h; omega
    rcases hk with rfl | rfl <;> rfl) (by simp) (fun k hk => by
    show (limbs (if k = 0 then a else if k = 1 then a * b else a * b * c).natAbs).length < _
    split
    · omega
    · split <;> omega) (fun k h => by
    have hk : k = 0 ∨ k = 1 := by simp at h; omega
    rcases hk with rfl | rfl
    · show (limbs b.natAbs).length < _
      omega
    · show (limbs c.natAbs).length < _
      omega)
theorem Times_nil (a : Int) : AC Try.prog 27 [WI a, .sl 0 [] true] (.pure (WI a)) := by
  refine AC.of_body TTok Try.func27 rfl (enter_of Try.func27 (by kernel_rfl) (by kernel_rfl)) (noid2 (WI_noid a) (.sl _ _ _ (fun r hr => (nomatch hr)))) (WI_noid _) (Nat.le_of_ble_eq_true rfl) ?_
  conv => whnf
  refine SW.loopM TTok (fun k : Nat => [(2, .lp 0 0), (4, .lp 8 0), (8, .val (.int .i64 0)), (9, .val (.int .i64 0))])
    (fun k => [(0, .cells 2 [rowW a]), (8, .cells 2 [[.sl 0 [] true, .val (.bool false)]])]) 40 26 rfl (fun k => k) (fun k => True) 0 [] trivial
    ⟨⟨rfl, rfl⟩, ⟨rfl, rfl⟩, ⟨rfl, rfl⟩, ⟨rfl, rfl⟩, trivial⟩ ⟨⟨rfl, .inl ⟨rfl, fun r hr => by simp at hr; subst hr; exact rowW_noid _⟩⟩, ⟨rfl, .inr ⟨rfl, rfl⟩⟩, trivial⟩ rfl ?_
  intro k hk
  conv => whnf
  exact rfl
theorem limbs_abs_mul (a b : Int) : (limbs (a * b).natAbs).length ≤ (limbs a.natAbs).length + (limbs b.natAbs).length := by
  rw [Int.natAbs_mul]
  exact limbs_mul a.natAbs b.natAbs

end Go.Proofs.Ytgnfopmbjmmbbaa

/- The statement WholeSums: the walk through the law. -/
set_option linter.unusedVariables false
namespace Go.Proofs.Ytgnfopmbjmmbbaa.wholeSums
open Go Go.AL NM

theorem selfb (s : ByteArray) : (s.toList == s.toList) = true := beq_self_eq_true _
theorem bad (a b : List Int) (x y : Int) (tx ty : Bool) (h1 : RdW a x tx) (h2 : RdW b y ty) (ht : (tx && ty) = false) : AC Try.prog 4 [.val (.string (strL a)), .val (.string (strL b))] (.pure (.val (.bool true))) := by
  have h1 := h1.2
  have h2 := h2.2
  unfold WI WR at *
  cases tx <;> cases ty <;> first | (exfalso; exact Bool.noConfusion ht) | skip
  all_goals
    refine AC.of_body TTok Try.func4 rfl (enter_of Try.func4 (by kernel_rfl) (by kernel_rfl)) (noid2 (.val _) (.val _)) (.val _) (Nat.le_of_ble_eq_true rfl) ?_
    conv => whnf
    refine ⟨_, h1, ?_⟩
    conv => whnf
    refine ⟨_, h2, ?_⟩
    conv => whnf
    refine ⟨_, awakeW_ok, ?_⟩
    conv => whnf
    exact rfl

theorem good (a b : List Int) (x y : Int) (h1 : RdW a x true) (h2 : RdW b y true) : AC Try.prog 4 [.val (.string (strL a)), .val (.string (strL b))] (.pure (.val (.bool true))) := by
  obtain ⟨_, dx, lx⟩ := h1.1 rfl
  obtain ⟨_, dy, ly⟩ := h2.1 rfl
  have h1 := h1.2
  have h2 := h2.2
  have lxy := limbs_abs_add x y
  have lnx : (limbs (-x).natAbs).length ≤ 100 := by rw [Int.natAbs_neg]; exact lx
  have lny : (limbs (-y).natAbs).length ≤ 100 := by rw [Int.natAbs_neg]; exact ly
  have hn : x + y + -y = x := by omega
  have hP := Plus1 x y (by omega) (by omega) (by omega)
  have hP2 := Plus2 x y (-y) (by omega) (by omega) (by omega) (by omega) (by rw [hn]; omega)
  rw [hn] at hP2
  have hPn := Plus_nil x
  have hM := Minus_ok y
  have ss : ({ data := #[45] } : ByteArray).size < 1000000 := by decide
  have hD := Digits_ok (x + y) { data := #[45] } ss (by omega)
  have hsum : (decL (x.natAbs + y.natAbs)).length < 100000 := by
    have h5 : (limbs (x.natAbs + y.natAbs)).length ≤ (limbs x.natAbs).length + (limbs y.natAbs).length + 1 := by
      have := limbs_abs_add (x.natAbs : Int) (y.natAbs : Int)
      rwa [show ((x.natAbs : Int) + (y.natAbs : Int)).natAbs = x.natAbs + y.natAbs by omega] at this
    have := decL_abs (x.natAbs + y.natAbs)
    omega
  have hRA := RAddW_ok x y (by omega) (by omega)
  have hRD := RDigits_ok (x + y) { data := #[45] } ss (by have := decL_abs (x + y).natAbs; omega)
  have hC := CmpW_ok x y (by omega) (by omega)
  have hC' := CmpW_ok y x (by omega) (by omega)
  have hC0 := CmpW_ok x x (by omega) (by omega)
  rw [show cmpZ x x = 0 by unfold cmpZ; rw [if_neg (by omega), if_pos rfl]] at hC0
  have hRC := RCmpW_ok x y
  have q1 : (cmpZ x y == cmpZ x y) = true := beq_self_eq_true _
  have q2 : (cmpZ y x == IntKind.i64.wrap (0 - cmpZ x y)) = true := by
    rw [IntWalk.i64_in _ (by unfold cmpZ; repeat' split <;> omega)]
    have : cmpZ y x = 0 - cmpZ x y := by
      unfold cmpZ
      repeat' split
      all_goals omega
    rw [this]
    exact beq_self_eq_true _
  revert hP hP2 hPn hM hD hRA hRD hC hC' hC0 hRC q1 q2
  generalize digs (x + y) { data := #[45] } = d
  generalize cmpZ x y = c
  generalize cmpZ y x = c'
  generalize x + y = z
  generalize -y = my
  intro hP hP2 hPn hM hD hRA hRD hC hC' hC0 hRC q1 q2
  unfold rowW WI WR at *
  refine AC.of_body TTok Try.func4 rfl (enter_of Try.func4 (by kernel_rfl) (by kernel_rfl)) (noid2 (.val _) (.val _)) (.val _) (Nat.le_of_ble_eq_true rfl) ?_
  conv => whnf
  refine ⟨_, h1, ?_⟩
  conv => whnf
  refine ⟨_, h2, ?_⟩
  conv => whnf
  refine ⟨(Nat.le_of_ble_eq_true rfl), _, hP, ?_⟩
  conv => whnf
  refine ⟨_, hD, ?_⟩
  conv => whnf
  refine ⟨_, hRA, ?_⟩
  conv => whnf
  refine ⟨_, hRD, ?_⟩
  conv => whnf
  refine caseb (fun _ => ?_) (fun h => Bool.noConfusion ((selfb _).symm.trans h))
  conv => whnf
  refine ⟨_, hC, ?_⟩
  conv => whnf
  refine ⟨_, hRC, ?_⟩
  conv => whnf
  refine caseb (fun _ => ?_) (fun h => Bool.noConfusion ((q1).symm.trans h))
  conv => whnf
  refine ⟨_, hC', ?_⟩
  conv => whnf
  refine ⟨_, hC, ?_⟩
  conv => whnf
  refine caseb (fun _ => ?_) (fun h => Bool.noConfusion ((q2).symm.trans h))
  conv => whnf
  refine ⟨_, hM, ?_⟩
  conv => whnf
  refine ⟨(Nat.le_of_ble_eq_true rfl), _, hP2, ?_⟩
  conv => whnf
  refine ⟨_, hC0, ?_⟩
  conv => whnf
  refine ⟨_, hPn, ?_⟩
  conv => whnf
  refine ⟨_, hC0, ?_⟩
  conv => whnf
  refine ⟨_, awakeW_ok, ?_⟩
  conv => whnf
  refine ⟨by kernel_rfl, ?_⟩
  conv => whnf
  exact rfl

theorem holds (a b : ByteArray) (ha : a.size < 140737488355328) (hb : b.size < 140737488355328) : AC Try.prog 4 [.val (.string a), .val (.string b)] (.pure (.val (.bool true))) := by
  have ea : strL (bytesL a) = a := strL_bytesL a
  have eb : strL (bytesL b) = b := strL_bytesL b
  obtain ⟨x, tx, ra⟩ := readW_any (bytesL a) (bytesL_byt a) (by rw [bytesL_len]; exact ha)
  obtain ⟨y, ty, rb⟩ := readW_any (bytesL b) (bytesL_byt b) (by rw [bytesL_len]; exact hb)
  rw [← ea, ← eb]
  cases tx
  · exact bad _ _ x y false ty ra rb rfl
  · cases ty
    · exact bad _ _ x y true false ra rb rfl
    · exact good _ _ x y ra rb

end Go.Proofs.Ytgnfopmbjmmbbaa.wholeSums
