/- Contracts of nat: products, sums. -/
import Derived.Test.YtjpefafkejklaaaN4
import Derived.Test.YtjpefafkejklaaaNM3
set_option linter.unusedVariables false
namespace Go.Proofs.Ytjpefafkejklaaa
open Go Go.AL NM

theorem Add32_ok (x y c : Int) (hx : 0 ≤ x ∧ x < 4294967296) (hy : 0 ≤ y ∧ y < 4294967296) (hc : 0 ≤ c ∧ c ≤ 1) : AC Try.prog 67 [.val (.int .u32 x), .val (.int .u32 y), .val (.int .u32 c)] (.pure (.tup [.val (.int .u32 ((x + y + c) % 4294967296)), .val (.int .u32 ((x + y + c) / 4294967296))])) := by
  refine AC.of_body TTok Try.func67 rfl (enter_of Try.func67 (by kernel_rfl) (by kernel_rfl)) (by intro z hz; simp at hz; rcases hz with rfl | rfl | rfl <;> exact .val _) (.tup _ (noid2 (.val _) (.val _))) (Nat.le_of_ble_eq_true rfl) ?_
  have e : IntKind.u64.wrap (IntKind.u64.wrap (IntKind.u64.wrap x + IntKind.u64.wrap y) + IntKind.u64.wrap c) = x + y + c := by
    simp only [IntKind.wrap_u64]; omega
  conv => whnf
  refine ⟨by decide, ?_⟩
  conv => whnf
  refine tup2 (valI ?_) (valI ?_)
  · rw [e, IntKind.wrap_u32]
  · show IntKind.u32.wrap ((IntKind.u64.wrap (IntKind.u64.wrap (IntKind.u64.wrap x + IntKind.u64.wrap y) + IntKind.u64.wrap c)).fdiv 4294967296) = _
    rw [e, Int.fdiv_eq_ediv_of_nonneg _ (by decide), IntKind.wrap_u32]
    omega

theorem Mul_ok (n m : Nat) (hb : (limbs n).length + (limbs m).length < 4000000000) : AC Try.prog 25 [natA n, natA m] (.pure (natA (n * m))) := by
  refine AC.of_body TTok Try.func25 rfl (enter_of Try.func25 (by kernel_rfl) (by kernel_rfl)) (noid2 (natA_noid n) (natA_noid m)) (natA_noid _) (Nat.le_of_ble_eq_true rfl) ?_
  unfold natA
  have hva := val_limbs n
  have hvb := val_limbs m
  have hLa := limbs_lim n
  have hLb := limbs_lim m
  generalize limbs n = a at *
  generalize limbs m = b at *
  subst hva
  subst hvb
  have e1 : IntKind.i64.wrap (((irows .u32 a).length : Int) + ((irows .u32 b).length : Int)) = ((a.length + b.length : Nat) : Int) := by rw [irows_len, irows_len, IntWalk.i64_in _ (by omega)]; omega
  conv => whnf
  refine ⟨⟨by rw [e1]; omega, by rw [e1]; omega, ?_⟩, ?_⟩
  · rw [e1]; show ((a.length + b.length : Nat) : Int) * 4 ≤ _; omega
  conv => whnf
  refine SW.loopM TTok (fun x : Nat × List Int => [(2, .lp 0 0), (3, .lp 8 0), (4, .lp 16 0), (5, .own 80 0 (a.length + b.length)), (21, .sl 1 (irows .u32 a) false), (22, .val (.int .i64 a.length)), (23, .val (.int .i64 x.1))])
    (fun x => [(0, .cells 1 [[.sl 1 (irows .u32 a) false]]), (8, .cells 1 [[.sl 1 (irows .u32 b) false]]), (16, .cells 1 [[.sl 0 [] true]]), (80, .cells 1 (irows .u32 x.2))]) 128 73 rfl (fun x => a.length - x.1)
    (fun x => x.1 ≤ a.length ∧ x.2.length = a.length + b.length ∧ Lim x.2 ∧ val x.2 = val (a.take x.1) * val b ∧ ∀ k, x.1 + b.length ≤ k → k < x.2.length → x.2[k]? = some 0)
    (0, List.replicate (a.length + b.length) 0) [] ⟨Nat.zero_le _, by simp, Lim.rep _, by simp [val_rep, val], fun k _ hk => by simp at hk; simp [hk]⟩
    ⟨⟨rfl, rfl⟩, ⟨rfl, rfl⟩, ⟨rfl, rfl⟩, ⟨ownE rfl ?_, rfl⟩, ⟨rfl, rfl⟩, ⟨valI ?_, rfl⟩, ⟨rfl, rfl⟩, trivial⟩
    ⟨⟨rfl, .inr ⟨rfl, rfl⟩⟩, ⟨rfl, .inr ⟨rfl, rfl⟩⟩, ⟨rfl, .inr ⟨rfl, rfl⟩⟩, ⟨rfl, .inl ⟨celE ?_, irows_noid _ _⟩⟩, trivial⟩ rfl ?_
  · rw [e1]; omega
  · rw [irows_len]
  · rw [e1, Int.toNat_natCast, ← irows_rep]; rfl
  rintro ⟨i, out⟩ ⟨hi, hl, hL, hv, hz⟩
  have hi : i ≤ a.length := hi
  have hl : out.length = a.length + b.length := hl
  have hL : Lim out := hL
  have hv : val out = val (a.take i) * val b := hv
  have hz : ∀ k, i + b.length ≤ k → k < out.length → out[k]? = some 0 := hz
  conv => whnf
  refine caseb (fun h1 => ?_) (fun h1 => ?_)
  · have h1' : (i : Int) < (a.length : Int) := of_decide_eq_true h1
    have hlt : i < a.length := by clear hv hz hL hl; omega
    have hx := hLa (a[i]'hlt) (List.getElem_mem _)
    conv => whnf
    refine ⟨[.val (.int .u32 (a[i]'hlt))], ⟨by omega, irows_get _ _ (List.getElem?_eq_getElem (by omega))⟩, ?_⟩
    conv => whnf
    refine SW.loopM TTok (fun x : Nat × Nat × List Int => [(2, .lp 0 0), (3, .lp 8 0), (4, .lp 16 0), (5, .own 80 0 (a.length + b.length)), (21, .sl 1 (irows .u32 a) false), (22, .val (.int .i64 a.length)), (23, .val (.int .i64 i)),
        (6, .val (.int .i64 i)), (7, .val (.int .u32 (a[i]'hlt))), (8, .val (.int .u64 x.2.1)), (29, .sl 1 (irows .u32 b) false), (30, .val (.int .i64 b.length)), (31, .val (.int .i64 x.1))])
      (fun x => [(0, .cells 1 [[.sl 1 (irows .u32 a) false]]), (8, .cells 1 [[.sl 1 (irows .u32 b) false]]), (16, .cells 1 [[.sl 0 [] true]]), (80, .cells 1 (irows .u32 x.2.2))]) 216 73 rfl (fun x => b.length - x.1)
      (fun x => x.1 ≤ b.length ∧ x.2.1 < 4294967296 ∧ x.2.2.length = a.length + b.length ∧ Lim x.2.2 ∧
        val x.2.2 + x.2.1 * 4294967296 ^ (i + x.1) = val (a.take i) * val b + (a[i]'hlt).toNat * val (b.take x.1) * 4294967296 ^ i ∧ ∀ k, i + b.length ≤ k → k < x.2.2.length → x.2.2[k]? = some 0)
      (0, 0, out) [] ⟨Nat.zero_le _, (by decide : 0 < 4294967296), hl, hL, (by show val out + 0 * _ = _; rw [hv]; simp [val]), hz⟩
      ⟨⟨rfl, rfl⟩, ⟨rfl, rfl⟩, ⟨rfl, rfl⟩, ⟨rfl, rfl⟩, ⟨rfl, rfl⟩, ⟨rfl, rfl⟩, ⟨rfl, rfl⟩, ⟨rfl, rfl⟩, ⟨rfl, rfl⟩, ⟨rfl, rfl⟩, ⟨rfl, rfl⟩, ⟨valI ?_, rfl⟩, ⟨rfl, rfl⟩, trivial⟩
      ⟨⟨rfl, .inr ⟨rfl, rfl⟩⟩, ⟨rfl, .inr ⟨rfl, rfl⟩⟩, ⟨rfl, .inr ⟨rfl, rfl⟩⟩, ⟨rfl, .inl ⟨rfl, irows_noid _ _⟩⟩, trivial⟩ rfl ?_
    · rw [irows_len]
    clear hl hL hv hz
    rintro ⟨j, c, out⟩ ⟨hj, hc, hl, hL, hv, hz⟩
    have hj : j ≤ b.length := hj
    have hc : c < 4294967296 := hc
    have hl : out.length = a.length + b.length := hl
    have hL : Lim out := hL
    have hv : val out + c * 4294967296 ^ (i + j) = val (a.take i) * val b + (a[i]'hlt).toNat * val (b.take j) * 4294967296 ^ i := hv
    have hz : ∀ k, i + b.length ≤ k → k < out.length → out[k]? = some 0 := hz
    conv => whnf
    refine caseb (fun h2 => ?_) (fun h2 => ?_)
    · have h2' : (j : Int) < (b.length : Int) := of_decide_eq_true h2
      have hjlt : j < b.length := by omega
      have hklt : i + j < out.length := by omega
      have hy := hLb (b[j]'hjlt) (List.getElem_mem _)
      have ho := hL (out[i + j]'hklt) (List.getElem_mem _)
      have ew : IntKind.i64.wrap ((i : Int) + (j : Int)) = ((i + j : Nat) : Int) := by rw [IntWalk.i64_in _ (by omega)]; omega
      conv => whnf
      refine ⟨[.val (.int .u32 (b[j]'hjlt))], ⟨by omega, irows_get _ _ (List.getElem?_eq_getElem (by omega))⟩, ?_⟩
      conv => whnf
      refine ⟨⟨by rw [ew]; omega, by rw [ew]; omega⟩, ?_⟩
      conv => whnf
      refine ⟨[.val (.int .u32 (out[i + j]'hklt))], (by rw [ew, Nat.zero_add, Int.toNat_natCast]; exact irows_get _ _ (List.getElem?_eq_getElem (by omega))), ?_⟩
      conv => whnf
      refine ⟨by decide, ?_⟩
      conv => whnf
      refine ⟨⟨by rw [ew]; omega, by rw [ew]; omega⟩, ?_⟩
      conv => whnf
      refine ⟨by rw [ew, irows_len, hl]; omega, ?_⟩
      conv => whnf
      have hxy : (a[i]'hlt).toNat * (b[j]'hjlt).toNat ≤ 4294967295 * 4294967295 := Nat.mul_le_mul (by omega) (by omega)
      have et : IntKind.u64.wrap (IntKind.u64.wrap (IntKind.u64.wrap (IntKind.u64.wrap (a[i]'hlt) * IntKind.u64.wrap (b[j]'hjlt)) + IntKind.u64.wrap (out[i + j]'hklt)) + (c : Int)) =
          (((a[i]'hlt).toNat * (b[j]'hjlt).toNat + (out[i + j]'hklt).toNat + c : Nat) : Int) := by
        have e1 : IntKind.u64.wrap (a[i]'hlt) = ((a[i]'hlt).toNat : Int) := by rw [IntKind.wrap_u64]; omega
        have e2 : IntKind.u64.wrap (b[j]'hjlt) = ((b[j]'hjlt).toNat : Int) := by rw [IntKind.wrap_u64]; omega
        have e3 : IntKind.u64.wrap (out[i + j]'hklt) = ((out[i + j]'hklt).toNat : Int) := by rw [IntKind.wrap_u64]; omega
        rw [e1, e2, e3, ← Int.natCast_mul]
        generalize (a[i]'hlt).toNat * (b[j]'hjlt).toNat = P at *
        simp only [IntKind.wrap_u64]
        omega
      have hstep := mul_step (out := out) (p := i + j) hklt hv (z := (a[i]'hlt).toNat * (b[j]'hjlt).toNat) rfl
      generalize htt : (a[i]'hlt).toNat * (b[j]'hjlt).toNat + (out[i + j]'hklt).toNat + c = t at *
      have htb : t < 18446744073709551616 := by rw [← htt]; omega
      refine ⟨(j + 1, t / 4294967296, out.set (i + j) ((t % 4294967296 : Nat) : Int)), [], (by show b.length - (j + 1) < b.length - j; omega), ⟨(by show j + 1 ≤ b.length; omega), ?_, ?_, ?_, ?_, ?_⟩,
        ⟨⟨rfl, rfl⟩, ⟨rfl, rfl⟩, ⟨rfl, rfl⟩, ⟨rfl, rfl⟩, ⟨rfl, rfl⟩, ⟨rfl, rfl⟩, ⟨rfl, rfl⟩, ⟨rfl, rfl⟩, ⟨rfl, rfl⟩, ⟨valI ?_, rfl⟩, ⟨rfl, rfl⟩, ⟨rfl, rfl⟩, ⟨valI ?_, rfl⟩, trivial⟩,
        ⟨⟨rfl, .inr ⟨rfl, rfl⟩⟩, ⟨rfl, .inr ⟨rfl, rfl⟩⟩, ⟨rfl, .inr ⟨rfl, rfl⟩⟩, ⟨rfl, .inl ⟨celE ?_, irows_noid _ _⟩⟩, trivial⟩, rfl⟩
      · show t / 4294967296 < 4294967296
        omega
      · show (out.set (i + j) ((t % 4294967296 : Nat) : Int)).length = _
        rw [List.length_set, hl]
      · exact hL.set ⟨by omega, by omega⟩
      · show val (out.set (i + j) ((t % 4294967296 : Nat) : Int)) + t / 4294967296 * 4294967296 ^ (i + (j + 1)) = val (a.take i) * val b + (a[i]'hlt).toNat * val (b.take (j + 1)) * 4294967296 ^ i
        rw [← Nat.add_assoc i j 1, hstep, val_take_succ hjlt, Nat.mul_add, Nat.add_mul, Nat.pow_add]
        have : (a[i]'hlt).toNat * (b[j]'hjlt).toNat * (4294967296 ^ i * 4294967296 ^ j) = (a[i]'hlt).toNat * ((b[j]'hjlt).toNat * 4294967296 ^ j) * 4294967296 ^ i := by
          rw [Nat.mul_comm (4294967296 ^ i), ← Nat.mul_assoc, Nat.mul_assoc (a[i]'hlt).toNat]
        rw [this]
        omega
      · show ∀ k, i + b.length ≤ k → k < (out.set (i + j) ((t % 4294967296 : Nat) : Int)).length → (out.set (i + j) ((t % 4294967296 : Nat) : Int))[k]? = some 0
        intro k hk1 hk2
        rw [List.length_set] at hk2
        rw [List.getElem?_set_ne (by omega)]
        exact hz k hk1 hk2
      · rw [et]
        show ((t : Nat) : Int).fdiv 4294967296 = _
        rw [Int.fdiv_eq_ediv_of_nonneg _ (by decide)]
        show ((t : Nat) : Int) / 4294967296 = ((t / 4294967296 : Nat) : Int)
        omega
      · show IntKind.i64.wrap ((j : Int) + 1) = ((j + 1 : Nat) : Int)
        rw [IntWalk.i64_in _ (by omega)]; omega
      · rw [et, ew, Nat.zero_add, Int.toNat_natCast, ← irows_set]
        have : IntKind.u32.wrap ((t : Nat) : Int) = ((t % 4294967296 : Nat) : Int) := by rw [IntKind.wrap_u32]; omega
        rw [this]
    · have h2' : ¬ (j : Int) < (b.length : Int) := of_decide_eq_false h2
      have hjb : j = b.length := by omega
      have ew : IntKind.i64.wrap ((i : Int) + ((irows .u32 b).length : Int)) = ((i + b.length : Nat) : Int) := by rw [irows_len, IntWalk.i64_in _ (by omega)]; omega
      have ho := hz (i + b.length) (Nat.le_refl _) (by omega)
      conv => whnf
      refine ⟨⟨by rw [ew]; omega, by rw [ew]; omega⟩, ?_⟩
      conv => whnf
      refine ⟨by rw [ew, irows_len, hl]; omega, ?_⟩
      conv => whnf
      refine ⟨(i + 1, out.set (i + b.length) (c : Int)), [], (by show a.length - (i + 1) < a.length - i; omega), ⟨(by show i + 1 ≤ a.length; omega), ?_, ?_, ?_, ?_⟩,
        ⟨⟨rfl, rfl⟩, ⟨rfl, rfl⟩, ⟨rfl, rfl⟩, ⟨rfl, rfl⟩, ⟨rfl, rfl⟩, ⟨rfl, rfl⟩, ⟨valI ?_, rfl⟩, trivial⟩,
        ⟨⟨rfl, .inr ⟨rfl, rfl⟩⟩, ⟨rfl, .inr ⟨rfl, rfl⟩⟩, ⟨rfl, .inr ⟨rfl, rfl⟩⟩, ⟨rfl, .inl ⟨celE ?_, irows_noid _ _⟩⟩, trivial⟩, rfl⟩
      · show (out.set (i + b.length) (c : Int)).length = _
        rw [List.length_set, hl]
      · exact hL.set ⟨by omega, by omega⟩
      · show val (out.set (i + b.length) (c : Int)) = val (a.take (i + 1)) * val b
        have hs := val_set out (i + b.length) (c : Int) (by omega)
        have h0 : out[i + b.length]'(by omega) = 0 := by
          have := List.getElem?_eq_getElem (l := out) (i := i + b.length) (by omega)
          rw [ho] at this
          injection this with this
          exact this.symm
        rw [h0] at hs
        rw [val_take_succ (by omega), Nat.add_mul]
        rw [hjb, List.take_of_length_le (Nat.le_refl _)] at hv
        simp only [Int.toNat_zero, Nat.zero_mul, Nat.add_zero, Int.toNat_natCast] at hs
        rw [hs, hv]
        congr 1
        rw [Nat.mul_assoc, Nat.mul_comm (val b), ← Nat.mul_assoc]
      · show ∀ k, i + 1 + b.length ≤ k → k < (out.set (i + b.length) (c : Int)).length → (out.set (i + b.length) (c : Int))[k]? = some 0
        intro k hk1 hk2
        rw [List.length_set] at hk2
        rw [List.getElem?_set_ne (by omega)]
        exact hz k (by omega) hk2
      · show IntKind.i64.wrap ((i : Int) + 1) = ((i + 1 : Nat) : Int)
        rw [IntWalk.i64_in _ (by omega)]; omega
      · rw [ew, Nat.zero_add, Int.toNat_natCast, ← irows_set]
        have : IntKind.u32.wrap ((c : Nat) : Int) = (c : Int) := by rw [IntKind.wrap_u32]; omega
        rw [this]
  · have h1' : ¬ (i : Int) < (a.length : Int) := of_decide_eq_false h1
    have hia : i = a.length := by omega
    conv => whnf
    have ht := trim_ok out hL (by omega)
    rw [hv, hia, List.take_of_length_le (Nat.le_refl _)] at ht
    refine ⟨by show 0 + (a.length + b.length) ≤ (irows .u32 out).length; rw [irows_len]; omega, .pure (natA (val a * val b)), ?_, ?_⟩
    · show AC Try.prog 64 [.sl 1 (List.take (a.length + b.length) (List.drop 0 (irows .u32 out))) false] _
      rw [List.drop_zero, List.take_of_length_le (by rw [irows_len, hl]; exact Nat.le_refl _)]
      exact ht
    conv => whnf
    exact rfl

end Go.Proofs.Ytjpefafkejklaaa
