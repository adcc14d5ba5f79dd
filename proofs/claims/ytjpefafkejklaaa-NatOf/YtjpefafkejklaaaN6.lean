/- Contracts of nat: sums. -/
import Derived.Test.YtjpefafkejklaaaN5
set_option linter.unusedVariables false
namespace Go.Proofs.Ytjpefafkejklaaa
open Go Go.AL NM

theorem Add_ge (n m : Nat) (hb : (limbs n).length + (limbs m).length < 4000000000) (hyp : (limbs m).length ≤ (limbs n).length) : AC Try.prog 29 [natA n, natA m] (.pure (natA (n + m))) := by
  refine AC.of_body TTok Try.func29 rfl (enter_of Try.func29 (by kernel_rfl) (by kernel_rfl)) (noid2 (natA_noid n) (natA_noid m)) (natA_noid _) (Nat.le_of_ble_eq_true rfl) ?_
  unfold natA
  have hva := val_limbs n
  have hvb := val_limbs m
  have hLa := limbs_lim n
  have hLb := limbs_lim m
  generalize limbs n = a at *
  generalize limbs m = b at *
  subst hva
  subst hvb
  have e1 : IntKind.i64.wrap (((irows .u32 a).length : Int) + 1) = ((a.length + 1 : Nat) : Int) := by rw [irows_len, IntWalk.i64_in _ (by omega)]; omega
  conv => whnf
  refine ⟨by kernel_rfl, ?_⟩
  conv => whnf
  refine caseb (fun h1 => ?_) (fun h1 => ?_)
  · have h1' : ((irows .u32 a).length : Int) < ((irows .u32 b).length : Int) := of_decide_eq_true h1
    rw [irows_len, irows_len] at h1'
    omega
  clear h1
  conv => whnf
  refine ⟨⟨by rw [e1]; omega, by rw [e1]; omega, ?_⟩, ?_⟩
  · rw [e1]; show ((a.length + 1 : Nat) : Int) * 4 ≤ _; omega
  conv => whnf
  refine SW.loopM TTok (fun z : Nat × Nat × List Int => [(4, .lp 16 0), (5, .sl 1 (irows .u32 a) false), (6, .sl 1 (irows .u32 b) false), (7, .own 136 0 (a.length + 1)), (8, .val (.int .u32 z.2.1)), (27, .val (.int .i64 a.length)), (28, .val (.int .i64 z.1))])
    (fun z => [(16, .cells 1 [[.sl 0 [] true]]), (136, .cells 1 (irows .u32 z.2.2))]) 184 60 rfl (fun z => a.length - z.1)
    (fun z => z.1 ≤ a.length ∧ z.2.1 ≤ 1 ∧ z.2.2.length = a.length + 1 ∧ Lim z.2.2 ∧ val z.2.2 + z.2.1 * 4294967296 ^ z.1 = val (a.take z.1) + val (b.take z.1) ∧ ∀ k, z.1 ≤ k → k < z.2.2.length → z.2.2[k]? = some 0)
    (0, 0, List.replicate (a.length + 1) 0) [] ⟨Nat.zero_le _, Nat.zero_le _, by simp, Lim.rep _, by simp [val_rep, val], fun k _ hk => by simp at hk; simp [hk]⟩
    ⟨⟨rfl, rfl⟩, ⟨rfl, rfl⟩, ⟨rfl, rfl⟩, ⟨ownE rfl ?_, rfl⟩, ⟨rfl, rfl⟩, ⟨valI ?_, rfl⟩, ⟨rfl, rfl⟩, trivial⟩
    ⟨⟨rfl, .inr ⟨rfl, rfl⟩⟩, ⟨rfl, .inl ⟨celE ?_, irows_noid _ _⟩⟩, trivial⟩ rfl ?_
  · rw [e1]; omega
  · rw [irows_len]
  · rw [e1, Int.toNat_natCast, ← irows_rep]; rfl
  rintro ⟨i, c, out⟩ ⟨hi, hc, hl, hL, hv, hz⟩
  have hi : i ≤ a.length := hi
  have hc : c ≤ 1 := hc
  have hl : out.length = a.length + 1 := hl
  have hL : Lim out := hL
  have hv : val out + c * 4294967296 ^ i = val (a.take i) + val (b.take i) := hv
  have hz : ∀ k, i ≤ k → k < out.length → out[k]? = some 0 := hz
  have hklt : i < out.length := by omega
  have h0 : out[i]'hklt = 0 := by
    have := List.getElem?_eq_getElem (l := out) (i := i) hklt
    rw [hz i (Nat.le_refl _) hklt] at this
    injection this with this
    exact this.symm
  conv => whnf
  refine caseb (fun h1 => ?_) (fun h1 => ?_)
  · have h1' : (i : Int) < (a.length : Int) := of_decide_eq_true h1
    have hlt : i < a.length := by omega
    have hx := hLa (a[i]'hlt) (List.getElem_mem _)
    conv => whnf
    refine caseb (fun h2 => ?_) (fun h2 => ?_)
    · have h2' : (i : Int) < ((irows .u32 b).length : Int) := of_decide_eq_true h2
      rw [irows_len] at h2'
      have hylt : i < b.length := by omega
      have hy := hLb (b[i]'hylt) (List.getElem_mem _)
      have hys : val (b.take (i + 1)) = val (b.take i) + (b[i]'hylt).toNat * 4294967296 ^ i := val_take_succ hylt
      conv => whnf
      refine ⟨[.val (.int .u32 (b[i]'hylt))], ⟨by omega, irows_get _ _ (List.getElem?_eq_getElem hylt)⟩, ?_⟩
      conv => whnf
      refine ⟨[.val (.int .u32 (a[i]'hlt))], ⟨by omega, irows_get _ _ (List.getElem?_eq_getElem hlt)⟩, ?_⟩
      conv => whnf
      refine ⟨_, Add32_ok (a[i]'hlt) (b[i]'hylt) (c : Int) hx hy ⟨by omega, by omega⟩, ?_⟩
      conv => whnf
      refine ⟨⟨by omega, by omega⟩, ?_⟩
      conv => whnf
      refine ⟨by rw [irows_len, hl]; omega, ?_⟩
      conv => whnf
      have hstep := mul_step (out := out) (p := i) hklt hv (z := (a[i]'hlt).toNat + ((b[i]'hylt) : Int).toNat) rfl
      rw [h0] at hstep
      have et : a[i]'hlt + (b[i]'hylt) + (c : Int) = (((a[i]'hlt).toNat + ((b[i]'hylt) : Int).toNat + (0 : Int).toNat + c : Nat) : Int) := by
        have h1 := hx.1
        have h2 := (show 0 ≤ (b[i]'hylt) ∧ (b[i]'hylt) < 4294967296 from hy).1
        rw [Int.natCast_add, Int.natCast_add, Int.natCast_add, Int.toNat_of_nonneg h1, Int.toNat_of_nonneg h2]
        simp
      have htb : (a[i]'hlt).toNat + ((b[i]'hylt) : Int).toNat + (0 : Int).toNat + c < 8589934592 := by
        have h1 := hx.2
        have h2 := (show 0 ≤ (b[i]'hylt) ∧ (b[i]'hylt) < 4294967296 from hy).2
        omega
      generalize htt : (a[i]'hlt).toNat + ((b[i]'hylt) : Int).toNat + (0 : Int).toNat + c = t at *
      refine ⟨(i + 1, t / 4294967296, out.set i ((t % 4294967296 : Nat) : Int)), [], (by show a.length - (i + 1) < a.length - i; omega), ⟨(by show i + 1 ≤ a.length; omega), ?_, ?_, ?_, ?_, ?_⟩,
        ⟨⟨rfl, rfl⟩, ⟨rfl, rfl⟩, ⟨rfl, rfl⟩, ⟨rfl, rfl⟩, ⟨valI ?_, rfl⟩, ⟨rfl, rfl⟩, ⟨valI ?_, rfl⟩, trivial⟩,
        ⟨⟨rfl, .inr ⟨rfl, rfl⟩⟩, ⟨rfl, .inl ⟨celE ?_, irows_noid _ _⟩⟩, trivial⟩, rfl⟩
      · show t / 4294967296 ≤ 1
        omega
      · show (out.set i ((t % 4294967296 : Nat) : Int)).length = _
        rw [List.length_set, hl]
      · exact hL.set ⟨by omega, by omega⟩
      · show val (out.set i ((t % 4294967296 : Nat) : Int)) + t / 4294967296 * 4294967296 ^ (i + 1) = val (a.take (i + 1)) + val (b.take (i + 1))
        rw [hstep, val_take_succ hlt, hys, Nat.add_mul]
        omega
      · show ∀ k, i + 1 ≤ k → k < (out.set i ((t % 4294967296 : Nat) : Int)).length → (out.set i ((t % 4294967296 : Nat) : Int))[k]? = some 0
        intro k hk1 hk2
        rw [List.length_set] at hk2
        rw [List.getElem?_set_ne (by omega)]
        exact hz k (by omega) hk2
      · show (a[i]'hlt + (b[i]'hylt) + (c : Int)) / 4294967296 = ((t / 4294967296 : Nat) : Int)
        rw [et]; omega
      · show IntKind.i64.wrap ((i : Int) + 1) = ((i + 1 : Nat) : Int)
        rw [IntWalk.i64_in _ (by omega)]; omega
      · show (irows .u32 out).set (0 + (i : Int).toNat) [AV.val (.int .u32 ((a[i]'hlt + (b[i]'hylt) + (c : Int)) % 4294967296))] = _
        rw [et, Nat.zero_add, Int.toNat_natCast, ← irows_set]
        rfl
    · have h2' : ¬ (i : Int) < ((irows .u32 b).length : Int) := of_decide_eq_false h2
      rw [irows_len] at h2'
      have hys : val (b.take (i + 1)) = val (b.take i) + (0 : Int).toNat * 4294967296 ^ i := by
        rw [List.take_of_length_le (by omega), List.take_of_length_le (by omega)]
        simp
      conv => whnf
      refine ⟨[.val (.int .u32 (a[i]'hlt))], ⟨by omega, irows_get _ _ (List.getElem?_eq_getElem hlt)⟩, ?_⟩
      conv => whnf
      refine ⟨_, Add32_ok (a[i]'hlt) (0 : Int) (c : Int) hx ⟨by decide, by decide⟩ ⟨by omega, by omega⟩, ?_⟩
      conv => whnf
      refine ⟨⟨by omega, by omega⟩, ?_⟩
      conv => whnf
      refine ⟨by rw [irows_len, hl]; omega, ?_⟩
      conv => whnf
      have hstep := mul_step (out := out) (p := i) hklt hv (z := (a[i]'hlt).toNat + ((0 : Int) : Int).toNat) rfl
      rw [h0] at hstep
      have et : a[i]'hlt + (0 : Int) + (c : Int) = (((a[i]'hlt).toNat + ((0 : Int) : Int).toNat + (0 : Int).toNat + c : Nat) : Int) := by
        have h1 := hx.1
        have h2 := (show 0 ≤ (0 : Int) ∧ (0 : Int) < 4294967296 from ⟨by decide, by decide⟩).1
        rw [Int.natCast_add, Int.natCast_add, Int.natCast_add, Int.toNat_of_nonneg h1, Int.toNat_of_nonneg h2]
        simp
      have htb : (a[i]'hlt).toNat + ((0 : Int) : Int).toNat + (0 : Int).toNat + c < 8589934592 := by
        have h1 := hx.2
        have h2 := (show 0 ≤ (0 : Int) ∧ (0 : Int) < 4294967296 from ⟨by decide, by decide⟩).2
        omega
      generalize htt : (a[i]'hlt).toNat + ((0 : Int) : Int).toNat + (0 : Int).toNat + c = t at *
      refine ⟨(i + 1, t / 4294967296, out.set i ((t % 4294967296 : Nat) : Int)), [], (by show a.length - (i + 1) < a.length - i; omega), ⟨(by show i + 1 ≤ a.length; omega), ?_, ?_, ?_, ?_, ?_⟩,
        ⟨⟨rfl, rfl⟩, ⟨rfl, rfl⟩, ⟨rfl, rfl⟩, ⟨rfl, rfl⟩, ⟨valI ?_, rfl⟩, ⟨rfl, rfl⟩, ⟨valI ?_, rfl⟩, trivial⟩,
        ⟨⟨rfl, .inr ⟨rfl, rfl⟩⟩, ⟨rfl, .inl ⟨celE ?_, irows_noid _ _⟩⟩, trivial⟩, rfl⟩
      · show t / 4294967296 ≤ 1
        omega
      · show (out.set i ((t % 4294967296 : Nat) : Int)).length = _
        rw [List.length_set, hl]
      · exact hL.set ⟨by omega, by omega⟩
      · show val (out.set i ((t % 4294967296 : Nat) : Int)) + t / 4294967296 * 4294967296 ^ (i + 1) = val (a.take (i + 1)) + val (b.take (i + 1))
        rw [hstep, val_take_succ hlt, hys, Nat.add_mul]
        omega
      · show ∀ k, i + 1 ≤ k → k < (out.set i ((t % 4294967296 : Nat) : Int)).length → (out.set i ((t % 4294967296 : Nat) : Int))[k]? = some 0
        intro k hk1 hk2
        rw [List.length_set] at hk2
        rw [List.getElem?_set_ne (by omega)]
        exact hz k (by omega) hk2
      · show (a[i]'hlt + (0 : Int) + (c : Int)) / 4294967296 = ((t / 4294967296 : Nat) : Int)
        rw [et]; omega
      · show IntKind.i64.wrap ((i : Int) + 1) = ((i + 1 : Nat) : Int)
        rw [IntWalk.i64_in _ (by omega)]; omega
      · show (irows .u32 out).set (0 + (i : Int).toNat) [AV.val (.int .u32 ((a[i]'hlt + (0 : Int) + (c : Int)) % 4294967296))] = _
        rw [et, Nat.zero_add, Int.toNat_natCast, ← irows_set]
        rfl
  · have h1' : ¬ (i : Int) < (a.length : Int) := of_decide_eq_false h1
    have hia : i = a.length := by omega
    conv => whnf
    refine ⟨⟨by rw [irows_len]; omega, by rw [irows_len]; omega⟩, ?_⟩
    conv => whnf
    refine ⟨by show 0 + ((irows .u32 a).length : Int).toNat < (irows .u32 out).length; rw [irows_len, irows_len]; omega, ?_⟩
    conv => whnf
    have hs := val_set out i (c : Int) hklt
    rw [h0] at hs
    simp only [Int.toNat_zero, Nat.zero_mul, Nat.add_zero, Int.toNat_natCast] at hs
    rw [hv, hia, List.take_of_length_le (Nat.le_refl _), List.take_of_length_le (by omega)] at hs
    have ht := trim_ok (out.set a.length (c : Int)) (hL.set ⟨by omega, by omega⟩) (by rw [List.length_set]; omega)
    rw [hs] at ht
    have es : (irows .u32 out).set (0 + ((irows .u32 a).length : Int).toNat) [AV.val (.int .u32 (c : Int))] = irows .u32 (out.set a.length (c : Int)) := by
      rw [irows_len, Nat.zero_add, Int.toNat_natCast, ← irows_set]
    refine ⟨by show 0 + (a.length + 1) ≤ ((irows .u32 out).set (0 + ((irows .u32 a).length : Int).toNat) [AV.val (.int .u32 (c : Int))]).length; rw [es, irows_len, List.length_set]; omega, .pure (natA (val a + val b)), ?_, ?_⟩
    · show AC Try.prog 64 [.sl 1 (List.take (a.length + 1) (List.drop 0 ((irows .u32 out).set (0 + ((irows .u32 a).length : Int).toNat) [AV.val (.int .u32 (c : Int))]))) false] _
      rw [es, List.drop_zero, List.take_of_length_le (by rw [irows_len, List.length_set, hl]; exact Nat.le_refl _)]
      exact ht
    conv => whnf
    exact rfl

theorem Add_lt (n m : Nat) (hb : (limbs n).length + (limbs m).length < 4000000000) (hyp : (limbs n).length < (limbs m).length) : AC Try.prog 29 [natA n, natA m] (.pure (natA (n + m))) := by
  refine AC.of_body TTok Try.func29 rfl (enter_of Try.func29 (by kernel_rfl) (by kernel_rfl)) (noid2 (natA_noid n) (natA_noid m)) (natA_noid _) (Nat.le_of_ble_eq_true rfl) ?_
  unfold natA
  have hva := val_limbs n
  have hvb := val_limbs m
  have hLa := limbs_lim n
  have hLb := limbs_lim m
  generalize limbs n = a at *
  generalize limbs m = b at *
  subst hva
  subst hvb
  have e1 : IntKind.i64.wrap (((irows .u32 b).length : Int) + 1) = ((b.length + 1 : Nat) : Int) := by rw [irows_len, IntWalk.i64_in _ (by omega)]; omega
  conv => whnf
  refine ⟨by kernel_rfl, ?_⟩
  conv => whnf
  refine caseb (fun h1 => ?_) (fun h1 => ?_)
  rotate_left
  · have h1' : ¬ ((irows .u32 a).length : Int) < ((irows .u32 b).length : Int) := of_decide_eq_false h1
    rw [irows_len, irows_len] at h1'
    omega
  clear h1
  conv => whnf
  refine ⟨⟨by rw [e1]; omega, by rw [e1]; omega, ?_⟩, ?_⟩
  · rw [e1]; show ((b.length + 1 : Nat) : Int) * 4 ≤ _; omega
  conv => whnf
  refine SW.loopM TTok (fun z : Nat × Nat × List Int => [(4, .lp 16 0), (5, .sl 1 (irows .u32 b) false), (6, .sl 1 (irows .u32 a) false), (7, .own 168 0 (b.length + 1)), (8, .val (.int .u32 z.2.1)), (27, .val (.int .i64 b.length)), (28, .val (.int .i64 z.1))])
    (fun z => [(16, .cells 1 [[.sl 0 [] true]]), (168, .cells 1 (irows .u32 z.2.2))]) 216 60 rfl (fun z => b.length - z.1)
    (fun z => z.1 ≤ b.length ∧ z.2.1 ≤ 1 ∧ z.2.2.length = b.length + 1 ∧ Lim z.2.2 ∧ val z.2.2 + z.2.1 * 4294967296 ^ z.1 = val (b.take z.1) + val (a.take z.1) ∧ ∀ k, z.1 ≤ k → k < z.2.2.length → z.2.2[k]? = some 0)
    (0, 0, List.replicate (b.length + 1) 0) [] ⟨Nat.zero_le _, Nat.zero_le _, by simp, Lim.rep _, by simp [val_rep, val], fun k _ hk => by simp at hk; simp [hk]⟩
    ⟨⟨rfl, rfl⟩, ⟨rfl, rfl⟩, ⟨rfl, rfl⟩, ⟨ownE rfl ?_, rfl⟩, ⟨rfl, rfl⟩, ⟨valI ?_, rfl⟩, ⟨rfl, rfl⟩, trivial⟩
    ⟨⟨rfl, .inr ⟨rfl, rfl⟩⟩, ⟨rfl, .inl ⟨celE ?_, irows_noid _ _⟩⟩, trivial⟩ rfl ?_
  · rw [e1]; omega
  · rw [irows_len]
  · rw [e1, Int.toNat_natCast, ← irows_rep]; rfl
  rintro ⟨i, c, out⟩ ⟨hi, hc, hl, hL, hv, hz⟩
  have hi : i ≤ b.length := hi
  have hc : c ≤ 1 := hc
  have hl : out.length = b.length + 1 := hl
  have hL : Lim out := hL
  have hv : val out + c * 4294967296 ^ i = val (b.take i) + val (a.take i) := hv
  have hz : ∀ k, i ≤ k → k < out.length → out[k]? = some 0 := hz
  have hklt : i < out.length := by omega
  have h0 : out[i]'hklt = 0 := by
    have := List.getElem?_eq_getElem (l := out) (i := i) hklt
    rw [hz i (Nat.le_refl _) hklt] at this
    injection this with this
    exact this.symm
  conv => whnf
  refine caseb (fun h1 => ?_) (fun h1 => ?_)
  · have h1' : (i : Int) < (b.length : Int) := of_decide_eq_true h1
    have hlt : i < b.length := by omega
    have hx := hLb (b[i]'hlt) (List.getElem_mem _)
    conv => whnf
    refine caseb (fun h2 => ?_) (fun h2 => ?_)
    · have h2' : (i : Int) < ((irows .u32 a).length : Int) := of_decide_eq_true h2
      rw [irows_len] at h2'
      have hylt : i < a.length := by omega
      have hy := hLa (a[i]'hylt) (List.getElem_mem _)
      have hys : val (a.take (i + 1)) = val (a.take i) + (a[i]'hylt).toNat * 4294967296 ^ i := val_take_succ hylt
      conv => whnf
      refine ⟨[.val (.int .u32 (a[i]'hylt))], ⟨by omega, irows_get _ _ (List.getElem?_eq_getElem hylt)⟩, ?_⟩
      conv => whnf
      refine ⟨[.val (.int .u32 (b[i]'hlt))], ⟨by omega, irows_get _ _ (List.getElem?_eq_getElem hlt)⟩, ?_⟩
      conv => whnf
      refine ⟨_, Add32_ok (b[i]'hlt) (a[i]'hylt) (c : Int) hx hy ⟨by omega, by omega⟩, ?_⟩
      conv => whnf
      refine ⟨⟨by omega, by omega⟩, ?_⟩
      conv => whnf
      refine ⟨by rw [irows_len, hl]; omega, ?_⟩
      conv => whnf
      have hstep := mul_step (out := out) (p := i) hklt hv (z := (b[i]'hlt).toNat + ((a[i]'hylt) : Int).toNat) rfl
      rw [h0] at hstep
      have et : b[i]'hlt + (a[i]'hylt) + (c : Int) = (((b[i]'hlt).toNat + ((a[i]'hylt) : Int).toNat + (0 : Int).toNat + c : Nat) : Int) := by
        have h1 := hx.1
        have h2 := (show 0 ≤ (a[i]'hylt) ∧ (a[i]'hylt) < 4294967296 from hy).1
        rw [Int.natCast_add, Int.natCast_add, Int.natCast_add, Int.toNat_of_nonneg h1, Int.toNat_of_nonneg h2]
        simp
      have htb : (b[i]'hlt).toNat + ((a[i]'hylt) : Int).toNat + (0 : Int).toNat + c < 8589934592 := by
        have h1 := hx.2
        have h2 := (show 0 ≤ (a[i]'hylt) ∧ (a[i]'hylt) < 4294967296 from hy).2
        omega
      generalize htt : (b[i]'hlt).toNat + ((a[i]'hylt) : Int).toNat + (0 : Int).toNat + c = t at *
      refine ⟨(i + 1, t / 4294967296, out.set i ((t % 4294967296 : Nat) : Int)), [], (by show b.length - (i + 1) < b.length - i; omega), ⟨(by show i + 1 ≤ b.length; omega), ?_, ?_, ?_, ?_, ?_⟩,
        ⟨⟨rfl, rfl⟩, ⟨rfl, rfl⟩, ⟨rfl, rfl⟩, ⟨rfl, rfl⟩, ⟨valI ?_, rfl⟩, ⟨rfl, rfl⟩, ⟨valI ?_, rfl⟩, trivial⟩,
        ⟨⟨rfl, .inr ⟨rfl, rfl⟩⟩, ⟨rfl, .inl ⟨celE ?_, irows_noid _ _⟩⟩, trivial⟩, rfl⟩
      · show t / 4294967296 ≤ 1
        omega
      · show (out.set i ((t % 4294967296 : Nat) : Int)).length = _
        rw [List.length_set, hl]
      · exact hL.set ⟨by omega, by omega⟩
      · show val (out.set i ((t % 4294967296 : Nat) : Int)) + t / 4294967296 * 4294967296 ^ (i + 1) = val (b.take (i + 1)) + val (a.take (i + 1))
        rw [hstep, val_take_succ hlt, hys, Nat.add_mul]
        omega
      · show ∀ k, i + 1 ≤ k → k < (out.set i ((t % 4294967296 : Nat) : Int)).length → (out.set i ((t % 4294967296 : Nat) : Int))[k]? = some 0
        intro k hk1 hk2
        rw [List.length_set] at hk2
        rw [List.getElem?_set_ne (by omega)]
        exact hz k (by omega) hk2
      · show (b[i]'hlt + (a[i]'hylt) + (c : Int)) / 4294967296 = ((t / 4294967296 : Nat) : Int)
        rw [et]; omega
      · show IntKind.i64.wrap ((i : Int) + 1) = ((i + 1 : Nat) : Int)
        rw [IntWalk.i64_in _ (by omega)]; omega
      · show (irows .u32 out).set (0 + (i : Int).toNat) [AV.val (.int .u32 ((b[i]'hlt + (a[i]'hylt) + (c : Int)) % 4294967296))] = _
        rw [et, Nat.zero_add, Int.toNat_natCast, ← irows_set]
        rfl
    · have h2' : ¬ (i : Int) < ((irows .u32 a).length : Int) := of_decide_eq_false h2
      rw [irows_len] at h2'
      have hys : val (a.take (i + 1)) = val (a.take i) + (0 : Int).toNat * 4294967296 ^ i := by
        rw [List.take_of_length_le (by omega), List.take_of_length_le (by omega)]
        simp
      conv => whnf
      refine ⟨[.val (.int .u32 (b[i]'hlt))], ⟨by omega, irows_get _ _ (List.getElem?_eq_getElem hlt)⟩, ?_⟩
      conv => whnf
      refine ⟨_, Add32_ok (b[i]'hlt) (0 : Int) (c : Int) hx ⟨by decide, by decide⟩ ⟨by omega, by omega⟩, ?_⟩
      conv => whnf
      refine ⟨⟨by omega, by omega⟩, ?_⟩
      conv => whnf
      refine ⟨by rw [irows_len, hl]; omega, ?_⟩
      conv => whnf
      have hstep := mul_step (out := out) (p := i) hklt hv (z := (b[i]'hlt).toNat + ((0 : Int) : Int).toNat) rfl
      rw [h0] at hstep
      have et : b[i]'hlt + (0 : Int) + (c : Int) = (((b[i]'hlt).toNat + ((0 : Int) : Int).toNat + (0 : Int).toNat + c : Nat) : Int) := by
        have h1 := hx.1
        have h2 := (show 0 ≤ (0 : Int) ∧ (0 : Int) < 4294967296 from ⟨by decide, by decide⟩).1
        rw [Int.natCast_add, Int.natCast_add, Int.natCast_add, Int.toNat_of_nonneg h1, Int.toNat_of_nonneg h2]
        simp
      have htb : (b[i]'hlt).toNat + ((0 : Int) : Int).toNat + (0 : Int).toNat + c < 8589934592 := by
        have h1 := hx.2
        have h2 := (show 0 ≤ (0 : Int) ∧ (0 : Int) < 4294967296 from ⟨by decide, by decide⟩).2
        omega
      generalize htt : (b[i]'hlt).toNat + ((0 : Int) : Int).toNat + (0 : Int).toNat + c = t at *
      refine ⟨(i + 1, t / 4294967296, out.set i ((t % 4294967296 : Nat) : Int)), [], (by show b.length - (i + 1) < b.length - i; omega), ⟨(by show i + 1 ≤ b.length; omega), ?_, ?_, ?_, ?_, ?_⟩,
        ⟨⟨rfl, rfl⟩, ⟨rfl, rfl⟩, ⟨rfl, rfl⟩, ⟨rfl, rfl⟩, ⟨valI ?_, rfl⟩, ⟨rfl, rfl⟩, ⟨valI ?_, rfl⟩, trivial⟩,
        ⟨⟨rfl, .inr ⟨rfl, rfl⟩⟩, ⟨rfl, .inl ⟨celE ?_, irows_noid _ _⟩⟩, trivial⟩, rfl⟩
      · show t / 4294967296 ≤ 1
        omega
      · show (out.set i ((t % 4294967296 : Nat) : Int)).length = _
        rw [List.length_set, hl]
      · exact hL.set ⟨by omega, by omega⟩
      · show val (out.set i ((t % 4294967296 : Nat) : Int)) + t / 4294967296 * 4294967296 ^ (i + 1) = val (b.take (i + 1)) + val (a.take (i + 1))
        rw [hstep, val_take_succ hlt, hys, Nat.add_mul]
        omega
      · show ∀ k, i + 1 ≤ k → k < (out.set i ((t % 4294967296 : Nat) : Int)).length → (out.set i ((t % 4294967296 : Nat) : Int))[k]? = some 0
        intro k hk1 hk2
        rw [List.length_set] at hk2
        rw [List.getElem?_set_ne (by omega)]
        exact hz k (by omega) hk2
      · show (b[i]'hlt + (0 : Int) + (c : Int)) / 4294967296 = ((t / 4294967296 : Nat) : Int)
        rw [et]; omega
      · show IntKind.i64.wrap ((i : Int) + 1) = ((i + 1 : Nat) : Int)
        rw [IntWalk.i64_in _ (by omega)]; omega
      · show (irows .u32 out).set (0 + (i : Int).toNat) [AV.val (.int .u32 ((b[i]'hlt + (0 : Int) + (c : Int)) % 4294967296))] = _
        rw [et, Nat.zero_add, Int.toNat_natCast, ← irows_set]
        rfl
  · have h1' : ¬ (i : Int) < (b.length : Int) := of_decide_eq_false h1
    have hia : i = b.length := by omega
    conv => whnf
    refine ⟨⟨by rw [irows_len]; omega, by rw [irows_len]; omega⟩, ?_⟩
    conv => whnf
    refine ⟨by show 0 + ((irows .u32 b).length : Int).toNat < (irows .u32 out).length; rw [irows_len, irows_len]; omega, ?_⟩
    conv => whnf
    have hs := val_set out i (c : Int) hklt
    rw [h0] at hs
    simp only [Int.toNat_zero, Nat.zero_mul, Nat.add_zero, Int.toNat_natCast] at hs
    rw [hv, hia, List.take_of_length_le (Nat.le_refl _), List.take_of_length_le (by omega)] at hs
    have ht := trim_ok (out.set b.length (c : Int)) (hL.set ⟨by omega, by omega⟩) (by rw [List.length_set]; omega)
    rw [hs] at ht
    have es : (irows .u32 out).set (0 + ((irows .u32 b).length : Int).toNat) [AV.val (.int .u32 (c : Int))] = irows .u32 (out.set b.length (c : Int)) := by
      rw [irows_len, Nat.zero_add, Int.toNat_natCast, ← irows_set]
    refine ⟨by show 0 + (b.length + 1) ≤ ((irows .u32 out).set (0 + ((irows .u32 b).length : Int).toNat) [AV.val (.int .u32 (c : Int))]).length; rw [es, irows_len, List.length_set]; omega, .pure (natA (val b + val a)), ?_, ?_⟩
    · show AC Try.prog 64 [.sl 1 (List.take (b.length + 1) (List.drop 0 ((irows .u32 out).set (0 + ((irows .u32 b).length : Int).toNat) [AV.val (.int .u32 (c : Int))]))) false] _
      rw [es, List.drop_zero, List.take_of_length_le (by rw [irows_len, List.length_set, hl]; exact Nat.le_refl _)]
      exact ht
    conv => whnf
    rw [Nat.add_comm]; exact rfl

theorem Add_ok (n m : Nat) (hb : (limbs n).length + (limbs m).length < 4000000000) : AC Try.prog 29 [natA n, natA m] (.pure (natA (n + m))) := by
  rcases Nat.lt_or_ge (limbs n).length (limbs m).length with h | h
  · exact Add_lt n m hb h
  · exact Add_ge n m hb h

end Go.Proofs.Ytjpefafkejklaaa
