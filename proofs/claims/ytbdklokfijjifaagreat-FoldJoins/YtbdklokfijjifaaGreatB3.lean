/- Contracts of nat: sums. -/
import Derived.Test.YtbdklokfijjifaaGreatB2
set_option linter.unusedVariables false
namespace Go.Proofs.YtbdklokfijjifaaGreat
open Go Go.AL NM

theorem Add_ge (n m : Nat) (hb : (limbs n).length + (limbs m).length < 4000000000) (hyp : (limbs m).length ≤ (limbs n).length) : AC Tryz.prog 145 [natA n, natA m] (.pure (natA (n + m))) := by
  refine AC.of_body TTok Tryz.func145 rfl (enter_of Tryz.func145 (by kernel_rfl) (by kernel_rfl)) (noid2 (natA_noid n) (natA_noid m)) (natA_noid _) (Nat.le_of_ble_eq_true rfl) ?_
  unfold natA
  have hva := val_limbs n
  have hvb := val_limbs m
  have hLa := limbs_lim n
  have hLb := limbs_lim m
  generalize limbs n = a at *
  generalize limbs m = b at *
  subst hva
  subst hvb
  have e1 : IntKind.i64.wrap (((irows .u32 a).length : Int) + 1) = ((a.length + 1 : Nat) : Int) := by rw [irows_len, IntWalk.i64_in _ (by omega)]; omega
  conv => whnf
  refine ⟨by kernel_rfl, ?_⟩
  conv => whnf
  refine caseb (fun h1 => ?_) (fun h1 => ?_)
  · have h1' : ((irows .u32 a).length : Int) < ((irows .u32 b).length : Int) := of_decide_eq_true h1
    rw [irows_len, irows_len] at h1'
    omega
  clear h1
  conv => whnf
  refine ⟨⟨by rw [e1]; omega, by rw [e1]; omega, ?_⟩, ?_⟩
  · rw [e1]; show ((a.length + 1 : Nat) : Int) * 4 ≤ _; omega
  conv => whnf
  refine SW.loopM TTok (fun z : Nat × Nat × List Int => [(4, .lp 16 0), (5, .sl 1 (irows .u32 a) false), (6, .sl 1 (irows .u32 b) false), (7, .own 136 0 (a.length + 1)), (8, .val (.int .u32 z.2.1)), (27, .val (.int .i64 a.length)), (28, .val (.int .i64 z.1))])
    (fun z => [(16, .cells 1 [[.sl 0 [] true]]), (136, .cells 1 (irows .u32 z.2.2))]) 184 60 rfl (fun z => a.length - z.1)
    (fun z => z.1 ≤ a.length ∧ z.2.1 ≤ 1 ∧ z.2.2.length = a.length + 1 ∧ Lim z.2.2 ∧ val z.2.2 + z.2.1 * 4294967296 ^ z.1 = val (a.take z.1) + val (b.take z.1) ∧ ∀ k, z.1 ≤ k → k < z.2.2.length → z.2.2[k]? = some 0)
    (0, 0, List.replicate (a.length + 1) 0) [] ⟨Nat.zero_le _, Nat.zero_le _, by simp, Lim.rep _, by simp [val_rep, val], fun k _ hk => by simp at hk; simp [hk]⟩
    ⟨⟨rfl, rfl⟩, ⟨rfl, rfl⟩, ⟨rfl, rfl⟩, ⟨ownE rfl ?_, rfl⟩, ⟨rfl, rfl⟩, ⟨valI ?_, rfl⟩, ⟨rfl, rfl⟩, trivial⟩
    ⟨⟨rfl, .inr ⟨rfl, rfl⟩⟩, ⟨rfl, .inl ⟨celE ?_, irows_noid _ _⟩⟩, trivial⟩ rfl ?_
  · rw [e1]; omega
  · rw [irows_len]
  · rw [e1, Int.toNat_natCast, ← irows_rep]; rfl
  rintro ⟨i, c, out⟩ ⟨hi, hc, hl, hL, hv, hz⟩
  have hi : i ≤ a.length := hi
  have hc : c ≤ 1 := hc
  have hl : out.length = a.length + 1 := hl
  have hL : Lim out := hL
  have hv : val out + c * 4294967296 ^ i = val (a.take i) + val (b.take i) := hv
  have hz : ∀ k, i ≤ k → k < out.length → out[k]? = some 0 := hz
  have hklt : i < out.length := by omega
  have h0 : out[i]'hklt = 0 := by
    have := List.getElem?_eq_getElem (l := out) (i := i) hklt
    rw [hz i (Nat.le_refl _) hklt] at this
    injection this with this
    exact this.symm
  conv => whnf
  refine caseb (fun h1 => ?_) (fun h1 => ?_)
  · have h1' : (i : Int) < (a.length : Int) := of_decide_eq_true h1
    have hlt : i < a.length := by omega
    have hx := hLa (a[i]'hlt) (List.getElem_mem _)
    conv => whnf
    refine caseb (fun h2 => ?_) (fun h2 => ?_)
    · have h2' : (i : Int) < ((irows .u32 b).length : Int) := of_decide_eq_true h2
      rw [irows_len] at h2'
      have hylt : i < b.length := by omega
      have hy := hLb (b[i]'hylt) (List.getElem_mem _)
      have hys : val (b.take (i + 1)) = val (b.take i) + (b[i]'hylt).toNat * 4294967296 ^ i := val_take_succ hylt
      conv => whnf
      refine ⟨[.val (.int .u32 (b[i]'hylt))], ⟨by omega, irows_get _ _ (List.getElem?_eq_getElem hylt)⟩, ?_⟩
      conv => whnf
      refine ⟨[.val (.int .u32 (a[i]'hlt))], ⟨by omega, irows_get _ _ (List.getElem?_eq_getElem hlt)⟩, ?_⟩
      conv => whnf
      refine ⟨_, Add32_ok (a[i]'hlt) (b[i]'hylt) (c : Int) hx hy ⟨by omega, by omega⟩, ?_⟩
      conv => whnf
      refine ⟨⟨by omega, by omega⟩, ?_⟩
      conv => whnf
      refine ⟨by rw [irows_len, hl]; omega, ?_⟩
      conv => whnf
      have hstep := mul_step (out := out) (p := i) hklt hv (z := (a[i]'hlt).toNat + ((b[i]'hylt) : Int).toNat) rfl
      rw [h0] at hstep
      have et : a[i]'hlt + (b[i]'hylt) + (c : Int) = (((a[i]'hlt).toNat + ((b[i]'hylt) : Int).toNat + (0 : Int).toNat + c : Nat) : Int) := by
        have h1 := hx.1
        have h2 := (show 0 ≤ (b[i]'hylt) ∧ (b[i]'hylt) < 4294967296 from hy).1
        rw [Int.natCast_add, Int.natCast_add, Int.natCast_add, Int.toNat_of_nonneg h1, Int.toNat_of_nonneg h2]
        simp
      have htb : (a[i]'hlt).toNat + ((b[i]'hylt) : Int).toNat + (0 : Int).toNat + c < 8589934592 := by
        have h1 := hx.2
        have h2 := (show 0 ≤ (b[i]'hylt) ∧ (b[i]'hylt) < 4294967296 from hy).2
        omega
      generalize htt : (a[i]'hlt).toNat + ((b[i]'hylt) : Int).toNat + (0 : Int).toNat + c = t at *
      refine ⟨(i + 1, t / 4294967296, out.set i ((t % 4294967296 : Nat) : Int)), [], (by show a.length - (i + 1) < a.length - i; omega), ⟨(by show i + 1 ≤ a.length; omega), ?_, ?_, ?_, ?_, ?_⟩,
        ⟨⟨rfl, rfl⟩, ⟨rfl, rfl⟩, ⟨rfl, rfl⟩, ⟨rfl, rfl⟩, ⟨valI ?_, rfl⟩, ⟨rfl, rfl⟩, ⟨valI ?_, rfl⟩, trivial⟩,
        ⟨⟨rfl, .inr ⟨rfl, rfl⟩⟩, ⟨rfl, .inl ⟨celE ?_, irows_noid _ _⟩⟩, trivial⟩, rfl⟩
      · show t / 4294967296 ≤ 1
        omega
      · show (out.set i ((t % 4294967296 : Nat) : Int)).length = _
        rw [List.length_set, hl]
      · exact hL.set ⟨by omega, by omega⟩
      · show val (out.set i ((t % 4294967296 : Nat) : Int)) + t / 4294967296 * 4294967296 ^ (i + 1) = val (a.take (i + 1)) + val (b.take (i + 1))
        rw [hstep, val_take_succ hlt, hys, Nat.add_mul]
        omega
      · show ∀ k, i + 1 ≤ k → k < (out.set i ((t % 4294967296 : Nat) : Int)).length → (out.set i ((t % 4294967296 : Nat) : Int))[k]? = some 0
        intro k hk1 hk2
        rw [List.length_set] at hk2
        rw [List.getElem?_set_ne (by omega)]
        exact hz k (by omega) hk2
      · show (a[i]'hlt + (b[i]'hylt) + (c : Int)) / 4294967296 = ((t / 4294967296 : Nat) : Int)
        rw [et]; omega
      · show IntKind.i64.wrap ((i : Int) + 1) = ((i + 1 : Nat) : Int)
        rw [IntWalk.i64_in _ (by omega)]; omega
      · show (irows .u32 out).set (0 + (i : Int).toNat) [AV.val (.int .u32 ((a[i]'hlt + (b[i]'hylt) + (c : Int)) % 4294967296))] = _
        rw [et, Nat.zero_add, Int.toNat_natCast, ← irows_set]
        rfl
    · have h2' : ¬ (i : Int) < ((irows .u32 b).length : Int) := of_decide_eq_false h2
      rw [irows_len] at h2'
      have hys : val (b.take (i + 1)) = val (b.take i) + (0 : Int).toNat * 4294967296 ^ i := by
        rw [List.take_of_length_le (by omega), List.take_of_length_le (by omega)]
        simp
      conv => whnf
      refine ⟨[.val (.int .u32 (a[i]'hlt))], ⟨by omega, irows_get _ _ (List.getElem?_eq_getElem hlt)⟩, ?_⟩
      conv => whnf
      refine ⟨_, Add32_ok (a[i]'hlt) (0 : Int) (c : Int) hx ⟨by decide, by decide⟩ ⟨by omega, by omega⟩, ?_⟩
      conv => whnf
      refine ⟨⟨by omega, by omega⟩, ?_⟩
      conv => whnf
      refine ⟨by rw [irows_len, hl]; omega, ?_⟩
      conv => whnf
      have hstep := mul_step (out := out) (p := i) hklt hv (z := (a[i]'hlt).toNat + ((0 : Int) : Int).toNat) rfl
      rw [h0] at hstep
      have et : a[i]'hlt + (0 : Int) + (c : Int) = (((a[i]'hlt).toNat + ((0 : Int) : Int).toNat + (0 : Int).toNat + c : Nat) : Int) := by
        have h1 := hx.1
        have h2 := (show 0 ≤ (0 : Int) ∧ (0 : Int) < 4294967296 from ⟨by decide, by decide⟩).1
        rw [Int.natCast_add, Int.natCast_add, Int.natCast_add, Int.toNat_of_nonneg h1, Int.toNat_of_nonneg h2]
        simp
      have htb : (a[i]'hlt).toNat + ((0 : Int) : Int).toNat + (0 : Int).toNat + c < 8589934592 := by
        have h1 := hx.2
        have h2 := (show 0 ≤ (0 : Int) ∧ (0 : Int) < 4294967296 from ⟨by decide, by decide⟩).2
        omega
      generalize htt : (a[i]'hlt).toNat + ((0 : Int) : Int).toNat + (0 : Int).toNat + c = t at *
      refine ⟨(i + 1, t / 4294967296, out.set i ((t % 4294967296 : Nat) : Int)), [], (by show a.length - (i + 1) < a.length - i; omega), ⟨(by show i + 1 ≤ a.length; omega), ?_, ?_, ?_, ?_, ?_⟩,
        ⟨⟨rfl, rfl⟩, ⟨rfl, rfl⟩, ⟨rfl, rfl⟩, ⟨rfl, rfl⟩, ⟨valI ?_, rfl⟩, ⟨rfl, rfl⟩, ⟨valI ?_, rfl⟩, trivial⟩,
        ⟨⟨rfl, .inr ⟨rfl, rfl⟩⟩, ⟨rfl, .inl ⟨celE ?_, irows_noid _ _⟩⟩, trivial⟩, rfl⟩
      · show t / 4294967296 ≤ 1
        omega
      · show (out.set i ((t % 4294967296 : Nat) : Int)).length = _
        rw [List.length_set, hl]
      · exact hL.set ⟨by omega, by omega⟩
      · show val (out.set i ((t % 4294967296 : Nat) : Int)) + t / 4294967296 * 4294967296 ^ (i + 1) = val (a.take (i + 1)) + val (b.take (i + 1))
        rw [hstep, val_take_succ hlt, hys, Nat.add_mul]
        omega
      · show ∀ k, i + 1 ≤ k → k < (out.set i ((t % 4294967296 : Nat) : Int)).length → (out.set i ((t % 4294967296 : Nat) : Int))[k]? = some 0
        intro k hk1 hk2
        rw [List.length_set] at hk2
        rw [List.getElem?_set_ne (by omega)]
        exact hz k (by omega) hk2
      · show (a[i]'hlt + (0 : Int) + (c : Int)) / 4294967296 = ((t / 4294967296 : Nat) : Int)
        rw [et]; omega
      · show IntKind.i64.wrap ((i : Int) + 1) = ((i + 1 : Nat) : Int)
        rw [IntWalk.i64_in _ (by omega)]; omega
      · show (irows .u32 out).set (0 + (i : Int).toNat) [AV.val (.int .u32 ((a[i]'hlt + (0 : Int) + (c : Int)) % 4294967296))] = _
        rw [et, Nat.zero_add, Int.toNat_natCast, ← irows_set]
        rfl
  · have h1' : ¬ (i : Int) < (a.length : Int) := of_decide_eq_false h1
    have hia : i = a.length := by omega
    conv => whnf
    refine ⟨⟨by rw [irows_len]; omega, by rw [irows_len]; omega⟩, ?_⟩
    conv => whnf
    refine ⟨by show 0 + ((irows .u32 a).length : Int).toNat < (irows .u32 out).length; rw [irows_len, irows_len]; omega, ?_⟩
    conv => whnf
    have hs := val_set out i (c : Int) hklt
    rw [h0] at hs
    simp only [Int.toNat_zero, Nat.zero_mul, Nat.add_zero, Int.toNat_natCast] at hs
    rw [hv, hia, List.take_of_length_le (Nat.le_refl _), List.take_of_length_le (by omega)] at hs
    have ht := trim_ok (out.set a.length (c : Int)) (hL.set ⟨by omega, by omega⟩) (by rw [List.length_set]; omega)
    rw [hs] at ht
    have es : (irows .u32 out).set (0 + ((irows .u32 a).length : Int).toNat) [AV.val (.int .u32 (c : Int))] = irows .u32 (out.set a.length (c : Int)) := by
      rw [irows_len, Nat.zero_add, Int.toNat_natCast, ← irows_set]
    refine ⟨by show 0 + (a.length + 1) ≤ ((irows .u32 out).set (0 + ((irows .u32 a).length : Int).toNat) [AV.val (.int .u32 (c : Int))]).length; rw [es, irows_len, List.length_set]; omega, .pure (natA (val a + val b)), ?_, ?_⟩
    · show AC Tryz.prog 125 [.sl 1 (List.take (a.length + 1) (List.drop 0 ((irows .u32 out).set (0 + ((irows .u32 a).length : Int).toNat) [AV.val (.int .u32 (c : Int))]))) false] _
      rw [es, List.drop_zero, List.take_of_length_le (by rw [irows_len, List.length_set, hl]; exact Nat.le_refl _)]
      exact ht
    conv => whnf
    exact rfl

theorem Add_lt (n m : Nat) (hb : (limbs n).length + (limbs m).length < 4000000000) (hyp : (limbs n).length < (limbs m).length) : AC Tryz.prog 145 [natA n, natA m] (.pure (natA (n + m))) := by
  refine AC.of_body TTok Tryz.func145 rfl (enter_of Tryz.func145 (by kernel_rfl) (by kernel_rfl)) (noid2 (natA_noid n) (natA_noid m)) (natA_noid _) (Nat.le_of_ble_eq_true rfl) ?_
  unfold natA
  have hva := val_limbs n
  have hvb := val_limbs m
  have hLa := limbs_lim n
  have hLb := limbs_lim m
  generalize limbs n = a at *
  generalize limbs m = b at *
  subst hva
  subst hvb
  have e1 : IntKind.i64.wrap (((irows .u32 b).length : Int) + 1) = ((b.length + 1 : Nat) : Int) := by rw [irows_len, IntWalk.i64_in _ (by omega)]; omega
  conv => whnf
  refine ⟨by kernel_rfl, ?_⟩
  conv => whnf
  refine caseb (fun h1 => ?_) (fun h1 => ?_)
  rotate_left
  · have h1' : ¬ ((irows .u32 a).length : Int) < ((irows .u32 b).length : Int) := of_decide_eq_false h1
    rw [irows_len, irows_len] at h1'
    omega
  clear h1
  conv => whnf
  refine ⟨⟨by rw [e1]; omega, by rw [e1]; omega, ?_⟩, ?_⟩
  · rw [e1]; show ((b.length + 1 : Nat) : Int) * 4 ≤ _; omega
  conv => whnf
  refine SW.loopM TTok (fun z : Nat × Nat × List Int => [(4, .lp 16 0), (5, .sl 1 (irows .u32 b) false), (6, .sl 1 (irows .u32 a) false), (7, .own 168 0 (b.length + 1)), (8, .val (.int .u32 z.2.1)), (27, .val (.int .i64 b.length)), (28, .val (.int .i64 z.1))])
    (fun z => [(16, .cells 1 [[.sl 0 [] true]]), (168, .cells 1 (irows .u32 z.2.2))]) 216 60 rfl (fun z => b.length - z.1)
    (fun z => z.1 ≤ b.length ∧ z.2.1 ≤ 1 ∧ z.2.2.length = b.length + 1 ∧ Lim z.2.2 ∧ val z.2.2 + z.2.1 * 4294967296 ^ z.1 = val (b.take z.1) + val (a.take z.1) ∧ ∀ k, z.1 ≤ k → k < z.2.2.length → z.2.2[k]? = some 0)
    (0, 0, List.replicate (b.length + 1) 0) [] ⟨Nat.zero_le _, Nat.zero_le _, by simp, Lim.rep _, by simp [val_rep, val], fun k _ hk => by simp at hk; simp [hk]⟩
    ⟨⟨rfl, rfl⟩, ⟨rfl, rfl⟩, ⟨rfl, rfl⟩, ⟨ownE rfl ?_, rfl⟩, ⟨rfl, rfl⟩, ⟨valI ?_, rfl⟩, ⟨rfl, rfl⟩, trivial⟩
    ⟨⟨rfl, .inr ⟨rfl, rfl⟩⟩, ⟨rfl, .inl ⟨celE ?_, irows_noid _ _⟩⟩, trivial⟩ rfl ?_
  · rw [e1]; omega
  · rw [irows_len]
  · rw [e1, Int.toNat_natCast, ← irows_rep]; rfl
  rintro ⟨i, c, out⟩ ⟨hi, hc, hl, hL, hv, hz⟩
  have hi : i ≤ b.length := hi
  have hc : c ≤ 1 := hc
  have hl : out.length = b.length + 1 := hl
  have hL : Lim out := hL
  have hv : val out + c * 4294967296 ^ i = val (b.take i) + val (a.take i) := hv
  have hz : ∀ k, i ≤ k → k < out.length → out[k]? = some 0 := hz
  have hklt : i < out.length := by omega
  have h0 : out[i]'hklt = 0 := by
    have := List.getElem?_eq_getElem (l := out) (i := i) hklt
    rw [hz i (Nat.le_refl _) hklt] at this
    injection this with this
    exact this.symm
  conv => whnf
  refine caseb (fun h1 => ?_) (fun h1 => ?_)
  · have h1' : (i : Int) < (b.length : Int) := of_decide_eq_true h1
    have hlt : i < b.length := by omega
    have hx := hLb (b[i]'hlt) (List.getElem_mem _)
    conv => whnf
    refine caseb (fun h2 => ?_) (fun h2 => ?_)
    · have h2' : (i : Int) < ((irows .u32 a).length : Int) := of_decide_eq_true h2
      rw [irows_len] at h2'
      have hylt : i < a.length := by omega
      have hy := hLa (a[i]'hylt) (List.getElem_mem _)
      have hys : val (a.take (i + 1)) = val (a.take i) + (a[i]'hylt).toNat * 4294967296 ^ i := val_take_succ hylt
      conv => whnf
      refine ⟨[.val (.int .u32 (a[i]'hylt))], ⟨by omega, irows_get _ _ (List.getElem?_eq_getElem hylt)⟩, ?_⟩
      conv => whnf
      refine ⟨[.val (.int .u32 (b[i]'hlt))], ⟨by omega, irows_get _ _ (List.getElem?_eq_getElem hlt)⟩, ?_⟩
      conv => whnf
      refine ⟨_, Add32_ok (b[i]'hlt) (a[i]'hylt) (c : Int) hx hy ⟨by omega, by omega⟩, ?_⟩
      conv => whnf
      refine ⟨⟨by omega, by omega⟩, ?_⟩
      conv => whnf
      refine ⟨by rw [irows_len, hl]; omega, ?_⟩
      conv => whnf
      have hstep := mul_step (out := out) (p := i) hklt hv (z := (b[i]'hlt).toNat + ((a[i]'hylt) : Int).toNat) rfl
      rw [h0] at hstep
      have et : b[i]'hlt + (a[i]'hylt) + (c : Int) = (((b[i]'hlt).toNat + ((a[i]'hylt) : Int).toNat + (0 : Int).toNat + c : Nat) : Int) := by
        have h1 := hx.1
        have h2 := (show 0 ≤ (a[i]'hylt) ∧ (a[i]'hylt) < 4294967296 from hy).1
        rw [Int.natCast_add, Int.natCast_add, Int.natCast_add, Int.toNat_of_nonneg h1, Int.toNat_of_nonneg h2]
        simp
      have htb : (b[i]'hlt).toNat + ((a[i]'hylt) : Int).toNat + (0 : Int).toNat + c < 8589934592 := by
        have h1 := hx.2
        have h2 := (show 0 ≤ (a[i]'hylt) ∧ (a[i]'hylt) < 4294967296 from hy).2
        omega
      generalize htt : (b[i]'hlt).toNat + ((a[i]'hylt) : Int).toNat + (0 : Int).toNat + c = t at *
      refine ⟨(i + 1, t / 4294967296, out.set i ((t % 4294967296 : Nat) : Int)), [], (by show b.length - (i + 1) < b.length - i; omega), ⟨(by show i + 1 ≤ b.length; omega), ?_, ?_, ?_, ?_, ?_⟩,
        ⟨⟨rfl, rfl⟩, ⟨rfl, rfl⟩, ⟨rfl, rfl⟩, ⟨rfl, rfl⟩, ⟨valI ?_, rfl⟩, ⟨rfl, rfl⟩, ⟨valI ?_, rfl⟩, trivial⟩,
        ⟨⟨rfl, .inr ⟨rfl, rfl⟩⟩, ⟨rfl, .inl ⟨celE ?_, irows_noid _ _⟩⟩, trivial⟩, rfl⟩
      · show t / 4294967296 ≤ 1
        omega
      · show (out.set i ((t % 4294967296 : Nat) : Int)).length = _
        rw [List.length_set, hl]
      · exact hL.set ⟨by omega, by omega⟩
      · show val (out.set i ((t % 4294967296 : Nat) : Int)) + t / 4294967296 * 4294967296 ^ (i + 1) = val (b.take (i + 1)) + val (a.take (i + 1))
        rw [hstep, val_take_succ hlt, hys, Nat.add_mul]
        omega
      · show ∀ k, i + 1 ≤ k → k < (out.set i ((t % 4294967296 : Nat) : Int)).length → (out.set i ((t % 4294967296 : Nat) : Int))[k]? = some 0
        intro k hk1 hk2
        rw [List.length_set] at hk2
        rw [List.getElem?_set_ne (by omega)]
        exact hz k (by omega) hk2
      · show (b[i]'hlt + (a[i]'hylt) + (c : Int)) / 4294967296 = ((t / 4294967296 : Nat) : Int)
        rw [et]; omega
      · show IntKind.i64.wrap ((i : Int) + 1) = ((i + 1 : Nat) : Int)
        rw [IntWalk.i64_in _ (by omega)]; omega
      · show (irows .u32 out).set (0 + (i : Int).toNat) [AV.val (.int .u32 ((b[i]'hlt + (a[i]'hylt) + (c : Int)) % 4294967296))] = _
        rw [et, Nat.zero_add, Int.toNat_natCast, ← irows_set]
        rfl
    · have h2' : ¬ (i : Int) < ((irows .u32 a).length : Int) := of_decide_eq_false h2
      rw [irows_len] at h2'
      have hys : val (a.take (i + 1)) = val (a.take i) + (0 : Int).toNat * 4294967296 ^ i := by
        rw [List.take_of_length_le (by omega), List.take_of_length_le (by omega)]
        simp
      conv => whnf
      refine ⟨[.val (.int .u32 (b[i]'hlt))], ⟨by omega, irows_get _ _ (List.getElem?_eq_getElem hlt)⟩, ?_⟩
      conv => whnf
      refine ⟨_, Add32_ok (b[i]'hlt) (0 : Int) (c : Int) hx ⟨by decide, by decide⟩ ⟨by omega, by omega⟩, ?_⟩
      conv => whnf
      refine ⟨⟨by omega, by omega⟩, ?_⟩
      conv => whnf
      refine ⟨by rw [irows_len, hl]; omega, ?_⟩
      conv => whnf
      have hstep := mul_step (out := out) (p := i) hklt hv (z := (b[i]'hlt).toNat + ((0 : Int) : Int).toNat) rfl
      rw [h0] at hstep
      have et : b[i]'hlt + (0 : Int) + (c : Int) = (((b[i]'hlt).toNat + ((0 : Int) : Int).toNat + (0 : Int).toNat + c : Nat) : Int) := by
        have h1 := hx.1
        have h2 := (show 0 ≤ (0 : Int) ∧ (0 : Int) < 4294967296 from ⟨by decide, by decide⟩).1
        rw [Int.natCast_add, Int.natCast_add, Int.natCast_add, Int.toNat_of_nonneg h1, Int.toNat_of_nonneg h2]
        simp
      have htb : (b[i]'hlt).toNat + ((0 : Int) : Int).toNat + (0 : Int).toNat + c < 8589934592 := by
        have h1 := hx.2
        have h2 := (show 0 ≤ (0 : Int) ∧ (0 : Int) < 4294967296 from ⟨by decide, by decide⟩).2
        omega
      generalize htt : (b[i]'hlt).toNat + ((0 : Int) : Int).toNat + (0 : Int).toNat + c = t at *
      refine ⟨(i + 1, t / 4294967296, out.set i ((t % 4294967296 : Nat) : Int)), [], (by show b.length - (i + 1) < b.length - i; omega), ⟨(by show i + 1 ≤ b.length; omega), ?_, ?_, ?_, ?_, ?_⟩,
        ⟨⟨rfl, rfl⟩, ⟨rfl, rfl⟩, ⟨rfl, rfl⟩, ⟨rfl, rfl⟩, ⟨valI ?_, rfl⟩, ⟨rfl, rfl⟩, ⟨valI ?_, rfl⟩, trivial⟩,
        ⟨⟨rfl, .inr ⟨rfl, rfl⟩⟩, ⟨rfl, .inl ⟨celE ?_, irows_noid _ _⟩⟩, trivial⟩, rfl⟩
      · show t / 4294967296 ≤ 1
        omega
      · show (out.set i ((t % 4294967296 : Nat) : Int)).length = _
        rw [List.length_set, hl]
      · exact hL.set ⟨by omega, by omega⟩
      · show val (out.set i ((t % 4294967296 : Nat) : Int)) + t / 4294967296 * 4294967296 ^ (i + 1) = val (b.take (i + 1)) + val (a.take (i + 1))
        rw [hstep, val_take_succ hlt, hys, Nat.add_mul]
        omega
      · show ∀ k, i + 1 ≤ k → k < (out.set i ((t % 4294967296 : Nat) : Int)).length → (out.set i ((t % 4294967296 : Nat) : Int))[k]? = some 0
        intro k hk1 hk2
        rw [List.length_set] at hk2
        rw [List.getElem?_set_ne (by omega)]
        exact hz k (by omega) hk2
      · show (b[i]'hlt + (0 : Int) + (c : Int)) / 4294967296 = ((t / 4294967296 : Nat) : Int)
        rw [et]; omega
      · show IntKind.i64.wrap ((i : Int) + 1) = ((i + 1 : Nat) : Int)
        rw [IntWalk.i64_in _ (by omega)]; omega
      · show (irows .u32 out).set (0 + (i : Int).toNat) [AV.val (.int .u32 ((b[i]'hlt + (0 : Int) + (c : Int)) % 4294967296))] = _
        rw [et, Nat.zero_add, Int.toNat_natCast, ← irows_set]
        rfl
  · have h1' : ¬ (i : Int) < (b.length : Int) := of_decide_eq_false h1
    have hia : i = b.length := by omega
    conv => whnf
    refine ⟨⟨by rw [irows_len]; omega, by rw [irows_len]; omega⟩, ?_⟩
    conv => whnf
    refine ⟨by show 0 + ((irows .u32 b).length : Int).toNat < (irows .u32 out).length; rw [irows_len, irows_len]; omega, ?_⟩
    conv => whnf
    have hs := val_set out i (c : Int) hklt
    rw [h0] at hs
    simp only [Int.toNat_zero, Nat.zero_mul, Nat.add_zero, Int.toNat_natCast] at hs
    rw [hv, hia, List.take_of_length_le (Nat.le_refl _), List.take_of_length_le (by omega)] at hs
    have ht := trim_ok (out.set b.length (c : Int)) (hL.set ⟨by omega, by omega⟩) (by rw [List.length_set]; omega)
    rw [hs] at ht
    have es : (irows .u32 out).set (0 + ((irows .u32 b).length : Int).toNat) [AV.val (.int .u32 (c : Int))] = irows .u32 (out.set b.length (c : Int)) := by
      rw [irows_len, Nat.zero_add, Int.toNat_natCast, ← irows_set]
    refine ⟨by show 0 + (b.length + 1) ≤ ((irows .u32 out).set (0 + ((irows .u32 b).length : Int).toNat) [AV.val (.int .u32 (c : Int))]).length; rw [es, irows_len, List.length_set]; omega, .pure (natA (val b + val a)), ?_, ?_⟩
    · show AC Tryz.prog 125 [.sl 1 (List.take (b.length + 1) (List.drop 0 ((irows .u32 out).set (0 + ((irows .u32 b).length : Int).toNat) [AV.val (.int .u32 (c : Int))]))) false] _
      rw [es, List.drop_zero, List.take_of_length_le (by rw [irows_len, List.length_set, hl]; exact Nat.le_refl _)]
      exact ht
    conv => whnf
    rw [Nat.add_comm]; exact rfl

theorem Add_ok (n m : Nat) (hb : (limbs n).length + (limbs m).length < 4000000000) : AC Tryz.prog 145 [natA n, natA m] (.pure (natA (n + m))) := by
  rcases Nat.lt_or_ge (limbs n).length (limbs m).length with h | h
  · exact Add_lt n m hb h
  · exact Add_ge n m hb h

end Go.Proofs.YtbdklokfijjifaaGreat

/- Contracts of nat: the order of two numbers, their quotient by one limb. -/
set_option linter.unusedVariables false
namespace Go.Proofs.YtbdklokfijjifaaGreat
open Go Go.AL NM

def cmpN (n m : Nat) : Int := if n < m then -1 else if n = m then 0 else 1
theorem cmpN_lt {n m : Nat} (h : n < m) : cmpN n m = -1 := by unfold cmpN; rw [if_pos h]
theorem cmpN_gt {n m : Nat} (h : m < n) : cmpN n m = 1 := by unfold cmpN; rw [if_neg (by omega), if_neg (by omega)]
theorem cmpN_eq (n : Nat) : cmpN n n = 0 := by unfold cmpN; rw [if_neg (by omega), if_pos rfl]

theorem Cmp_ok (n m : Nat) (hb : (limbs n).length < 4000000000) (hb' : (limbs m).length < 4000000000) : AC Tryz.prog 98 [natA n, natA m] (.pure (.val (.int .i64 (cmpN n m)))) := by
  refine AC.of_body TTok Tryz.func98 rfl (enter_of Tryz.func98 (by kernel_rfl) (by kernel_rfl)) (noid2 (natA_noid n) (natA_noid m)) (.val _) (Nat.le_of_ble_eq_true rfl) ?_
  have hlen1 : (limbs n).length < (limbs m).length → n < m := len_lt
  have hlen2 : (limbs m).length < (limbs n).length → m < n := len_lt
  unfold natA
  have hva := val_limbs n
  have hvb := val_limbs m
  have hLa := limbs_lim n
  have hLb := limbs_lim m
  generalize limbs n = a at *
  generalize limbs m = b at *
  conv => whnf
  refine caseb (fun h1 => ?_) (fun h1 => ?_)
  · have h1' : ((irows .u32 a).length : Int) ≠ ((irows .u32 b).length : Int) := bne_iff_ne.1 h1
    rw [irows_len, irows_len] at h1'
    conv => whnf
    refine caseb (fun h2 => ?_) (fun h2 => ?_)
    · have h2' : ((irows .u32 a).length : Int) < ((irows .u32 b).length : Int) := of_decide_eq_true h2
      rw [irows_len, irows_len] at h2'
      conv => whnf
      refine valI ?_
      rw [cmpN_lt (hlen1 (by omega))]
    · have h2' : ¬ ((irows .u32 a).length : Int) < ((irows .u32 b).length : Int) := of_decide_eq_false h2
      rw [irows_len, irows_len] at h2'
      conv => whnf
      refine valI ?_
      rw [cmpN_gt (hlen2 (by omega))]
  · have h1' : ((irows .u32 a).length : Int) = ((irows .u32 b).length : Int) := by
      have : ¬ ((irows .u32 a).length : Int) ≠ ((irows .u32 b).length : Int) := fun h => by
        have := bne_iff_ne.2 h
        rw [show ((((irows .u32 a).length : Nat) : Int) != (((irows .u32 b).length : Nat) : Int)) = false from h1] at this
        cases this
      exact Decidable.byContradiction this
    rw [irows_len, irows_len] at h1'
    have hab : a.length = b.length := by omega
    conv => whnf
    refine SW.loopM TTok (fun k : Nat => [(2, .lp 0 0), (3, .lp 8 0), (5, .val (.int .i64 ((k : Int) - 1)))])
      (fun k => [(0, .cells 1 [[.sl 1 (irows .u32 a) false]]), (8, .cells 1 [[.sl 1 (irows .u32 b) false]])]) 120 50 rfl id
      (fun k => k ≤ a.length ∧ a.drop k = b.drop k) a.length [] ⟨Nat.le_refl _, by rw [List.drop_length, hab, List.drop_length]⟩
      ⟨⟨rfl, rfl⟩, ⟨rfl, rfl⟩, ⟨valI ?_, rfl⟩, trivial⟩ ⟨⟨rfl, .inr ⟨rfl, rfl⟩⟩, ⟨rfl, .inr ⟨rfl, rfl⟩⟩, trivial⟩ rfl ?_
    · rw [irows_len, IntWalk.i64_in _ (by omega)]
    rintro k ⟨hk, hd⟩
    conv => whnf
    refine caseb (fun h2 => ?_) (fun h2 => ?_)
    · have h2' : (k : Int) - 1 ≥ 0 := of_decide_eq_true h2
      have hka : k - 1 < a.length := by omega
      have hkb : k - 1 < b.length := by omega
      have ga : 0 ≤ (k : Int) - 1 ∧ (irows .u32 a)[((k : Int) - 1).toNat]? = some [.val (.int .u32 (a[k - 1]'hka))] :=
        ⟨h2', by rw [show ((k : Int) - 1).toNat = k - 1 by omega]; exact irows_get _ _ (List.getElem?_eq_getElem hka)⟩
      have gb : 0 ≤ (k : Int) - 1 ∧ (irows .u32 b)[((k : Int) - 1).toNat]? = some [.val (.int .u32 (b[k - 1]'hkb))] :=
        ⟨h2', by rw [show ((k : Int) - 1).toNat = k - 1 by omega]; exact irows_get _ _ (List.getElem?_eq_getElem hkb)⟩
      conv => whnf
      refine ⟨_, ga, ?_⟩
      conv => whnf
      refine ⟨_, gb, ?_⟩
      conv => whnf
      refine ⟨by kernel_rfl, ?_⟩
      conv => whnf
      refine caseb (fun h3 => ?_) (fun h3 => ?_)
      · have h3' : a[k - 1]'hka ≠ b[k - 1]'hkb := bne_iff_ne.1 h3
        conv => whnf
        refine ⟨_, ga, ?_⟩
        conv => whnf
        refine ⟨_, gb, ?_⟩
        conv => whnf
        refine ⟨by kernel_rfl, ?_⟩
        conv => whnf
        refine caseb (fun h4 => ?_) (fun h4 => ?_)
        · have h4' : a[k - 1]'hka < b[k - 1]'hkb := of_decide_eq_true h4
          conv => whnf
          refine valI ?_
          rw [cmpN_lt]
          rw [← hva, ← hvb]
          exact cmp_lt hLa hLb hka hkb (by rw [show k - 1 + 1 = k by omega]; exact hd) h4'
        · have h4' : ¬ a[k - 1]'hka < b[k - 1]'hkb := of_decide_eq_false h4
          conv => whnf
          refine valI ?_
          rw [cmpN_gt]
          rw [← hva, ← hvb]
          exact cmp_lt hLb hLa hkb hka (by rw [show k - 1 + 1 = k by omega]; exact hd.symm) (by omega)
      · have h3' : a[k - 1]'hka = b[k - 1]'hkb := by
          refine Decidable.byContradiction fun h => ?_
          have := bne_iff_ne.2 h
          rw [show ((a[k - 1]'hka) != (b[k - 1]'hkb)) = false from h3] at this
          cases this
        conv => whnf
        refine ⟨k - 1, [], (by show k - 1 < k; omega), ⟨(by omega), ?_⟩, ⟨⟨rfl, rfl⟩, ⟨rfl, rfl⟩, ⟨valI ?_, rfl⟩, trivial⟩,
          ⟨⟨rfl, .inr ⟨rfl, rfl⟩⟩, ⟨rfl, .inr ⟨rfl, rfl⟩⟩, trivial⟩, rfl⟩
        · rw [drop_pred (by omega) hk, drop_pred (by omega) (by omega), hd, h3']
        · rw [IntWalk.i64_in _ (by omega)]; omega
    · have h2' : ¬ (k : Int) - 1 ≥ 0 := of_decide_eq_false h2
      have hk0 : k = 0 := by omega
      subst hk0
      have hab : n = m := by
        have : a = b := hd
        rw [← hva, ← hvb, this]
      conv => whnf
      refine valI ?_
      rw [hab, cmpN_eq]

end Go.Proofs.YtbdklokfijjifaaGreat

/- Contracts of nat: quotient and rest, where the divisor is nothing, or more, or one limb. -/
set_option linter.unusedVariables false
namespace Go.Proofs.YtbdklokfijjifaaGreat
open Go Go.AL NM

theorem zero_le : AVle (.agg [.sl 0 [] true]) (natA 0) := by
  unfold natA
  rw [limbs_zero]
  exact .agg1 (.sl _ _ _)
theorem zero_noid : NoId (.agg [.sl 0 [] true]) := .agg _ (noid1 (.sl _ _ _ (fun r hr => (nomatch hr))))
theorem noid3 {x y z : AV} (h : NoId x) (h' : NoId y) (h'' : NoId z) : ∀ u ∈ [x, y, z], NoId u := by
  intro u hu; simp at hu; rcases hu with rfl | rfl | rfl; exact h; exact h'; exact h''
theorem limbs_one {m : Nat} (h0 : 0 < m) (h1 : m < 4294967296) : limbs m = [(m : Int)] := by
  rw [limbs_pos h0, Nat.mod_eq_of_lt h1, Nat.div_eq_of_lt h1, limbs_zero]

theorem DivMod_lt (n m : Nat) (h : n < m) (hb : (limbs n).length < 4000000000) (hb' : (limbs m).length < 4000000000) : AC Tryz.prog 148 [natA n, natA m] (.pure (.tup [natA (n / m), natA (n % m), .val (.bool true)])) := by
  rw [Nat.div_eq_of_lt h, Nat.mod_eq_of_lt h]
  refine AC.le_res (v := .tup [.agg [.sl 0 [] true], natA n, .val (.bool true)]) ?_ (.tup3 zero_le (.refl _) (.refl _)) (.tup _ (noid3 (natA_noid _) (natA_noid _) (.val _)))
  refine AC.of_body TTok Tryz.func148 rfl (enter_of Tryz.func148 (by kernel_rfl) (by kernel_rfl)) (noid2 (natA_noid n) (natA_noid m)) (.tup _ (noid3 zero_noid (natA_noid _) (.val _))) (Nat.le_of_ble_eq_true rfl) ?_
  have hc := Cmp_ok n m hb hb'
  rw [cmpN_lt h] at hc
  have hne : limbs m ≠ [] := fun e => by have := (limbs_nil m).1 e; omega
  have hpos := List.length_pos_iff.2 hne
  conv => whnf
  refine caseb (fun h1 => ?_) (fun h1 => ?_)
  · have h1' : ((irows .u32 (limbs m)).length : Int) = 0 := of_decide_eq_true h1
    rw [irows_len] at h1'
    omega
  conv => whnf
  refine ⟨_, hc, ?_⟩
  conv => whnf
  refine ⟨by kernel_rfl, ?_⟩
  conv => whnf
  exact rfl

theorem DivMod_one (n m : Nat) (h : m ≤ n) (h0 : 0 < m) (h1 : m < 4294967296) (hb : (limbs n).length < 4000000000) : AC Tryz.prog 148 [natA n, natA m] (.pure (.tup [natA (n / m), natA (n % m), .val (.bool true)])) := by
  refine AC.of_body TTok Tryz.func148 rfl (enter_of Tryz.func148 (by kernel_rfl) (by kernel_rfl)) (noid2 (natA_noid n) (natA_noid m)) (.tup _ (noid3 (natA_noid _) (natA_noid _) (.val _))) (Nat.le_of_ble_eq_true rfl) ?_
  have e : natA m = .agg [.sl 1 (irows .u32 [(m : Int)]) false] := by unfold natA; rw [limbs_one h0 h1]
  have hc := Cmp_ok n m hb (by rw [limbs_one h0 h1]; show 1 < 4000000000; omega)
  have hs := small_ok n m h0 h1 (by omega)
  have ho : AC Tryz.prog 94 [.val (.int .u64 (IntKind.u64.wrap ((n % m : Nat) : Int)))] (.pure (natA (n % m))) := by
    have hlt : n % m < m := Nat.mod_lt _ h0
    have : IntKind.u64.wrap ((n % m : Nat) : Int) = ((n % m : Nat) : Int) := by rw [IntKind.wrap_u64]; omega
    rw [this]
    exact Of_ok _ (by omega)
  rw [e] at hc ⊢
  have hcn : ¬ cmpN n m < 0 := by
    unfold cmpN
    rw [if_neg (by omega)]
    split <;> decide
  conv => whnf
  refine ⟨_, hc, ?_⟩
  conv => whnf
  refine caseb (fun h2 => ?_) (fun h2 => ?_)
  · exact absurd (of_decide_eq_true h2) hcn
  conv => whnf
  refine ⟨[.val (.int .u32 (m : Int))], ⟨by decide, rfl⟩, ?_⟩
  conv => whnf
  refine ⟨_, hs, ?_⟩
  conv => whnf
  refine ⟨by kernel_rfl, ?_⟩
  conv => whnf
  refine ⟨_, ho, ?_⟩
  conv => whnf
  refine ⟨by kernel_rfl, ?_⟩
  conv => whnf
  exact rfl

end Go.Proofs.YtbdklokfijjifaaGreat

/- Contracts of nat: a number out of its digits. -/
set_option linter.unusedVariables false
namespace Go.Proofs.YtbdklokfijjifaaGreat
open Go Go.AL NM

theorem valL_lt {l : List Int} (h : Dig l) : valL l < 10 ^ l.length := by
  induction l with
  | nil => decide
  | cons x l ih =>
    have := ih h.cons.2
    have hx := h.cons.1
    rw [valL_cons, List.length_cons, Nat.pow_succ]
    have h2 : (x - 48).toNat * 10 ^ l.length ≤ 9 * 10 ^ l.length := Nat.mul_le_mul_right _ (by omega)
    omega
theorem valL_take_succ {l : List Int} {k : Nat} (hk : k < l.length) : valL (l.take (k + 1)) = 10 * valL (l.take k) + (l[k] - 48).toNat := by
  rw [List.take_succ_eq_append_getElem hk, valL_snoc]
theorem Dig.take {l : List Int} (h : Dig l) (k : Nat) : Dig (l.take k) := fun x hx => h x (List.mem_of_mem_take hx)
theorem Dig.drop {l : List Int} (h : Dig l) (k : Nat) : Dig (l.drop k) := fun x hx => h x (List.mem_of_mem_drop hx)
theorem limbs_ten {n k : Nat} (h : n < 10 ^ k) : (limbs n).length ≤ k := limbs_len_le (Nat.lt_of_lt_of_le h (Nat.pow_le_pow_left (by decide) k))

theorem Parse_ok (l : List Int) (hd : Dig l) (hne : l ≠ []) (hb : l.length ≤ 2000) : AC Tryz.prog 128 [.val (.string (strL l))] (.pure (.tup [natA (valL l), .val (.bool true)])) := by
  refine AC.of_body TTok Tryz.func128 rfl (enter_of Tryz.func128 (by kernel_rfl) (by kernel_rfl)) (noid1 (.val _)) (.tup _ (noid2 (natA_noid _) (.val _))) (Nat.le_of_ble_eq_true rfl) ?_
  conv => whnf
  refine caseb (fun h1 => ?_) (fun h1 => ?_)
  · have h1' := str_beq (Dig.byt hd) (b := []) (fun x hx => (nomatch hx))
    rw [decide_eq_false hne] at h1'
    rw [show ((strL l).toList == (strL []).toList) = true from h1] at h1'
    cases h1'
  conv => whnf
  refine caseb (fun h2 => ?_) (fun h2 => ?_)
  · have h2' : ((strL l).size : Int) > 2000 := of_decide_eq_true h2
    rw [strL_size] at h2'
    omega
  conv => whnf
  refine SW.weak (Wk.leB 72 rfl (y := .sl 1 (irows .u32 (limbs 0)) false) (by rw [limbs_zero]; exact .sl _ _ _)) rfl ?_
  refine SW.loopM TTok (fun x : Nat × List Int => [(0, .val (.string (strL x.2))), (2, .lp 0 0), (4, .lp 72 0)])
    (fun x => [(0, .cells 1 [[.sl 0 [] true]]), (72, .cells 1 [[.sl 1 (irows .u32 (limbs x.1)) false]])]) 80 60 rfl (fun x => x.2.length)
    (fun x => Dig x.2 ∧ x.2.length ≤ l.length ∧ x.1 < 10 ^ (l.length - x.2.length) ∧ x.1 * 10 ^ x.2.length + valL x.2 = valL l) (0, l) [] ⟨hd, Nat.le_refl _, by simp, by simp⟩
    ⟨⟨rfl, rfl⟩, ⟨rfl, rfl⟩, ⟨rfl, rfl⟩, trivial⟩ ⟨⟨rfl, .inr ⟨rfl, rfl⟩⟩, ⟨rfl, .inr ⟨rfl, rfl⟩⟩, trivial⟩ rfl ?_
  rintro ⟨v, r⟩ ⟨hr, hrl, hv, hval⟩
  have hr : Dig r := hr
  have hrl : r.length ≤ l.length := hrl
  have hv : v < 10 ^ (l.length - r.length) := hv
  have hval : v * 10 ^ r.length + valL r = valL l := hval
  have hsz := strL_size r
  conv => whnf
  refine caseb (fun h3 => ?_) (fun h3 => ?_)
  · have h3' : ((strL r).size : Int) > 0 := of_decide_eq_true h3
    rw [hsz] at h3'
    have ek : (if ((strL r).size : Int) < 9 then ((strL r).size : Int) else 9) = ((min 9 r.length : Nat) : Int) := by
      rw [hsz]; split <;> omega
    have hk9 : min 9 r.length ≤ 9 := Nat.min_le_left _ _
    have hkr : min 9 r.length ≤ r.length := Nat.min_le_right _ _
    have hk0 : 0 < min 9 r.length := by omega
    generalize min 9 r.length = k at *
    have es : bytesL ((strL r).extract 0 (if ((strL r).size : Int) < 9 then ((strL r).size : Int) else 9).toNat) = r.take k := by
      rw [ek, strL_extract, Int.toNat_natCast, List.drop_zero, bytesL_strL (Dig.byt (Dig.take hr k))]
    conv => whnf
    refine ⟨⟨by rw [ek]; omega, by rw [ek, hsz]; omega⟩, ?_⟩
    conv => whnf
    refine SW.loopM TTok (fun x : Nat => [(0, .val (.string (strL r))), (2, .lp 0 0), (4, .lp 72 0), (5, .val (.int .i64 k)), (6, .val (.int .u64 (valL (r.take x)))), (7, .val (.int .u64 (10 ^ x : Nat))), (27, .sl 1 (irows .u8 (r.take k)) false), (28, .val (.int .i64 k)), (29, .val (.int .i64 x))])
      (fun x => [(0, .cells 1 [[.sl 0 [] true]]), (72, .cells 1 [[.sl 1 (irows .u32 (limbs v)) false]])]) 200 60 rfl (fun x => k - x)
      (fun x => x ≤ k) 0 [] (Nat.zero_le _)
      ⟨⟨rfl, rfl⟩, ⟨rfl, rfl⟩, ⟨rfl, rfl⟩, ⟨valI ek, rfl⟩, ⟨rfl, rfl⟩, ⟨rfl, rfl⟩, ⟨slE ?_, rfl⟩, ⟨valI ?_, rfl⟩, ⟨rfl, rfl⟩, trivial⟩ ⟨⟨rfl, .inr ⟨rfl, rfl⟩⟩, ⟨rfl, .inr ⟨rfl, rfl⟩⟩, trivial⟩ rfl ?_
    · rw [es]
    · rw [es, irows_len, List.length_take, Nat.min_eq_left hkr]
    intro i hi
    have hi : i ≤ k := hi
    have hX : valL (r.take i) < 10 ^ i := by
      have := valL_lt (Dig.take hr i)
      rwa [List.length_take, Nat.min_eq_left (by omega)] at this
    have hp : 10 ^ i ≤ 1000000000 := Nat.le_trans (Nat.pow_le_pow_right (by decide) (show i ≤ 9 by omega)) (by decide)
    conv => whnf
    refine caseb (fun h4 => ?_) (fun h4 => ?_)
    · have h4' : (i : Int) < (k : Int) := of_decide_eq_true h4
      have hir : i < r.length := by omega
      have hc := hr (r[i]'hir) (List.getElem_mem _)
      conv => whnf
      refine ⟨[.val (.int .u8 (r[i]'hir))], ⟨by omega, irows_get _ _ (by rw [List.getElem?_take_of_lt (by omega)]; exact List.getElem?_eq_getElem hir)⟩, ?_⟩
      conv => whnf
      refine caseb (fun h5 => ?_) (fun h5 => ?_)
      · have h5' : r[i]'hir < 48 := of_decide_eq_true h5
        omega
      conv => whnf
      refine caseb (fun h6 => ?_) (fun h6 => ?_)
      · have h6' : r[i]'hir > 57 := of_decide_eq_true h6
        omega
      conv => whnf
      refine ⟨i + 1, [], (by show k - (i + 1) < k - i; omega), (by show i + 1 ≤ k; omega),
        ⟨⟨rfl, rfl⟩, ⟨rfl, rfl⟩, ⟨rfl, rfl⟩, ⟨rfl, rfl⟩, ⟨valI ?_, rfl⟩, ⟨valI ?_, rfl⟩, ⟨rfl, rfl⟩, ⟨rfl, rfl⟩, ⟨valI ?_, rfl⟩, trivial⟩, ⟨⟨rfl, .inr ⟨rfl, rfl⟩⟩, ⟨rfl, .inr ⟨rfl, rfl⟩⟩, trivial⟩, rfl⟩
      · rw [valL_take_succ hir, IntKind.wrap_u8]
        simp only [IntKind.wrap_u64]
        omega
      · rw [Nat.pow_succ]
        simp only [IntKind.wrap_u64]
        omega
      · show IntKind.i64.wrap ((i : Int) + 1) = ((i + 1 : Nat) : Int)
        rw [IntWalk.i64_in _ (by omega)]; omega
    · have h4' : ¬ (i : Int) < (k : Int) := of_decide_eq_false h4
      have hik : i = k := by omega
      subst hik
      have hvl : (limbs v).length ≤ 2000 := Nat.le_trans (limbs_ten hv) (by omega)
      have hsl : (limbs (10 ^ i)).length ≤ 2 := limbs_len_le (by omega)
      have hxl : (limbs (valL (r.take i))).length ≤ 2 := limbs_len_le (by omega)
      have hnew : v * 10 ^ i + valL (r.take i) < 10 ^ (l.length - (r.drop i).length) := by
        rw [List.length_drop, show l.length - (r.length - i) = (l.length - r.length) + i by omega, Nat.pow_add]
        have : (v + 1) * 10 ^ i ≤ 10 ^ (l.length - r.length) * 10 ^ i := Nat.mul_le_mul_right _ hv
        rw [Nat.add_mul] at this
        omega
      have hml : (limbs (v * 10 ^ i)).length ≤ 2000 := by
        refine Nat.le_trans (limbs_len_mono (b := v * 10 ^ i + valL (r.take i)) (by omega)) (Nat.le_trans (limbs_ten hnew) ?_)
        omega
      conv => whnf
      refine ⟨_, Of_ok (10 ^ i) (by omega), ?_⟩
      conv => whnf
      refine ⟨_, Mul_ok v (10 ^ i) (by omega), ?_⟩
      conv => whnf
      refine ⟨_, Of_ok (valL (r.take i)) (by omega), ?_⟩
      conv => whnf
      refine ⟨_, Add_ok (v * 10 ^ i) (valL (r.take i)) (by omega), ?_⟩
      conv => whnf
      refine ⟨by kernel_rfl, ?_⟩
      conv => whnf
      refine ⟨⟨by omega, by rw [hsz]; omega⟩, ?_⟩
      conv => whnf
      refine ⟨(v * 10 ^ i + valL (r.take i), r.drop i), [], (by show (r.drop i).length < r.length; rw [List.length_drop]; omega), ⟨Dig.drop hr i, (by show (r.drop i).length ≤ l.length; rw [List.length_drop]; omega), hnew, ?_⟩,
        ⟨⟨strE ?_, rfl⟩, ⟨rfl, rfl⟩, ⟨rfl, rfl⟩, trivial⟩, ⟨⟨rfl, .inr ⟨rfl, rfl⟩⟩, ⟨rfl, .inr ⟨rfl, rfl⟩⟩, trivial⟩, rfl⟩
      · show (v * 10 ^ i + valL (r.take i)) * 10 ^ (r.drop i).length + valL (r.drop i) = valL l
        rw [← hval]
        conv => rhs; rw [← List.take_append_drop i r, valL_append, List.length_append, List.length_take, Nat.min_eq_left (show i ≤ r.length by omega), Nat.pow_add]
        rw [Nat.add_mul, Nat.mul_assoc]
        omega
      · show (strL r).extract ((i : Int).toNat) (strL r).size = strL (r.drop i)
        rw [strL_extract, hsz, List.take_of_length_le (Nat.le_refl _), Int.toNat_natCast]
  · have h3' : ¬ ((strL r).size : Int) > 0 := of_decide_eq_false h3
    rw [hsz] at h3'
    have hr0 : r = [] := List.eq_nil_of_length_eq_zero (by omega)
    subst hr0
    have : v = valL l := by simpa [valL, valR] using hval
    subst this
    conv => whnf
    exact rfl

end Go.Proofs.YtbdklokfijjifaaGreat

/- Contracts of nat: how many bits. -/
set_option linter.unusedVariables false
namespace Go.Proofs.YtbdklokfijjifaaGreat
open Go Go.AL NM

/-- How many bits a number has. -/
def blen (n : Nat) : Nat := if n = 0 then 0 else Nat.log2 n + 1
theorem blen_div {n k : Nat} (h : 2 ^ k ≤ n) : blen n = blen (n / 2 ^ k) + k := by
  have hn : n ≠ 0 := by have := Nat.two_pow_pos k; omega
  have hq : 0 < n / 2 ^ k := Nat.div_pos h (Nat.two_pow_pos k)
  unfold blen
  rw [if_neg hn, if_neg (by omega)]
  induction k generalizing n with
  | zero => simp
  | succ k ih =>
    have h2 : 2 ≤ n := Nat.le_trans (by rw [Nat.pow_succ]; have := Nat.two_pow_pos k; omega) h
    have hh : 2 ^ k ≤ n / 2 := by rw [Nat.le_div_iff_mul_le (by decide)]; rw [Nat.pow_succ] at h; exact h
    have e : n / 2 ^ (k + 1) = n / 2 / 2 ^ k := by rw [Nat.div_div_eq_div_mul, Nat.pow_succ, Nat.mul_comm]
    rw [e] at hq ⊢
    have := ih hh (by have := Nat.two_pow_pos k; omega) hq
    rw [Nat.log2_def n, if_pos h2]
    omega
theorem blen_le {n k : Nat} (h : n < 2 ^ k) : blen n ≤ k := by
  unfold blen
  split
  · omega
  · rename_i h0
    have := (Nat.log2_lt h0).2 h
    omega

def lenTab : ByteArray := { data := (([0, 1, 2, 2, 3, 3, 3, 3, 4, 4, 4, 4, 4, 4, 4, 4, 5, 5, 5, 5, 5, 5, 5, 5, 5, 5, 5, 5, 5, 5, 5, 5, 6, 6, 6, 6, 6, 6, 6, 6, 6, 6, 6, 6, 6, 6, 6, 6, 6, 6, 6, 6, 6, 6, 6, 6, 6, 6, 6, 6, 6, 6, 6, 6].append [7, 7, 7, 7, 7, 7, 7, 7, 7, 7, 7, 7, 7, 7, 7, 7, 7, 7, 7, 7, 7, 7, 7, 7, 7, 7, 7, 7, 7, 7, 7, 7, 7, 7, 7, 7, 7, 7, 7, 7, 7, 7, 7, 7, 7, 7, 7, 7, 7, 7, 7, 7, 7, 7, 7, 7, 7, 7, 7, 7, 7, 7, 7, 7]).append ([8, 8, 8, 8, 8, 8, 8, 8, 8, 8, 8, 8, 8, 8, 8, 8, 8, 8, 8, 8, 8, 8, 8, 8, 8, 8, 8, 8, 8, 8, 8, 8, 8, 8, 8, 8, 8, 8, 8, 8, 8, 8, 8, 8, 8, 8, 8, 8, 8, 8, 8, 8, 8, 8, 8, 8, 8, 8, 8, 8, 8, 8, 8, 8].append [8, 8, 8, 8, 8, 8, 8, 8, 8, 8, 8, 8, 8, 8, 8, 8, 8, 8, 8, 8, 8, 8, 8, 8, 8, 8, 8, 8, 8, 8, 8, 8, 8, 8, 8, 8, 8, 8, 8, 8, 8, 8, 8, 8, 8, 8, 8, 8, 8, 8, 8, 8, 8, 8, 8, 8, 8, 8, 8, 8, 8, 8, 8, 8])).toArray }
theorem lenTab_ok : (List.range 256).all (fun k => Nat.beq ((lenTab.data.toList.getD k 0).toNat) (blen k)) = true := by kernel_rfl
theorem lenTab_at {k : Nat} (h : k < 256) : byteAt lenTab (k : Int) = (blen k : Int) := by
  have := List.all_eq_true.1 lenTab_ok k (List.mem_range.2 h)
  have := Nat.eq_of_beq_eq_true this
  unfold byteAt
  rw [Int.toNat_natCast, this]

theorem Len32_ok (x : Nat) (hx : x < 4294967296) : AC Tryz.prog 219 [.val (.int .u32 x)] (.pure (.val (.int .i64 (blen x)))) := by
  refine AC.of_body TTok Tryz.func219 rfl (enter_of Tryz.func219 (by kernel_rfl) (by kernel_rfl)) (noid1 (.val _)) (.val _) (Nat.le_of_ble_eq_true rfl) ?_
  have hbl := blen_le (n := x) (k := 32) hx
  have fdv : ∀ (y : Nat) (k : Nat), k ≤ 32 → ((y : Int).fdiv (2 ^ (min ((k : Nat) : Int).toNat IntKind.u32.bits))) = ((y / 2 ^ k : Nat) : Int) := by
    intro y k hk
    rw [Int.toNat_natCast, show IntKind.u32.bits = 32 from rfl, Nat.min_eq_left hk, Int.fdiv_eq_ediv_of_nonneg _ (Int.le_of_lt (Int.pow_pos (by decide)))]
    rfl
  have f16 : ∀ y : Nat, ((y : Int).fdiv (2 ^ (min (16 : Int).toNat IntKind.u32.bits))) = ((y / 2 ^ 16 : Nat) : Int) := fun y => fdv y 16 (by decide)
  have f8 : ∀ y : Nat, ((y : Int).fdiv (2 ^ (min (8 : Int).toNat IntKind.u32.bits))) = ((y / 2 ^ 8 : Nat) : Int) := fun y => fdv y 8 (by decide)
  have fin : ∀ (k : Nat) (a : Int) (q : Int), q = (k : Int) → k < 256 → 0 ≤ a → a ≤ 32 → IntKind.i64.wrap (a + IntKind.i64.wrap (byteAt lenTab (IntKind.u8.wrap q))) = a + blen k := by
    intro k a q hq hk h0 h1
    have hb := blen_le (n := k) (k := 8) hk
    subst hq
    rw [show IntKind.u8.wrap (k : Int) = (k : Int) by rw [IntKind.wrap_u8]; omega, lenTab_at hk, IntWalk.i64_in (blen k : Int) (by omega), IntWalk.i64_in _ (by omega)]
  have hcond : ∀ z : Int, 0 ≤ IntKind.u8.wrap z ∧ IntKind.u8.wrap z < (lenTab.size : Int) := by
    intro z
    rw [show lenTab.size = 256 by kernel_rfl, IntKind.wrap_u8]
    omega
  conv => whnf
  refine caseb (fun h1 => ?_) (fun h1 => ?_)
  · have h1' : (x : Int) ≥ 65536 := of_decide_eq_true h1
    have e1 := blen_div (n := x) (k := 16) (by show 65536 ≤ x; omega)
    have hq : x / 2 ^ 16 < 65536 := by show x / 65536 < 65536; omega
    have hq1 := f16 x
    conv => whnf
    refine ⟨by decide, ?_⟩
    conv => whnf
    refine caseb (fun h2 => ?_) (fun h2 => ?_)
    · have h2' : ((x : Int).fdiv (2 ^ (min (16 : Int).toNat IntKind.u32.bits))) ≥ 256 := of_decide_eq_true h2
      rw [hq1] at h2'
      generalize hqq : x / 2 ^ 16 = q at *
      have e2 := blen_div (n := q) (k := 8) (by show 256 ≤ q; omega)
      conv => whnf
      refine ⟨by decide, ?_⟩
      conv => whnf
      refine ⟨hcond _, ?_⟩
      conv => whnf
      refine valI ?_
      have hz : ((x : Int).fdiv (2 ^ (min (16 : Int).toNat IntKind.u32.bits))).fdiv (2 ^ (min (8 : Int).toNat IntKind.u32.bits)) = ((q / 2 ^ 8 : Nat) : Int) := by rw [hq1, f8]
      refine (fin (q / 2 ^ 8) (IntKind.i64.wrap (16 + 8)) _ hz (by show q / 256 < 256; omega) (by decide) (by decide)).trans ?_
      rw [show IntKind.i64.wrap (16 + 8) = 24 from rfl]
      omega
    · have h2' : ¬ ((x : Int).fdiv (2 ^ (min (16 : Int).toNat IntKind.u32.bits))) ≥ 256 := of_decide_eq_false h2
      rw [hq1] at h2'
      generalize hqq : x / 2 ^ 16 = q at *
      conv => whnf
      refine ⟨hcond _, ?_⟩
      conv => whnf
      refine valI ?_
      refine (fin q 16 _ hq1 (by omega) (by decide) (by decide)).trans ?_
      omega
  · have h1' : ¬ (x : Int) ≥ 65536 := of_decide_eq_false h1
    conv => whnf
    refine caseb (fun h2 => ?_) (fun h2 => ?_)
    · have h2' : (x : Int) ≥ 256 := of_decide_eq_true h2
      have e2 := blen_div (n := x) (k := 8) (by show 256 ≤ x; omega)
      conv => whnf
      refine ⟨by decide, ?_⟩
      conv => whnf
      refine ⟨hcond _, ?_⟩
      conv => whnf
      refine valI ?_
      refine (fin (x / 2 ^ 8) (IntKind.i64.wrap (0 + 8)) _ (f8 x) (by show x / 256 < 256; omega) (by decide) (by decide)).trans ?_
      rw [show IntKind.i64.wrap (0 + 8) = 8 from rfl]
      omega
    · have h2' : ¬ (x : Int) ≥ 256 := of_decide_eq_false h2
      conv => whnf
      refine ⟨hcond _, ?_⟩
      conv => whnf
      refine valI ?_
      refine (fin x 0 _ rfl (by omega) (by decide) (by decide)).trans ?_
      omega

theorem Lead_ok (x : Nat) (hx : x < 4294967296) : AC Tryz.prog 198 [.val (.int .u32 x)] (.pure (.val (.int .i64 (32 - (blen x : Int))))) := by
  refine AC.of_body TTok Tryz.func198 rfl (enter_of Tryz.func198 (by kernel_rfl) (by kernel_rfl)) (noid1 (.val _)) (.val _) (Nat.le_of_ble_eq_true rfl) ?_
  have hbl := blen_le (n := x) (k := 32) hx
  conv => whnf
  refine ⟨_, Len32_ok x hx, ?_⟩
  conv => whnf
  refine valI ?_
  rw [IntWalk.i64_in _ (by omega)]

theorem blen_limbs {n : Nat} {l : List Int} {x : Nat} (h : limbs n = l ++ [(x : Int)]) (h0 : 0 < x) : blen n = 32 * l.length + blen x := by
  have hv := val_limbs n
  have hL := limbs_lim n
  rw [h] at hv hL
  rw [val_append] at hv
  simp only [val, Int.toNat_natCast, Nat.mul_zero, Nat.add_zero] at hv
  have hlt := val_lt (l := l) (fun y hy => hL y (by simp [hy]))
  have hp : (4294967296 : Nat) ^ l.length = 2 ^ (32 * l.length) := by rw [Nat.pow_mul]
  rw [hp] at hv hlt
  have hge : 2 ^ (32 * l.length) ≤ n := by
    have : 2 ^ (32 * l.length) * 1 ≤ 2 ^ (32 * l.length) * x := Nat.mul_le_mul_left _ h0
    omega
  have hq : n / 2 ^ (32 * l.length) = x := by
    rw [← hv, Nat.add_mul_div_left _ _ (Nat.two_pow_pos _), Nat.div_eq_of_lt hlt]
    omega
  rw [blen_div hge, hq]
  omega

end Go.Proofs.YtbdklokfijjifaaGreat

/- The chapter's examples: what awake computes. -/
set_option linter.unusedVariables false
namespace Go.Proofs.YtbdklokfijjifaaGreat
open Go Go.AL NM

theorem decL_one (d : Nat) (h : d < 10) : decL d = [((48 + d : Nat) : Int)] := by
  have := decL_valL (l := [((48 + d : Nat) : Int)]) (by intro x hx; simp at hx; omega) (by simp) (.inl rfl)
  rw [show valL [((48 + d : Nat) : Int)] = d by simp [valL, valR]; omega] at this
  exact this
theorem decS_is (n : Nat) (l : List Int) (hl : Byt l) : ((decS n).toList == (strL l).toList) = decide (decL n = l) := str_beq (fun x hx => by have := decL_byt n x hx; omega) hl

end Go.Proofs.YtbdklokfijjifaaGreat

/- Contracts of the document's answer: which texts are numbers. -/
set_option linter.unusedVariables false
namespace Go.Proofs.YtbdklokfijjifaaGreat
open Go Go.AL NM

def isDig (x : Int) : Bool := decide (48 ≤ x ∧ x < 58)
/-- Digits, from one to 2000. -/
def right (l : List Int) : Bool := decide (1 ≤ l.length ∧ l.length ≤ 2000) && l.all isDig
theorem right_dig {l : List Int} (h : right l = true) : Dig l ∧ l ≠ [] ∧ l.length ≤ 2000 := by
  simp only [right, Bool.and_eq_true, decide_eq_true_eq, List.all_eq_true] at h
  refine ⟨fun x hx => by have := h.2 x hx; simpa [isDig] using this, fun e => by rw [e] at h; simp at h, h.1.2⟩
theorem right_false {l : List Int} {x : Int} (hx : x ∈ l) (hn : ¬ (48 ≤ x ∧ x < 58)) : right l = false := by
  unfold right
  have : l.all isDig = false := by
    rw [List.all_eq_false]
    exact ⟨x, hx, by simp [isDig]; omega⟩
  rw [this, Bool.and_false]
theorem right_long {l : List Int} (h : 2000 < l.length) : right l = false := by
  unfold right
  rw [decide_eq_false (by omega), Bool.false_and]

theorem Right_ok (l : List Int) (hB : Byt l) (hb : l.length < 140737488355328) : AC Tryz.prog 142 [.val (.string (strL l))] (.pure (.val (.bool (right l)))) := by
  refine AC.of_body TTok Tryz.func142 rfl (enter_of Tryz.func142 (by kernel_rfl) (by kernel_rfl)) (noid1 (.val _)) (.val _) (Nat.le_of_ble_eq_true rfl) ?_
  have hsz := strL_size l
  conv => whnf
  refine SW.loopM TTok (fun i : Nat => [(0, .val (.string (strL l))), (3, .val (.int .i64 i))]) (fun _ => []) 16 32 rfl (fun i => l.length - i)
    (fun i => i ≤ l.length ∧ i ≤ 2001 ∧ ∀ x ∈ l.take i, 48 ≤ x ∧ x < 58) 0 [] ⟨Nat.zero_le _, Nat.zero_le _, fun x hx => by simp at hx⟩ ⟨⟨rfl, rfl⟩, ⟨rfl, rfl⟩, trivial⟩ trivial rfl ?_
  rintro i ⟨hi, hi2, hd⟩
  conv => whnf
  refine caseb (fun h1 => ?_) (fun h1 => ?_)
  · have h1' : (i : Int) < ((strL l).size : Int) := of_decide_eq_true h1
    rw [hsz] at h1'
    have hlt : i < l.length := by omega
    have hby : byteAt (strL l) (i : Int) = l[i]'hlt := byteAt_strL hB (by omega) (by rw [Int.toNat_natCast]; exact List.getElem?_eq_getElem hlt)
    have hmem : l[i]'hlt ∈ l := List.getElem_mem _
    conv => whnf
    refine caseb (fun h2 => ?_) (fun h2 => ?_)
    · have h2' : (i : Int) ≤ 2000 := of_decide_eq_true h2
      conv => whnf
      refine ⟨⟨by omega, by rw [hsz]; omega⟩, ?_⟩
      conv => whnf
      refine caseb (fun h3 => ?_) (fun h3 => ?_)
      · have h3' : byteAt (strL l) (i : Int) < 48 := of_decide_eq_true h3
        rw [hby] at h3'
        conv => whnf
        refine valB ?_
        rw [right_false hmem (by omega)]
      · have h3' : ¬ byteAt (strL l) (i : Int) < 48 := of_decide_eq_false h3
        rw [hby] at h3'
        conv => whnf
        refine ⟨⟨by omega, by rw [hsz]; omega⟩, ?_⟩
        conv => whnf
        refine caseb (fun h4 => ?_) (fun h4 => ?_)
        · have h4' : byteAt (strL l) (i : Int) > 57 := of_decide_eq_true h4
          rw [hby] at h4'
          conv => whnf
          refine valB ?_
          rw [right_false hmem (by omega)]
        · have h4' : ¬ byteAt (strL l) (i : Int) > 57 := of_decide_eq_false h4
          rw [hby] at h4'
          conv => whnf
          refine ⟨i + 1, [], (by show l.length - (i + 1) < l.length - i; omega), ⟨(by omega), (by omega), ?_⟩, ⟨⟨rfl, rfl⟩, ⟨valI ?_, rfl⟩, trivial⟩, trivial, rfl⟩
          · intro x hx
            rw [List.take_succ_eq_append_getElem hlt] at hx
            rcases List.mem_append.1 hx with hx | hx
            · exact hd x hx
            · simp at hx; subst hx; omega
          · rw [IntWalk.i64_in _ (by omega)]; omega
    · have h2' : ¬ (i : Int) ≤ 2000 := of_decide_eq_false h2
      conv => whnf
      refine caseb (fun h5 => ?_) (fun h5 => ?_)
      · have h5' : ((strL l).size : Int) ≥ 1 := of_decide_eq_true h5
        rw [hsz] at h5'
        conv => whnf
        refine valB ?_
        show decide (((strL l).size : Int) ≤ 2000) = right l
        rw [hsz]
        rw [right_long (by omega), decide_eq_false (by omega)]
      · have h5' : ¬ ((strL l).size : Int) ≥ 1 := of_decide_eq_false h5
        rw [hsz] at h5'
        conv => whnf
        refine valB ?_
        show false = right l
        unfold right
        rw [decide_eq_false (by omega), Bool.false_and]
  · have h1' : ¬ (i : Int) < ((strL l).size : Int) := of_decide_eq_false h1
    rw [hsz] at h1'
    conv => whnf
    refine caseb (fun h5 => ?_) (fun h5 => ?_)
    · have h5' : ((strL l).size : Int) ≥ 1 := of_decide_eq_true h5
      rw [hsz] at h5'
      conv => whnf
      refine valB ?_
      show decide (((strL l).size : Int) ≤ 2000) = right l
      rw [hsz]
      have hall : l.all isDig = true := by
        rw [List.all_eq_true]
        intro x hx
        have := hd x (by rw [List.take_of_length_le (by omega)]; exact hx)
        simp only [isDig, decide_eq_true_eq]
        exact this
      unfold right
      rw [hall, Bool.and_true]
      exact decide_eq_decide.2 (by omega)
    · have h5' : ¬ ((strL l).size : Int) ≥ 1 := of_decide_eq_false h5
      rw [hsz] at h5'
      conv => whnf
      refine valB ?_
      show false = right l
      unfold right
      rw [decide_eq_false (by omega), Bool.false_and]

end Go.Proofs.YtbdklokfijjifaaGreat

/- Contracts of nat: what is no number. -/
set_option linter.unusedVariables false
namespace Go.Proofs.YtbdklokfijjifaaGreat
open Go Go.AL NM

theorem Parse_bad (l : List Int) (hB : Byt l) (hne : l ≠ []) (hb : l.length ≤ 2000) (hbad : ¬ Dig l) : AC Tryz.prog 128 [.val (.string (strL l))] (.pure (.tup [natA 0, .val (.bool false)])) := by
  refine AC.le_res (v := .tup [.agg [.sl 0 [] true], .val (.bool false)]) ?_ (.tup2 zero_le (.refl _)) (.tup _ (noid2 (natA_noid _) (.val _)))
  refine AC.of_body TTok Tryz.func128 rfl (enter_of Tryz.func128 (by kernel_rfl) (by kernel_rfl)) (noid1 (.val _)) (.tup _ (noid2 zero_noid (.val _))) (Nat.le_of_ble_eq_true rfl) ?_
  conv => whnf
  refine caseb (fun h1 => ?_) (fun h1 => ?_)
  · have h1' := str_beq hB (b := []) (fun x hx => (nomatch hx))
    rw [decide_eq_false hne] at h1'
    rw [show ((strL l).toList == (strL []).toList) = true from h1] at h1'
    cases h1'
  conv => whnf
  refine caseb (fun h2 => ?_) (fun h2 => ?_)
  · have h2' : ((strL l).size : Int) > 2000 := of_decide_eq_true h2
    rw [strL_size] at h2'
    omega
  conv => whnf
  refine SW.weak (Wk.leB 72 rfl (y := .sl 1 (irows .u32 (limbs 0)) false) (by rw [limbs_zero]; exact .sl _ _ _)) rfl ?_
  refine SW.loopM TTok (fun x : Nat × List Int => [(0, .val (.string (strL x.2))), (2, .lp 0 0), (4, .lp 72 0)])
    (fun x => [(0, .cells 1 [[.sl 0 [] true]]), (72, .cells 1 [[.sl 1 (irows .u32 (limbs x.1)) false]])]) 80 60 rfl (fun x => x.2.length)
    (fun x => Byt x.2 ∧ x.2.length ≤ l.length ∧ x.1 < 10 ^ (l.length - x.2.length) ∧ (Dig x.2 → Dig l)) (0, l) [] ⟨hB, Nat.le_refl _, by simp, fun h => h⟩
    ⟨⟨rfl, rfl⟩, ⟨rfl, rfl⟩, ⟨rfl, rfl⟩, trivial⟩ ⟨⟨rfl, .inr ⟨rfl, rfl⟩⟩, ⟨rfl, .inr ⟨rfl, rfl⟩⟩, trivial⟩ rfl ?_
  rintro ⟨v, r⟩ ⟨hr, hrl, hv, hval⟩
  have hr : Byt r := hr
  have hrl : r.length ≤ l.length := hrl
  have hv : v < 10 ^ (l.length - r.length) := hv
  have hval : Dig r → Dig l := hval
  have hsz := strL_size r
  conv => whnf
  refine caseb (fun h3 => ?_) (fun h3 => ?_)
  · have h3' : ((strL r).size : Int) > 0 := of_decide_eq_true h3
    rw [hsz] at h3'
    have ek : (if ((strL r).size : Int) < 9 then ((strL r).size : Int) else 9) = ((min 9 r.length : Nat) : Int) := by
      rw [hsz]; split <;> omega
    have hk9 : min 9 r.length ≤ 9 := Nat.min_le_left _ _
    have hkr : min 9 r.length ≤ r.length := Nat.min_le_right _ _
    have hk0 : 0 < min 9 r.length := by omega
    generalize min 9 r.length = k at *
    have es : bytesL ((strL r).extract 0 (if ((strL r).size : Int) < 9 then ((strL r).size : Int) else 9).toNat) = r.take k := by
      rw [ek, strL_extract, Int.toNat_natCast, List.drop_zero, bytesL_strL (hr.take k)]
    conv => whnf
    refine ⟨⟨by rw [ek]; omega, by rw [ek, hsz]; omega⟩, ?_⟩
    conv => whnf
    refine SW.loopM TTok (fun x : Nat => [(0, .val (.string (strL r))), (2, .lp 0 0), (4, .lp 72 0), (5, .val (.int .i64 k)), (6, .val (.int .u64 (valL (r.take x)))), (7, .val (.int .u64 (10 ^ x : Nat))), (27, .sl 1 (irows .u8 (r.take k)) false), (28, .val (.int .i64 k)), (29, .val (.int .i64 x))])
      (fun x => [(0, .cells 1 [[.sl 0 [] true]]), (72, .cells 1 [[.sl 1 (irows .u32 (limbs v)) false]])]) 200 60 rfl (fun x => k - x)
      (fun x => x ≤ k ∧ Dig (r.take x)) 0 [] ⟨Nat.zero_le _, fun y hy => by simp at hy⟩
      ⟨⟨rfl, rfl⟩, ⟨rfl, rfl⟩, ⟨rfl, rfl⟩, ⟨valI ek, rfl⟩, ⟨rfl, rfl⟩, ⟨rfl, rfl⟩, ⟨slE ?_, rfl⟩, ⟨valI ?_, rfl⟩, ⟨rfl, rfl⟩, trivial⟩ ⟨⟨rfl, .inr ⟨rfl, rfl⟩⟩, ⟨rfl, .inr ⟨rfl, rfl⟩⟩, trivial⟩ rfl ?_
    · rw [es]
    · rw [es, irows_len, List.length_take, Nat.min_eq_left hkr]
    rintro i ⟨hi, hdi⟩
    have hX : valL (r.take i) < 10 ^ i := by
      have := valL_lt hdi
      rwa [List.length_take, Nat.min_eq_left (by omega)] at this
    have hp : 10 ^ i ≤ 1000000000 := Nat.le_trans (Nat.pow_le_pow_right (by decide) (show i ≤ 9 by omega)) (by decide)
    conv => whnf
    refine caseb (fun h4 => ?_) (fun h4 => ?_)
    · have h4' : (i : Int) < (k : Int) := of_decide_eq_true h4
      have hir : i < r.length := by omega
      have hc := hr (r[i]'hir) (List.getElem_mem _)
      conv => whnf
      refine ⟨[.val (.int .u8 (r[i]'hir))], ⟨by omega, irows_get _ _ (by rw [List.getElem?_take_of_lt (by omega)]; exact List.getElem?_eq_getElem hir)⟩, ?_⟩
      conv => whnf
      refine caseb (fun h5 => ?_) (fun h5 => ?_)
      · conv => whnf
        exact rfl
      have h5' : ¬ r[i]'hir < 48 := of_decide_eq_false h5
      conv => whnf
      refine caseb (fun h6 => ?_) (fun h6 => ?_)
      · conv => whnf
        exact rfl
      have h6' : ¬ r[i]'hir > 57 := of_decide_eq_false h6
      conv => whnf
      refine ⟨i + 1, [], (by show k - (i + 1) < k - i; omega), ⟨(by omega), ?_⟩,
        ⟨⟨rfl, rfl⟩, ⟨rfl, rfl⟩, ⟨rfl, rfl⟩, ⟨rfl, rfl⟩, ⟨valI ?_, rfl⟩, ⟨valI ?_, rfl⟩, ⟨rfl, rfl⟩, ⟨rfl, rfl⟩, ⟨valI ?_, rfl⟩, trivial⟩, ⟨⟨rfl, .inr ⟨rfl, rfl⟩⟩, ⟨rfl, .inr ⟨rfl, rfl⟩⟩, trivial⟩, rfl⟩
      · intro y hy
        rw [List.take_succ_eq_append_getElem hir] at hy
        rcases List.mem_append.1 hy with hy | hy
        · exact hdi y hy
        · simp at hy; subst hy; omega
      · rw [valL_take_succ hir, IntKind.wrap_u8]
        simp only [IntKind.wrap_u64]
        omega
      · rw [Nat.pow_succ]
        simp only [IntKind.wrap_u64]
        omega
      · show IntKind.i64.wrap ((i : Int) + 1) = ((i + 1 : Nat) : Int)
        rw [IntWalk.i64_in _ (by omega)]; omega
    · have h4' : ¬ (i : Int) < (k : Int) := of_decide_eq_false h4
      have hik : i = k := by omega
      subst hik
      have hvl : (limbs v).length ≤ 2000 := Nat.le_trans (limbs_ten hv) (by omega)
      have hsl : (limbs (10 ^ i)).length ≤ 2 := limbs_len_le (by omega)
      have hxl : (limbs (valL (r.take i))).length ≤ 2 := limbs_len_le (by omega)
      have hnew : v * 10 ^ i + valL (r.take i) < 10 ^ (l.length - (r.drop i).length) := by
        rw [List.length_drop, show l.length - (r.length - i) = (l.length - r.length) + i by omega, Nat.pow_add]
        have : (v + 1) * 10 ^ i ≤ 10 ^ (l.length - r.length) * 10 ^ i := Nat.mul_le_mul_right _ hv
        rw [Nat.add_mul] at this
        omega
      have hml : (limbs (v * 10 ^ i)).length ≤ 2000 := by
        refine Nat.le_trans (limbs_len_mono (b := v * 10 ^ i + valL (r.take i)) (by omega)) (Nat.le_trans (limbs_ten hnew) ?_)
        omega
      conv => whnf
      refine ⟨_, Of_ok (10 ^ i) (by omega), ?_⟩
      conv => whnf
      refine ⟨_, Mul_ok v (10 ^ i) (by omega), ?_⟩
      conv => whnf
      refine ⟨_, Of_ok (valL (r.take i)) (by omega), ?_⟩
      conv => whnf
      refine ⟨_, Add_ok (v * 10 ^ i) (valL (r.take i)) (by omega), ?_⟩
      conv => whnf
      refine ⟨by kernel_rfl, ?_⟩
      conv => whnf
      refine ⟨⟨by omega, by rw [hsz]; omega⟩, ?_⟩
      conv => whnf
      refine ⟨(v * 10 ^ i + valL (r.take i), r.drop i), [], (by show (r.drop i).length < r.length; rw [List.length_drop]; omega), ⟨hr.drop i, (by show (r.drop i).length ≤ l.length; rw [List.length_drop]; omega), hnew, ?_⟩,
        ⟨⟨strE ?_, rfl⟩, ⟨rfl, rfl⟩, ⟨rfl, rfl⟩, trivial⟩, ⟨⟨rfl, .inr ⟨rfl, rfl⟩⟩, ⟨rfl, .inr ⟨rfl, rfl⟩⟩, trivial⟩, rfl⟩
      · intro hdr
        refine hval fun y hy => ?_
        rw [← List.take_append_drop i r] at hy
        rcases List.mem_append.1 hy with hy | hy
        · exact hdi y hy
        · exact hdr y hy
      · show (strL r).extract ((i : Int).toNat) (strL r).size = strL (r.drop i)
        rw [strL_extract, hsz, List.take_of_length_le (Nat.le_refl _), Int.toNat_natCast]
  · have h3' : ¬ ((strL r).size : Int) > 0 := of_decide_eq_false h3
    rw [hsz] at h3'
    have hr0 : r = [] := List.eq_nil_of_length_eq_zero (by omega)
    subst hr0
    exact absurd (hval (fun y hy => (nomatch hy))) hbad

theorem Parse_empty : AC Tryz.prog 128 [.val (.string (strL []))] (.pure (.tup [natA 0, .val (.bool false)])) := by
  refine AC.le_res (v := .tup [.agg [.sl 0 [] true], .val (.bool false)]) ?_ (.tup2 zero_le (.refl _)) (.tup _ (noid2 (natA_noid _) (.val _)))
  refine AC.of_body TTok Tryz.func128 rfl (enter_of Tryz.func128 (by kernel_rfl) (by kernel_rfl)) (noid1 (.val _)) (.tup _ (noid2 zero_noid (.val _))) (Nat.le_of_ble_eq_true rfl) ?_
  have h0 : ((strL []).toList == (strL []).toList) = true := beq_self_eq_true _
  conv => whnf
  refine caseb (fun _ => ?_) (fun h => Bool.noConfusion (h0.symm.trans h))
  conv => whnf
  exact rfl

theorem Parse_long (l : List Int) (hB : Byt l) (hl : 2000 < l.length) : AC Tryz.prog 128 [.val (.string (strL l))] (.pure (.tup [natA 0, .val (.bool false)])) := by
  refine AC.le_res (v := .tup [.agg [.sl 0 [] true], .val (.bool false)]) ?_ (.tup2 zero_le (.refl _)) (.tup _ (noid2 (natA_noid _) (.val _)))
  refine AC.of_body TTok Tryz.func128 rfl (enter_of Tryz.func128 (by kernel_rfl) (by kernel_rfl)) (noid1 (.val _)) (.tup _ (noid2 zero_noid (.val _))) (Nat.le_of_ble_eq_true rfl) ?_
  conv => whnf
  refine caseb (fun h1 => ?_) (fun h1 => ?_)
  · conv => whnf
    exact rfl
  conv => whnf
  refine caseb (fun h2 => ?_) (fun h2 => ?_)
  · conv => whnf
    exact rfl
  · have h2' : ¬ ((strL l).size : Int) > 2000 := of_decide_eq_false h2
    rw [strL_size] at h2'
    omega

/-- A number out of any text. -/
theorem Parse_any (l : List Int) (hB : Byt l) : AC Tryz.prog 128 [.val (.string (strL l))] (.pure (.tup [natA (if right l = true then valL l else 0), .val (.bool (right l))])) := by
  cases h : right l with
  | true =>
    obtain ⟨h1, h2, h3⟩ := right_dig h
    rw [if_pos rfl]
    exact Parse_ok l h1 h2 h3
  | false =>
    rw [if_neg (by decide)]
    by_cases h0 : l = []
    · subst h0; exact Parse_empty
    · rcases Nat.lt_or_ge 2000 l.length with h3 | h3
      · exact Parse_long l hB h3
      · refine Parse_bad l hB h0 h3 fun hd => ?_
        have : right l = true := by
          unfold right
          have hp := List.length_pos_iff.2 h0
          rw [decide_eq_true (by omega), Bool.true_and, List.all_eq_true]
          intro x hx
          have := hd x hx
          simp only [isDig, decide_eq_true_eq]
          exact this
        rw [this] at h
        cases h

end Go.Proofs.YtbdklokfijjifaaGreat

/- Contracts of the document's answer: the order of trimmed digits. -/
set_option linter.unusedVariables false
namespace Go.Proofs.YtbdklokfijjifaaGreat
open Go Go.AL NM

theorem u8_lt {x y : Int} (hx : 48 ≤ x ∧ x < 58) (hy : 48 ≤ y ∧ y < 58) : (UInt8.ofNat x.toNat < UInt8.ofNat y.toNat) ↔ x < y := by
  rw [UInt8.lt_iff_toNat_lt, UInt8.toNat_ofNat', UInt8.toNat_ofNat']
  omega
theorem u8_eq {x y : Int} (hx : 48 ≤ x ∧ x < 58) (hy : 48 ≤ y ∧ y < 58) : (UInt8.ofNat x.toNat = UInt8.ofNat y.toNat) ↔ x = y := by
  constructor
  · intro h
    have := congrArg UInt8.toNat h
    rw [UInt8.toNat_ofNat', UInt8.toNat_ofNat'] at this
    omega
  · rintro rfl; rfl
theorem less_dig : ∀ (a b : List Int), Dig a → Dig b → a.length = b.length → Op.bytesLess (a.map fun n => UInt8.ofNat n.toNat) (b.map fun n => UInt8.ofNat n.toNat) = decide (valL a < valL b)
  | [], [], _, _, _ => rfl
  | [], _ :: _, _, _, h => by cases h
  | _ :: _, [], _, _, h => by cases h
  | x :: a, y :: b, ha, hb, hl => by
    have hl' : a.length = b.length := by simpa using hl
    have ih := less_dig a b ha.cons.2 hb.cons.2 hl'
    have hx := ha.cons.1
    have hy := hb.cons.1
    have h1 := valL_lt ha.cons.2
    have h2 := valL_lt hb.cons.2
    simp only [List.map_cons, Op.bytesLess, ih]
    rw [valL_cons, valL_cons, hl']
    rw [hl'] at h1
    by_cases hlt : x < y
    · have hm : ((x - 48).toNat + 1) * 10 ^ b.length ≤ (y - 48).toNat * 10 ^ b.length := Nat.mul_le_mul_right _ (by omega)
      rw [Nat.add_mul] at hm
      rw [decide_eq_true ((u8_lt hx hy).2 hlt), Bool.true_or, decide_eq_true (by omega)]
    · rw [decide_eq_false (fun h => hlt ((u8_lt hx hy).1 h)), Bool.false_or]
      by_cases heq : x = y
      · subst heq
        simp
      · have hm : ((y - 48).toNat + 1) * 10 ^ b.length ≤ (x - 48).toNat * 10 ^ b.length := Nat.mul_le_mul_right _ (by omega)
        rw [Nat.add_mul] at hm
        have hne : ¬ (UInt8.ofNat x.toNat = UInt8.ofNat y.toNat) := fun h => heq ((u8_eq hx hy).1 h)
        rw [beq_eq_false_iff_ne.2 hne, Bool.false_and, decide_eq_false (by omega)]
theorem less_str {a b : List Int} (ha : Dig a) (hb : Dig b) (hl : a.length = b.length) : Op.bytesLess (strL a).toList (strL b).toList = decide (valL a < valL b) := by
  rw [ByteArray.toList_eq, ByteArray.toList_eq]
  have := less_dig a b ha hb hl
  simpa [strL] using this
theorem decL_len_lt {n m : Nat} (h : (decL n).length < (decL m).length) : n < m := by
  rcases Nat.lt_or_ge n m with h' | h'
  · exact h'
  · exfalso
    have h1 := valL_lt (decL_byt n)
    rw [valL_decL] at h1
    have hm0 : m ≠ 0 := by
      rintro rfl
      have := List.length_pos_iff.2 (decL_ne n)
      have : (decL 0).length = 1 := rfl
      omega
    have h2 : (decR m).length ≤ (decL n).length := decR_len (by omega)
    have h3 : (decL m).length = (decR m).length := by unfold decL; rw [if_neg hm0, List.length_reverse]
    omega

theorem RCmp_ok (n m : Nat) : AC Tryz.prog 196 [.val (.string (decS n)), .val (.string (decS m))] (.pure (.val (.int .i64 (cmpN n m)))) := by
  refine AC.of_body TTok Tryz.func196 rfl (enter_of Tryz.func196 (by kernel_rfl) (by kernel_rfl)) (noid2 (.val _) (.val _)) (.val _) (Nat.le_of_ble_eq_true rfl) ?_
  have z1 : (decS n).size = (decL n).length := strL_size _
  have z2 : (decS m).size = (decL m).length := strL_size _
  have heq : ((decS n).toList == (decS m).toList) = decide (decL n = decL m) := decS_is n (decL m) (fun x hx => by have := decL_byt m x hx; omega)
  conv => whnf
  refine caseb (fun h1 => ?_) (fun h1 => ?_)
  · have h1' : ((decS n).size : Int) ≠ ((decS m).size : Int) := bne_iff_ne.1 h1
    rw [z1, z2] at h1'
    conv => whnf
    refine caseb (fun h2 => ?_) (fun h2 => ?_)
    · have h2' : ((decS n).size : Int) < ((decS m).size : Int) := of_decide_eq_true h2
      rw [z1, z2] at h2'
      conv => whnf
      refine valI ?_
      rw [cmpN_lt (decL_len_lt (by omega))]
    · have h2' : ¬ ((decS n).size : Int) < ((decS m).size : Int) := of_decide_eq_false h2
      rw [z1, z2] at h2'
      conv => whnf
      refine valI ?_
      rw [cmpN_gt (decL_len_lt (by omega))]
  · have h1' : ((decS n).size : Int) = ((decS m).size : Int) := by
      refine Decidable.byContradiction fun h => ?_
      have := bne_iff_ne.2 h
      rw [show ((((decS n).size : Nat) : Int) != (((decS m).size : Nat) : Int)) = false from h1] at this
      cases this
    rw [z1, z2] at h1'
    have hless : Op.bytesLess (decS n).toList (decS m).toList = decide (n < m) := by
      have := less_str (decL_byt n) (decL_byt m) (by omega)
      rwa [valL_decL, valL_decL] at this
    conv => whnf
    refine caseb (fun h2 => ?_) (fun h2 => ?_)
    · have h2' : decL n = decL m := of_decide_eq_true (heq.symm.trans h2)
      have hnm : n = m := by rw [← valL_decL n, h2', valL_decL]
      conv => whnf
      refine valI ?_
      rw [hnm, cmpN_eq]
    · have h2' : ¬ decL n = decL m := of_decide_eq_false (heq.symm.trans h2)
      have hnm : n ≠ m := fun h => h2' (by rw [h])
      conv => whnf
      refine caseb (fun h3 => ?_) (fun h3 => ?_)
      · have h3' : n < m := of_decide_eq_true (hless.symm.trans h3)
        conv => whnf
        refine valI ?_
        rw [cmpN_lt h3']
      · have h3' : ¬ n < m := of_decide_eq_false (hless.symm.trans h3)
        conv => whnf
        refine valI ?_
        rw [cmpN_gt (by omega)]

end Go.Proofs.YtbdklokfijjifaaGreat

/- Contracts of the document's answer: a number in 64 bits. -/
set_option linter.unusedVariables false
namespace Go.Proofs.YtbdklokfijjifaaGreat
open Go Go.AL NM

end Go.Proofs.YtbdklokfijjifaaGreat

/- Contracts of the law's own functions and of the reference: read, digit. -/
set_option linter.unusedVariables false
namespace Go.Proofs.YtbdklokfijjifaaGreat
open Go Go.AL NM

/-- A digit from the end on; 0: there is none. -/
def digE (l : List Int) (i : Nat) : Int := if i < l.length then l.reverse.getD i 0 - 48 else 0
theorem digit_ok (l : List Int) (hd : Dig l) (i : Nat) (hb : l.length < 140737488355328) : AC Tryz.prog 218 [.val (.string (strL l)), .val (.int .i64 i)] (.pure (.val (.int .i64 (digE l i)))) := by
  refine AC.of_body TTok Tryz.func218 rfl (enter_of Tryz.func218 (by kernel_rfl) (by kernel_rfl)) (noid2 (.val _) (.val _)) (.val _) (Nat.le_of_ble_eq_true rfl) ?_
  have hsz := strL_size l
  conv => whnf
  refine caseb (fun h1 => ?_) (fun h1 => ?_)
  · have h1' : (i : Int) ≥ ((strL l).size : Int) := of_decide_eq_true h1
    rw [hsz] at h1'
    conv => whnf
    refine valI ?_
    unfold digE
    rw [if_neg (by omega)]
  · have h1' : ¬ (i : Int) ≥ ((strL l).size : Int) := of_decide_eq_false h1
    rw [hsz] at h1'
    have hlt : l.length - 1 - i < l.length := by omega
    have hx := hd (l[l.length - 1 - i]'hlt) (List.getElem_mem _)
    have ei : IntKind.i64.wrap (IntKind.i64.wrap (((strL l).size : Int) - 1) - (i : Int)) = ((l.length - 1 - i : Nat) : Int) := by
      rw [hsz, IntWalk.i64_in ((l.length : Int) - 1) (by omega), IntWalk.i64_in _ (by omega)]; omega
    have hby : byteAt (strL l) ((l.length - 1 - i : Nat) : Int) = l[l.length - 1 - i]'hlt := byteAt_strL (Dig.byt hd) (by omega) (by rw [Int.toNat_natCast]; exact List.getElem?_eq_getElem hlt)
    conv => whnf
    refine ⟨⟨by rw [ei]; omega, by rw [ei, hsz]; omega⟩, ?_⟩
    conv => whnf
    refine valI ?_
    rw [ei, hby, IntKind.wrap_u8, IntWalk.i64_in _ (by omega)]
    unfold digE
    rw [if_pos (by omega), List.getD, List.getElem?_eq_getElem (by simp; omega), Option.getD_some, List.getElem_reverse]
    omega

end Go.Proofs.YtbdklokfijjifaaGreat

/- Contracts of nat: differences. -/
set_option linter.unusedVariables false
namespace Go.Proofs.YtbdklokfijjifaaGreat
open Go Go.AL NM

/-- The borrow of a difference of 32 bits, as its bits tell it. -/
theorem borrow_bits (x y d : BitVec 32) : (((~~~ x &&& y) ||| (~~~ (x ^^^ y) &&& d)).toNat / 2147483648) = if ((!x.msb && y.msb) || (!(x.msb ^^ y.msb) && d.msb)) = true then 1 else 0 := by
  have h : ∀ z : BitVec 32, z.toNat / 2147483648 = if z.msb = true then 1 else 0 := by
    intro z
    have hz := z.isLt
    rw [BitVec.msb_eq_decide]
    by_cases hc : 2 ^ (32 - 1) ≤ z.toNat
    · rw [if_pos (by simpa using hc)]
      simp at hc
      omega
    · rw [if_neg (by simpa using hc)]
      simp at hc
      omega
  rw [h, BitVec.msb_or, BitVec.msb_and, BitVec.msb_and, BitVec.msb_not, BitVec.msb_not, BitVec.msb_xor]
  rfl
theorem msb_int {x : Int} (h : 0 ≤ x ∧ x < 4294967296) : (BitVec.ofInt 32 x).msb = decide (2147483648 ≤ x) := by
  rw [BitVec.msb_eq_decide, BitVec.toNat_ofInt]
  apply decide_eq_decide.2
  omega
theorem ofw (z : BitVec 32) : BitVec.ofInt 32 (IntKind.u32.wrap (z.toNat : Int)) = z := by
  have hz := z.isLt
  rw [IntKind.wrap_u32, show (z.toNat : Int) % 4294967296 = (z.toNat : Int) by omega, BitVec.ofInt_natCast, BitVec.ofNat_toNat, BitVec.setWidth_eq]
theorem ones_xor (z : BitVec 32) : BitVec.ofInt 32 4294967295 ^^^ z = ~~~ z := by
  rw [show BitVec.ofInt 32 4294967295 = BitVec.allOnes 32 by decide, BitVec.allOnes_xor]

theorem Sub32_ok (x y c : Int) (hx : 0 ≤ x ∧ x < 4294967296) (hy : 0 ≤ y ∧ y < 4294967296) (hc : 0 ≤ c ∧ c ≤ 1) : AC Tryz.prog 220 [.val (.int .u32 x), .val (.int .u32 y), .val (.int .u32 c)] (.pure (.tup [.val (.int .u32 ((x - y - c) % 4294967296)), .val (.int .u32 (if x < y + c then 1 else 0))])) := by
  refine AC.of_body TTok Tryz.func220 rfl (enter_of Tryz.func220 (by kernel_rfl) (by kernel_rfl)) (by intro z hz; simp at hz; rcases hz with rfl | rfl | rfl <;> exact .val _) (.tup _ (noid2 (.val _) (.val _))) (Nat.le_of_ble_eq_true rfl) ?_
  conv => whnf
  refine ⟨by decide, ?_⟩
  conv => whnf
  refine tup2 (valI ?_) (valI ?_)
  · simp only [IntKind.wrap_u32]; omega
  · show (IntKind.u32.wrap ((BitVec.ofInt 32 (IntKind.u32.wrap ((BitVec.ofInt 32 (IntKind.u32.wrap ((BitVec.ofInt 32 4294967295 ^^^ BitVec.ofInt 32 x).toNat : Int)) &&& BitVec.ofInt 32 y).toNat : Int)) |||
      BitVec.ofInt 32 (IntKind.u32.wrap ((BitVec.ofInt 32 (IntKind.u32.wrap ((BitVec.ofInt 32 4294967295 ^^^ BitVec.ofInt 32 (IntKind.u32.wrap ((BitVec.ofInt 32 x ^^^ BitVec.ofInt 32 y).toNat : Int))).toNat : Int)) &&&
        BitVec.ofInt 32 (IntKind.u32.wrap (IntKind.u32.wrap (x - y) - c))).toNat : Int))).toNat : Int)).fdiv 2147483648 = _
    simp only [ofw, ones_xor]
    have hb := borrow_bits (BitVec.ofInt 32 x) (BitVec.ofInt 32 y) (BitVec.ofInt 32 (IntKind.u32.wrap (IntKind.u32.wrap (x - y) - c)))
    generalize hZ : ((~~~ BitVec.ofInt 32 x &&& BitVec.ofInt 32 y) ||| (~~~ (BitVec.ofInt 32 x ^^^ BitVec.ofInt 32 y) &&& BitVec.ofInt 32 (IntKind.u32.wrap (IntKind.u32.wrap (x - y) - c)))) = Z at *
    have hz := Z.isLt
    rw [Int.fdiv_eq_ediv_of_nonneg _ (by decide), IntKind.wrap_u32]
    have hd : 0 ≤ IntKind.u32.wrap (IntKind.u32.wrap (x - y) - c) ∧ IntKind.u32.wrap (IntKind.u32.wrap (x - y) - c) < 4294967296 := by
      simp only [IntKind.wrap_u32]; omega
    rw [msb_int hx, msb_int hy, msb_int hd] at hb
    have hd2 : IntKind.u32.wrap (IntKind.u32.wrap (x - y) - c) = (x - y - c) % 4294967296 := by simp only [IntKind.wrap_u32]; omega
    rw [hd2] at hb
    by_cases p : 2147483648 ≤ x <;> by_cases q : 2147483648 ≤ y <;> by_cases r : 2147483648 ≤ (x - y - c) % 4294967296 <;> by_cases u : x < y + c <;>
      simp [p, q, r] at hb <;> simp only [u, if_true, if_false] <;> omega

end Go.Proofs.YtbdklokfijjifaaGreat

/- Contracts of nat: differences of numbers. -/
set_option linter.unusedVariables false
namespace Go.Proofs.YtbdklokfijjifaaGreat
open Go Go.AL NM

theorem Sub_ge (n m : Nat) (hnm : m ≤ n) (hb : (limbs n).length < 4000000000) : AC Tryz.prog 205 [natA n, natA m] (.pure (.tup [natA (n - m), .val (.bool true)])) := by
  refine AC.of_body TTok Tryz.func205 rfl (enter_of Tryz.func205 (by kernel_rfl) (by kernel_rfl)) (noid2 (natA_noid n) (natA_noid m)) (.tup _ (noid2 (natA_noid _) (.val _))) (Nat.le_of_ble_eq_true rfl) ?_
  have hlm := limbs_len_mono hnm
  have hcmp := Cmp_ok n m hb (by omega)
  have hcn : ¬ cmpN n m < 0 := by
    unfold cmpN
    rw [if_neg (by omega)]
    split <;> decide
  generalize cmpN n m = cc at *
  unfold natA at hcmp
  unfold natA
  have hva := val_limbs n
  have hvb := val_limbs m
  have hLa := limbs_lim n
  have hLb := limbs_lim m
  generalize limbs n = a at *
  generalize limbs m = b at *
  subst hva
  subst hvb
  conv => whnf
  refine ⟨_, hcmp, ?_⟩
  conv => whnf
  refine caseb (fun h1 => absurd (of_decide_eq_true h1) hcn) (fun _ => ?_)
  conv => whnf
  refine ⟨⟨by rw [irows_len]; omega, by rw [irows_len]; omega, ?_⟩, ?_⟩
  · rw [irows_len]; show (a.length : Int) * 4 ≤ _; omega
  conv => whnf
  refine SW.loopM TTok (fun z : Nat × Nat × List Int => [(2, .lp 0 0), (3, .lp 8 0), (4, .lp 16 0), (6, .own 88 0 a.length), (7, .val (.int .u32 z.2.1)), (21, .val (.int .i64 a.length)), (22, .val (.int .i64 z.1))])
    (fun z => [(0, .cells 1 [[.sl 1 (irows .u32 a) false]]), (8, .cells 1 [[.sl 1 (irows .u32 b) false]]), (16, .cells 1 [[.sl 0 [] true]]), (88, .cells 1 (irows .u32 z.2.2))]) 144 52 rfl (fun z => a.length - z.1)
    (fun z => z.1 ≤ a.length ∧ z.2.1 ≤ 1 ∧ z.2.2.length = a.length ∧ Lim z.2.2 ∧ val z.2.2 + val (b.take z.1) = val (a.take z.1) + z.2.1 * 4294967296 ^ z.1 ∧ ∀ k, z.1 ≤ k → k < z.2.2.length → z.2.2[k]? = some 0)
    (0, 0, List.replicate a.length 0) [] ⟨Nat.zero_le _, Nat.zero_le _, by simp, Lim.rep _, by simp [val_rep, val], fun k _ hk => by simp at hk; simp [hk]⟩
    ⟨⟨rfl, rfl⟩, ⟨rfl, rfl⟩, ⟨rfl, rfl⟩, ⟨ownE rfl ?_, rfl⟩, ⟨rfl, rfl⟩, ⟨valI ?_, rfl⟩, ⟨rfl, rfl⟩, trivial⟩
    ⟨⟨rfl, .inr ⟨rfl, rfl⟩⟩, ⟨rfl, .inr ⟨rfl, rfl⟩⟩, ⟨rfl, .inr ⟨rfl, rfl⟩⟩, ⟨rfl, .inl ⟨celE ?_, irows_noid _ _⟩⟩, trivial⟩ rfl ?_
  · rw [irows_len]; omega
  · rw [irows_len]
  · rw [irows_len, Int.toNat_natCast, ← irows_rep]; rfl
  rintro ⟨i, c, out⟩ ⟨hi, hc, hl, hL, hv, hz⟩
  have hi : i ≤ a.length := hi
  have hc : c ≤ 1 := hc
  have hl : out.length = a.length := hl
  have hL : Lim out := hL
  have hv : val out + val (b.take i) = val (a.take i) + c * 4294967296 ^ i := hv
  have hz : ∀ k, i ≤ k → k < out.length → out[k]? = some 0 := hz
  conv => whnf
  refine caseb (fun h1 => ?_) (fun h1 => ?_)
  · have h1' : (i : Int) < (a.length : Int) := of_decide_eq_true h1
    have hlt : i < a.length := by omega
    have hklt : i < out.length := by omega
    have h0 : out[i]'hklt = 0 := by
      have := List.getElem?_eq_getElem (l := out) (i := i) hklt
      rw [hz i (Nat.le_refl _) hklt] at this
      injection this with this
      exact this.symm
    have hx := hLa (a[i]'hlt) (List.getElem_mem _)
    conv => whnf
    refine caseb (fun h2 => ?_) (fun h2 => ?_)
    · have h2' : (i : Int) < ((irows .u32 b).length : Int) := of_decide_eq_true h2
      rw [irows_len] at h2'
      have hylt : i < b.length := by omega
      have hy := hLb (b[i]'hylt) (List.getElem_mem _)
      have hys : val (b.take (i + 1)) = val (b.take i) + (b[i]'hylt).toNat * 4294967296 ^ i := val_take_succ hylt
      conv => whnf
      refine ⟨[.val (.int .u32 (b[i]'hylt))], ⟨by omega, irows_get _ _ (List.getElem?_eq_getElem hylt)⟩, ?_⟩
      conv => whnf
      refine ⟨[.val (.int .u32 (a[i]'hlt))], ⟨by omega, irows_get _ _ (List.getElem?_eq_getElem hlt)⟩, ?_⟩
      conv => whnf
      refine ⟨_, Sub32_ok (a[i]'hlt) (b[i]'hylt) (c : Int) hx hy ⟨by omega, by omega⟩, ?_⟩
      conv => whnf
      refine ⟨⟨by omega, by omega⟩, ?_⟩
      conv => whnf
      refine ⟨by rw [irows_len, hl]; omega, ?_⟩
      conv => whnf
      have hO : 0 ≤ (b[i]'hylt) ∧ (b[i]'hylt) < 4294967296 := hy
      obtain ⟨d, hd⟩ : ∃ d : Nat, (d : Int) = (a[i]'hlt - (b[i]'hylt) - (c : Int)) % 4294967296 := ⟨((a[i]'hlt - (b[i]'hylt) - (c : Int)) % 4294967296).toNat, by omega⟩
      obtain ⟨c', hc'⟩ : ∃ c' : Nat, (c' : Int) = (if a[i]'hlt < (b[i]'hylt) + (c : Int) then 1 else 0) := ⟨if a[i]'hlt < (b[i]'hylt) + (c : Int) then 1 else 0, by split <;> rfl⟩
      have hc1 : c' ≤ 1 := by split at hc' <;> omega
      have hdd : d + ((b[i]'hylt) : Int).toNat + c = (a[i]'hlt).toNat + c' * 4294967296 := by split at hc' <;> omega
      have hs := val_set out i (d : Int) hklt
      rw [h0] at hs
      simp only [Int.toNat_zero, Nat.zero_mul, Nat.add_zero, Int.toNat_natCast] at hs
      refine ⟨(i + 1, c', out.set i (d : Int)), [], (by show a.length - (i + 1) < a.length - i; omega), ⟨(by show i + 1 ≤ a.length; omega), hc1, ?_, ?_, ?_, ?_⟩,
        ⟨⟨rfl, rfl⟩, ⟨rfl, rfl⟩, ⟨rfl, rfl⟩, ⟨rfl, rfl⟩, ⟨valI hc'.symm, rfl⟩, ⟨rfl, rfl⟩, ⟨valI ?_, rfl⟩, trivial⟩,
        ⟨⟨rfl, .inr ⟨rfl, rfl⟩⟩, ⟨rfl, .inr ⟨rfl, rfl⟩⟩, ⟨rfl, .inr ⟨rfl, rfl⟩⟩, ⟨rfl, .inl ⟨celE ?_, irows_noid _ _⟩⟩, trivial⟩, rfl⟩
      · show (out.set i (d : Int)).length = _
        rw [List.length_set, hl]
      · exact hL.set ⟨by omega, by omega⟩
      · show val (out.set i (d : Int)) + val (b.take (i + 1)) = val (a.take (i + 1)) + c' * 4294967296 ^ (i + 1)
        rw [hs, val_take_succ hlt, hys, Nat.pow_succ, Nat.mul_comm (4294967296 ^ i) 4294967296, ← Nat.mul_assoc]
        have h9 : (d + ((b[i]'hylt) : Int).toNat + c) * 4294967296 ^ i = ((a[i]'hlt).toNat + c' * 4294967296) * 4294967296 ^ i := by rw [hdd]
        rw [Nat.add_mul, Nat.add_mul, Nat.add_mul] at h9
        omega
      · show ∀ k, i + 1 ≤ k → k < (out.set i (d : Int)).length → (out.set i (d : Int))[k]? = some 0
        intro k hk1 hk2
        rw [List.length_set] at hk2
        rw [List.getElem?_set_ne (by omega)]
        exact hz k (by omega) hk2
      · show IntKind.i64.wrap ((i : Int) + 1) = ((i + 1 : Nat) : Int)
        rw [IntWalk.i64_in _ (by omega)]; omega
      · show (irows .u32 out).set (0 + (i : Int).toNat) [AV.val (.int .u32 ((a[i]'hlt - (b[i]'hylt) - (c : Int)) % 4294967296))] = _
        rw [← hd, Nat.zero_add, Int.toNat_natCast, ← irows_set]
    · have h2' : ¬ (i : Int) < ((irows .u32 b).length : Int) := of_decide_eq_false h2
      rw [irows_len] at h2'
      have hys : val (b.take (i + 1)) = val (b.take i) + (0 : Int).toNat * 4294967296 ^ i := by
        rw [List.take_of_length_le (by omega), List.take_of_length_le (by omega)]
        simp
      conv => whnf
      refine ⟨[.val (.int .u32 (a[i]'hlt))], ⟨by omega, irows_get _ _ (List.getElem?_eq_getElem hlt)⟩, ?_⟩
      conv => whnf
      refine ⟨_, Sub32_ok (a[i]'hlt) (0 : Int) (c : Int) hx ⟨by decide, by decide⟩ ⟨by omega, by omega⟩, ?_⟩
      conv => whnf
      refine ⟨⟨by omega, by omega⟩, ?_⟩
      conv => whnf
      refine ⟨by rw [irows_len, hl]; omega, ?_⟩
      conv => whnf
      have hO : 0 ≤ (0 : Int) ∧ (0 : Int) < 4294967296 := ⟨by decide, by decide⟩
      obtain ⟨d, hd⟩ : ∃ d : Nat, (d : Int) = (a[i]'hlt - (0 : Int) - (c : Int)) % 4294967296 := ⟨((a[i]'hlt - (0 : Int) - (c : Int)) % 4294967296).toNat, by omega⟩
      obtain ⟨c', hc'⟩ : ∃ c' : Nat, (c' : Int) = (if a[i]'hlt < (0 : Int) + (c : Int) then 1 else 0) := ⟨if a[i]'hlt < (0 : Int) + (c : Int) then 1 else 0, by split <;> rfl⟩
      have hc1 : c' ≤ 1 := by split at hc' <;> omega
      have hdd : d + ((0 : Int) : Int).toNat + c = (a[i]'hlt).toNat + c' * 4294967296 := by split at hc' <;> omega
      have hs := val_set out i (d : Int) hklt
      rw [h0] at hs
      simp only [Int.toNat_zero, Nat.zero_mul, Nat.add_zero, Int.toNat_natCast] at hs
      refine ⟨(i + 1, c', out.set i (d : Int)), [], (by show a.length - (i + 1) < a.length - i; omega), ⟨(by show i + 1 ≤ a.length; omega), hc1, ?_, ?_, ?_, ?_⟩,
        ⟨⟨rfl, rfl⟩, ⟨rfl, rfl⟩, ⟨rfl, rfl⟩, ⟨rfl, rfl⟩, ⟨valI hc'.symm, rfl⟩, ⟨rfl, rfl⟩, ⟨valI ?_, rfl⟩, trivial⟩,
        ⟨⟨rfl, .inr ⟨rfl, rfl⟩⟩, ⟨rfl, .inr ⟨rfl, rfl⟩⟩, ⟨rfl, .inr ⟨rfl, rfl⟩⟩, ⟨rfl, .inl ⟨celE ?_, irows_noid _ _⟩⟩, trivial⟩, rfl⟩
      · show (out.set i (d : Int)).length = _
        rw [List.length_set, hl]
      · exact hL.set ⟨by omega, by omega⟩
      · show val (out.set i (d : Int)) + val (b.take (i + 1)) = val (a.take (i + 1)) + c' * 4294967296 ^ (i + 1)
        rw [hs, val_take_succ hlt, hys, Nat.pow_succ, Nat.mul_comm (4294967296 ^ i) 4294967296, ← Nat.mul_assoc]
        have h9 : (d + ((0 : Int) : Int).toNat + c) * 4294967296 ^ i = ((a[i]'hlt).toNat + c' * 4294967296) * 4294967296 ^ i := by rw [hdd]
        rw [Nat.add_mul, Nat.add_mul, Nat.add_mul] at h9
        omega
      · show ∀ k, i + 1 ≤ k → k < (out.set i (d : Int)).length → (out.set i (d : Int))[k]? = some 0
        intro k hk1 hk2
        rw [List.length_set] at hk2
        rw [List.getElem?_set_ne (by omega)]
        exact hz k (by omega) hk2
      · show IntKind.i64.wrap ((i : Int) + 1) = ((i + 1 : Nat) : Int)
        rw [IntWalk.i64_in _ (by omega)]; omega
      · show (irows .u32 out).set (0 + (i : Int).toNat) [AV.val (.int .u32 ((a[i]'hlt - (0 : Int) - (c : Int)) % 4294967296))] = _
        rw [← hd, Nat.zero_add, Int.toNat_natCast, ← irows_set]
  · have h1' : ¬ (i : Int) < (a.length : Int) := of_decide_eq_false h1
    have hia : i = a.length := by omega
    rw [hia, List.take_of_length_le (Nat.le_refl _), List.take_of_length_le (by omega)] at hv
    have hvl := val_lt hL
    rw [hl] at hvl
    have hc0 : c = 0 := by
      rcases Nat.eq_zero_or_pos c with h | h
      · exact h
      · have : c = 1 := by omega
        rw [this] at hv
        omega
    rw [hc0] at hv
    have ht := trim_ok out hL (by omega)
    rw [show val out = val a - val b by omega] at ht
    conv => whnf
    refine ⟨by show 0 + a.length ≤ (irows .u32 out).length; rw [irows_len]; omega, .pure (natA (val a - val b)), ?_, ?_⟩
    · show AC Tryz.prog 125 [.sl 1 (List.take a.length (List.drop 0 (irows .u32 out))) false] _
      rw [List.drop_zero, List.take_of_length_le (by rw [irows_len, hl]; exact Nat.le_refl _)]
      exact ht
    conv => whnf
    exact rfl

theorem Sub_lt (n m : Nat) (hnm : n < m) (hb : (limbs n).length < 4000000000) (hb' : (limbs m).length < 4000000000) : AC Tryz.prog 205 [natA n, natA m] (.pure (.tup [natA 0, .val (.bool false)])) := by
  refine AC.le_res (v := .tup [.agg [.sl 0 [] true], .val (.bool false)]) ?_ (.tup2 zero_le (.refl _)) (.tup _ (noid2 (natA_noid _) (.val _)))
  refine AC.of_body TTok Tryz.func205 rfl (enter_of Tryz.func205 (by kernel_rfl) (by kernel_rfl)) (noid2 (natA_noid n) (natA_noid m)) (.tup _ (noid2 zero_noid (.val _))) (Nat.le_of_ble_eq_true rfl) ?_
  have hcmp := Cmp_ok n m hb hb'
  rw [cmpN_lt hnm] at hcmp
  conv => whnf
  refine ⟨_, hcmp, ?_⟩
  conv => whnf
  exact rfl

end Go.Proofs.YtbdklokfijjifaaGreat

/- Digits of a number from the end on. -/
set_option linter.unusedVariables false
namespace Go.Proofs.YtbdklokfijjifaaGreat
open Go Go.AL NM

theorem decR_get (n i : Nat) : (decR n).getD i 48 = ((48 + n / 10 ^ i % 10 : Nat) : Int) := by
  induction i generalizing n with
  | zero =>
    by_cases h : n = 0
    · subst h; rw [decR_zero]; rfl
    · rw [decR_pos (by omega)]; simp
  | succ i ih =>
    by_cases h : n = 0
    · subst h; rw [decR_zero]; simp
    · rw [decR_pos (by omega), List.getD_cons_succ, ih, Nat.pow_succ, Nat.mul_comm, Nat.div_div_eq_div_mul]
theorem digE_dec (n i : Nat) : digE (decL n) i = ((n / 10 ^ i % 10 : Nat) : Int) := by
  have hg := decR_get n i
  by_cases h0 : n = 0
  · subst h0
    unfold digE decL
    rw [if_pos rfl]
    rcases i with _ | i
    · rfl
    · simp
  · unfold digE decL
    rw [if_neg h0, List.reverse_reverse, List.length_reverse]
    split
    · rename_i h
      rw [List.getD, List.getElem?_eq_getElem h, Option.getD_some] at *
      omega
    · rename_i h
      rw [List.getD, List.getElem?_eq_none (by omega), Option.getD_none] at hg
      omega

end Go.Proofs.YtbdklokfijjifaaGreat

/- Contracts of the reference: sums. -/
set_option linter.unusedVariables false
namespace Go.Proofs.YtbdklokfijjifaaGreat
open Go Go.AL NM

theorem decR_lt (n : Nat) : n < 10 ^ (decR n).length := by
  induction n using Nat.strongRecOn with
  | _ n ih =>
    by_cases h : n = 0
    · subst h; rw [decR_zero]; decide
    · have := ih (n / 10) (by omega)
      rw [decR_pos (by omega), List.length_cons, Nat.pow_succ]
      omega
theorem decL_lt (n : Nat) : n < 10 ^ (decL n).length := by
  unfold decL
  split
  · rename_i h; subst h; decide
  · rw [List.length_reverse]; exact decR_lt n
theorem decL_div {n i : Nat} (h : (decL n).length ≤ i) : n / 10 ^ i = 0 :=
  Nat.div_eq_of_lt (Nat.lt_of_lt_of_le (decL_lt n) (Nat.pow_le_pow_right (by decide) h))
theorem div_pow_succ (n i : Nat) : n / 10 ^ i = n / 10 ^ i % 10 + 10 * (n / 10 ^ (i + 1)) := by
  rw [Nat.pow_succ, ← Nat.div_div_eq_div_mul]
  omega

end Go.Proofs.YtbdklokfijjifaaGreat

/- Contracts of the reference: differences. -/
set_option linter.unusedVariables false
namespace Go.Proofs.YtbdklokfijjifaaGreat
open Go Go.AL NM

theorem valD_lt {l : List Int} (h : Dg l) : valD l < 10 ^ l.length := by
  induction l with
  | nil => decide
  | cons x l ih =>
    have h1 := h x List.mem_cons_self
    have h2 := ih (fun y hy => h y (List.mem_cons_of_mem _ hy))
    rw [valD, List.length_cons, Nat.pow_succ]
    omega

theorem RSub_ok (n m : Nat) (hnm : m ≤ n) (hb : (decL n).length + (decL m).length < 1000000000) : AC Tryz.prog 197 [.val (.string (decS n)), .val (.string (decS m))] (.pure (.val (.string (decS (n - m))))) := by
  refine AC.of_body TTok Tryz.func197 rfl (enter_of Tryz.func197 (by kernel_rfl) (by kernel_rfl)) (noid2 (.val _) (.val _)) (.val _) (Nat.le_of_ble_eq_true rfl) ?_
  have z1 : (decS n).size = (decL n).length := strL_size _
  have dn : ∀ i, AC Tryz.prog 218 [.val (.string (decS n)), .val (.int .i64 (i : Nat))] (.pure (.val (.int .i64 (n / 10 ^ i % 10 : Nat)))) := fun i => by
    have := digit_ok (decL n) (decL_byt n) i (by omega)
    rwa [digE_dec] at this
  have dm : ∀ i, AC Tryz.prog 218 [.val (.string (decS m)), .val (.int .i64 (i : Nat))] (.pure (.val (.int .i64 (m / 10 ^ i % 10 : Nat)))) := fun i => by
    have := digit_ok (decL m) (decL_byt m) i (by omega)
    rwa [digE_dec] at this
  conv => whnf
  refine SW.nil 5 1 rfl ?_
  refine SW.loopM TTok (fun x : Nat × Nat × List Int => [(0, .val (.string (decS n))), (1, .val (.string (decS m))), (5, .own 32 0 x.2.2.length), (6, .val (.int .i64 x.2.1)), (7, .val (.int .i64 x.1))])
    (fun x => [(32, .cells 1 (irows .i64 x.2.2))]) 40 34 rfl (fun x => (decL n).length - x.1)
    (fun x => x.1 ≤ (decL n).length ∧ x.2.1 ≤ 1 ∧ Dg x.2.2 ∧ x.2.2.length = x.1 ∧ valD x.2.2 + 10 ^ x.1 * (n / 10 ^ x.1) = (n - m) + 10 ^ x.1 * (m / 10 ^ x.1 + x.2.1)) (0, 0, []) [] ⟨Nat.zero_le _, Nat.zero_le _, (fun x hx => (nomatch hx)), rfl, by simp [valD]; omega⟩
    ⟨⟨rfl, rfl⟩, ⟨rfl, rfl⟩, ⟨rfl, rfl⟩, ⟨rfl, rfl⟩, ⟨rfl, rfl⟩, trivial⟩ ⟨⟨rfl, .inr ⟨rfl, rfl⟩⟩, trivial⟩ rfl ?_
  rintro ⟨i, c, out⟩ ⟨hi, hc, hD, hl, hv⟩
  have hi : i ≤ (decL n).length := hi
  have hc : c ≤ 1 := hc
  have hD : Dg out := hD
  have hl : out.length = i := hl
  have hv : valD out + 10 ^ i * (n / 10 ^ i) = (n - m) + 10 ^ i * (m / 10 ^ i + c) := hv
  have hle : 0 + out.length ≤ (irows .i64 out).length := by rw [irows_len]; omega
  have fin : (decL n).length ≤ i → ∃ r, AC Tryz.prog 167 [.sl 1 ((irows .i64 out).take out.length) false] (.pure r) ∧ r = .val (.string (decS (n - m))) := fun h1 => by
    refine ⟨_, ?_, rfl⟩
    have := written_ok out hD (by omega)
    have e : valD out = n - m := by
      have h2 := valD_lt hD
      rw [hl] at h2
      rw [decL_div h1, Nat.div_eq_of_lt (Nat.lt_of_le_of_lt hnm (Nat.lt_of_lt_of_le (decL_lt n) (Nat.pow_le_pow_right (by decide) h1)))] at hv
      rcases Nat.eq_zero_or_pos c with h0 | h0
      · subst h0; omega
      · have : 10 ^ i ≤ 10 ^ i * (0 + c) := Nat.le_mul_of_pos_right _ (by omega)
        omega
    rw [e] at this
    rw [List.take_of_length_le (by rw [irows_len]; exact Nat.le_refl _)]
    exact this
  have step : ∀ d c' : Nat, d ≤ 9 → c' ≤ 1 → d + m / 10 ^ i % 10 + c = n / 10 ^ i % 10 + 10 * c' → Dg (out ++ [(d : Int)]) ∧ valD (out ++ [(d : Int)]) + 10 ^ (i + 1) * (n / 10 ^ (i + 1)) = (n - m) + 10 ^ (i + 1) * (m / 10 ^ (i + 1) + c') := fun d c' h9 hc1 he => by
    refine ⟨?_, ?_⟩
    · intro x hx
      rcases List.mem_append.1 hx with hx | hx
      · exact hD x hx
      · simp at hx; omega
    · rw [div_pow_succ n i, div_pow_succ m i] at hv
      rw [valD_snoc, hl]
      revert hv
      generalize n / 10 ^ (i + 1) = a
      generalize m / 10 ^ (i + 1) = b
      rw [Nat.pow_succ, Nat.mul_assoc, Nat.mul_assoc]
      generalize n / 10 ^ i % 10 = u at *
      generalize m / 10 ^ i % 10 = v at *
      intro hv
      have h2 : 10 ^ i * (d + v + c) = 10 ^ i * (u + 10 * c') := by rw [he]
      simp only [Nat.mul_add] at hv h2 ⊢
      omega
  conv => whnf
  refine caseb (fun h1 => ?_) (fun h1 => ?_)
  · have h1' : (i : Int) < (decS n).size := of_decide_eq_true h1
    rw [z1] at h1'
    have ed : IntKind.i64.wrap (IntKind.i64.wrap (((n / 10 ^ i % 10 : Nat) : Int) - ((m / 10 ^ i % 10 : Nat) : Int)) - (c : Int)) = ((n / 10 ^ i % 10 : Nat) : Int) - ((m / 10 ^ i % 10 : Nat) : Int) - (c : Int) := by
      rw [IntWalk.i64_in (((n / 10 ^ i % 10 : Nat) : Int) - ((m / 10 ^ i % 10 : Nat) : Int)) (by omega), IntWalk.i64_in _ (by omega)]
    conv => whnf
    refine ⟨_, dn i, ?_⟩
    conv => whnf
    refine ⟨_, dm i, ?_⟩
    conv => whnf
    refine caseb (fun h2 => ?_) (fun h2 => ?_)
    · have h2' : IntKind.i64.wrap (IntKind.i64.wrap (((n / 10 ^ i % 10 : Nat) : Int) - ((m / 10 ^ i % 10 : Nat) : Int)) - (c : Int)) < 0 := of_decide_eq_true h2
      rw [ed] at h2'
      obtain ⟨s1, s2⟩ := step (n / 10 ^ i % 10 + 10 - m / 10 ^ i % 10 - c) 1 (by omega) (by omega) (by omega)
      conv => whnf
      refine ⟨⟨hle, by show (out.length + 1) * 8 ≤ 140737488355328; omega, Nat.le_of_ble_eq_true rfl⟩, ?_⟩
      conv => whnf
      refine ⟨(i + 1, 1, out ++ [((n / 10 ^ i % 10 + 10 - m / 10 ^ i % 10 - c : Nat) : Int)]), [(32, 232)], (by show (decL n).length - (i + 1) < (decL n).length - i; omega), ⟨(by show i + 1 ≤ (decL n).length; omega), Nat.le_refl 1, s1, (by show (out ++ [((n / 10 ^ i % 10 + 10 - m / 10 ^ i % 10 - c : Nat) : Int)]).length = i + 1; simp [hl]), s2⟩,
        ⟨⟨rfl, rfl⟩, ⟨rfl, rfl⟩, ⟨ownE rfl ?_, rfl⟩, ⟨rfl, rfl⟩, ⟨valI ?_, rfl⟩, trivial⟩, ⟨⟨rfl, .inl ⟨celE ?_, irows_noid _ _⟩⟩, trivial⟩, rfl⟩
      · show out.length + 1 = (out ++ [((n / 10 ^ i % 10 + 10 - m / 10 ^ i % 10 - c : Nat) : Int)]).length
        simp
      · show IntKind.i64.wrap ((i : Int) + 1) = ((i + 1 : Nat) : Int)
        rw [IntWalk.i64_in _ (by omega)]; omega
      · show List.take out.length (List.drop 0 (irows .i64 out)) ++ [[AV.val (.int .i64 (IntKind.i64.wrap (IntKind.i64.wrap (IntKind.i64.wrap (((n / 10 ^ i % 10 : Nat) : Int) - ((m / 10 ^ i % 10 : Nat) : Int)) - (c : Int)) + 10)))]] = _
        rw [ed, IntWalk.i64_in _ (by omega), show ((n / 10 ^ i % 10 : Nat) : Int) - ((m / 10 ^ i % 10 : Nat) : Int) - (c : Int) + 10 = ((n / 10 ^ i % 10 + 10 - m / 10 ^ i % 10 - c : Nat) : Int) by omega, List.drop_zero, List.take_of_length_le (by rw [irows_len]; exact Nat.le_refl _), ← irows_append]
        rfl
    · have h2' : ¬ IntKind.i64.wrap (IntKind.i64.wrap (((n / 10 ^ i % 10 : Nat) : Int) - ((m / 10 ^ i % 10 : Nat) : Int)) - (c : Int)) < 0 := of_decide_eq_false h2
      rw [ed] at h2'
      obtain ⟨s1, s2⟩ := step (n / 10 ^ i % 10 - m / 10 ^ i % 10 - c) 0 (by omega) (by omega) (by omega)
      conv => whnf
      refine ⟨⟨hle, by show (out.length + 1) * 8 ≤ 140737488355328; omega, Nat.le_of_ble_eq_true rfl⟩, ?_⟩
      conv => whnf
      refine ⟨(i + 1, 0, out ++ [((n / 10 ^ i % 10 - m / 10 ^ i % 10 - c : Nat) : Int)]), [(32, 200)], (by show (decL n).length - (i + 1) < (decL n).length - i; omega), ⟨(by show i + 1 ≤ (decL n).length; omega), Nat.zero_le 1, s1, (by show (out ++ [((n / 10 ^ i % 10 - m / 10 ^ i % 10 - c : Nat) : Int)]).length = i + 1; simp [hl]), s2⟩,
        ⟨⟨rfl, rfl⟩, ⟨rfl, rfl⟩, ⟨ownE rfl ?_, rfl⟩, ⟨rfl, rfl⟩, ⟨valI ?_, rfl⟩, trivial⟩, ⟨⟨rfl, .inl ⟨celE ?_, irows_noid _ _⟩⟩, trivial⟩, rfl⟩
      · show out.length + 1 = (out ++ [((n / 10 ^ i % 10 - m / 10 ^ i % 10 - c : Nat) : Int)]).length
        simp
      · show IntKind.i64.wrap ((i : Int) + 1) = ((i + 1 : Nat) : Int)
        rw [IntWalk.i64_in _ (by omega)]; omega
      · show List.take out.length (List.drop 0 (irows .i64 out)) ++ [[AV.val (.int .i64 (IntKind.i64.wrap (IntKind.i64.wrap (((n / 10 ^ i % 10 : Nat) : Int) - ((m / 10 ^ i % 10 : Nat) : Int)) - (c : Int))))]] = _
        rw [ed, show ((n / 10 ^ i % 10 : Nat) : Int) - ((m / 10 ^ i % 10 : Nat) : Int) - (c : Int) = ((n / 10 ^ i % 10 - m / 10 ^ i % 10 - c : Nat) : Int) by omega, List.drop_zero, List.take_of_length_le (by rw [irows_len]; exact Nat.le_refl _), ← irows_append]
        rfl
  · have h1' : ¬ (i : Int) < (decS n).size := of_decide_eq_false h1
    rw [z1] at h1'
    obtain ⟨r, hr, rfl⟩ := fin (by omega)
    conv => whnf
    refine ⟨hle, _, hr, ?_⟩
    conv => whnf
    exact rfl

end Go.Proofs.YtbdklokfijjifaaGreat

/- What the laws of two numbers read: every text. -/
set_option linter.unusedVariables false
namespace Go.Proofs.YtbdklokfijjifaaGreat
open Go Go.AL NM

theorem decL_len_le {n k : Nat} (hk : 1 ≤ k) (h : n < 10 ^ k) : (decL n).length ≤ k := by
  unfold decL
  split
  · simpa using hk
  · rw [List.length_reverse]; exact decR_len h

end Go.Proofs.YtbdklokfijjifaaGreat

/- Groups of nine digits: plain facts. -/
set_option linter.unusedVariables false
namespace NM

/-- The value of groups of nine digits, the greatest one first. -/
def valG (l : List Int) : Nat := l.foldl (fun a x => a * 1000000000 + x.toNat) 0
theorem valG_nil : valG [] = 0 := rfl
theorem valG_snoc (l : List Int) (x : Int) : valG (l ++ [x]) = valG l * 1000000000 + x.toNat := by
  unfold valG; rw [List.foldl_append]; rfl
def Gd (l : List Int) : Prop := ∀ x ∈ l, 0 ≤ x ∧ x < 1000000000
theorem Gd.snoc {l : List Int} {x : Int} (h : Gd l) (hx : 0 ≤ x ∧ x < 1000000000) : Gd (l ++ [x]) := by
  intro y hy
  rcases List.mem_append.1 hy with hy | hy
  · exact h y hy
  · simp at hy; subst hy; exact hx
theorem valG_take {l : List Int} {k : Nat} (h : k < l.length) : valG (l.take (k + 1)) = valG (l.take k) * 1000000000 + (l[k]).toNat := by
  rw [List.take_succ_eq_append_getElem h, valG_snoc]

theorem valL_take {l : List Int} {k : Nat} (h : k < l.length) : valL (l.take (k + 1)) = 10 * valL (l.take k) + (l[k] - 48).toNat := by
  rw [List.take_succ_eq_append_getElem h, valL_snoc]

end NM
namespace NM
/-- One digit more: how many digits are left, the group begun, the groups done. -/
def gstep (s : Nat × Nat × List Int) (c : Int) : Nat × Nat × List Int :=
  if (s.1 - 1) % 9 = 0 then (s.1 - 1, 0, s.2.2 ++ [((s.2.1 * 10 + (c - 48).toNat : Nat) : Int)]) else (s.1 - 1, s.2.1 * 10 + (c - 48).toNat, s.2.2)
def gat (l : List Int) (i : Nat) : Nat × Nat × List Int := (l.take i).foldl gstep (l.length, 0, [])
def grp (l : List Int) : List Int := (gat l l.length).2.2
theorem gat_succ {l : List Int} {i : Nat} (h : i < l.length) : gat l (i + 1) = gstep (gat l i) l[i] := by
  unfold gat
  rw [List.take_succ_eq_append_getElem h, List.foldl_append]
  rfl
theorem gat_inv {l : List Int} (hd : Dig l) : ∀ i, i ≤ l.length → (gat l i).1 = l.length - i ∧ ∃ r, r + (l.length - i) % 9 ≤ 9 ∧ ((l.length - i) % 9 = 0 → r = 0) ∧ (gat l i).2.1 < 10 ^ r ∧ Gd (gat l i).2.2 ∧ valL (l.take i) = valG (gat l i).2.2 * 10 ^ r + (gat l i).2.1 ∧ (gat l i).2.2.length ≤ i ∧ (valG (gat l i).2.2 = 0 ∨ r + (l.length - i) % 9 = 9 ∨ (l.length - i) % 9 = 0) := by
  intro i
  induction i with
  | zero =>
    intro _
    refine ⟨rfl, 0, by omega, fun _ => rfl, Nat.zero_lt_one, fun x hx => (nomatch hx), rfl, Nat.le_refl 0, .inl rfl⟩
  | succ i ih =>
    intro hi
    have hlt : i < l.length := hi
    obtain ⟨e1, r, h1, h2, h3, h4, h5, h6, h7⟩ := ih (by omega)
    have hx := hd l[i] (List.getElem_mem _)
    rw [gat_succ hlt, valL_take hlt]
    revert e1 h3 h4 h5 h6 h7
    generalize gat l i = s
    obtain ⟨k, acc, out⟩ := s
    intro e1 h3 h4 h5 h6 h7
    have e1 : k = l.length - i := e1
    have h3 : acc < 10 ^ r := h3
    have h4 : Gd out := h4
    have h5 : valL (l.take i) = valG out * 10 ^ r + acc := h5
    have h6 : out.length ≤ i := h6
    have h7 : valG out = 0 ∨ r + (l.length - i) % 9 = 9 ∨ (l.length - i) % 9 = 0 := h7
    have h3' : acc * 10 + (l[i] - 48).toNat < 10 ^ (r + 1) := by rw [Nat.pow_succ]; omega
    have h5' : 10 * valL (l.take i) + (l[i] - 48).toNat = valG out * 10 ^ (r + 1) + (acc * 10 + (l[i] - 48).toNat) := by
      rw [h5, Nat.pow_succ, ← Nat.mul_assoc]; omega
    subst e1
    unfold gstep
    show (if (l.length - i - 1) % 9 = 0 then (l.length - i - 1, 0, out ++ [((acc * 10 + (l[i] - 48).toNat : Nat) : Int)]) else (l.length - i - 1, acc * 10 + (l[i] - 48).toNat, out)).1 = _ ∧ _
    have hr8 : r + 1 ≤ 9 := by omega
    split
    · rename_i hk
      have hlt9 : acc * 10 + (l[i] - 48).toNat < 1000000000 := Nat.lt_of_lt_of_le h3' (by
        rw [show 1000000000 = 10 ^ 9 from rfl]
        exact Nat.pow_le_pow_right (by decide) hr8)
      have hr9 : (l.length - i) % 9 = 1 := by omega
      generalize acc * 10 + (l[i] - 48).toNat = t at *
      refine ⟨by show l.length - i - 1 = l.length - (i + 1); omega, 0, by omega, fun _ => rfl, Nat.zero_lt_one, Gd.snoc h4 ⟨Int.natCast_nonneg t, by omega⟩, ?_, (by show (out ++ [_]).length ≤ i + 1; simp; exact h6), .inr (.inr (by omega))⟩
      show _ = valG (out ++ [_]) * 1 + 0
      rw [valG_snoc, Int.toNat_natCast, h5']
      rcases h7 with h7 | h7 | h7
      · rw [h7]; omega
      · rw [show r + 1 = 9 by omega]; omega
      · omega
    · rename_i hk
      refine ⟨by show l.length - i - 1 = l.length - (i + 1); omega, r + 1, by omega, by omega, h3', h4, h5', (by show out.length ≤ i + 1; omega), ?_⟩
      show valG out = 0 ∨ _
      rcases h7 with h7 | h7 | h7
      · exact .inl h7
      · right; omega
      · right; omega
end NM
namespace NM
/-- One group more of what is divided by 65536: what is left, the quotient's groups. -/
def dstep (s : Nat × List Int) (g : Int) : Nat × List Int :=
  ((s.1 * 1000000000 + g.toNat) % 65536, if 0 < s.2.length ∨ 0 < (s.1 * 1000000000 + g.toNat) / 65536 then s.2 ++ [(((s.1 * 1000000000 + g.toNat) / 65536 : Nat) : Int)] else s.2)
theorem dstep_eq (r : Nat) (q : List Int) (g : Int) (t : Nat) (ht : t = r * 1000000000 + g.toNat) : dstep (r, q) g = (t % 65536, if 0 < q.length ∨ 0 < t / 65536 then q ++ [((t / 65536 : Nat) : Int)] else q) := by
  subst ht
  unfold dstep
  simp only
def dat (l : List Int) (i : Nat) : Nat × List Int := (l.take i).foldl dstep (0, [])
theorem dat_succ {l : List Int} {i : Nat} (h : i < l.length) : dat l (i + 1) = dstep (dat l i) l[i] := by
  unfold dat
  rw [List.take_succ_eq_append_getElem h, List.foldl_append]
  rfl
theorem dat_inv {l : List Int} (hd : Gd l) : ∀ i, i ≤ l.length → (dat l i).1 < 65536 ∧ Gd (dat l i).2 ∧ valG (l.take i) = valG (dat l i).2 * 65536 + (dat l i).1 ∧ (dat l i).2.length ≤ i ∧ ((dat l i).2 = [] ∨ 0 < valG (dat l i).2) := by
  intro i
  induction i with
  | zero => intro _; exact ⟨(by show 0 < 65536; omega), fun x hx => (nomatch hx), (by show 0 = 0 * 65536 + 0; omega), Nat.le_refl 0, .inl rfl⟩
  | succ i ih =>
    intro hi
    have hlt : i < l.length := hi
    obtain ⟨h1, h2, h3, h4, h5⟩ := ih (by omega)
    have hx := hd l[i] (List.getElem_mem _)
    rw [dat_succ hlt, valG_take hlt]
    revert h1 h2 h3 h4 h5
    generalize dat l i = s
    obtain ⟨r, q⟩ := s
    intro h1 h2 h3 h4 h5
    have h1 : r < 65536 := h1
    have h2 : Gd q := h2
    have h3 : valG (l.take i) = valG q * 65536 + r := h3
    have h4 : q.length ≤ i := h4
    have h5 : q = [] ∨ 0 < valG q := h5
    unfold dstep
    show (r * 1000000000 + l[i].toNat) % 65536 < 65536 ∧ _
    have hq : (r * 1000000000 + l[i].toNat) / 65536 < 1000000000 := by omega
    refine ⟨Nat.mod_lt _ (by decide), ?_⟩
    show Gd (if 0 < q.length ∨ 0 < (r * 1000000000 + l[i].toNat) / 65536 then q ++ [(((r * 1000000000 + l[i].toNat) / 65536 : Nat) : Int)] else q) ∧ valG (l.take i) * 1000000000 + l[i].toNat = valG (if 0 < q.length ∨ 0 < (r * 1000000000 + l[i].toNat) / 65536 then q ++ [(((r * 1000000000 + l[i].toNat) / 65536 : Nat) : Int)] else q) * 65536 + (r * 1000000000 + l[i].toNat) % 65536 ∧ (if 0 < q.length ∨ 0 < (r * 1000000000 + l[i].toNat) / 65536 then q ++ [(((r * 1000000000 + l[i].toNat) / 65536 : Nat) : Int)] else q).length ≤ i + 1 ∧ ((if 0 < q.length ∨ 0 < (r * 1000000000 + l[i].toNat) / 65536 then q ++ [(((r * 1000000000 + l[i].toNat) / 65536 : Nat) : Int)] else q) = [] ∨ 0 < valG (if 0 < q.length ∨ 0 < (r * 1000000000 + l[i].toNat) / 65536 then q ++ [(((r * 1000000000 + l[i].toNat) / 65536 : Nat) : Int)] else q))
    split
    · rename_i hc
      rw [valG_snoc, Int.toNat_natCast, h3]
      refine ⟨Gd.snoc h2 (by omega), by omega, by simp; exact h4, .inr ?_⟩
      rcases hc with hc | hc
      · rcases h5 with h5 | h5
        · subst h5; simp at hc
        · omega
      · omega
    · rename_i hc
      have hq0 : q = [] := List.eq_nil_of_length_eq_zero (by omega)
      subst hq0
      rw [h3, valG_nil]
      refine ⟨h2, by omega, by simp, .inl rfl⟩
end NM

/- Contracts of the reference: groups of nine digits. -/
set_option linter.unusedVariables false
namespace Go.Proofs.YtbdklokfijjifaaGreat
open Go Go.AL NM

theorem Groups_ok (l : List Int) (hd : Dig l) (hb : l.length < 1000000000) : AC Tryz.prog 224 [.val (.string (strL l))] (.pure (.sl 1 (irows .i64 (grp l)) false)) := by
  refine AC.of_body TTok Tryz.func224 rfl (enter_of Tryz.func224 (by kernel_rfl) (by kernel_rfl)) (noid1 (.val _)) (noid_sl _ _ _) (Nat.le_of_ble_eq_true rfl) ?_
  have hsz := strL_size l
  conv => whnf
  refine SW.nil 3 1 rfl ?_
  refine SW.loopM TTok (fun i : Nat => [(0, .val (.string (strL l))), (3, .own 56 0 (gat l i).2.2.length), (4, .val (.int .i64 (gat l i).2.1)), (5, .val (.int .i64 (gat l i).1)), (6, .val (.int .i64 i))])
    (fun i => [(56, .cells 1 (irows .i64 (gat l i).2.2))]) 64 33 rfl (fun i => l.length - i) (fun i => i ≤ l.length) 0 [] (Nat.zero_le _)
    ⟨⟨rfl, rfl⟩, ⟨rfl, rfl⟩, ⟨rfl, rfl⟩, ⟨valI (by rw [hsz]; rfl), rfl⟩, ⟨rfl, rfl⟩, trivial⟩ ⟨⟨rfl, .inr ⟨rfl, rfl⟩⟩, trivial⟩ rfl ?_
  intro i hi
  have hi : i ≤ l.length := hi
  obtain ⟨e1, r, g1, g2, g3, g4, g5, g6, g7⟩ := gat_inv hd i hi
  have hstep : ∀ h : i < l.length, gat l (i + 1) = gstep (gat l i) l[i] := gat_succ
  have hend : i = l.length → (gat l i).2.2 = grp l := fun h => by rw [h]; rfl
  have hacc : (gat l i).2.1 < 1000000000 := Nat.lt_of_lt_of_le g3 (by
    rw [show 1000000000 = 10 ^ 9 from rfl]
    exact Nat.pow_le_pow_right (by decide) (by omega))
  revert e1 g4 g6 hstep hend hacc
  generalize gat l i = s
  obtain ⟨k, acc, out⟩ := s
  intro e1 g4 g6 hstep hend hacc
  have e1 : k = l.length - i := e1
  have g4 : Gd out := g4
  have g6 : out.length ≤ i := g6
  have hend : i = l.length → out = grp l := hend
  have hacc : acc < 1000000000 := hacc
  have hle : 0 + out.length ≤ (irows .i64 out).length := by rw [irows_len]; omega
  conv => whnf
  refine caseb (fun h1 => ?_) (fun h1 => ?_)
  · have h1' : (i : Int) < ((strL l).size : Int) := of_decide_eq_true h1
    rw [hsz] at h1'
    have hlt : i < l.length := by omega
    have hx := hd l[i] (List.getElem_mem _)
    have hby : byteAt (strL l) (i : Int) = l[i] := byteAt_strL (Dig.byt hd) (by omega) (by rw [Int.toNat_natCast]; exact List.getElem?_eq_getElem hlt)
    have hst := hstep hlt
    have ea : IntKind.i64.wrap (IntKind.i64.wrap ((acc : Int) * 10) + IntKind.i64.wrap (IntKind.u8.wrap (byteAt (strL l) (i : Int) - 48))) = ((acc * 10 + (l[i] - 48).toNat : Nat) : Int) := by
      rw [hby, IntKind.wrap_u8, IntWalk.i64_in ((acc : Int) * 10) (by omega), IntWalk.i64_in ((l[i] - 48) % 256) (by omega), IntWalk.i64_in _ (by omega)]
      omega
    have ek : IntKind.i64.wrap ((k : Int) - 1) = ((k - 1 : Nat) : Int) := by rw [IntWalk.i64_in _ (by omega)]; omega
    conv => whnf
    refine ⟨⟨by omega, by rw [hsz]; omega⟩, ?_⟩
    conv => whnf
    refine ⟨by decide, ?_⟩
    conv => whnf
    refine caseb (fun h2 => ?_) (fun h2 => ?_)
    · have h2' : (IntKind.i64.wrap ((k : Int) - 1)).tmod 9 = 0 := of_decide_eq_true h2
      rw [ek, Int.tmod_eq_emod_of_nonneg (Int.natCast_nonneg _)] at h2'
      have hk9 : (k - 1) % 9 = 0 := by omega
      have hst : gat l (i + 1) = (k - 1, 0, out ++ [((acc * 10 + (l[i] - 48).toNat : Nat) : Int)]) := by
        rw [hst]
        unfold gstep
        rw [if_pos hk9]
      conv => whnf
      refine ⟨⟨hle, by show (out.length + 1) * 8 ≤ 140737488355328; omega, Nat.le_of_ble_eq_true rfl⟩, ?_⟩
      conv => whnf
      refine ⟨i + 1, [(56, 240)], (by show l.length - (i + 1) < l.length - i; omega), (by show i + 1 ≤ l.length; omega), ⟨⟨rfl, rfl⟩, ⟨ownE rfl ?_, rfl⟩, ⟨valI ?_, rfl⟩, ⟨valI ?_, rfl⟩, ⟨valI ?_, rfl⟩, trivial⟩, ⟨⟨rfl, .inl ⟨celE ?_, irows_noid _ _⟩⟩, trivial⟩, rfl⟩
      · rw [hst]; show out.length + 1 = (out ++ [_]).length; simp
      · rw [hst]; rfl
      · rw [hst]; exact ek
      · show IntKind.i64.wrap ((i : Int) + 1) = ((i + 1 : Nat) : Int)
        rw [IntWalk.i64_in _ (by omega)]; omega
      · rw [hst]
        show List.take out.length (List.drop 0 (irows .i64 out)) ++ [[AV.val (.int .i64 (IntKind.i64.wrap (IntKind.i64.wrap ((acc : Int) * 10) + IntKind.i64.wrap (IntKind.u8.wrap (byteAt (strL l) (i : Int) - 48)))))]] = _
        rw [ea, List.drop_zero, List.take_of_length_le (by rw [irows_len]; exact Nat.le_refl _), ← irows_append]
        rfl
    · have h2' : ¬ (IntKind.i64.wrap ((k : Int) - 1)).tmod 9 = 0 := of_decide_eq_false h2
      rw [ek, Int.tmod_eq_emod_of_nonneg (Int.natCast_nonneg _)] at h2'
      have hk9 : ¬ (k - 1) % 9 = 0 := by omega
      have hst : gat l (i + 1) = (k - 1, acc * 10 + (l[i] - 48).toNat, out) := by
        rw [hst]
        unfold gstep
        rw [if_neg hk9]
      conv => whnf
      refine ⟨i + 1, [], (by show l.length - (i + 1) < l.length - i; omega), (by show i + 1 ≤ l.length; omega), ⟨⟨rfl, rfl⟩, ⟨ownE rfl ?_, rfl⟩, ⟨valI ?_, rfl⟩, ⟨valI ?_, rfl⟩, ⟨valI ?_, rfl⟩, trivial⟩, ⟨⟨rfl, .inl ⟨celE ?_, irows_noid _ _⟩⟩, trivial⟩, rfl⟩
      · rw [hst]
      · rw [hst]; exact ea
      · rw [hst]; exact ek
      · show IntKind.i64.wrap ((i : Int) + 1) = ((i + 1 : Nat) : Int)
        rw [IntWalk.i64_in _ (by omega)]; omega
      · rw [hst]
  · have h1' : ¬ (i : Int) < ((strL l).size : Int) := of_decide_eq_false h1
    rw [hsz] at h1'
    have he := hend (by omega)
    conv => whnf
    refine ⟨hle, slE ?_⟩
    show List.take out.length (irows .i64 out) = irows .i64 (grp l)
    rw [← he, List.take_of_length_le (by rw [irows_len]; exact Nat.le_refl _)]

theorem grp_ok {l : List Int} (hd : Dig l) : Gd (grp l) ∧ valG (grp l) = valL l ∧ (grp l).length ≤ l.length := by
  obtain ⟨e1, r, g1, g2, g3, g4, g5, g6, g7⟩ := gat_inv hd l.length (Nat.le_refl _)
  have hr := g2 (by omega)
  subst hr
  rw [List.take_of_length_le (Nat.le_refl _), Nat.pow_zero] at *
  refine ⟨g4, ?_, g6⟩
  show valG (gat l l.length).2.2 = _
  rw [g5]
  omega

end Go.Proofs.YtbdklokfijjifaaGreat

/- Contracts of the reference: how many bits and limbs a number has. -/
set_option linter.unusedVariables false
namespace Go.Proofs.YtbdklokfijjifaaGreat
open Go Go.AL NM

theorem blen_zero : blen 0 = 0 := rfl
theorem blen_gt {n k : Nat} (h : 2 ^ k ≤ n) : k < blen n := by
  rw [blen_div h]
  have : 0 < n / 2 ^ k := Nat.div_pos h (Nat.pow_pos (by decide))
  unfold blen
  rw [if_neg (by omega)]
  omega
theorem pow32 (k : Nat) : 4294967296 ^ k = 2 ^ (32 * k) := by rw [Nat.pow_mul]
theorem limbs_blen (n : Nat) : (limbs n).length = (blen n + 31) / 32 := by
  by_cases h0 : n = 0
  · subst h0; rw [limbs_zero, blen_zero]; rfl
  · have h1 : blen n ≤ 32 * (limbs n).length := blen_le (by rw [← pow32]; have := val_lt (limbs_lim n); rwa [val_limbs] at this)
    have hl : 0 < (limbs n).length := by rw [limbs_pos (by omega)]; simp
    have h2 : 32 * ((limbs n).length - 1) < blen n := by
      apply blen_gt
      rw [← pow32]
      rcases Nat.lt_or_ge n (4294967296 ^ ((limbs n).length - 1)) with h | h
      · have := limbs_len_le h; omega
      · exact h
    omega
theorem blen_half {n : Nat} (h : 0 < n) : blen n = blen (n / 2) + 1 := by
  rcases Nat.lt_or_ge n 2 with h2 | h2
  · have : n = 1 := by omega
    subst this
    rfl
  · have := blen_div (n := n) (k := 1) h2
    simpa using this

theorem bits_et {rest : Nat} {x : Int} {t : Nat} (d1 : rest < 65536) (hx : 0 ≤ x ∧ x < 1000000000) (htt : t = rest * 1000000000 + x.toNat) : IntKind.i64.wrap (IntKind.i64.wrap ((rest : Int) * 1000000000) + x) = (t : Int) := by
  rw [IntWalk.i64_in ((rest : Int) * 1000000000) (by omega), IntWalk.i64_in _ (by omega)]; omega
theorem bits_ht {rest : Nat} {x : Int} {t : Nat} (d1 : rest < 65536) (hx : 0 ≤ x ∧ x < 1000000000) (htt : t = rest * 1000000000 + x.toNat) : t < 65536000000000 := by omega
theorem bits_em (t : Nat) : (t : Int).tmod 65536 = ((t % 65536 : Nat) : Int) := by
  rw [Int.tmod_eq_emod_of_nonneg (Int.natCast_nonneg _)]; omega
theorem bits_ed {t : Nat} (h : t < 65536000000000) : IntKind.i64.wrap ((t : Int).tdiv 65536) = ((t / 65536 : Nat) : Int) := by
  rw [Int.tdiv_eq_ediv_of_nonneg (Int.natCast_nonneg _), IntWalk.i64_in _ (by omega)]; omega

theorem bits_div {n i v rest : Nat} (h : v * 65536 + rest = n / 2 ^ (16 * i)) (hr : rest < 65536) : v = n / 2 ^ (16 * (i + 1)) := by
  rw [show 16 * (i + 1) = 16 * i + 16 by omega, Nat.pow_add, ← Nat.div_div_eq_div_mul, ← h]
  show v = (v * 65536 + rest) / 65536
  omega

theorem bits_half {r : Nat} (h : r < 65536) : IntKind.i64.wrap ((r : Int).tdiv 2) = ((r / 2 : Nat) : Int) := by
  rw [Int.tdiv_eq_ediv_of_nonneg (Int.natCast_nonneg _), IntWalk.i64_in _ (by omega)]; omega
theorem bits_half_lt {r : Nat} (h : r < 65536) : r / 2 < 65536 := by omega

set_option maxRecDepth 100000 in
theorem RBits_ok (n : Nat) (hb : blen n ≤ 100000) (hl : (decL n).length < 1000000000) : AC Tryz.prog 217 [.val (.string (decS n))] (.pure (.val (.int .i64 (blen n)))) := by
  refine AC.of_body TTok Tryz.func217 rfl (enter_of Tryz.func217 (by kernel_rfl) (by kernel_rfl)) (noid1 (.val _)) (.val _) (Nat.le_of_ble_eq_true rfl) ?_
  have hG := Groups_ok (decL n) (decL_byt n) hl
  obtain ⟨q1, q2, q3⟩ := grp_ok (decL_byt n)
  rw [valL_decL] at q2
  revert hG q1 q2 q3
  generalize grp (decL n) = gs
  intro hG q1 q2 q3
  conv => whnf
  refine ⟨_, hG, ?_⟩
  conv => whnf
  refine SW.loopW TTok (fun x : Nat × List Int => [(3, .sl 1 (irows .i64 x.2) false), (4, .val (.int .i64 (16 * x.1 : Nat))), (5, .val (.int .i64 x.1))])
    (fun x => []) 48 58 rfl (fun x => 10000 - x.1)
    (fun x => x.1 ≤ 6250 ∧ Gd x.2 ∧ x.2.length < 1000000000 ∧ valG x.2 = n / 2 ^ (16 * x.1) ∧ (x.1 = 0 ∨ 0 < valG x.2)) (0, gs) [] ⟨Nat.zero_le _, q1, (by show gs.length < 1000000000; omega), (by rw [show 16 * ((0, gs) : Nat × List Int).1 = 0 from rfl, Nat.pow_zero, Nat.div_one]; exact q2), .inl rfl⟩
    ⟨⟨rfl, rfl⟩, ⟨rfl, rfl⟩, ⟨rfl, rfl⟩, trivial⟩ trivial rfl ?_
  rintro ⟨i, g⟩ hJ
  have hi : i ≤ 6250 := hJ.1
  have hG : Gd g := hJ.2.1
  have hgl : g.length < 1000000000 := hJ.2.2.1
  have hv : valG g = n / 2 ^ (16 * i) := hJ.2.2.2.1
  have hp : i = 0 ∨ 0 < valG g := hJ.2.2.2.2
  clear hJ
  conv => whnf
  refine caseb (fun h1 => ?_) (fun h1 => ?_)
  rotate_left
  · have h1' : ¬ (i : Int) < 10000 := of_decide_eq_false h1
    omega
  conv => whnf
  refine SW.nil 6 1 rfl ?_
  refine SW.loopM TTok (fun k : Nat => [(3, .sl 1 (irows .i64 g) false), (4, .val (.int .i64 (16 * i : Nat))), (5, .val (.int .i64 i)), (6, .own 88 0 (dat g k).2.length), (7, .val (.int .i64 (dat g k).1)), (8, .val (.int .i64 k))])
    (fun k => [(88, .cells 1 (irows .i64 (dat g k).2))]) 96 58 rfl (fun k => g.length - k) (fun k => k ≤ g.length) 0 [] (Nat.zero_le _)
    ⟨⟨rfl, rfl⟩, ⟨rfl, rfl⟩, ⟨rfl, rfl⟩, ⟨rfl, rfl⟩, ⟨rfl, rfl⟩, ⟨rfl, rfl⟩, trivial⟩ ⟨⟨rfl, .inr ⟨rfl, rfl⟩⟩, trivial⟩ rfl ?_
  intro k hk
  have hk : k ≤ g.length := hk
  obtain ⟨d1, d2, d3, d4, d5⟩ := dat_inv hG k hk
  have hstep : ∀ h : k < g.length, dat g (k + 1) = dstep (dat g k) g[k] := dat_succ
  revert d1 d2 d3 d4 d5 hstep
  show _ → _ → _ → _ → _ → (∀ h : k < g.length, dat g (k + 1) = dstep ((dat g k).1, (dat g k).2) g[k]) → _
  generalize (dat g k).1 = rest
  generalize (dat g k).2 = q
  intro d1 d2 d3 d4 d5 hstep
  have hle : 0 + q.length ≤ (irows .i64 q).length := by rw [irows_len]; omega
  conv => whnf
  refine caseb (fun h2 => ?_) (fun h2 => ?_)
  · have h2' : (k : Int) < ((irows .i64 g).length : Int) := of_decide_eq_true h2
    rw [irows_len] at h2'
    have hlt : k < g.length := by omega
    have hx := hG g[k] (List.getElem_mem _)
    have hst := hstep hlt
    obtain ⟨t, htt⟩ : ∃ t, t = rest * 1000000000 + g[k].toNat := ⟨_, rfl⟩
    have et := bits_et d1 hx htt
    have em := bits_em t
    have ed := bits_ed (bits_ht d1 hx htt)
    have hst : dat g (k + 1) = (t % 65536, if 0 < q.length ∨ 0 < t / 65536 then q ++ [((t / 65536 : Nat) : Int)] else q) := by
      rw [hst, dstep_eq _ _ _ t htt]
    conv => whnf
    refine ⟨[.val (.int .i64 g[k])], ⟨by omega, ?_⟩, ?_⟩
    · rw [show ((k : Int)).toNat = k by omega]
      exact irows_get _ _ (List.getElem?_eq_getElem (by omega))
    conv => whnf
    refine ⟨by decide, ?_⟩
    conv => whnf
    rw [et, em]
    generalize hu : t % 65536 = u
    rw [hu] at hst
    refine caseb (fun h3 => ?a) (fun h3 => ?b)
    case' b =>
      conv => whnf
      refine ⟨by decide, ?_⟩
      conv => whnf
      refine caseb (fun h4 => ?c) (fun h4 => ?d)
    case' a =>
      have hc : 0 < q.length ∨ 0 < t / 65536 := by
        have h3' : (q.length : Int) > 0 := of_decide_eq_true h3
        exact .inl (Int.natCast_pos.1 h3')
      rw [if_pos hc] at hst
    case' c =>
      have hc : 0 < q.length ∨ 0 < t / 65536 := by
        have h4' : IntKind.i64.wrap (Int.tdiv (t : Int) 65536) > 0 := of_decide_eq_true h4
        rw [ed] at h4'
        exact .inr (Int.natCast_pos.1 h4')
      rw [if_pos hc] at hst
    case' d =>
      have hc : ¬ (0 < q.length ∨ 0 < t / 65536) := by
        have h3' : ¬ (q.length : Int) > 0 := of_decide_eq_false h3
        have h4' : ¬ IntKind.i64.wrap (Int.tdiv (t : Int) 65536) > 0 := of_decide_eq_false h4
        rw [ed] at h4'
        exact fun hh => hh.elim (fun hh => h3' (Int.natCast_pos.2 hh)) (fun hh => h4' (Int.natCast_pos.2 hh))
      rw [if_neg hc] at hst
    case d =>
      conv => whnf
      refine ⟨k + 1, [], (by show g.length - (k + 1) < g.length - k; omega), (by show k + 1 ≤ g.length; omega), ⟨⟨rfl, rfl⟩, ⟨rfl, rfl⟩, ⟨rfl, rfl⟩, ⟨ownE rfl ?_, rfl⟩, ⟨valI ?_, rfl⟩, ⟨valI ?_, rfl⟩, trivial⟩, ⟨⟨rfl, .inl ⟨celE ?_, irows_noid _ _⟩⟩, trivial⟩, rfl⟩
      · rw [hst]
      · rw [hst]
      · show IntKind.i64.wrap ((k : Int) + 1) = ((k + 1 : Nat) : Int)
        rw [IntWalk.i64_in _ (by omega)]; omega
      · rw [hst]
    all_goals
      conv => whnf
      refine ⟨by decide, ?_⟩
      conv => whnf
      refine ⟨⟨hle, by show (q.length + 1) * 8 ≤ 140737488355328; omega, Nat.le_of_ble_eq_true rfl⟩, ?_⟩
      conv => whnf
      refine ⟨k + 1, [(88, 312)], (by show g.length - (k + 1) < g.length - k; omega), (by show k + 1 ≤ g.length; omega), ⟨⟨rfl, rfl⟩, ⟨rfl, rfl⟩, ⟨rfl, rfl⟩, ⟨ownE rfl ?_, rfl⟩, ⟨valI ?_, rfl⟩, ⟨valI ?_, rfl⟩, trivial⟩, ⟨⟨rfl, .inl ⟨celE ?_, irows_noid _ _⟩⟩, trivial⟩, rfl⟩
      · rw [hst]; show q.length + 1 = (q ++ [_]).length; simp
      · rw [hst]
      · show IntKind.i64.wrap ((k : Int) + 1) = ((k + 1 : Nat) : Int)
        rw [IntWalk.i64_in _ (by omega)]; omega
      · rw [hst]
        show List.take q.length (List.drop 0 (irows .i64 q)) ++ [[AV.val (.int .i64 (IntKind.i64.wrap (Int.tdiv (t : Int) 65536)))]] = _
        rw [ed, List.drop_zero, List.take_of_length_le (by rw [irows_len]; exact Nat.le_refl _), ← irows_append]
        rfl
  · have h2' : ¬ (k : Int) < ((irows .i64 g).length : Int) := of_decide_eq_false h2
    rw [irows_len] at h2'
    rw [List.take_of_length_le (by omega)] at d3
    conv => whnf
    refine caseb (fun h3 => ?_) (fun h3 => ?_)
    · have h3' : (q.length : Int) = 0 := of_decide_eq_true h3
      have hq0 : q = [] := List.eq_nil_of_length_eq_zero (by omega)
      subst hq0
      rw [valG_nil] at d3
      have hbl : blen n = 16 * i + blen rest := by
        rw [show rest = n / 2 ^ (16 * i) by rw [← hv, d3, Nat.zero_mul, Nat.zero_add]]
        rcases hp with hp | hp
        · subst hp; rw [Nat.mul_zero, Nat.pow_zero, Nat.div_one, Nat.zero_add]
        · rw [blen_div (n := n) (k := 16 * i)]
          · omega
          · rw [hv] at hp
            rcases Nat.lt_or_ge n (2 ^ (16 * i)) with h | h
            · rw [Nat.div_eq_of_lt h] at hp; omega
            · exact h
      have hr16 : blen rest ≤ 16 := blen_le d1
      conv => whnf
      refine SW.loopM TTok (fun x : Nat × Nat => [(4, .val (.int .i64 x.1)), (7, .val (.int .i64 x.2))]) (fun x => []) 152 58 rfl (fun x => x.2) (fun x => x.1 + blen x.2 = blen n ∧ x.2 < 65536) (16 * i, rest) [] ⟨hbl.symm, d1⟩
        ⟨⟨rfl, rfl⟩, ⟨rfl, rfl⟩, trivial⟩ trivial rfl ?_
      rintro ⟨c, r⟩ hJ
      have hr : r < 65536 := hJ.2
      have hJ : c + blen r = blen n := hJ.1
      conv => whnf
      refine caseb (fun h4 => ?_) (fun h4 => ?_)
      · have h4' : (r : Int) > 0 := of_decide_eq_true h4
        have := blen_half (n := r) (by omega)
        conv => whnf
        refine ⟨by decide, ?_⟩
        conv => whnf
        refine ⟨(c + 1, r / 2), [], (by show r / 2 < r; omega), ⟨(by show c + 1 + blen (r / 2) = blen n; omega), bits_half_lt hr⟩, ⟨⟨valI ?_, rfl⟩, ⟨valI ?_, rfl⟩, trivial⟩, trivial, rfl⟩
        · show IntKind.i64.wrap ((c : Int) + 1) = ((c + 1 : Nat) : Int)
          rw [IntWalk.i64_in _ (by omega)]; omega
        · exact bits_half hr
      · have h4' : ¬ (r : Int) > 0 := of_decide_eq_false h4
        have hr0 : r = 0 := by omega
        rw [hr0, blen_zero] at hJ
        conv => whnf
        refine valI ?_
        show (c : Int) = (blen n : Int)
        omega
    · have h3' : ¬ (q.length : Int) = 0 := of_decide_eq_false h3
      have hq : 0 < valG q := d5.resolve_left (fun e => by rw [e] at h3'; exact h3' rfl)
      have hvq : valG q = n / 2 ^ (16 * (i + 1)) := bits_div (by rw [← hv, d3]) d1
      have hi1 : i + 1 ≤ 6250 := by
        have : 16 * (i + 1) < blen n := blen_gt (by
          rcases Nat.lt_or_ge n (2 ^ (16 * (i + 1))) with h | h
          · rw [hvq, Nat.div_eq_of_lt h] at hq; omega
          · exact h)
        omega
      conv => whnf
      refine ⟨_, (i + 1, q), [], Wk.frz 3 88 0 q.length 1 rfl rfl (by decide) hle (by show NoId (.sl 1 ((irows .i64 q).take q.length) false); rw [List.take_of_length_le (by rw [irows_len]; exact Nat.le_refl _)]; exact noid_sl _ _ _), rfl, (by show 10000 - (i + 1) < 10000 - i; omega), ⟨hi1, d2, (by show q.length < 1000000000; omega), hvq, .inr hq⟩, ⟨⟨slE ?_, rfl⟩, ⟨valI ?_, rfl⟩, ⟨valI ?_, rfl⟩, trivial⟩, trivial, rfl⟩
      · show List.take q.length (irows .i64 q) = irows .i64 q
        rw [List.take_of_length_le (by rw [irows_len]; exact Nat.le_refl _)]
      · show IntKind.i64.wrap (((16 * i : Nat) : Int) + 16) = ((16 * (i + 1) : Nat) : Int)
        rw [IntWalk.i64_in _ (by omega)]; omega
      · show IntKind.i64.wrap ((i : Int) + 1) = ((i + 1 : Nat) : Int)
        rw [IntWalk.i64_in _ (by omega)]; omega

theorem RLimbs_ok (n : Nat) (hb : blen n ≤ 100000) (hl : (decL n).length < 1000000000) : AC Tryz.prog 195 [.val (.string (decS n))] (.pure (.val (.int .i64 (limbs n).length))) := by
  refine AC.of_body TTok Tryz.func195 rfl (enter_of Tryz.func195 (by kernel_rfl) (by kernel_rfl)) (noid1 (.val _)) (.val _) (Nat.le_of_ble_eq_true rfl) ?_
  have h := RBits_ok n hb hl
  conv => whnf
  refine ⟨_, h, ?_⟩
  conv => whnf
  refine ⟨by decide, ?_⟩
  conv => whnf
  refine valI ?_
  rw [limbs_blen, IntWalk.i64_in ((blen n : Int) + 31) (by omega), Int.tdiv_eq_ediv_of_nonneg (by omega), IntWalk.i64_in _ (by omega)]
  omega

end Go.Proofs.YtbdklokfijjifaaGreat

/- Shifts of limbs, digits that change: plain facts, no program in sight. -/
set_option linter.unusedVariables false
namespace NM

/-- One limb shifted to the left, its high part laid on the next one. -/
theorem shl_step {out : List Int} {p c y : Nat} (hp : p + 1 < out.length) (hc : out[p] = (c : Int)) (hz : out[p + 1] = 0) :
    val ((out.set p ((c + y % 4294967296 : Nat) : Int)).set (p + 1) ((y / 4294967296 : Nat) : Int)) = val out + y * 4294967296 ^ p := by
  have h1 := val_set out p ((c + y % 4294967296 : Nat) : Int) (by omega)
  have h2 := val_set (out.set p ((c + y % 4294967296 : Nat) : Int)) (p + 1) ((y / 4294967296 : Nat) : Int) (by rw [List.length_set]; exact hp)
  rw [List.getElem_set_ne (by omega), hz] at h2
  rw [hc] at h1
  rw [Int.toNat_natCast] at h1 h2
  rw [Int.toNat_natCast] at h1
  have hd := Nat.mod_add_div y 4294967296
  generalize val (out.set p ((c + y % 4294967296 : Nat) : Int)) = V at *
  generalize val ((out.set p ((c + y % 4294967296 : Nat) : Int)).set (p + 1) ((y / 4294967296 : Nat) : Int)) = W at *
  rw [Nat.pow_succ] at h2
  generalize 4294967296 ^ p = B at *
  have e1 : y / 4294967296 * (B * 4294967296) = 4294967296 * (y / 4294967296) * B := by rw [Nat.mul_comm B, ← Nat.mul_assoc, Nat.mul_comm (y / 4294967296)]
  have e2 : y * B = y % 4294967296 * B + 4294967296 * (y / 4294967296) * B := by rw [← Nat.add_mul, hd]
  have e3 : (c + y % 4294967296) * B = c * B + y % 4294967296 * B := Nat.add_mul _ _ _
  simp at h2
  omega

/-- Limbs shifted to the right by fewer bits than a limb has. -/
def srl (b : Nat) : List Int → List Int
  | [] => []
  | x :: l => (((x.toNat + 4294967296 * (l.headD 0).toNat) / 2 ^ b % 4294967296 : Nat) : Int) :: srl b l
theorem srl_len (b : Nat) : ∀ l, (srl b l).length = l.length
  | [] => rfl
  | x :: l => by simp [srl, srl_len b l]
theorem srl_lim (b : Nat) : ∀ l, Lim (srl b l)
  | [] => by intro x hx; cases hx
  | x :: l => by
    intro y hy
    rcases List.mem_cons.1 hy with rfl | hy
    · omega
    · exact srl_lim b l y hy
theorem srl_get (b : Nat) : ∀ (l : List Int) (i : Nat) (h : i < l.length), (srl b l)[i]? = some ((((l[i]).toNat + 4294967296 * (l.getD (i + 1) 0).toNat) / 2 ^ b % 4294967296 : Nat) : Int)
  | [], i, h => absurd h (Nat.not_lt_zero _)
  | x :: l, 0, h => by
    cases l <;> rfl
  | x :: l, i + 1, h => by
    have := srl_get b l i (by simpa using h)
    simpa [srl] using this
theorem srl_val (b : Nat) (hb : b ≤ 32) : ∀ l, Lim l → val (srl b l) = val l / 2 ^ b
  | [], _ => by simp [srl, val]
  | x :: l, h => by
    obtain ⟨hx, hl⟩ := h.cons
    have ih := srl_val b hb l hl
    have hB : 4294967296 = 2 ^ b * 2 ^ (32 - b) := by rw [← Nat.pow_add, show b + (32 - b) = 32 by omega]
    have hp : 0 < 2 ^ b := Nat.pow_pos (by decide)
    have hq : 0 < 2 ^ (32 - b) := Nat.pow_pos (by decide)
    have hh : val l % 2 ^ b = (l.headD 0).toNat % 2 ^ b := by
      cases l with
      | nil => rfl
      | cons y l =>
        show (y.toNat + 4294967296 * val l) % 2 ^ b = y.toNat % 2 ^ b
        rw [hB, Nat.mul_assoc, Nat.add_mul_mod_self_left]
    show (((x.toNat + 4294967296 * (l.headD 0).toNat) / 2 ^ b % 4294967296 : Nat) : Int).toNat + 4294967296 * val (srl b l) = (x.toNat + 4294967296 * val l) / 2 ^ b
    rw [ih, Int.toNat_natCast]
    have hxB : x.toNat < 2 ^ b * 2 ^ (32 - b) := by rw [← hB]; omega
    have hxd : x.toNat / 2 ^ b < 2 ^ (32 - b) := Nat.div_lt_of_lt_mul hxB
    revert hh hxd
    generalize (l.headD 0).toNat = g
    generalize val l = V
    generalize x.toNat = X
    intro hh hxd
    rw [hB]
    generalize hP : 2 ^ b = P at *
    generalize hQ : 2 ^ (32 - b) = Q at *
    have e1 : (X + P * Q * g) / P = X / P + Q * g := by rw [Nat.mul_assoc, Nat.add_mul_div_left _ _ hp]
    have e2 : (X + P * Q * V) / P = X / P + Q * V := by rw [Nat.mul_assoc, Nat.add_mul_div_left _ _ hp]
    rw [e1, e2]
    have e3 : (X / P + Q * g) % (P * Q) = X / P + Q * (g % P) := by
      have h1 : Q * g = Q * (g % P) + P * Q * (g / P) := by
        rw [Nat.mul_comm P Q, Nat.mul_assoc, ← Nat.mul_add, Nat.mod_add_div]
      rw [h1, ← Nat.add_assoc, Nat.add_mul_mod_self_left]
      apply Nat.mod_eq_of_lt
      have h2 : g % P < P := Nat.mod_lt _ hp
      have h3 : Q * (g % P + 1) ≤ Q * P := Nat.mul_le_mul_left _ h2
      rw [Nat.mul_add, Nat.mul_one, Nat.mul_comm Q P] at h3
      omega
    rw [e3, ← hh]
    have h4 : Q * V = Q * (V % P) + P * Q * (V / P) := by
      rw [Nat.mul_comm P Q, Nat.mul_assoc, ← Nat.mul_add, Nat.mod_add_div]
    omega

end NM

/- Contracts of nat: shifts. -/
set_option linter.unusedVariables false
namespace Go.Proofs.YtbdklokfijjifaaGreat
open Go Go.AL NM

theorem B_split {b : Nat} (hb : b ≤ 32) : 4294967296 = 2 ^ (32 - b) * 2 ^ b := by rw [← Nat.pow_add, show 32 - b + b = 32 by omega]
theorem mod_shl (x : Nat) {b : Nat} (hb : b ≤ 32) : x * 2 ^ b % 4294967296 = x % 2 ^ (32 - b) * 2 ^ b := by
  rw [B_split hb, Nat.mul_mod_mul_right]
theorem mod_shl_add (x c : Nat) {b : Nat} (hb : b ≤ 32) (hc : c < 2 ^ b) : x % 2 ^ (32 - b) * 2 ^ b + c < 4294967296 := by
  have h1 : x % 2 ^ (32 - b) + 1 ≤ 2 ^ (32 - b) := Nat.mod_lt _ (Nat.pow_pos (by decide))
  have h2 := Nat.mul_le_mul_right (2 ^ b) h1
  rw [← B_split hb, Nat.add_mul, Nat.one_mul] at h2
  omega
theorem shl_u64 {x : Int} {b : Nat} (hx : 0 ≤ x ∧ x < 4294967296) (hb : b < 32) : IntKind.u64.wrap (IntKind.u64.wrap x * 2 ^ (min (b : Int).toNat IntKind.u64.bits)) = ((x.toNat * 2 ^ b : Nat) : Int) := by
  have hy2 : x.toNat * 2 ^ b < 4294967296 * 2 ^ b := Nat.mul_lt_mul_of_pos_right (by omega) (Nat.pow_pos (by decide))
  have hb31 : 2 ^ b ≤ 2 ^ 31 := Nat.pow_le_pow_right (by decide) (by omega)
  have e0 : min (b : Int).toNat IntKind.u64.bits = b := by rw [Int.toNat_natCast]; exact Nat.min_eq_left (by show b ≤ 64; omega)
  have e1 : IntKind.u64.wrap x = (x.toNat : Int) := by rw [IntKind.wrap_u64]; omega
  rw [e0, e1, show ((x.toNat : Int) * 2 ^ b) = ((x.toNat * 2 ^ b : Nat) : Int) by rw [Int.natCast_mul, Int.natCast_pow]; rfl, IntKind.wrap_u64]
  omega
theorem or_u32 {x c b : Nat} (hb : b ≤ 32) (hc : c < 2 ^ b) : IntKind.u32.wrap ((BitVec.ofInt IntKind.u32.bits (c : Int) ||| BitVec.ofInt IntKind.u32.bits (IntKind.u32.wrap ((x * 2 ^ b : Nat) : Int))).toNat : Int) = ((c + x * 2 ^ b % 4294967296 : Nat) : Int) := by
  have h1 := mod_shl_add x c hb hc
  have e1 : IntKind.u32.wrap ((x * 2 ^ b : Nat) : Int) = ((x % 2 ^ (32 - b) * 2 ^ b : Nat) : Int) := by
    rw [IntKind.wrap_u32, ← mod_shl x hb]; omega
  rw [e1, mod_shl x hb]
  show IntKind.u32.wrap ((BitVec.ofInt 32 (c : Int) ||| BitVec.ofInt 32 ((x % 2 ^ (32 - b) * 2 ^ b : Nat) : Int)).toNat : Int) = _
  rw [or_add' 32 _ c b hc h1, IntKind.wrap_u32]
  omega
theorem shr_u64 {y : Nat} (h : y < 18446744073709551616) : IntKind.u32.wrap ((y : Int).fdiv (2 ^ (min (32 : Int).toNat IntKind.u64.bits))) = ((y / 4294967296 : Nat) : Int) := by
  show IntKind.u32.wrap ((y : Int).fdiv 4294967296) = _
  rw [Int.fdiv_eq_ediv_of_nonneg _ (by decide), IntKind.wrap_u32]
  omega

theorem Shl_ok (n : Nat) (k : Int) (hk : k < 1000000000) (hb : (limbs n).length < 1000000000) : AC Tryz.prog 199 [natA n, .val (.int .i64 k)] (.pure (natA (n * 2 ^ k.toNat))) := by
  refine AC.of_body TTok Tryz.func199 rfl (enter_of Tryz.func199 (by kernel_rfl) (by kernel_rfl)) (noid2 (natA_noid n) (.val _)) (natA_noid _) (Nat.le_of_ble_eq_true rfl) ?_
  have hva := val_limbs n
  have hLa := limbs_lim n
  have hnil := limbs_nil n
  have hz0 : k ≤ 0 → natA (n * 2 ^ k.toNat) = natA n := fun h => by rw [show k.toNat = 0 by omega]; simp
  have hz1 : limbs n = [] → natA (n * 2 ^ k.toNat) = natA n := fun h => by rw [hnil.1 h]; simp
  have hfin : ∀ l, val l = n * 2 ^ k.toNat → natA (val l) = natA (n * 2 ^ k.toNat) := fun l h => by rw [h]
  revert hz0 hz1 hfin
  generalize natA (n * 2 ^ k.toNat) = res
  unfold natA
  generalize limbs n = a at *
  subst hva
  intro hz0 hz1 hfin
  conv => whnf
  refine caseb (fun h1 => ?_) (fun h1 => ?_)
  · have h1' : k ≤ 0 := of_decide_eq_true h1
    conv => whnf
    exact (hz0 h1').symm
  have h1' : ¬ k ≤ 0 := of_decide_eq_false h1
  conv => whnf
  refine caseb (fun h2 => ?_) (fun h2 => ?_)
  · have h2' : ((irows .u32 a).length : Int) = 0 := of_decide_eq_true h2
    rw [irows_len] at h2'
    conv => whnf
    exact (hz1 (List.eq_nil_of_length_eq_zero (by omega))).symm
  have h2' : ¬ ((irows .u32 a).length : Int) = 0 := of_decide_eq_false h2
  rw [irows_len] at h2'
  obtain ⟨w, hw⟩ : ∃ w : Nat, w = k.toNat / 32 := ⟨_, rfl⟩
  obtain ⟨b, hbb⟩ : ∃ b : Nat, b = k.toNat % 32 := ⟨_, rfl⟩
  have ew : IntKind.i64.wrap (k.tdiv 32) = (w : Int) := by
    rw [Int.tdiv_eq_ediv_of_nonneg (by omega), IntWalk.i64_in _ (by omega)]; omega
  have eb : k.tmod 32 = (b : Int) := by
    rw [Int.tmod_eq_emod_of_nonneg (by omega)]; omega
  conv => whnf
  refine ⟨by decide, ?_⟩
  conv => whnf
  refine ⟨by decide, ?_⟩
  conv => whnf
  have e3 : IntKind.i64.wrap (IntKind.i64.wrap (((irows .u32 a).length : Int) + IntKind.i64.wrap (k.tdiv 32)) + 1) = ((a.length + w + 1 : Nat) : Int) := by
    rw [irows_len, ew, IntWalk.i64_in ((a.length : Int) + (w : Int)) (by omega), IntWalk.i64_in _ (by omega)]; omega
  refine ⟨⟨by rw [e3]; omega, by rw [e3]; omega, ?_⟩, ?_⟩
  · rw [e3]; show ((a.length + w + 1 : Nat) : Int) * 4 ≤ _; omega
  conv => whnf
  refine SW.loopM TTok (fun x : Nat × List Int => [(4, .lp 8 0), (5, .val (.int .i64 w)), (6, .val (.int .u64 b)), (7, .own 184 0 (a.length + w + 1)), (33, .sl 1 (irows .u32 a) false), (34, .val (.int .i64 a.length)), (35, .val (.int .i64 x.1))])
    (fun x => [(8, .cells 1 [[.sl 0 [] true]]), (184, .cells 1 (irows .u32 x.2))]) 232 66 rfl (fun x => a.length - x.1)
    (fun x => x.1 ≤ a.length ∧ x.2.length = a.length + w + 1 ∧ Lim x.2 ∧ val x.2 = val (a.take x.1) * 2 ^ b * 4294967296 ^ w ∧ (∃ c : Nat, c < 2 ^ b ∧ x.2[x.1 + w]? = some (c : Int)) ∧ ∀ p, x.1 + w < p → p < x.2.length → x.2[p]? = some 0)
    (0, List.replicate (a.length + w + 1) 0) [] ⟨Nat.zero_le _, by simp, Lim.rep _, by simp [val_rep, val], ⟨0, Nat.pow_pos (by decide), by show (List.replicate (a.length + w + 1) (0 : Int))[0 + w]? = some 0; rw [Nat.zero_add, List.getElem?_replicate, if_pos (by omega)]⟩, fun p _ hp => by simp at hp; simp [hp]⟩
    ⟨⟨rfl, rfl⟩, ⟨valI ?_, rfl⟩, ⟨valI ?_, rfl⟩, ⟨ownE rfl ?_, rfl⟩, ⟨rfl, rfl⟩, ⟨valI ?_, rfl⟩, ⟨rfl, rfl⟩, trivial⟩
    ⟨⟨rfl, .inr ⟨rfl, rfl⟩⟩, ⟨rfl, .inl ⟨celE ?_, irows_noid _ _⟩⟩, trivial⟩ rfl ?_
  · exact ew
  · rw [eb, IntKind.wrap_u64]; omega
  · rw [e3]; omega
  · rw [irows_len]
  · rw [e3, Int.toNat_natCast, ← irows_rep]; rfl
  rintro ⟨i, out⟩ hJ
  have hi : i ≤ a.length := hJ.1
  have hl : out.length = a.length + w + 1 := hJ.2.1
  have hL : Lim out := hJ.2.2.1
  have hv : val out = val (a.take i) * 2 ^ b * 4294967296 ^ w := hJ.2.2.2.1
  have hc : ∃ c : Nat, c < 2 ^ b ∧ out[i + w]? = some (c : Int) := hJ.2.2.2.2.1
  have hz : ∀ p, i + w < p → p < out.length → out[p]? = some 0 := hJ.2.2.2.2.2
  clear hJ
  obtain ⟨c, hcb, hc⟩ := hc
  conv => whnf
  refine caseb (fun h3 => ?_) (fun h3 => ?_)
  · have h3' : (i : Int) < (a.length : Int) := of_decide_eq_true h3
    have hlt : i < a.length := by omega
    have hx := hLa a[i] (List.getElem_mem _)
    conv => whnf
    refine ⟨[.val (.int .u32 a[i])], ⟨by omega, irows_get _ _ (List.getElem?_eq_getElem (by omega))⟩, ?_⟩
    conv => whnf
    refine ⟨by omega, ?_⟩
    conv => whnf
    have ei : IntKind.i64.wrap ((i : Int) + (w : Int)) = ((i + w : Nat) : Int) := by rw [IntWalk.i64_in _ (by omega)]; omega
    have ei1 : IntKind.i64.wrap (IntKind.i64.wrap ((i : Int) + (w : Int)) + 1) = ((i + w + 1 : Nat) : Int) := by rw [ei, IntWalk.i64_in _ (by omega)]; omega
    refine ⟨⟨by rw [ei]; omega, by rw [ei]; omega⟩, ?_⟩
    conv => whnf
    refine ⟨[.val (.int .u32 c)], (by rw [ei, Nat.zero_add, Int.toNat_natCast]; exact irows_get _ _ hc), ?_⟩
    conv => whnf
    refine ⟨⟨by rw [ei]; omega, by rw [ei]; omega⟩, ?_⟩
    conv => whnf
    refine ⟨by rw [ei, irows_len]; show 0 + ((i + w : Nat) : Int).toNat < out.length; omega, ?_⟩
    conv => whnf
    refine ⟨by decide, ?_⟩
    conv => whnf
    refine ⟨⟨by rw [ei1]; omega, by rw [ei1]; omega⟩, ?_⟩
    conv => whnf
    refine ⟨by rw [ei1, List.length_set, irows_len]; show 0 + ((i + w + 1 : Nat) : Int).toNat < out.length; omega, ?_⟩
    conv => whnf
    have hy2 : a[i].toNat * 2 ^ b < 4294967296 * 2 ^ b := Nat.mul_lt_mul_of_pos_right (by omega) (Nat.pow_pos (by decide))
    have hb31 : 2 ^ b ≤ 2 ^ 31 := Nat.pow_le_pow_right (by decide) (by omega)
    obtain ⟨y, hyy⟩ : ∃ y, y = a[i].toNat * 2 ^ b := ⟨_, rfl⟩
    have ey : IntKind.u64.wrap (IntKind.u64.wrap a[i] * 2 ^ (min (b : Int).toNat IntKind.u64.bits)) = (y : Int) := by
      rw [hyy]; exact shl_u64 hx (by omega)
    have eo : IntKind.u32.wrap ((BitVec.ofInt IntKind.u32.bits (c : Int) ||| BitVec.ofInt IntKind.u32.bits (IntKind.u32.wrap (y : Int))).toNat : Int) = ((c + y % 4294967296 : Nat) : Int) := by
      rw [hyy]; exact or_u32 (by omega) hcb
    have eh : IntKind.u32.wrap ((y : Int).fdiv (2 ^ (min (32 : Int).toNat IntKind.u64.bits))) = ((y / 4294967296 : Nat) : Int) := shr_u64 (by omega)
    have hpl : i + w + 1 < out.length := by omega
    have hc' : out[i + w] = (c : Int) := by
      have := List.getElem?_eq_getElem (l := out) (i := i + w) (by omega)
      rw [hc] at this
      exact (Option.some.inj this).symm
    have hz' : out[i + w + 1] = 0 := by
      have := List.getElem?_eq_getElem hpl
      rw [hz (i + w + 1) (by omega) hpl] at this
      exact (Option.some.inj this).symm
    have hst := shl_step (y := y) hpl hc' hz'
    have hcy : c + y % 4294967296 < 4294967296 := by
      rw [hyy, mod_shl _ (show b ≤ 32 by omega)]
      have := mod_shl_add a[i].toNat c (show b ≤ 32 by omega) hcb
      omega
    have hyb : y / 4294967296 < 2 ^ b := by
      rw [Nat.div_lt_iff_lt_mul (by decide), Nat.mul_comm]
      omega
    refine ⟨(i + 1, (out.set (i + w) ((c + y % 4294967296 : Nat) : Int)).set (i + w + 1) ((y / 4294967296 : Nat) : Int)), [], (by show a.length - (i + 1) < a.length - i; omega), ⟨(by show i + 1 ≤ a.length; omega), (by simp [hl]), (hL.set ⟨by omega, by omega⟩).set ⟨by omega, by omega⟩, ?_, ⟨y / 4294967296, hyb, ?_⟩, ?_⟩,
      ⟨⟨rfl, rfl⟩, ⟨rfl, rfl⟩, ⟨rfl, rfl⟩, ⟨rfl, rfl⟩, ⟨rfl, rfl⟩, ⟨rfl, rfl⟩, ⟨valI ?_, rfl⟩, trivial⟩, ⟨⟨rfl, .inr ⟨rfl, rfl⟩⟩, ⟨rfl, .inl ⟨celE ?_, irows_noid _ _⟩⟩, trivial⟩, rfl⟩
    · show val ((out.set (i + w) ((c + y % 4294967296 : Nat) : Int)).set (i + w + 1) ((y / 4294967296 : Nat) : Int)) = val (a.take (i + 1)) * 2 ^ b * 4294967296 ^ w
      rw [hst, hv, hyy, val_take_succ hlt, Nat.add_mul, Nat.add_mul, Nat.pow_add]
      congr 1
      rw [Nat.mul_assoc, Nat.mul_assoc, Nat.mul_assoc, Nat.mul_left_comm (2 ^ b)]
    · show ((out.set (i + w) ((c + y % 4294967296 : Nat) : Int)).set (i + w + 1) ((y / 4294967296 : Nat) : Int))[i + 1 + w]? = _
      rw [show i + 1 + w = i + w + 1 by omega, List.getElem?_set_self (by rw [List.length_set]; exact hpl)]
    · intro p hp1 hp2
      have hp1 : i + 1 + w < p := hp1
      show ((out.set (i + w) ((c + y % 4294967296 : Nat) : Int)).set (i + w + 1) ((y / 4294967296 : Nat) : Int))[p]? = some 0
      have hp2 : p < ((out.set (i + w) ((c + y % 4294967296 : Nat) : Int)).set (i + w + 1) ((y / 4294967296 : Nat) : Int)).length := hp2
      rw [List.length_set, List.length_set] at hp2
      rw [List.getElem?_set_ne (by omega), List.getElem?_set_ne (by omega)]
      exact hz p (by omega) hp2
    · show IntKind.i64.wrap ((i : Int) + 1) = ((i + 1 : Nat) : Int)
      rw [IntWalk.i64_in _ (by omega)]; omega
    · rw [ei1, ei, ey, eo, eh, Nat.zero_add, Nat.zero_add, Int.toNat_natCast, Int.toNat_natCast, ← irows_set, ← irows_set]
  · have h3' : ¬ (i : Int) < (a.length : Int) := of_decide_eq_false h3
    have hT := trim_ok out hL (by omega)
    have hlw : i = a.length := by omega
    rw [hlw, List.take_of_length_le (Nat.le_refl _)] at hv
    have hval : val out = val a * 2 ^ k.toNat := by
      rw [hv, Nat.mul_assoc, show k.toNat = b + 32 * w by omega, Nat.pow_add, Nat.pow_mul]
    have hT : AC Tryz.prog 125 [.sl 1 (List.take (a.length + w + 1) (List.drop 0 (irows .u32 out))) false] (.pure (natA (val out))) := by
      rw [List.drop_zero, List.take_of_length_le (by rw [irows_len]; omega)]
      exact hT
    conv => whnf
    refine ⟨by rw [irows_len]; show 0 + (a.length + w + 1) ≤ out.length; omega, _, hT, ?_⟩
    conv => whnf
    exact hfin _ hval

end Go.Proofs.YtbdklokfijjifaaGreat

/- Contracts of nat: shifts to the right. -/
set_option linter.unusedVariables false
namespace Go.Proofs.YtbdklokfijjifaaGreat
open Go Go.AL NM

theorem or_u64 {x h : Nat} (hx : x < 4294967296) (hh : h < 4294967296) : IntKind.u64.wrap ((BitVec.ofInt IntKind.u64.bits (x : Int) ||| BitVec.ofInt IntKind.u64.bits ((h * 4294967296 : Nat) : Int)).toNat : Int) = ((x + 4294967296 * h : Nat) : Int) := by
  have h1 := or_add' 64 h x 32 (by omega) (by omega)
  rw [show (2 : Nat) ^ 32 = 4294967296 by decide] at h1
  rw [show IntKind.u64.bits = 64 from rfl, h1, IntKind.wrap_u64]
  omega
theorem shl_32 {y : Int} (hy : 0 ≤ y ∧ y < 4294967296) : IntKind.u64.wrap (IntKind.u64.wrap y * 2 ^ (min (32 : Int).toNat IntKind.u64.bits)) = ((y.toNat * 4294967296 : Nat) : Int) := by
  show IntKind.u64.wrap (IntKind.u64.wrap y * 4294967296) = _
  simp only [IntKind.wrap_u64]
  omega
theorem shr_b {y b : Nat} (hb : b < 32) : IntKind.u32.wrap ((y : Int).fdiv (2 ^ (min (b : Int).toNat IntKind.u64.bits))) = ((y / 2 ^ b % 4294967296 : Nat) : Int) := by
  have e0 : min (b : Int).toNat IntKind.u64.bits = b := by rw [Int.toNat_natCast]; exact Nat.min_eq_left (by show b ≤ 64; omega)
  rw [e0, Int.fdiv_eq_ediv_of_nonneg _ (Int.pow_nonneg (by decide)), show ((2 : Int) ^ b) = ((2 ^ b : Nat) : Int) by rw [Int.natCast_pow]; rfl, IntKind.wrap_u32, ← Int.natCast_ediv]
  omega

theorem val_drop {a : List Int} (h : Lim a) {w : Nat} (hw : w ≤ a.length) : val (a.drop w) = val a / 4294967296 ^ w := by
  have h1 := val_append (a.take w) (a.drop w)
  rw [List.take_append_drop, List.length_take, Nat.min_eq_left hw] at h1
  have h2 := val_lt (l := a.take w) (fun x hx => h x (List.mem_of_mem_take hx))
  rw [List.length_take, Nat.min_eq_left hw] at h2
  rw [h1, Nat.add_mul_div_left _ _ (Nat.pow_pos (by decide)), Nat.div_eq_of_lt h2, Nat.zero_add]

theorem set_step {q : List Int} {L i : Nat} (hq : q.length = L) (hi : i < L) {v : Int} (hv : q[i]? = some v) : (q.take i ++ List.replicate (L - i) (0 : Int)).set i v = q.take (i + 1) ++ List.replicate (L - (i + 1)) (0 : Int) := by
  have h1 : (q.take i).length = i := by rw [List.length_take]; omega
  rw [List.set_append_right _ _ (by omega), h1, Nat.sub_self, show L - i = (L - (i + 1)) + 1 by omega, List.replicate_succ, List.set_cons_zero, List.take_add_one, hv]
  simp

theorem Shr_far (n : Nat) (k : Int) (hk : k < 1000000000) (hk0 : 0 < k) (hb : (limbs n).length < 1000000000) (hf : (limbs n).length ≤ k.toNat / 32) : AC Tryz.prog 202 [natA n, .val (.int .i64 k)] (.pure (natA (n / 2 ^ k.toNat))) := by
  have e0 : n / 2 ^ k.toNat = 0 := by
    apply Nat.div_eq_of_lt
    have := val_lt (limbs_lim n)
    rw [val_limbs, pow32] at this
    exact Nat.lt_of_lt_of_le this (Nat.pow_le_pow_right (by decide) (by omega))
  rw [e0]
  refine AC.le_res (v := .agg [.sl 0 [] true]) ?_ zero_le (natA_noid _)
  refine AC.of_body TTok Tryz.func202 rfl (enter_of Tryz.func202 (by kernel_rfl) (by kernel_rfl)) (noid2 (natA_noid n) (.val _)) zero_noid (Nat.le_of_ble_eq_true rfl) ?_
  unfold natA
  obtain ⟨w, hw⟩ : ∃ w : Nat, w = k.toNat / 32 := ⟨_, rfl⟩
  have ew : IntKind.i64.wrap (k.tdiv 32) = (w : Int) := by
    rw [Int.tdiv_eq_ediv_of_nonneg (by omega), IntWalk.i64_in _ (by omega)]; omega
  conv => whnf
  refine caseb (fun h1 => ?_) (fun h1 => ?_)
  · have h1' : k ≤ 0 := of_decide_eq_true h1
    omega
  conv => whnf
  refine ⟨by decide, ?_⟩
  conv => whnf
  refine ⟨by decide, ?_⟩
  conv => whnf
  refine caseb (fun h2 => ?_) (fun h2 => ?_)
  · conv => whnf
    exact rfl
  · have h2' : ¬ IntKind.i64.wrap (k.tdiv 32) ≥ ((irows .u32 (limbs n)).length : Int) := of_decide_eq_false h2
    rw [ew, irows_len] at h2'
    omega

theorem Shr_near (n : Nat) (k : Int) (hk : k < 1000000000) (hb : (limbs n).length < 1000000000) (hf : k ≤ 0 ∨ k.toNat / 32 < (limbs n).length) : AC Tryz.prog 202 [natA n, .val (.int .i64 k)] (.pure (natA (n / 2 ^ k.toNat))) := by
  refine AC.of_body TTok Tryz.func202 rfl (enter_of Tryz.func202 (by kernel_rfl) (by kernel_rfl)) (noid2 (natA_noid n) (.val _)) (natA_noid _) (Nat.le_of_ble_eq_true rfl) ?_
  have hva := val_limbs n
  have hLa := limbs_lim n
  have hz0 : k ≤ 0 → natA (n / 2 ^ k.toNat) = natA n := fun h => by rw [show k.toNat = 0 by omega, Nat.pow_zero, Nat.div_one]
  have hfin : ∀ l, val l = n / 2 ^ k.toNat → natA (val l) = natA (n / 2 ^ k.toNat) := fun l h => by rw [h]
  revert hz0 hfin
  generalize natA (n / 2 ^ k.toNat) = res
  unfold natA
  generalize limbs n = a at *
  subst hva
  intro hz0 hfin
  conv => whnf
  refine caseb (fun h1 => ?_) (fun h1 => ?_)
  · have h1' : k ≤ 0 := of_decide_eq_true h1
    conv => whnf
    exact (hz0 h1').symm
  have h1' : ¬ k ≤ 0 := of_decide_eq_false h1
  obtain ⟨w, hw⟩ : ∃ w : Nat, w = k.toNat / 32 := ⟨_, rfl⟩
  obtain ⟨b, hbb⟩ : ∃ b : Nat, b = k.toNat % 32 := ⟨_, rfl⟩
  have ew : IntKind.i64.wrap (k.tdiv 32) = (w : Int) := by
    rw [Int.tdiv_eq_ediv_of_nonneg (by omega), IntWalk.i64_in _ (by omega)]; omega
  have eb : k.tmod 32 = (b : Int) := by
    rw [Int.tmod_eq_emod_of_nonneg (by omega)]; omega
  have hwl : w < a.length := by omega
  conv => whnf
  refine ⟨by decide, ?_⟩
  conv => whnf
  refine ⟨by decide, ?_⟩
  conv => whnf
  refine caseb (fun h2 => ?_) (fun h2 => ?_)
  · have h2' : IntKind.i64.wrap (k.tdiv 32) ≥ ((irows .u32 a).length : Int) := of_decide_eq_true h2
    rw [ew, irows_len] at h2'
    omega
  have e3 : IntKind.i64.wrap (((irows .u32 a).length : Int) - IntKind.i64.wrap (k.tdiv 32)) = ((a.length - w : Nat) : Int) := by
    rw [irows_len, ew, IntWalk.i64_in _ (by omega)]; omega
  obtain ⟨s, hs⟩ : ∃ s, s = a.drop w := ⟨_, rfl⟩
  have hsl : s.length = a.length - w := by rw [hs, List.length_drop]
  have hsL : Lim s := by rw [hs]; exact fun x hx => hLa x (List.mem_of_mem_drop hx)
  have hsv : val (srl b s) = val a / 2 ^ k.toNat := by
    rw [srl_val b (by omega) s hsL, hs, val_drop hLa (by omega), Nat.div_div_eq_div_mul, pow32, ← Nat.pow_add, show 32 * w + b = k.toNat by omega]
  conv => whnf
  refine ⟨⟨by rw [e3]; omega, by rw [e3]; omega, ?_⟩, ?_⟩
  · rw [e3]; show ((a.length - w : Nat) : Int) * 4 ≤ _; omega
  conv => whnf
  refine SW.loopM TTok (fun i : Nat => [(2, .lp 0 0), (4, .lp 8 0), (5, .val (.int .i64 w)), (6, .val (.int .u64 b)), (7, .own 168 0 (a.length - w)), (31, .val (.int .i64 (a.length - w : Nat))), (32, .val (.int .i64 i))])
    (fun i => [(0, .cells 1 [[.sl 1 (irows .u32 a) false]]), (8, .cells 1 [[.sl 0 [] true]]), (168, .cells 1 (irows .u32 ((srl b s).take i ++ List.replicate (a.length - w - i) 0)))]) 208 73 rfl (fun i => a.length - w - i)
    (fun i => i ≤ a.length - w) 0 [] (Nat.zero_le _)
    ⟨⟨rfl, rfl⟩, ⟨rfl, rfl⟩, ⟨valI ew, rfl⟩, ⟨valI ?_, rfl⟩, ⟨ownE rfl ?_, rfl⟩, ⟨valI ?_, rfl⟩, ⟨rfl, rfl⟩, trivial⟩
    ⟨⟨rfl, .inr ⟨rfl, rfl⟩⟩, ⟨rfl, .inr ⟨rfl, rfl⟩⟩, ⟨rfl, .inl ⟨celE ?_, irows_noid _ _⟩⟩, trivial⟩ rfl ?_
  · rw [eb, IntKind.wrap_u64]; omega
  · rw [e3]; omega
  · rw [e3]; omega
  · rw [e3, Int.toNat_natCast]
    show _ = irows .u32 (List.replicate (a.length - w - 0) 0)
    rw [← irows_rep]; rfl
  intro i hi
  have hi : i ≤ a.length - w := hi
  have hol : ((srl b s).take i ++ List.replicate (a.length - w - i) (0 : Int)).length = a.length - w := by
    rw [List.length_append, List.length_take, srl_len, List.length_replicate, hsl]; omega
  obtain ⟨out, hout⟩ : ∃ out, out = (srl b s).take i ++ List.replicate (a.length - w - i) (0 : Int) := ⟨_, rfl⟩
  rw [← hout] at hol ⊢
  conv => whnf
  refine caseb (fun h3 => ?_) (fun h3 => ?_)
  · have h3' : (i : Int) < ((a.length - w : Nat) : Int) := of_decide_eq_true h3
    have hlt : i + w < a.length := by omega
    have hx := hLa a[i + w] (List.getElem_mem _)
    have ei : IntKind.i64.wrap ((i : Int) + (w : Int)) = ((i + w : Nat) : Int) := by rw [IntWalk.i64_in _ (by omega)]; omega
    have ei1 : IntKind.i64.wrap (IntKind.i64.wrap ((i : Int) + (w : Int)) + 1) = ((i + w + 1 : Nat) : Int) := by rw [ei, IntWalk.i64_in _ (by omega)]; omega
    conv => whnf
    refine ⟨[.val (.int .u32 a[i + w])], ⟨by rw [ei]; omega, by rw [ei]; exact irows_get _ _ (List.getElem?_eq_getElem (by omega))⟩, ?_⟩
    conv => whnf
    refine caseb (fun h4 => ?_) (fun h4 => ?_)
    · have h4' : IntKind.i64.wrap (IntKind.i64.wrap ((i : Int) + (w : Int)) + 1) < ((irows .u32 a).length : Int) := of_decide_eq_true h4
      rw [ei1, irows_len] at h4'
      have hx2 := hLa a[i + w + 1] (List.getElem_mem _)
      have hget := srl_get b s i (by omega)
      have hsi : s[i]'(by omega) = a[i + w] := by simp only [hs, List.getElem_drop, Nat.add_comm w i]
      have hsi1 : s.getD (i + 1) 0 = a[i + w + 1] := by
        rw [List.getD, List.getElem?_eq_getElem (by omega), Option.getD_some]
        simp only [hs, List.getElem_drop]
        congr 1; omega
      rw [hsi, hsi1] at hget
      have eor : IntKind.u64.wrap ((BitVec.ofInt IntKind.u64.bits (IntKind.u64.wrap a[i + w]) ||| BitVec.ofInt IntKind.u64.bits (IntKind.u64.wrap (IntKind.u64.wrap a[i + w + 1] * 2 ^ (min (32 : Int).toNat IntKind.u64.bits)))).toNat : Int) = ((a[i + w].toNat + 4294967296 * a[i + w + 1].toNat : Nat) : Int) := by
        rw [shl_32 hx2, show IntKind.u64.wrap a[i + w] = (a[i + w].toNat : Int) by rw [IntKind.wrap_u64]; omega]
        exact or_u64 (by omega) (by omega)
      conv => whnf
      refine ⟨[.val (.int .u32 a[i + w + 1])], ⟨by rw [ei1]; omega, by rw [ei1]; exact irows_get _ _ (List.getElem?_eq_getElem (by omega))⟩, ?_⟩
      conv => whnf
      refine ⟨by decide, ?_⟩
      conv => whnf
      refine ⟨by omega, ?_⟩
      conv => whnf
      refine ⟨⟨by omega, by omega⟩, ?_⟩
      conv => whnf
      refine ⟨by rw [irows_len]; show 0 + ((i : Nat) : Int).toNat < out.length; omega, ?_⟩
      conv => whnf
      refine ⟨i + 1, [], (by show a.length - w - (i + 1) < a.length - w - i; omega), (by show i + 1 ≤ a.length - w; omega),
        ⟨⟨rfl, rfl⟩, ⟨rfl, rfl⟩, ⟨rfl, rfl⟩, ⟨rfl, rfl⟩, ⟨rfl, rfl⟩, ⟨rfl, rfl⟩, ⟨valI ?_, rfl⟩, trivial⟩, ⟨⟨rfl, .inr ⟨rfl, rfl⟩⟩, ⟨rfl, .inr ⟨rfl, rfl⟩⟩, ⟨rfl, .inl ⟨celE ?_, irows_noid _ _⟩⟩, trivial⟩, rfl⟩
      · show IntKind.i64.wrap ((i : Int) + 1) = ((i + 1 : Nat) : Int)
        rw [IntWalk.i64_in _ (by omega)]; omega
      · rw [eor, shr_b (by omega), Nat.zero_add, Int.toNat_natCast, ← set_step (by rw [srl_len, hsl]) (by omega) hget, ← hout, irows_set]
    · have h4' : ¬ IntKind.i64.wrap (IntKind.i64.wrap ((i : Int) + (w : Int)) + 1) < ((irows .u32 a).length : Int) := of_decide_eq_false h4
      rw [ei1, irows_len] at h4'
      have hget := srl_get b s i (by omega)
      have hsi : s[i]'(by omega) = a[i + w] := by simp only [hs, List.getElem_drop, Nat.add_comm w i]
      have hsi1 : s.getD (i + 1) 0 = 0 := by
        rw [List.getD, List.getElem?_eq_none (by omega), Option.getD_none]
      rw [hsi, hsi1] at hget
      have ex : IntKind.u64.wrap a[i + w] = ((a[i + w].toNat + 4294967296 * (0 : Int).toNat : Nat) : Int) := by rw [IntKind.wrap_u64]; omega
      conv => whnf
      refine ⟨by omega, ?_⟩
      conv => whnf
      refine ⟨⟨by omega, by omega⟩, ?_⟩
      conv => whnf
      refine ⟨by rw [irows_len]; show 0 + ((i : Nat) : Int).toNat < out.length; omega, ?_⟩
      conv => whnf
      refine ⟨i + 1, [], (by show a.length - w - (i + 1) < a.length - w - i; omega), (by show i + 1 ≤ a.length - w; omega),
        ⟨⟨rfl, rfl⟩, ⟨rfl, rfl⟩, ⟨rfl, rfl⟩, ⟨rfl, rfl⟩, ⟨rfl, rfl⟩, ⟨rfl, rfl⟩, ⟨valI ?_, rfl⟩, trivial⟩, ⟨⟨rfl, .inr ⟨rfl, rfl⟩⟩, ⟨rfl, .inr ⟨rfl, rfl⟩⟩, ⟨rfl, .inl ⟨celE ?_, irows_noid _ _⟩⟩, trivial⟩, rfl⟩
      · show IntKind.i64.wrap ((i : Int) + 1) = ((i + 1 : Nat) : Int)
        rw [IntWalk.i64_in _ (by omega)]; omega
      · rw [ex, shr_b (by omega), Nat.zero_add, Int.toNat_natCast, ← set_step (by rw [srl_len, hsl]) (by omega) hget, ← hout, irows_set]
  · have h3' : ¬ (i : Int) < ((a.length - w : Nat) : Int) := of_decide_eq_false h3
    have hei : i = a.length - w := by omega
    have hos : out = srl b s := by
      rw [hout, hei, Nat.sub_self, List.replicate_zero, List.append_nil, List.take_of_length_le (by rw [srl_len, hsl]; exact Nat.le_refl _)]
    have hT : AC Tryz.prog 125 [.sl 1 (List.take (a.length - w) (List.drop 0 (irows .u32 out))) false] (.pure (natA (val out))) := by
      rw [List.drop_zero, List.take_of_length_le (by rw [irows_len]; omega)]
      exact trim_ok out (by rw [hos]; exact srl_lim b s) (by omega)
    conv => whnf
    refine ⟨by rw [irows_len]; show 0 + (a.length - w) ≤ out.length; omega, _, hT, ?_⟩
    conv => whnf
    exact hfin _ (by rw [hos]; exact hsv)

end Go.Proofs.YtbdklokfijjifaaGreat

/- Decimal digits that change: plain facts, no program in sight. -/
set_option linter.unusedVariables false
namespace NM

/-- The value of digits, the least one first. -/
def dval : List Int → Nat
  | [] => 0
  | x :: l => x.toNat + 10 * dval l
theorem dval_set : ∀ (l : List Int) (k : Nat) (v : Int) (hk : k < l.length), dval (l.set k v) + (l[k]).toNat * 10 ^ k = dval l + v.toNat * 10 ^ k
  | [], k, v, hk => absurd hk (Nat.not_lt_zero _)
  | x :: l, 0, v, hk => by simp [dval]; omega
  | x :: l, k + 1, v, hk => by
    have := dval_set l k v (by simpa using hk)
    simp only [List.set_cons_succ, dval, List.getElem_cons_succ, Nat.pow_succ]
    rw [← Nat.mul_assoc, ← Nat.mul_assoc]
    omega
theorem dval_rep (k : Nat) : dval (List.replicate k 0) = 0 := by
  induction k with
  | zero => rfl
  | succ k ih => rw [List.replicate_succ, dval, ih]; rfl
/-- One step of a row of a product. -/
theorem dmul_step {out : List Int} {p c t A : Nat} (hp : p < out.length) (hv : dval out + c * 10 ^ p = A) {z : Nat} (ht : t = z + (out[p]).toNat + c) :
    dval (out.set p ((t % 10 : Nat) : Int)) + t / 10 * 10 ^ (p + 1) = A + z * 10 ^ p := by
  have hs := dval_set out p ((t % 10 : Nat) : Int) hp
  have hd := Nat.mod_add_div t 10
  rw [Int.toNat_natCast] at hs
  generalize dval (out.set p ((t % 10 : Nat) : Int)) = V at *
  generalize (out[p]).toNat = o at *
  rw [Nat.pow_succ, ← Nat.mul_assoc]
  generalize 10 ^ p = B at *
  have e1 : t / 10 * B * 10 = 10 * (t / 10) * B := by rw [Nat.mul_comm (t / 10 * B), Nat.mul_assoc]
  have e2 : t * B = t % 10 * B + 10 * (t / 10) * B := by rw [← Nat.add_mul, hd]
  have e3 : t * B = z * B + o * B + c * B := by rw [ht, Nat.add_mul, Nat.add_mul]
  omega
/-- A number's first digits. -/
theorem mod_pow_succ (n i : Nat) : n % 10 ^ (i + 1) = n % 10 ^ i + n / 10 ^ i % 10 * 10 ^ i := by
  rw [Nat.pow_succ, Nat.mod_mul, Nat.mul_comm]

end NM

/- Contracts: shifts to the right; the reference's products. -/
set_option linter.unusedVariables false
namespace Go.Proofs.YtbdklokfijjifaaGreat
open Go Go.AL NM

theorem Shr_ok (n : Nat) (k : Int) (hk : k < 1000000000) (hb : (limbs n).length < 1000000000) : AC Tryz.prog 202 [natA n, .val (.int .i64 k)] (.pure (natA (n / 2 ^ k.toNat))) := by
  by_cases h : k ≤ 0 ∨ k.toNat / 32 < (limbs n).length
  · exact Shr_near n k hk hb h
  · exact Shr_far n k hk (by omega) hb (by omega)

theorem dval_valD : ∀ l : List Int, dval l = valD l
  | [] => rfl
  | x :: l => by rw [dval, valD, dval_valD l]
theorem mod_lt_dec {n i : Nat} (h : (decL n).length ≤ i) : n % 10 ^ i = n := Nat.mod_eq_of_lt (Nat.lt_of_lt_of_le (decL_lt n) (Nat.pow_le_pow_right (by decide) h))
theorem getE {l : List Int} {k : Nat} {v : Int} (hk : k < l.length) (h : l[k]? = some v) : l[k] = v := by
  rw [List.getElem?_eq_getElem hk] at h
  exact Option.some.inj h

theorem RMul_ok (n m : Nat) (hb : (decL n).length + (decL m).length < 1000000000) : AC Tryz.prog 208 [.val (.string (decS n)), .val (.string (decS m))] (.pure (.val (.string (decS (n * m))))) := by
  refine AC.of_body TTok Tryz.func208 rfl (enter_of Tryz.func208 (by kernel_rfl) (by kernel_rfl)) (noid2 (.val _) (.val _)) (.val _) (Nat.le_of_ble_eq_true rfl) ?_
  obtain ⟨la, hla⟩ : ∃ la, la = (decL n).length := ⟨_, rfl⟩
  obtain ⟨lb, hlb⟩ : ∃ lb, lb = (decL m).length := ⟨_, rfl⟩
  have z1 : (decS n).size = la := by rw [hla]; exact strL_size _
  have z2 : (decS m).size = lb := by rw [hlb]; exact strL_size _
  rw [← hla, ← hlb] at hb
  have dn : ∀ i, AC Tryz.prog 218 [.val (.string (decS n)), .val (.int .i64 (i : Nat))] (.pure (.val (.int .i64 (n / 10 ^ i % 10 : Nat)))) := fun i => by
    have := digit_ok (decL n) (decL_byt n) i (by omega)
    rwa [digE_dec] at this
  have dm : ∀ i, AC Tryz.prog 218 [.val (.string (decS m)), .val (.int .i64 (i : Nat))] (.pure (.val (.int .i64 (m / 10 ^ i % 10 : Nat)))) := fun i => by
    have := digit_ok (decL m) (decL_byt m) i (by omega)
    rwa [digE_dec] at this
  have e0 : IntKind.i64.wrap (IntKind.i64.wrap (((decS n).size : Int) + ((decS m).size : Int)) + 1) = ((la + lb + 1 : Nat) : Int) := by
    rw [z1, z2, IntWalk.i64_in ((la : Int) + (lb : Int)) (by omega), IntWalk.i64_in _ (by omega)]; omega
  conv => whnf
  refine ⟨⟨by rw [e0]; omega, by rw [e0]; omega, ?_⟩, ?_⟩
  · rw [e0]; show ((la + lb + 1 : Nat) : Int) * 8 ≤ _; omega
  conv => whnf
  refine SW.loopM TTok (fun x : Nat × List Int => [(0, .val (.string (decS n))), (1, .val (.string (decS m))), (5, .own 56 0 (la + lb + 1)), (6, .val (.int .i64 x.1))])
    (fun x => [(56, .cells 1 (irows .i64 x.2))]) 80 60 rfl (fun x => la - x.1)
    (fun x => x.1 ≤ la ∧ x.2.length = la + lb + 1 ∧ Dg x.2 ∧ dval x.2 = n % 10 ^ x.1 * m ∧ ∀ p, x.1 + lb ≤ p → p < x.2.length → x.2[p]? = some 0)
    (0, List.replicate (la + lb + 1) 0) [] ⟨Nat.zero_le _, by simp, (fun x hx => by have := List.eq_of_mem_replicate hx; omega), (by show dval (List.replicate (la + lb + 1) 0) = n % 1 * m; rw [dval_rep, Nat.mod_one, Nat.zero_mul]), fun p _ hp => by simp at hp; simp [hp]⟩
    ⟨⟨rfl, rfl⟩, ⟨rfl, rfl⟩, ⟨ownE rfl ?_, rfl⟩, ⟨rfl, rfl⟩, trivial⟩ ⟨⟨rfl, .inl ⟨celE ?_, irows_noid _ _⟩⟩, trivial⟩ rfl ?_
  · rw [e0]; omega
  · rw [e0, Int.toNat_natCast, ← irows_rep]; rfl
  rintro ⟨i, out⟩ hJ
  have hi : i ≤ la := hJ.1
  have hl : out.length = la + lb + 1 := hJ.2.1
  have hD : Dg out := hJ.2.2.1
  have hv : dval out = n % 10 ^ i * m := hJ.2.2.2.1
  have hz : ∀ p, i + lb ≤ p → p < out.length → out[p]? = some 0 := hJ.2.2.2.2
  clear hJ
  conv => whnf
  refine caseb (fun h1 => ?_) (fun h1 => ?_)
  · have h1' : (i : Int) < ((decS n).size : Int) := of_decide_eq_true h1
    rw [z1] at h1'
    conv => whnf
    refine SW.loopM TTok (fun x : Nat × Nat × List Int => [(0, .val (.string (decS n))), (1, .val (.string (decS m))), (5, .own 56 0 (la + lb + 1)), (6, .val (.int .i64 i)), (7, .val (.int .i64 x.2.1)), (8, .val (.int .i64 x.1))])
      (fun x => [(56, .cells 1 (irows .i64 x.2.2))]) 128 60 rfl (fun x => lb + 1 - x.1)
      (fun x => x.1 ≤ lb + 1 ∧ x.2.1 ≤ 9 ∧ (x.1 = lb + 1 → x.2.1 = 0) ∧ x.2.2.length = la + lb + 1 ∧ Dg x.2.2 ∧ dval x.2.2 + x.2.1 * 10 ^ (i + x.1) = n % 10 ^ i * m + n / 10 ^ i % 10 * (m % 10 ^ x.1) * 10 ^ i ∧ ∀ p, i + lb ≤ p → i + x.1 ≤ p → p < x.2.2.length → x.2.2[p]? = some 0)
      (0, 0, out) [] ⟨Nat.zero_le _, Nat.zero_le _, fun _ => rfl, hl, hD, (by show dval out + 0 * _ = n % 10 ^ i * m + n / 10 ^ i % 10 * (m % 1) * 10 ^ i; rw [hv, Nat.mod_one]; simp), fun p h1 _ h2 => hz p h1 h2⟩
      ⟨⟨rfl, rfl⟩, ⟨rfl, rfl⟩, ⟨rfl, rfl⟩, ⟨rfl, rfl⟩, ⟨rfl, rfl⟩, ⟨rfl, rfl⟩, trivial⟩ ⟨⟨rfl, .inl ⟨rfl, irows_noid _ _⟩⟩, trivial⟩ rfl ?_
    clear hl hD hv hz
    rintro ⟨j, c, out⟩ hJ
    have hj : j ≤ lb + 1 := hJ.1
    have hc : c ≤ 9 := hJ.2.1
    have hc0 : j = lb + 1 → c = 0 := hJ.2.2.1
    have hl : out.length = la + lb + 1 := hJ.2.2.2.1
    have hD : Dg out := hJ.2.2.2.2.1
    have hv : dval out + c * 10 ^ (i + j) = n % 10 ^ i * m + n / 10 ^ i % 10 * (m % 10 ^ j) * 10 ^ i := hJ.2.2.2.2.2.1
    have hz : ∀ p, i + lb ≤ p → i + j ≤ p → p < out.length → out[p]? = some 0 := hJ.2.2.2.2.2.2
    clear hJ
    conv => whnf
    refine caseb (fun h2 => ?a) (fun h2 => ?q)
    case' q =>
      conv => whnf
      refine caseb (fun h3 => ?b) (fun h3 => ?q2)
    case q2 =>
      have h2' : ¬ (j : Int) < ((decS m).size : Int) := of_decide_eq_false h2
      have h3' : ¬ (c : Int) > 0 := of_decide_eq_false h3
      rw [z2] at h2'
      conv => whnf
      refine ⟨(i + 1, out), [], (by show la - (i + 1) < la - i; omega), ⟨(by show i + 1 ≤ la; omega), hl, hD, ?_, fun p hp1 hp2 => hz p (by have : i + 1 + lb ≤ p := hp1; omega) (by have : i + 1 + lb ≤ p := hp1; omega) hp2⟩,
        ⟨⟨rfl, rfl⟩, ⟨rfl, rfl⟩, ⟨rfl, rfl⟩, ⟨valI ?_, rfl⟩, trivial⟩, ⟨⟨rfl, .inl ⟨rfl, irows_noid _ _⟩⟩, trivial⟩, rfl⟩
      · show dval out = n % 10 ^ (i + 1) * m
        rw [mod_pow_succ, Nat.add_mul]
        rw [show c = 0 by omega, mod_lt_dec (show (decL m).length ≤ j by omega)] at hv
        rw [Nat.zero_mul, Nat.add_zero] at hv
        rw [hv, Nat.mul_assoc, Nat.mul_assoc, Nat.mul_comm m]
      · show IntKind.i64.wrap ((i : Int) + 1) = ((i + 1 : Nat) : Int)
        rw [IntWalk.i64_in _ (by omega)]; omega
    case' a =>
      have hj1 : j ≤ lb := by
        have h2' : (j : Int) < ((decS m).size : Int) := of_decide_eq_true h2
        rw [z2] at h2'
        omega
    case' b =>
      have hj1 : j ≤ lb := by
        have h3' : (c : Int) > 0 := of_decide_eq_true h3
        rcases Nat.lt_or_ge j (lb + 1) with h | h
        · omega
        · have := hc0 (by omega); omega
    all_goals
      have ew : IntKind.i64.wrap ((i : Int) + (j : Int)) = ((i + j : Nat) : Int) := by rw [IntWalk.i64_in _ (by omega)]; omega
      have hp : i + j < out.length := by omega
      have ho := hD (out[i + j]'hp) (List.getElem_mem _)
      have h9 : n / 10 ^ i % 10 * (m / 10 ^ j % 10) ≤ 9 * 9 := Nat.mul_le_mul (by omega) (by omega)
      obtain ⟨t, ht⟩ : ∃ t, t = n / 10 ^ i % 10 * (m / 10 ^ j % 10) + (out[i + j]'hp).toNat + c := ⟨_, rfl⟩
      have et : IntKind.i64.wrap (IntKind.i64.wrap ((out[i + j]'hp) + IntKind.i64.wrap (((n / 10 ^ i % 10 : Nat) : Int) * ((m / 10 ^ j % 10 : Nat) : Int))) + (c : Int)) = (t : Int) := by
        rw [← Int.natCast_mul, IntWalk.i64_in ((n / 10 ^ i % 10 * (m / 10 ^ j % 10) : Nat) : Int) (by omega), IntWalk.i64_in ((out[i + j]'hp) + _) (by omega), IntWalk.i64_in _ (by omega)]; omega
      have em : (t : Int).tmod 10 = ((t % 10 : Nat) : Int) := by
        rw [Int.tmod_eq_emod_of_nonneg (Int.natCast_nonneg _)]; omega
      have ed : IntKind.i64.wrap ((t : Int).tdiv 10) = ((t / 10 : Nat) : Int) := by
        rw [Int.tdiv_eq_ediv_of_nonneg (Int.natCast_nonneg _), IntWalk.i64_in _ (by omega)]; omega
      have hst := dmul_step hp hv ht
      have ht99 : t ≤ 99 := by omega
      have hcn : j = lb → t / 10 = 0 := fun e => by
        have h0 : m / 10 ^ j = 0 := decL_div (show (decL m).length ≤ j by omega)
        have h1 := getE hp (hz (i + j) (by omega) (by omega) hp)
        rw [h0, h1] at ht
        simp at ht
        omega
      conv => whnf
      refine ⟨⟨by rw [ew]; omega, by rw [ew]; omega⟩, ?_⟩
      conv => whnf
      refine ⟨[.val (.int .i64 (out[i + j]'hp))], (by rw [ew, Nat.zero_add, Int.toNat_natCast]; exact irows_get _ _ (List.getElem?_eq_getElem (by omega))), ?_⟩
      conv => whnf
      refine ⟨_, dn i, ?_⟩
      conv => whnf
      refine ⟨_, dm j, ?_⟩
      conv => whnf
      refine ⟨by kernel_rfl, ?_⟩
      conv => whnf
      refine ⟨by decide, ?_⟩
      conv => whnf
      refine ⟨⟨by rw [ew]; omega, by rw [ew]; omega⟩, ?_⟩
      conv => whnf
      refine ⟨by rw [ew, irows_len]; show 0 + ((i + j : Nat) : Int).toNat < out.length; omega, ?_⟩
      conv => whnf
      refine ⟨by decide, ?_⟩
      conv => whnf
      refine ⟨(j + 1, t / 10, out.set (i + j) ((t % 10 : Nat) : Int)), [], (by show lb + 1 - (j + 1) < lb + 1 - j; omega), ⟨(by show j + 1 ≤ lb + 1; omega), (by show t / 10 ≤ 9; omega), (fun e => hcn (by have e : j + 1 = lb + 1 := e; omega)), (by show (out.set _ _).length = _; rw [List.length_set, hl]), ?_, ?_, ?_⟩,
        ⟨⟨rfl, rfl⟩, ⟨rfl, rfl⟩, ⟨rfl, rfl⟩, ⟨rfl, rfl⟩, ⟨valI ?_, rfl⟩, ⟨valI ?_, rfl⟩, trivial⟩, ⟨⟨rfl, .inl ⟨celE ?_, irows_noid _ _⟩⟩, trivial⟩, rfl⟩
      · intro x hx
        rcases List.mem_or_eq_of_mem_set hx with hx | rfl
        · exact hD x hx
        · omega
      · show dval (out.set (i + j) ((t % 10 : Nat) : Int)) + t / 10 * 10 ^ (i + (j + 1)) = n % 10 ^ i * m + n / 10 ^ i % 10 * (m % 10 ^ (j + 1)) * 10 ^ i
        rw [← Nat.add_assoc i j 1, hst, mod_pow_succ m j, Nat.mul_add, Nat.add_mul, Nat.add_assoc]
        congr 2
        rw [Nat.pow_add, Nat.mul_comm (10 ^ i), ← Nat.mul_assoc, ← Nat.mul_assoc]
      · intro p hp1 hp2 hp3
        have hp2 : i + (j + 1) ≤ p := hp2
        have hp3 : p < (out.set (i + j) ((t % 10 : Nat) : Int)).length := hp3
        rw [List.length_set] at hp3
        show (out.set (i + j) ((t % 10 : Nat) : Int))[p]? = some 0
        rw [List.getElem?_set_ne (by omega)]
        exact hz p hp1 (by omega) hp3
      · show IntKind.i64.wrap (Int.tdiv (IntKind.i64.wrap (IntKind.i64.wrap ((out[i + j]'hp) + IntKind.i64.wrap (((n / 10 ^ i % 10 : Nat) : Int) * ((m / 10 ^ j % 10 : Nat) : Int))) + (c : Int))) 10) = _
        rw [et, ed]
      · show IntKind.i64.wrap ((j : Int) + 1) = ((j + 1 : Nat) : Int)
        rw [IntWalk.i64_in _ (by omega)]; omega
      · show (irows .i64 out).set (0 + (IntKind.i64.wrap ((i : Int) + (j : Int))).toNat) [AV.val (.int .i64 (Int.tmod (IntKind.i64.wrap (IntKind.i64.wrap ((out[i + j]'hp) + IntKind.i64.wrap (((n / 10 ^ i % 10 : Nat) : Int) * ((m / 10 ^ j % 10 : Nat) : Int))) + (c : Int))) 10))] = _
        rw [et, em, ew, Nat.zero_add, Int.toNat_natCast, ← irows_set]
  · have h1' : ¬ (i : Int) < ((decS n).size : Int) := of_decide_eq_false h1
    rw [z1] at h1'
    have hvv : valD out = n * m := by rw [← dval_valD, hv, mod_lt_dec (show (decL n).length ≤ i by omega)]
    have hW := written_ok out hD (by omega)
    rw [hvv] at hW
    have hW : AC Tryz.prog 167 [.sl 1 (List.take (la + lb + 1) (List.drop 0 (irows .i64 out))) false] (.pure (.val (.string (decS (n * m))))) := by
      rw [List.drop_zero, List.take_of_length_le (by rw [irows_len]; omega)]
      exact hW
    conv => whnf
    refine ⟨by rw [irows_len]; show 0 + (la + lb + 1) ≤ out.length; omega, _, hW, ?_⟩
    conv => whnf
    exact rfl

end Go.Proofs.YtbdklokfijjifaaGreat

/- Contracts: the reference's quotients, powers of two. -/
set_option linter.unusedVariables false
namespace Go.Proofs.YtbdklokfijjifaaGreat
open Go Go.AL NM

theorem decS_one : decS 1 = ({ data := #[49] } : ByteArray) := by unfold decS; rw [decL_one 1 (by decide)]; rfl
theorem decS_zero : decS 0 = ({ data := #[48] } : ByteArray) := by unfold decS; rw [decL_one 0 (by decide)]; rfl
theorem RDivMod_ok (n m : Nat) (hm : 0 < m) (hb : (decL n).length + (decL m).length < 100000000) : AC Tryz.prog 168 [.val (.string (decS n)), .val (.string (decS m))] (.pure (.tup [.val (.string (decS (n / m))), .val (.string (decS (n % m)))])) := by
  refine AC.of_body TTok Tryz.func168 rfl (enter_of Tryz.func168 (by kernel_rfl) (by kernel_rfl)) (noid2 (.val _) (.val _)) (.tup _ (noid2 (.val _) (.val _))) (Nat.le_of_ble_eq_true rfl) ?_
  obtain ⟨la, hla⟩ : ∃ la, la = (decL n).length := ⟨_, rfl⟩
  have z1 : (decS n).size = la := by rw [hla]; exact strL_size _
  have hne := decL_ne n
  have hdn := decL_byt n
  have hpos : 0 < la := by rw [hla]; exact List.length_pos_iff.2 hne
  rw [← hla] at hb
  have hvn := valL_decL n
  conv => whnf
  refine ⟨⟨by decide, by rw [z1]; omega, by rw [z1]; show (la : Int) * 1 ≤ _; omega⟩, ?_⟩
  conv => whnf
  refine SW.loopM TTok (fun x : Nat × List Int => [(0, .val (.string (decS n))), (1, .val (.string (decS m))), (6, .own 32 0 x.2.length), (7, .val (.string (decS (valL ((decL n).take x.1) % m)))), (8, .val (.int .i64 x.1))])
    (fun x => [(32, .cells 1 (irows .u8 x.2))]) 64 50 rfl (fun x => la - x.1)
    (fun x => x.1 ≤ la ∧ Dig x.2 ∧ x.2.length = x.1 ∧ valL x.2 = valL ((decL n).take x.1) / m) (0, []) [] ⟨Nat.zero_le _, (fun x hx => (nomatch hx)), rfl, (by show 0 = 0 / m; rw [Nat.zero_div])⟩
    ⟨⟨rfl, rfl⟩, ⟨rfl, rfl⟩, ⟨ownE rfl rfl, rfl⟩, ⟨strE ?_, rfl⟩, ⟨rfl, rfl⟩, trivial⟩ ⟨⟨rfl, .inl ⟨celE ?_, irows_noid _ _⟩⟩, trivial⟩ rfl ?_
  · show ({ data := #[48] } : ByteArray) = decS (0 % m)
    rw [Nat.zero_mod, decS_zero]
  · rfl
  rintro ⟨i, q⟩ hJ
  have hi : i ≤ la := hJ.1
  have hD : Dig q := hJ.2.1
  have hl : q.length = i := hJ.2.2.1
  have hv : valL q = valL ((decL n).take i) / m := hJ.2.2.2
  clear hJ
  have hle : 0 + q.length ≤ (irows .u8 q).length := by rw [irows_len]; omega
  conv => whnf
  refine caseb (fun h1 => ?_) (fun h1 => ?_)
  · have h1' : (i : Int) < ((decS n).size : Int) := of_decide_eq_true h1
    rw [z1] at h1'
    have hlt : i < (decL n).length := by omega
    have hx := hdn (decL n)[i] (List.getElem_mem _)
    have htk := valL_take hlt
    obtain ⟨p, hp⟩ : ∃ p, p = valL ((decL n).take i) := ⟨_, rfl⟩
    obtain ⟨d, hd⟩ : ∃ d, d = ((decL n)[i] - 48).toNat := ⟨_, rfl⟩
    rw [← hp, ← hd] at htk
    rw [← hp] at hv
    obtain ⟨t, ht⟩ : ∃ t, t = 10 * (p % m) + d := ⟨_, rfl⟩
    have ei : IntKind.i64.wrap ((i : Int) + 1) = ((i + 1 : Nat) : Int) := by rw [IntWalk.i64_in _ (by omega)]; omega
    have hpm : p % m < m := Nat.mod_lt _ hm
    have ht10 : t < 10 * m := by omega
    have lr : ∀ r, r ≤ t → (decL r).length ≤ (decL m).length + 1 := fun r hr => decL_len_le (by omega) (by
      have := decL_lt m
      rw [Nat.pow_succ]
      omega)
    have ex : (decS n).extract ((i : Int)).toNat (IntKind.i64.wrap ((i : Int) + 1)).toNat = strL [(decL n)[i]] := by
      unfold decS
      rw [ei, Int.toNat_natCast, Int.toNat_natCast, strL_extract, List.take_succ_eq_append_getElem hlt, List.drop_append, List.length_take, Nat.min_eq_left (by omega), Nat.sub_self, List.drop_of_length_le (by rw [List.length_take]; omega)]
      rfl
    have hTr : AC Tryz.prog 143 [.val (.string (decS (valL ((decL n).take i) % m) ++ (decS n).extract ((i : Int)).toNat (IntKind.i64.wrap ((i : Int) + 1)).toNat))] (.pure (.val (.string (decS t)))) := by
      rw [← hp, ex]
      unfold decS
      rw [strL_append]
      have h1 := Trim_ok (decL (p % m) ++ [(decL n)[i]]) (fun x hx => by
        rcases List.mem_append.1 hx with hx | hx
        · exact decL_byt _ x hx
        · simp at hx; subst hx; exact hdn _ (List.getElem_mem _)) (by simp) (by
          have := lr (p % m) (by omega)
          simp; omega)
      rw [valL_snoc, valL_decL, ← hd, ← ht] at h1
      exact h1
    have sz1 : (decS (valL ((decL n).take i) % m)).size ≤ (decL m).length + 1 := by
      rw [← hp]; unfold decS; rw [strL_size]; exact lr _ (by omega)
    have sz2 : ((decS n).extract ((i : Int)).toNat (IntKind.i64.wrap ((i : Int) + 1)).toNat).size = 1 := by rw [ex, strL_size]; rfl
    conv => whnf
    refine ⟨⟨by omega, by rw [ei]; omega, by rw [ei, z1]; omega⟩, ?_⟩
    conv => whnf
    refine ⟨by show (decS (valL ((decL n).take i) % m)).size + ((decS n).extract ((i : Int)).toNat (IntKind.i64.wrap ((i : Int) + 1)).toNat).size ≤ _; omega, ?_⟩
    conv => whnf
    refine ⟨_, hTr, ?_⟩
    conv => whnf
    refine SW.loopM TTok (fun x : Nat × Nat => [(0, .val (.string (decS n))), (1, .val (.string (decS m))), (6, .own 32 0 q.length), (7, .val (.string (decS x.2))), (8, .val (.int .i64 i)), (9, .val (.int .i64 x.1))])
      (fun x => [(32, .cells 1 (irows .u8 q))]) 176 50 rfl (fun x => x.2) (fun x => x.2 + x.1 * m = t) (0, t) [] (by show t + 0 * m = t; omega)
      ⟨⟨rfl, rfl⟩, ⟨rfl, rfl⟩, ⟨rfl, rfl⟩, ⟨rfl, rfl⟩, ⟨rfl, rfl⟩, ⟨rfl, rfl⟩, trivial⟩ ⟨⟨rfl, .inl ⟨rfl, irows_noid _ _⟩⟩, trivial⟩ rfl ?_
    rintro ⟨c, r⟩ hJ
    have hcr : r + c * m = t := hJ
    clear hJ
    have hrt : r ≤ t := by omega
    have hc10 : c < 10 := by
      rcases Nat.lt_or_ge c 10 with h | h
      · exact h
      · have : 10 * m ≤ c * m := Nat.mul_le_mul_right _ h
        omega
    have hlr := lr r hrt
    conv => whnf
    refine ⟨_, RCmp_ok r m, ?_⟩
    conv => whnf
    refine caseb (fun h2 => ?ca) (fun h2 => ?cq)
    case' ca =>
      have h2' : cmpN r m ≥ 0 := of_decide_eq_true h2
      have hmr : m ≤ r := by
        rcases Nat.lt_or_ge r m with h | h
        · rw [cmpN_lt h] at h2'; omega
        · exact h
      conv => whnf
      refine caseb (fun h3 => ?cb) (fun h3 => ?cd)
    case cd =>
      have h3' : ¬ (c : Int) < 10 := of_decide_eq_false h3
      omega
    case cb =>
      conv => whnf
      refine ⟨_, RSub_ok r m hmr (by omega), ?_⟩
      conv => whnf
      refine ⟨(c + 1, r - m), [], (by show r - m < r; omega), (by show r - m + (c + 1) * m = t; rw [Nat.add_mul]; omega), ⟨⟨rfl, rfl⟩, ⟨rfl, rfl⟩, ⟨rfl, rfl⟩, ⟨rfl, rfl⟩, ⟨rfl, rfl⟩, ⟨valI ?_, rfl⟩, trivial⟩, ⟨⟨rfl, .inl ⟨rfl, irows_noid _ _⟩⟩, trivial⟩, rfl⟩
      show IntKind.i64.wrap ((c : Int) + 1) = ((c + 1 : Nat) : Int)
      rw [IntWalk.i64_in _ (by omega)]; omega
    case cq =>
      have h2' : ¬ cmpN r m ≥ 0 := of_decide_eq_false h2
      have hrm : r < m := by
        rcases Nat.lt_or_ge r m with h | h
        · exact h
        · exfalso
          apply h2'
          unfold cmpN
          rw [if_neg (by omega)]
          split <;> decide
      have htq : t / m = c := by
        rw [← hcr, Nat.add_mul_div_right _ _ hm, Nat.div_eq_of_lt hrm, Nat.zero_add]
      have htr : t % m = r := by
        rw [← hcr, Nat.add_mul_mod_self_right, Nat.mod_eq_of_lt hrm]
      have hP : 10 * p + d = t + 10 * (p / m) * m := by
        have := Nat.mod_add_div p m
        have h5 : 10 * (p / m) * m = 10 * (m * (p / m)) := by rw [Nat.mul_assoc, Nat.mul_comm (p / m)]
        omega
      have hPq : (10 * p + d) / m = 10 * (p / m) + c := by
        rw [hP, Nat.add_mul_div_right _ _ hm, htq]; omega
      have hPr : (10 * p + d) % m = r := by
        rw [hP, Nat.add_mul_mod_self_right, htr]
      conv => whnf
      refine ⟨⟨hle, by show (q.length + 1) * 1 ≤ 140737488355328; omega, Nat.le_of_ble_eq_true rfl⟩, ?_⟩
      conv => whnf
      refine ⟨(i + 1, q ++ [((48 + c : Nat) : Int)]), [(32, 280)], (by show la - (i + 1) < la - i; omega), ⟨(by show i + 1 ≤ la; omega), ?_, (by show (q ++ [_]).length = i + 1; simp [hl]), ?_⟩,
        ⟨⟨rfl, rfl⟩, ⟨rfl, rfl⟩, ⟨ownE rfl ?_, rfl⟩, ⟨strE ?_, rfl⟩, ⟨valI ei, rfl⟩, trivial⟩, ⟨⟨rfl, .inl ⟨celE ?_, irows_noid _ _⟩⟩, trivial⟩, rfl⟩
      · intro x hx
        rcases List.mem_append.1 hx with hx | hx
        · exact hD x hx
        · simp at hx; omega
      · show valL (q ++ [((48 + c : Nat) : Int)]) = valL ((decL n).take (i + 1)) / m
        rw [htk, hPq, valL_snoc, hv]
        omega
      · show q.length + 1 = (q ++ [_]).length
        simp
      · show decS r = decS (valL ((decL n).take (i + 1)) % m)
        rw [htk, hPr]
      · show List.take q.length (List.drop 0 (irows .u8 q)) ++ [[AV.val (.int .u8 (IntKind.u8.wrap (IntKind.i64.wrap (48 + (c : Int)))))]] = _
        have e : IntKind.u8.wrap (IntKind.i64.wrap (48 + (c : Int))) = ((48 + c : Nat) : Int) := by
          rw [IntWalk.i64_in _ (by omega), IntKind.wrap_u8]; omega
        rw [e, List.drop_zero, List.take_of_length_le (by rw [irows_len]; exact Nat.le_refl _), ← irows_append]
        rfl
  · have h1' : ¬ (i : Int) < ((decS n).size : Int) := of_decide_eq_false h1
    rw [z1] at h1'
    have hil : i = la := by omega
    have htk : (decL n).take i = decL n := List.take_of_length_le (by omega)
    rw [htk, hvn] at hv
    have hqne : q ≠ [] := fun e => by rw [e] at hl; simp at hl; omega
    have hTr := Trim_ok q hD hqne (by omega)
    rw [hv] at hTr
    conv => whnf
    refine ⟨q, ⟨hle, ?_⟩, ?_⟩
    · show List.take q.length (irows .u8 q) = irows .u8 q
      rw [List.take_of_length_le (by rw [irows_len]; exact Nat.le_refl _)]
    conv => whnf
    refine ⟨_, hTr, ?_⟩
    conv => whnf
    refine tup2 rfl (strE ?_)
    show decS (valL ((decL n).take i) % m) = _
    rw [htk, hvn]

end Go.Proofs.YtbdklokfijjifaaGreat

/- Contracts: powers. -/
set_option linter.unusedVariables false
namespace Go.Proofs.YtbdklokfijjifaaGreat
open Go Go.AL NM

theorem decL_inj {n m : Nat} (h : decL n = decL m) : n = m := by rw [← valL_decL n, ← valL_decL m, h]
theorem isd (n d : Nat) (hd : d < 10) : ((decS n).toList == (strL [((48 + d : Nat) : Int)]).toList) = decide (n = d) := by
  rw [decS_is n _ (by intro x hx; simp at hx; omega)]
  by_cases h : n = d
  · subst h
    rw [decide_eq_true rfl, decide_eq_true (decL_one n hd)]
  · rw [decide_eq_false h, decide_eq_false (fun e => h (decL_inj (e.trans (decL_one d hd).symm)))]
theorem is0 (n : Nat) : ((decS n).toList == ({ data := #[48] } : ByteArray).toList) = decide (n = 0) := isd n 0 (by decide)
theorem is1 (n : Nat) : ((decS n).toList == ({ data := #[49] } : ByteArray).toList) = decide (n = 1) := isd n 1 (by decide)
theorem limbs_mul (x y : Nat) : (limbs (x * y)).length ≤ (limbs x).length + (limbs y).length := by
  apply limbs_len_le
  have h1 := val_lt (limbs_lim x)
  have h2 := val_lt (limbs_lim y)
  rw [val_limbs] at h1 h2
  rw [Nat.pow_add]
  exact Nat.mul_lt_mul'' h1 h2
theorem decL_limbs (n : Nat) : (decL n).length ≤ 10 * (limbs n).length + 1 := by
  have := decR_limbs n
  unfold decL
  split
  · simp
  · rw [List.length_reverse]; omega
theorem blen_limbs' (n : Nat) : blen n ≤ 32 * (limbs n).length := by rw [limbs_blen]; omega
theorem limbs_pow_le {a i k : Nat} (ha : 0 < a) (h : i ≤ k) : (limbs (a ^ i)).length ≤ (limbs (a ^ k)).length := limbs_len_mono (Nat.pow_le_pow_right ha h)
theorem limbs_1 : (limbs 1).length = 1 := by rw [limbs_pos (by decide), show 1 / 4294967296 = 0 from rfl, limbs_zero]; rfl

theorem Pow_gen (a : Nat) (n most : Int) (h2 : 2 ≤ a) (hn : 0 < n) (hn63 : n < 9223372036854775808) (hm : most ≤ 200) (ha : (limbs a).length ≤ 400) (res : AV) (hno : NoId res)
    (r1 : most < ((limbs (a ^ n.toNat)).length : Int) → AV.tup [.agg [.sl 0 [] true], .val (.bool false)] = res)
    (r2 : ((limbs (a ^ n.toNat)).length : Int) ≤ most → AV.tup [natA (a ^ n.toNat), .val (.bool true)] = res) :
    AC Tryz.prog 204 [natA a, .val (.int .i64 n), .val (.int .i64 most)] (.pure res) := by
  refine AC.of_body TTok Tryz.func204 rfl (enter_of Tryz.func204 (by kernel_rfl) (by kernel_rfl)) (noid3 (natA_noid a) (.val _) (.val _)) hno (Nat.le_of_ble_eq_true rfl) ?_
  have hO := One_ok a
  have hZ := Zero_ok a
  rw [decide_eq_false (by omega)] at hO hZ
  have hM : ∀ i : Nat, (limbs (a ^ i)).length ≤ 200 → AC Tryz.prog 96 [natA (a ^ i), natA a] (.pure (natA (a ^ (i + 1)))) := fun i hi => by
    rw [Nat.pow_succ]; exact Mul_ok _ _ (by omega)
  have hmono : ∀ i : Nat, (i : Int) ≤ n → (limbs (a ^ i)).length ≤ (limbs (a ^ n.toNat)).length := fun i hi => limbs_pow_le (by omega) (by omega)
  obtain ⟨k, hk⟩ : ∃ k : Nat, k = n.toNat := ⟨_, rfl⟩
  rw [← hk] at r1 r2 hmono
  have hOf := Of_ok 1 (by decide)
  unfold natA at hO hZ hM r2 hOf ⊢
  conv => whnf
  refine ⟨_, hOf, ?_⟩
  conv => whnf
  refine caseb (fun h3 => ?_) (fun h3 => ?_)
  · have h3' : n ≤ 0 := of_decide_eq_true h3
    omega
  conv => whnf
  refine ⟨_, hO, ?_⟩
  conv => whnf
  refine ⟨_, hZ, ?_⟩
  conv => whnf
  refine SW.loopM TTok (fun i : Nat => [(2, .val (.int .i64 most)), (3, .lp 0 0), (6, .lp 8 0), (8, .lp 32 0), (20, .val (.int .i64 n)), (21, .val (.int .i64 i))])
    (fun i => [(0, .cells 1 [[.sl 1 (irows .u32 (limbs a)) false]]), (8, .cells 1 [[.sl 0 [] true]]), (32, .cells 1 [[.sl 1 (irows .u32 (limbs (a ^ i))) false]])]) 128 33 rfl (fun i => k - i)
    (fun i => i ≤ k ∧ (i = 0 ∨ ((limbs (a ^ i)).length : Int) ≤ most)) 0 [] ⟨Nat.zero_le _, .inl rfl⟩
    ⟨⟨rfl, rfl⟩, ⟨rfl, rfl⟩, ⟨rfl, rfl⟩, ⟨rfl, rfl⟩, ⟨rfl, rfl⟩, ⟨rfl, rfl⟩, trivial⟩ ⟨⟨rfl, .inr ⟨rfl, rfl⟩⟩, ⟨rfl, .inr ⟨rfl, rfl⟩⟩, ⟨rfl, .inr ⟨?_, rfl⟩⟩, trivial⟩ rfl ?_
  · show some (LB.cells 1 [[.sl 1 (irows .u32 (limbs 1)) false]]) = some (LB.cells 1 [[.sl 1 (irows .u32 (limbs (a ^ 0))) false]])
    rw [Nat.pow_zero]
  intro i hJ
  have hi : i ≤ k := hJ.1
  have hl : i = 0 ∨ ((limbs (a ^ i)).length : Int) ≤ most := hJ.2
  clear hJ
  have hl12 : (limbs (a ^ i)).length ≤ 200 := by
    rcases hl with hl | hl
    · subst hl; rw [Nat.pow_zero, limbs_1]; omega
    · omega
  conv => whnf
  refine caseb (fun h4 => ?_) (fun h4 => ?_)
  · have h4' : (i : Int) < n := of_decide_eq_true h4
    conv => whnf
    refine ⟨_, hM i hl12, ?_⟩
    conv => whnf
    refine ⟨_, Limbs_ok (a ^ (i + 1)), ?_⟩
    conv => whnf
    refine caseb (fun h5 => ?_) (fun h5 => ?_)
    · have h5' : ((limbs (a ^ (i + 1))).length : Int) > most := of_decide_eq_true h5
      have := hmono (i + 1) (by omega)
      conv => whnf
      exact r1 (by omega)
    · have h5' : ¬ ((limbs (a ^ (i + 1))).length : Int) > most := of_decide_eq_false h5
      conv => whnf
      refine ⟨i + 1, [], (by show k - (i + 1) < k - i; omega), ⟨(by show i + 1 ≤ k; omega), .inr (by show ((limbs (a ^ (i + 1))).length : Int) ≤ most; omega)⟩, ⟨⟨rfl, rfl⟩, ⟨rfl, rfl⟩, ⟨rfl, rfl⟩, ⟨rfl, rfl⟩, ⟨rfl, rfl⟩, ⟨valI ?_, rfl⟩, trivial⟩, ⟨⟨rfl, .inr ⟨rfl, rfl⟩⟩, ⟨rfl, .inr ⟨rfl, rfl⟩⟩, ⟨rfl, .inr ⟨rfl, rfl⟩⟩, trivial⟩, rfl⟩
      show IntKind.i64.wrap ((i : Int) + 1) = ((i + 1 : Nat) : Int)
      rw [IntWalk.i64_in _ (by omega)]; omega
  · have h4' : ¬ (i : Int) < n := of_decide_eq_false h4
    have hik : i = k := by omega
    conv => whnf
    rw [hik] at hl
    refine Eq.trans ?_ (r2 (hl.resolve_left (by omega)))
    show AV.tup [.agg [.sl 1 (irows .u32 (limbs (a ^ i))) false], .val (.bool true)] = _
    rw [hik]

theorem Pow_one (a : Nat) (n most : Int) (h : n ≤ 0 ∨ a = 1) : AC Tryz.prog 204 [natA a, .val (.int .i64 n), .val (.int .i64 most)] (.pure (.tup [natA 1, .val (.bool true)])) := by
  refine AC.of_body TTok Tryz.func204 rfl (enter_of Tryz.func204 (by kernel_rfl) (by kernel_rfl)) (noid3 (natA_noid a) (.val _) (.val _)) (.tup _ (noid2 (natA_noid _) (.val _))) (Nat.le_of_ble_eq_true rfl) ?_
  have hO := One_ok a
  have hOf := Of_ok 1 (by decide)
  unfold natA at hO hOf ⊢
  conv => whnf
  refine ⟨_, hOf, ?_⟩
  conv => whnf
  refine caseb (fun h3 => ?_) (fun h3 => ?_)
  · conv => whnf
    exact rfl
  have h3' : ¬ n ≤ 0 := of_decide_eq_false h3
  rw [decide_eq_true (show a = 1 by omega)] at hO
  conv => whnf
  refine ⟨_, hO, ?_⟩
  conv => whnf
  exact rfl

theorem RPow_one (a : Nat) (n most : Int) (h : n ≤ 0 ∨ a = 1) : AC Tryz.prog 223 [.val (.string (decS a)), .val (.int .i64 n), .val (.int .i64 most)] (.pure (.tup [.val (.string (decS 1)), .val (.bool true)])) := by
  refine AC.of_body TTok Tryz.func223 rfl (enter_of Tryz.func223 (by kernel_rfl) (by kernel_rfl)) (noid3 (.val _) (.val _) (.val _)) (.tup _ (noid2 (.val _) (.val _))) (Nat.le_of_ble_eq_true rfl) ?_
  have h1 := is1 a
  conv => whnf
  refine caseb (fun h3 => ?_) (fun h3 => ?_)
  · conv => whnf
    exact tup2 (strE decS_one.symm) rfl
  have h3' : ¬ n ≤ 0 := of_decide_eq_false h3
  rw [decide_eq_true (show a = 1 by omega)] at h1
  conv => whnf
  refine caseb (fun _ => ?_) (fun h => Bool.noConfusion (h1.symm.trans h))
  conv => whnf
  exact tup2 (strE decS_one.symm) rfl

theorem RPow_gen (a : Nat) (n most : Int) (h2 : 2 ≤ a) (hn : 0 < n) (hn63 : n < 9223372036854775808) (hm : most ≤ 200) (ha : (limbs a).length ≤ 400) (res : AV) (hno : NoId res)
    (r1 : most < ((limbs (a ^ n.toNat)).length : Int) → AV.tup [.val (.string (decS 0)), .val (.bool false)] = res)
    (r2 : ((limbs (a ^ n.toNat)).length : Int) ≤ most → AV.tup [.val (.string (decS (a ^ n.toNat))), .val (.bool true)] = res) :
    AC Tryz.prog 223 [.val (.string (decS a)), .val (.int .i64 n), .val (.int .i64 most)] (.pure res) := by
  refine AC.of_body TTok Tryz.func223 rfl (enter_of Tryz.func223 (by kernel_rfl) (by kernel_rfl)) (noid3 (.val _) (.val _) (.val _)) hno (Nat.le_of_ble_eq_true rfl) ?_
  have h1 := is1 a
  have h0 := is0 a
  rw [decide_eq_false (by omega)] at h1 h0
  have lm : ∀ i : Nat, (limbs (a ^ i)).length ≤ 200 → (limbs (a ^ (i + 1))).length ≤ 600 := fun i hi => by
    rw [Nat.pow_succ]
    have := limbs_mul (a ^ i) a
    omega
  have hM : ∀ i : Nat, (limbs (a ^ i)).length ≤ 200 → AC Tryz.prog 208 [.val (.string (decS (a ^ i))), .val (.string (decS a))] (.pure (.val (.string (decS (a ^ (i + 1)))))) := fun i hi => by
    rw [Nat.pow_succ]
    have h1 := decL_limbs (a ^ i)
    have h2 := decL_limbs a
    exact RMul_ok _ _ (by omega)
  have hL : ∀ i : Nat, (limbs (a ^ i)).length ≤ 200 → AC Tryz.prog 195 [.val (.string (decS (a ^ (i + 1))))] (.pure (.val (.int .i64 (limbs (a ^ (i + 1))).length))) := fun i hi => by
    have h1 := lm i hi
    have h2 := blen_limbs' (a ^ (i + 1))
    have h3 := decL_limbs (a ^ (i + 1))
    exact RLimbs_ok _ (by omega) (by omega)
  have hmono : ∀ i : Nat, (i : Int) ≤ n → (limbs (a ^ i)).length ≤ (limbs (a ^ n.toNat)).length := fun i hi => limbs_pow_le (by omega) (by omega)
  obtain ⟨k, hk⟩ : ∃ k : Nat, k = n.toNat := ⟨_, rfl⟩
  rw [← hk] at r1 r2 hmono
  rw [decS_zero] at r1
  conv => whnf
  refine caseb (fun h3 => ?_) (fun h3 => ?_)
  · have h3' : n ≤ 0 := of_decide_eq_true h3
    omega
  conv => whnf
  refine caseb (fun h => Bool.noConfusion (h1.symm.trans h)) (fun _ => ?_)
  conv => whnf
  refine caseb (fun h => Bool.noConfusion (h0.symm.trans h)) (fun _ => ?_)
  conv => whnf
  refine SW.loopM TTok (fun i : Nat => [(0, .val (.string (decS a))), (1, .val (.int .i64 n)), (2, .val (.int .i64 most)), (8, .val (.string (decS (a ^ i)))), (9, .val (.int .i64 i))])
    (fun i => []) 112 31 rfl (fun i => k - i)
    (fun i => i ≤ k ∧ (i = 0 ∨ ((limbs (a ^ i)).length : Int) ≤ most)) 0 [] ⟨Nat.zero_le _, .inl rfl⟩
    ⟨⟨rfl, rfl⟩, ⟨rfl, rfl⟩, ⟨rfl, rfl⟩, ⟨strE ?_, rfl⟩, ⟨rfl, rfl⟩, trivial⟩ trivial rfl ?_
  · rw [Nat.pow_zero, decS_one]
  intro i hJ
  have hi : i ≤ k := hJ.1
  have hl : i = 0 ∨ ((limbs (a ^ i)).length : Int) ≤ most := hJ.2
  clear hJ
  have hl12 : (limbs (a ^ i)).length ≤ 200 := by
    rcases hl with hl | hl
    · subst hl; rw [Nat.pow_zero, limbs_1]; omega
    · omega
  conv => whnf
  refine caseb (fun h4 => ?_) (fun h4 => ?_)
  · have h4' : (i : Int) < n := of_decide_eq_true h4
    conv => whnf
    refine ⟨_, hM i hl12, ?_⟩
    conv => whnf
    refine ⟨_, hL i hl12, ?_⟩
    conv => whnf
    refine caseb (fun h5 => ?_) (fun h5 => ?_)
    · have h5' : ((limbs (a ^ (i + 1))).length : Int) > most := of_decide_eq_true h5
      have := hmono (i + 1) (by omega)
      conv => whnf
      exact r1 (by omega)
    · have h5' : ¬ ((limbs (a ^ (i + 1))).length : Int) > most := of_decide_eq_false h5
      conv => whnf
      refine ⟨i + 1, [], (by show k - (i + 1) < k - i; omega), ⟨(by show i + 1 ≤ k; omega), .inr (by show ((limbs (a ^ (i + 1))).length : Int) ≤ most; omega)⟩, ⟨⟨rfl, rfl⟩, ⟨rfl, rfl⟩, ⟨rfl, rfl⟩, ⟨rfl, rfl⟩, ⟨valI ?_, rfl⟩, trivial⟩, trivial, rfl⟩
      show IntKind.i64.wrap ((i : Int) + 1) = ((i + 1 : Nat) : Int)
      rw [IntWalk.i64_in _ (by omega)]; omega
  · have h4' : ¬ (i : Int) < n := of_decide_eq_false h4
    have hik : i = k := by omega
    conv => whnf
    rw [hik] at hl
    refine Eq.trans ?_ (r2 (hl.resolve_left (by omega)))
    show AV.tup [.val (.string (decS (a ^ i))), .val (.bool true)] = _
    rw [hik]

end Go.Proofs.YtbdklokfijjifaaGreat

/- Contracts of whole numbers: small functions. -/
set_option linter.unusedVariables false
namespace Go.Proofs.YtbdklokfijjifaaGreat
open Go Go.AL NM

/-- A whole number: as the program has it, as the document's answer has it. -/
def WI (a : Int) : AV := .agg [.sl 1 (irows .u32 (limbs a.natAbs)) false, .val (.bool (decide (a < 0)))]
def WR (a : Int) : AV := .agg [.val (.bool (decide (a < 0))), .val (.string (decS a.natAbs))]
theorem WI_noid (a : Int) : NoId (WI a) := .agg _ (noid2 (noid_sl _ _ _) (.val _))
theorem WR_noid (a : Int) : NoId (WR a) := .agg _ (noid2 (.val _) (.val _))
def sgn (s : Bool) (n : Nat) : Int := if s then -(n : Int) else n
theorem sgn_abs (s : Bool) (n : Nat) : (sgn s n).natAbs = n := by cases s <;> simp [sgn]
theorem sgn_neg (s : Bool) (n : Nat) : decide (sgn s n < 0) = (s && !decide (n = 0)) := by
  cases s
  · simp [sgn]
  · simp only [sgn, if_true, Bool.true_and]
    by_cases h : n = 0
    · subst h; rfl
    · rw [decide_eq_true (by omega), decide_eq_false h]; rfl
theorem sgn_self (a : Int) : sgn (decide (a < 0)) a.natAbs = a := by
  unfold sgn
  by_cases h : a < 0
  · rw [decide_eq_true h, if_pos rfl]; omega
  · rw [decide_eq_false h, if_neg (by decide)]; omega

theorem agg2 {a b c d : AV} (h1 : a = c) (h2 : b = d) : AV.agg [a, b] = AV.agg [c, d] := by rw [h1, h2]

theorem WOf_ok (s : Bool) (n : Nat) : AC Tryz.prog 95 [.val (.bool s), natA n] (.pure (WI (sgn s n))) := by
  refine AC.of_body TTok Tryz.func95 rfl (enter_of Tryz.func95 (by kernel_rfl) (by kernel_rfl)) (noid2 (.val _) (natA_noid n)) (WI_noid _) (Nat.le_of_ble_eq_true rfl) ?_
  have hz := Zero_ok n
  unfold WI
  rw [sgn_abs, sgn_neg]
  unfold natA at hz ⊢
  cases s
  · conv => whnf
    refine ⟨by kernel_rfl, ?_⟩
    conv => whnf
    exact agg2 rfl rfl
  · conv => whnf
    refine ⟨_, hz, ?_⟩
    conv => whnf
    refine ⟨by kernel_rfl, ?_⟩
    conv => whnf
    exact agg2 rfl rfl

theorem ROfW_ok (s : Bool) (n : Nat) (hb : (decL n).length < 4294967296) : AC Tryz.prog 207 [.val (.bool s), .val (.string (decS n))] (.pure (WR (sgn s n))) := by
  refine AC.of_body TTok Tryz.func207 rfl (enter_of Tryz.func207 (by kernel_rfl) (by kernel_rfl)) (noid2 (.val _) (.val _)) (WR_noid _) (Nat.le_of_ble_eq_true rfl) ?_
  have hT := Trim_ok (decL n) (decL_byt n) (decL_ne n) hb
  rw [valL_decL] at hT
  have h0 : ((decS n).toList == ({ data := #[48] } : ByteArray).toList) = decide (n = 0) := by
    have h1 := decS_is n [48] (by intro x hx; simp at hx; omega)
    refine h1.trans (decide_eq_decide.2 ⟨fun h => ?_, fun h => by rw [h]; exact decL_one 0 (by decide)⟩)
    have := valL_decL n
    rw [h] at this
    exact this.symm
  unfold WR
  rw [sgn_abs, sgn_neg]
  cases s
  · conv => whnf
    refine ⟨_, hT, ?_⟩
    conv => whnf
    exact agg2 rfl rfl
  · conv => whnf
    refine ⟨_, hT, ?_⟩
    conv => whnf
    refine agg2 (valB ?_) rfl
    show (!((decS n).toList == ({ data := #[48] } : ByteArray).toList)) = _
    rw [h0]; rfl

theorem Minus_ok (a : Int) : AC Tryz.prog 174 [WI a] (.pure (WI (-a))) := by
  refine AC.of_body TTok Tryz.func174 rfl (enter_of Tryz.func174 (by kernel_rfl) (by kernel_rfl)) (noid1 (WI_noid a)) (WI_noid _) (Nat.le_of_ble_eq_true rfl) ?_
  have h := WOf_ok (!decide (a < 0)) a.natAbs
  have e : WI (sgn (!decide (a < 0)) a.natAbs) = WI (-a) := by
    congr 1
    unfold sgn
    by_cases h : a < 0
    · rw [decide_eq_true h]; simp; omega
    · rw [decide_eq_false h]; simp; omega
  rw [e] at h
  revert h
  generalize -a = na
  intro h
  unfold WI natA at *
  conv => whnf
  refine ⟨_, h, ?_⟩
  conv => whnf
  exact rfl

/-- A sign ahead of digits. -/
def digs (a : Int) (s : ByteArray) : ByteArray := if a < 0 then s ++ decS a.natAbs else decS a.natAbs
theorem NegW_ok (a : Int) : AC Tryz.prog 130 [WI a] (.pure (.val (.bool (decide (a < 0))))) := by
  refine AC.of_body TTok Tryz.func130 rfl (enter_of Tryz.func130 (by kernel_rfl) (by kernel_rfl)) (noid1 (WI_noid a)) (.val _) (Nat.le_of_ble_eq_true rfl) ?_
  conv => whnf
  exact rfl
theorem SizeW_ok (a : Int) : AC Tryz.prog 147 [WI a] (.pure (natA a.natAbs)) := by
  refine AC.of_body TTok Tryz.func147 rfl (enter_of Tryz.func147 (by kernel_rfl) (by kernel_rfl)) (noid1 (WI_noid a)) (natA_noid _) (Nat.le_of_ble_eq_true rfl) ?_
  conv => whnf
  exact rfl
def sigW (a : Int) : Int := if a = 0 then 0 else if a < 0 then -1 else 1
theorem SignW_ok (a : Int) : AC Tryz.prog 175 [WI a] (.pure (.val (.int .i64 (sigW a)))) := by
  refine AC.of_body TTok Tryz.func175 rfl (enter_of Tryz.func175 (by kernel_rfl) (by kernel_rfl)) (noid1 (WI_noid a)) (.val _) (Nat.le_of_ble_eq_true rfl) ?_
  have hz := Zero_ok a.natAbs
  unfold natA at hz
  unfold WI sigW
  by_cases h0 : a = 0
  · rw [decide_eq_true (show a.natAbs = 0 by omega)] at hz
    rw [if_pos h0]
    conv => whnf
    refine ⟨_, hz, ?_⟩
    conv => whnf
    exact rfl
  · rw [decide_eq_false (show ¬ a.natAbs = 0 by omega)] at hz
    rw [if_neg h0]
    by_cases h : a < 0
    · rw [decide_eq_true h, if_pos h]
      conv => whnf
      refine ⟨_, hz, ?_⟩
      conv => whnf
      exact rfl
    · rw [decide_eq_false h, if_neg h]
      conv => whnf
      refine ⟨_, hz, ?_⟩
      conv => whnf
      exact rfl

end Go.Proofs.YtbdklokfijjifaaGreat

/- Contracts of whole numbers: numbers of 64 bits, order, sums. -/
set_option linter.unusedVariables false
namespace Go.Proofs.YtbdklokfijjifaaGreat
open Go Go.AL NM

theorem neg64 {n : Int} (h0 : n < 0) (h1 : -9223372036854775808 ≤ n) : IntKind.u64.wrap (IntKind.u64.wrap (IntKind.i64.wrap (0 - (IntKind.i64.wrap (n + 1)))) + 1) = ((n.natAbs : Nat) : Int) := by
  rw [IntWalk.i64_in (n + 1) (by omega), IntWalk.i64_in _ (by omega)]
  simp only [IntKind.wrap_u64]
  omega
theorem pos64 {n : Int} (h0 : ¬ n < 0) (h1 : n < 9223372036854775808) : IntKind.u64.wrap n = ((n.natAbs : Nat) : Int) := by
  simp only [IntKind.wrap_u64]
  omega

theorem From_ok (n : Int) (hn : -9223372036854775808 ≤ n ∧ n < 9223372036854775808) : AC Tryz.prog 93 [.val (.int .i64 n)] (.pure (WI n)) := by
  refine AC.of_body TTok Tryz.func93 rfl (enter_of Tryz.func93 (by kernel_rfl) (by kernel_rfl)) (noid1 (.val _)) (WI_noid _) (Nat.le_of_ble_eq_true rfl) ?_
  have hO := Of_ok n.natAbs (by omega)
  unfold WI natA at *
  conv => whnf
  refine caseb (fun h1 => ?_) (fun h1 => ?_)
  · have h1' : n < 0 := of_decide_eq_true h1
    rw [← neg64 h1' hn.1] at hO
    rw [decide_eq_true h1']
    conv => whnf
    refine ⟨_, hO, ?_⟩
    conv => whnf
    exact rfl
  · have h1' : ¬ n < 0 := of_decide_eq_false h1
    rw [← pos64 h1' hn.2] at hO
    rw [decide_eq_false h1']
    conv => whnf
    refine ⟨_, hO, ?_⟩
    conv => whnf
    exact rfl
theorem RFrom_ok (n : Int) (hn : -9223372036854775808 ≤ n ∧ n < 9223372036854775808) : AC Tryz.prog 123 [.val (.int .i64 n)] (.pure (WR n)) := by
  refine AC.of_body TTok Tryz.func123 rfl (enter_of Tryz.func123 (by kernel_rfl) (by kernel_rfl)) (noid1 (.val _)) (WR_noid _) (Nat.le_of_ble_eq_true rfl) ?_
  have hO := ROf_ok n.natAbs (by omega)
  unfold WR at *
  conv => whnf
  refine caseb (fun h1 => ?_) (fun h1 => ?_)
  · have h1' : n < 0 := of_decide_eq_true h1
    rw [← neg64 h1' hn.1] at hO
    rw [decide_eq_true h1']
    conv => whnf
    refine ⟨_, hO, ?_⟩
    conv => whnf
    exact rfl
  · have h1' : ¬ n < 0 := of_decide_eq_false h1
    rw [← pos64 h1' hn.2] at hO
    rw [decide_eq_false h1']
    conv => whnf
    refine ⟨_, hO, ?_⟩
    conv => whnf
    exact rfl

def fit (a : Int) : Prop := -9223372036854775808 ≤ a ∧ a < 9223372036854775808
instance (a : Int) : Decidable (fit a) := inferInstanceAs (Decidable (_ ∧ _))
theorem IntW_ok (a : Int) : AC Tryz.prog 151 [WI a] (.pure (.tup [.val (.int .i64 (if fit a then a else 0)), .val (.bool (decide (fit a)))])) := by
  refine AC.of_body TTok Tryz.func151 rfl (enter_of Tryz.func151 (by kernel_rfl) (by kernel_rfl)) (noid1 (WI_noid a)) (.tup _ (noid2 (.val _) (.val _))) (Nat.le_of_ble_eq_true rfl) ?_
  have hU := Uint_ok a.natAbs
  by_cases h64 : a.natAbs < 18446744073709551616
  · rw [if_pos h64, decide_eq_true h64] at hU
    obtain ⟨n, hn⟩ : ∃ n, n = a.natAbs := ⟨_, rfl⟩
    unfold WI natA at *
    rw [← hn] at hU ⊢
    conv => whnf
    refine ⟨_, hU, ?_⟩
    conv => whnf
    refine caseb (fun h1 => ?_) (fun h1 => ?_)
    · have h1' : (n : Int) > 9223372036854775808 := of_decide_eq_true h1
      have hf : ¬ fit a := fun h => by unfold fit at h; omega
      rw [if_neg hf, decide_eq_false hf]
      conv => whnf
      exact rfl
    have h1' : ¬ (n : Int) > 9223372036854775808 := of_decide_eq_false h1
    by_cases ha : a < 0
    · have hf : fit a := by unfold fit; omega
      rw [if_pos hf, decide_eq_true hf, decide_eq_true ha]
      have e : IntKind.i64.wrap (IntKind.i64.wrap (0 - (IntKind.i64.wrap (IntKind.u64.wrap ((n : Int) - 1)))) - 1) = a := by
        simp only [IntKind.wrap_u64]
        rw [IntWalk.i64_in (((n : Int) - 1) % 18446744073709551616) (by omega), IntWalk.i64_in (0 - (((n : Int) - 1) % 18446744073709551616)) (by omega), IntWalk.i64_in _ (by omega)]
        omega
      conv => whnf
      refine caseb (fun h2 => ?_) (fun h2 => ?_)
      · conv => whnf
        exact tup2 (valI e) rfl
      · conv => whnf
        exact tup2 (valI e) rfl
    · rw [decide_eq_false ha]
      conv => whnf
      refine caseb (fun h2 => ?_) (fun h2 => ?_)
      · have h2' : (n : Int) = 9223372036854775808 := by simpa using h2
        have hf : ¬ fit a := fun h => by unfold fit at h; omega
        rw [if_neg hf, decide_eq_false hf]
        conv => whnf
        exact rfl
      · have h2' : ¬ (n : Int) = 9223372036854775808 := by simpa using h2
        have hf : fit a := by unfold fit; omega
        rw [if_pos hf, decide_eq_true hf]
        conv => whnf
        refine tup2 (valI ?_) rfl
        show IntKind.i64.wrap (n : Int) = a
        rw [IntWalk.i64_in _ (by omega)]; omega
  · rw [if_neg h64, decide_eq_false h64] at hU
    have hf : ¬ fit a := fun h => by unfold fit at h; omega
    rw [if_neg hf, decide_eq_false hf]
    unfold WI natA at *
    conv => whnf
    refine ⟨_, hU, ?_⟩
    conv => whnf
    exact rfl

end Go.Proofs.YtbdklokfijjifaaGreat

/- Contracts of whole numbers: order, sums. -/
set_option linter.unusedVariables false
namespace Go.Proofs.YtbdklokfijjifaaGreat
open Go Go.AL NM

def cmpZ (a b : Int) : Int := if a < b then -1 else if a = b then 0 else 1
theorem cmpN_Z (n m : Nat) : cmpN n m = cmpZ n m := by
  unfold cmpN cmpZ
  repeat' split
  all_goals omega
theorem cmpZ_pp {a b : Int} (ha : ¬ a < 0) (hb : ¬ b < 0) : cmpN a.natAbs b.natAbs = cmpZ a b := by
  rw [cmpN_Z, show ((a.natAbs : Nat) : Int) = a by omega, show ((b.natAbs : Nat) : Int) = b by omega]
theorem cmpZ_nn {a b : Int} (ha : a < 0) (hb : b < 0) : cmpN b.natAbs a.natAbs = cmpZ a b := by
  unfold cmpN cmpZ
  repeat' split
  all_goals omega

theorem CmpW_ok (a b : Int) (ha : (limbs a.natAbs).length < 4000000000) (hb : (limbs b.natAbs).length < 4000000000) : AC Tryz.prog 47 [WI a, WI b] (.pure (.val (.int .i64 (cmpZ a b)))) := by
  refine AC.of_body TTok Tryz.func47 rfl (enter_of Tryz.func47 (by kernel_rfl) (by kernel_rfl)) (noid2 (WI_noid a) (WI_noid b)) (.val _) (Nat.le_of_ble_eq_true rfl) ?_
  have h1 := Cmp_ok a.natAbs b.natAbs ha hb
  have h2 := Cmp_ok b.natAbs a.natAbs hb ha
  unfold natA at h1 h2
  unfold WI
  by_cases na : a < 0
  · by_cases nb : b < 0
    · rw [cmpZ_nn na nb] at h2
      rw [decide_eq_true na, decide_eq_true nb]
      conv => whnf
      refine ⟨_, h2, ?_⟩
      conv => whnf
      exact rfl
    · rw [decide_eq_true na, decide_eq_false nb, show cmpZ a b = -1 from if_pos (by omega)]
      conv => whnf
      exact rfl
  · by_cases nb : b < 0
    · rw [decide_eq_false na, decide_eq_true nb, show cmpZ a b = 1 by unfold cmpZ; rw [if_neg (by omega), if_neg (by omega)]]
      conv => whnf
      exact rfl
    · rw [cmpZ_pp na nb] at h1
      rw [decide_eq_false na, decide_eq_false nb]
      conv => whnf
      refine ⟨_, h1, ?_⟩
      conv => whnf
      exact rfl

theorem sgn_add {a b : Int} (h : decide (a < 0) = decide (b < 0)) : sgn (decide (a < 0)) (a.natAbs + b.natAbs) = a + b := by
  have h' : a < 0 ↔ b < 0 := decide_eq_decide.1 h
  unfold sgn
  by_cases na : a < 0
  · rw [decide_eq_true na, if_pos rfl]; have := h'.1 na; omega
  · rw [decide_eq_false na, if_neg (by decide)]; have : ¬ b < 0 := fun hb => na (h'.2 hb); omega
theorem sgn_sub {a b : Int} (h : ¬ decide (a < 0) = decide (b < 0)) (hle : b.natAbs ≤ a.natAbs) : sgn (decide (a < 0)) (a.natAbs - b.natAbs) = a + b := by
  unfold sgn
  by_cases na : a < 0
  · have nb : ¬ b < 0 := fun nb => h (by rw [decide_eq_true na, decide_eq_true nb])
    rw [decide_eq_true na, if_pos rfl]; omega
  · have nb : b < 0 := Decidable.byContradiction fun nb => h (by rw [decide_eq_false na, decide_eq_false nb])
    rw [decide_eq_false na, if_neg (by decide)]; omega

theorem plus_ok (a b : Int) (ha : (limbs a.natAbs).length < 1000000000) (hb : (limbs b.natAbs).length < 1000000000) : AC Tryz.prog 203 [WI a, WI b] (.pure (WI (a + b))) := by
  refine AC.of_body TTok Tryz.func203 rfl (enter_of Tryz.func203 (by kernel_rfl) (by kernel_rfl)) (noid2 (WI_noid a) (WI_noid b)) (WI_noid _) (Nat.le_of_ble_eq_true rfl) ?_
  by_cases hs : decide (a < 0) = decide (b < 0)
  · have hA := Add_ok a.natAbs b.natAbs (by omega)
    have hO := WOf_ok (decide (a < 0)) (a.natAbs + b.natAbs)
    rw [sgn_add hs] at hO
    have hself : (decide (b < 0) == decide (b < 0)) = true := beq_self_eq_true _
    revert hO
    generalize a + b = c
    intro hO
    unfold WI natA at *
    rw [hs] at *
    conv => whnf
    refine caseb (fun _ => ?_) (fun h => Bool.noConfusion (hself.symm.trans h))
    conv => whnf
    refine ⟨_, hA, ?_⟩
    conv => whnf
    refine ⟨_, hO, ?_⟩
    conv => whnf
    refine ⟨by kernel_rfl, ?_⟩
    conv => whnf
    exact rfl
  · have hne : (decide (a < 0) == decide (b < 0)) = false := by
      cases h : (decide (a < 0) == decide (b < 0)) with
      | false => rfl
      | true => exact absurd (eq_of_beq h) hs
    rcases Nat.lt_or_ge a.natAbs b.natAbs with hlt | hge
    · have hS1 := Sub_lt a.natAbs b.natAbs hlt (by omega) (by omega)
      have hS2 := Sub_ge b.natAbs a.natAbs (by omega) (by omega)
      have hO := WOf_ok (decide (b < 0)) (b.natAbs - a.natAbs)
      rw [sgn_sub (fun h => hs h.symm) (by omega), Int.add_comm] at hO
      revert hO
      generalize a + b = c
      intro hO
      unfold WI natA at *
      conv => whnf
      refine caseb (fun h => Bool.noConfusion (hne.symm.trans h)) (fun _ => ?_)
      conv => whnf
      refine ⟨_, hS1, ?_⟩
      conv => whnf
      refine ⟨_, hS2, ?_⟩
      conv => whnf
      refine ⟨_, hO, ?_⟩
      conv => whnf
      exact rfl
    · have hS1 := Sub_ge a.natAbs b.natAbs hge (by omega)
      have hO := WOf_ok (decide (a < 0)) (a.natAbs - b.natAbs)
      rw [sgn_sub hs hge] at hO
      revert hO
      generalize a + b = c
      intro hO
      unfold WI natA at *
      conv => whnf
      refine caseb (fun h => Bool.noConfusion (hne.symm.trans h)) (fun _ => ?_)
      conv => whnf
      refine ⟨_, hS1, ?_⟩
      conv => whnf
      refine ⟨_, hO, ?_⟩
      conv => whnf
      exact rfl

end Go.Proofs.YtbdklokfijjifaaGreat

/- Contracts of whole numbers: sums and products of many. -/
set_option linter.unusedVariables false
namespace Go.Proofs.YtbdklokfijjifaaGreat
open Go Go.AL NM

def rowW (b : Int) : List AV := [.sl 1 (irows .u32 (limbs b.natAbs)) false, .val (.bool (decide (b < 0)))]
theorem rowW_noid (b : Int) : ∀ x ∈ rowW b, NoId x := noid2 (noid_sl _ _ _) (.val _)
theorem rowsW_noid (l : List Int) : ∀ r ∈ l.map rowW, ∀ x ∈ r, NoId x := by
  intro r hr
  obtain ⟨b, _, rfl⟩ := List.mem_map.1 hr
  exact rowW_noid b

theorem Plus_ok (a : Int) (l : List Int) (f : Nat → Int) (h0 : f 0 = a) (hf : ∀ k (h : k < l.length), f (k + 1) = f k + l[k]) (hl : l.length < 1000)
    (hb : ∀ k, k ≤ l.length → (limbs (f k).natAbs).length < 1000000000) (hbl : ∀ k (h : k < l.length), (limbs (l[k]).natAbs).length < 1000000000) :
    AC Tryz.prog 173 [WI a, .sl 2 (l.map rowW) false] (.pure (WI (f l.length))) := by
  refine AC.of_body TTok Tryz.func173 rfl (enter_of Tryz.func173 (by kernel_rfl) (by kernel_rfl)) (noid2 (WI_noid a) (.sl _ _ _ (rowsW_noid l))) (WI_noid _) (Nat.le_of_ble_eq_true rfl) ?_
  conv => whnf
  refine SW.loopM TTok (fun k : Nat => [(2, .lp 0 0), (4, .lp 8 0), (7, .sl 2 (l.map rowW) false), (8, .val (.int .i64 l.length)), (9, .val (.int .i64 k))])
    (fun k => [(0, .cells 2 [rowW (f k)]), (8, .cells 2 [[.sl 0 [] true, .val (.bool false)]])]) 40 18 rfl (fun k => l.length - k) (fun k => k ≤ l.length) 0 [] (Nat.zero_le _)
    ⟨⟨rfl, rfl⟩, ⟨rfl, rfl⟩, ⟨rfl, rfl⟩, ⟨valI (by simp), rfl⟩, ⟨rfl, rfl⟩, trivial⟩ ⟨⟨rfl, .inl ⟨?_, ?_⟩⟩, ⟨rfl, .inr ⟨rfl, rfl⟩⟩, trivial⟩ rfl ?_
  · rw [h0]; rfl
  · intro r hr; simp at hr; subst hr; exact rowW_noid _
  intro k hk
  have hk : k ≤ l.length := hk
  conv => whnf
  refine caseb (fun h1 => ?_) (fun h1 => ?_)
  · have h1' : (k : Int) < (l.length : Int) := of_decide_eq_true h1
    have hlt : k < l.length := by omega
    have hP := plus_ok (f k) l[k] (hb k hk) (hbl k hlt)
    rw [← hf k hlt] at hP
    conv => whnf
    refine ⟨rowW l[k], ⟨by omega, by rw [List.getElem?_map, show ((k : Int)).toNat = k by omega, List.getElem?_eq_getElem hlt]; rfl⟩, ?_⟩
    conv => whnf
    refine ⟨_, hP, ?_⟩
    conv => whnf
    refine ⟨k + 1, [], (by show l.length - (k + 1) < l.length - k; omega), (by show k + 1 ≤ l.length; omega), ⟨⟨rfl, rfl⟩, ⟨rfl, rfl⟩, ⟨rfl, rfl⟩, ⟨rfl, rfl⟩, ⟨valI ?_, rfl⟩, trivial⟩, ⟨⟨rfl, .inl ⟨rfl, fun r hr => by simp at hr; subst hr; exact rowW_noid _⟩⟩, ⟨rfl, .inr ⟨rfl, rfl⟩⟩, trivial⟩, rfl⟩
    show IntKind.i64.wrap ((k : Int) + 1) = ((k + 1 : Nat) : Int)
    rw [IntWalk.i64_in _ (by omega)]; omega
  · have h1' : ¬ (k : Int) < (l.length : Int) := of_decide_eq_false h1
    have hkl : k = l.length := by omega
    conv => whnf
    show WI (f k) = _
    rw [hkl]

theorem sgn_mul (a b : Int) : sgn (!(decide (a < 0) == decide (b < 0))) (a.natAbs * b.natAbs) = a * b := by
  have h : ∀ x : Int, x = sgn (decide (x < 0)) x.natAbs := fun x => (sgn_self x).symm
  rw [h a, h b, sgn_abs, sgn_abs]
  generalize a.natAbs = n
  generalize b.natAbs = m
  cases decide (a < 0) <;> cases decide (b < 0)
  all_goals
    rw [sgn_neg, sgn_neg]
    by_cases h1 : n = 0
    · subst h1; simp [sgn]
    · by_cases h2 : m = 0
      · subst h2; simp [sgn]
      · simp [sgn, h1, h2, Int.neg_mul, Int.mul_neg]

theorem Times_ok (a : Int) (l : List Int) (f : Nat → Int) (h0 : f 0 = a) (hf : ∀ k (h : k < l.length), f (k + 1) = f k * l[k]) (hl : l.length < 1000)
    (hb : ∀ k, k ≤ l.length → (limbs (f k).natAbs).length < 1000000000) (hbl : ∀ k (h : k < l.length), (limbs (l[k]).natAbs).length < 1000000000) :
    AC Tryz.prog 45 [WI a, .sl 2 (l.map rowW) false] (.pure (WI (f l.length))) := by
  refine AC.of_body TTok Tryz.func45 rfl (enter_of Tryz.func45 (by kernel_rfl) (by kernel_rfl)) (noid2 (WI_noid a) (.sl _ _ _ (rowsW_noid l))) (WI_noid _) (Nat.le_of_ble_eq_true rfl) ?_
  conv => whnf
  refine SW.loopM TTok (fun k : Nat => [(2, .lp 0 0), (4, .lp 8 0), (7, .sl 2 (l.map rowW) false), (8, .val (.int .i64 l.length)), (9, .val (.int .i64 k))])
    (fun k => [(0, .cells 2 [rowW (f k)]), (8, .cells 2 [[.sl 0 [] true, .val (.bool false)]])]) 40 26 rfl (fun k => l.length - k) (fun k => k ≤ l.length) 0 [] (Nat.zero_le _)
    ⟨⟨rfl, rfl⟩, ⟨rfl, rfl⟩, ⟨rfl, rfl⟩, ⟨valI (by simp), rfl⟩, ⟨rfl, rfl⟩, trivial⟩ ⟨⟨rfl, .inl ⟨?_, ?_⟩⟩, ⟨rfl, .inr ⟨rfl, rfl⟩⟩, trivial⟩ rfl ?_
  · rw [h0]; rfl
  · intro r hr; simp at hr; subst hr; exact rowW_noid _
  intro k hk
  have hk : k ≤ l.length := hk
  conv => whnf
  refine caseb (fun h1 => ?_) (fun h1 => ?_)
  · have h1' : (k : Int) < (l.length : Int) := of_decide_eq_true h1
    have hlt : k < l.length := by omega
    have hM := Mul_ok (f k).natAbs (l[k]).natAbs (by have := hb k hk; have := hbl k hlt; omega)
    have hP := WOf_ok (!(decide (f k < 0) == decide (l[k] < 0))) ((f k).natAbs * (l[k]).natAbs)
    rw [sgn_mul, ← hf k hlt] at hP
    unfold natA at hM hP
    conv => whnf
    refine ⟨rowW l[k], ⟨by omega, by rw [List.getElem?_map, show ((k : Int)).toNat = k by omega, List.getElem?_eq_getElem hlt]; rfl⟩, ?_⟩
    conv => whnf
    refine ⟨_, hM, ?_⟩
    conv => whnf
    refine ⟨_, hP, ?_⟩
    conv => whnf
    refine ⟨by kernel_rfl, ?_⟩
    conv => whnf
    refine ⟨k + 1, [], (by show l.length - (k + 1) < l.length - k; omega), (by show k + 1 ≤ l.length; omega), ⟨⟨rfl, rfl⟩, ⟨rfl, rfl⟩, ⟨rfl, rfl⟩, ⟨rfl, rfl⟩, ⟨valI ?_, rfl⟩, trivial⟩, ⟨⟨rfl, .inl ⟨rfl, fun r hr => by simp at hr; subst hr; exact rowW_noid _⟩⟩, ⟨rfl, .inr ⟨rfl, rfl⟩⟩, trivial⟩, rfl⟩
    show IntKind.i64.wrap ((k : Int) + 1) = ((k + 1 : Nat) : Int)
    rw [IntWalk.i64_in _ (by omega)]; omega
  · have h1' : ¬ (k : Int) < (l.length : Int) := of_decide_eq_false h1
    have hkl : k = l.length := by omega
    conv => whnf
    show WI (f k) = _
    rw [hkl]

theorem RMulW_ok (a b : Int) (hb : (decL a.natAbs).length + (decL b.natAbs).length < 100000000) (hc : (decL (a.natAbs * b.natAbs)).length < 1000000000) : AC Tryz.prog 184 [WR a, WR b] (.pure (WR (a * b))) := by
  refine AC.of_body TTok Tryz.func184 rfl (enter_of Tryz.func184 (by kernel_rfl) (by kernel_rfl)) (noid2 (WR_noid a) (WR_noid b)) (WR_noid _) (Nat.le_of_ble_eq_true rfl) ?_
  have hM := RMul_ok a.natAbs b.natAbs (by omega)
  have hP := ROfW_ok (!(decide (a < 0) == decide (b < 0))) (a.natAbs * b.natAbs) (by omega)
  rw [sgn_mul] at hP
  revert hP
  generalize a * b = c
  intro hP
  unfold WR at *
  conv => whnf
  refine ⟨_, hM, ?_⟩
  conv => whnf
  refine ⟨_, hP, ?_⟩
  conv => whnf
  refine ⟨by kernel_rfl, ?_⟩
  conv => whnf
  exact rfl

end Go.Proofs.YtbdklokfijjifaaGreat

/- Contracts of whole numbers: floors, what is read, the chapter's examples. -/
set_option linter.unusedVariables false
namespace Go.Proofs.YtbdklokfijjifaaGreat
open Go Go.AL NM

def flS (a b : Int) : Bool := decide (decide (a < 0) = decide (b < 0) ∨ a.natAbs % b.natAbs = 0)
def flQ (a b : Int) : Int := if flS a b then sgn (!(decide (a < 0) == decide (b < 0))) (a.natAbs / b.natAbs) else sgn true (a.natAbs / b.natAbs + 1)
def flR (a b : Int) : Int := if flS a b then sgn (decide (b < 0)) (a.natAbs % b.natAbs) else sgn (decide (b < 0)) (b.natAbs - a.natAbs % b.natAbs)

theorem Floor_ok (a b : Int) (hb0 : b ≠ 0) (ha : (limbs a.natAbs).length < 1000000000) (hb : (limbs b.natAbs).length < 1000000000)
    (hDM : AC Tryz.prog 148 [natA a.natAbs, natA b.natAbs] (.pure (.tup [natA (a.natAbs / b.natAbs), natA (a.natAbs % b.natAbs), .val (.bool true)]))) :
    AC Tryz.prog 182 [WI a, WI b] (.pure (.tup [WI (flQ a b), WI (flR a b), .val (.bool true)])) := by
  refine AC.of_body TTok Tryz.func182 rfl (enter_of Tryz.func182 (by kernel_rfl) (by kernel_rfl)) (noid2 (WI_noid a) (WI_noid b)) (.tup _ (noid3 (WI_noid _) (WI_noid _) (.val _))) (Nat.le_of_ble_eq_true rfl) ?_
  have hz := Zero_ok (a.natAbs % b.natAbs)
  have hq := limbs_len_mono (Nat.div_le_self a.natAbs b.natAbs)
  have hrb : a.natAbs % b.natAbs < b.natAbs := Nat.mod_lt _ (by omega)
  have hS := Sub_ge b.natAbs (a.natAbs % b.natAbs) (by omega) (by omega)
  have hO1 := WOf_ok (!(decide (a < 0) == decide (b < 0))) (a.natAbs / b.natAbs)
  have hO2 := WOf_ok (decide (b < 0)) (a.natAbs % b.natAbs)
  have hO3 := WOf_ok true (a.natAbs / b.natAbs + 1)
  have hO4 := WOf_ok (decide (b < 0)) (b.natAbs - a.natAbs % b.natAbs)
  have l1 : (limbs 1).length = 1 := by rw [limbs_pos (by decide), show 1 / 4294967296 = 0 from rfl, limbs_zero]; rfl
  have h1 := Of_ok 1 (by decide)
  have hA := Add_ok (a.natAbs / b.natAbs) 1 (by omega)
  unfold flQ flR
  cases hs : flS a b with
  | true =>
    have hs' : decide (a < 0) = decide (b < 0) ∨ a.natAbs % b.natAbs = 0 := of_decide_eq_true hs
    rw [if_pos rfl, if_pos rfl]
    revert hO1 hO2
    generalize sgn (!(decide (a < 0) == decide (b < 0))) (a.natAbs / b.natAbs) = q
    generalize sgn (decide (b < 0)) (a.natAbs % b.natAbs) = r
    intro hO1 hO2
    clear hO3 hO4 hA hS
    revert hDM hz hO1 hO2 hs'
    generalize a.natAbs / b.natAbs = x
    generalize a.natAbs % b.natAbs = y
    intro hDM hz hs' hO1 hO2
    unfold WI natA at *
    conv => whnf
    refine ⟨_, hDM, ?_⟩
    conv => whnf
    refine caseb (fun h3 => ?ca) (fun h3 => ?cb)
    case' cb =>
      have h3' : ¬ decide (a < 0) = decide (b < 0) := fun h => by rw [h] at h3; rw [beq_self_eq_true] at h3; cases h3
      rw [decide_eq_true (hs'.resolve_left h3')] at hz
      conv => whnf
      refine ⟨_, hz, ?_⟩
    all_goals
      conv => whnf
      refine ⟨_, hO1, ?_⟩
      conv => whnf
      refine ⟨_, hO2, ?_⟩
      conv => whnf
      refine ⟨by kernel_rfl, ?_⟩
      conv => whnf
      exact rfl
  | false =>
    have hs' : ¬ (decide (a < 0) = decide (b < 0) ∨ a.natAbs % b.natAbs = 0) := of_decide_eq_false hs
    have hne : (decide (a < 0) == decide (b < 0)) = false := by
      cases h : (decide (a < 0) == decide (b < 0)) with
      | false => rfl
      | true => exact absurd (.inl (eq_of_beq h)) hs'
    rw [decide_eq_false (fun h => hs' (.inr h))] at hz
    rw [if_neg (by decide), if_neg (by decide)]
    revert hO3 hO4
    generalize sgn true (a.natAbs / b.natAbs + 1) = q
    generalize sgn (decide (b < 0)) (b.natAbs - a.natAbs % b.natAbs) = r
    intro hO3 hO4
    clear hO1 hO2 hs hs' hq hrb
    revert hDM hz hO3 hO4 hA hS
    generalize a.natAbs / b.natAbs + 1 = x1
    generalize a.natAbs / b.natAbs = x
    generalize b.natAbs - a.natAbs % b.natAbs = y1
    generalize a.natAbs % b.natAbs = y
    intro hDM hz hS hA hO3 hO4
    unfold WI natA at *
    conv => whnf
    refine ⟨_, hDM, ?_⟩
    conv => whnf
    refine caseb (fun h => Bool.noConfusion (hne.symm.trans h)) (fun _ => ?_)
    conv => whnf
    refine ⟨_, hz, ?_⟩
    conv => whnf
    refine ⟨_, hS, ?_⟩
    conv => whnf
    refine ⟨_, h1, ?_⟩
    conv => whnf
    refine ⟨_, hA, ?_⟩
    conv => whnf
    refine ⟨_, hO3, ?_⟩
    conv => whnf
    refine ⟨_, hO4, ?_⟩
    conv => whnf
    refine ⟨by kernel_rfl, ?_⟩
    conv => whnf
    exact rfl

/-- The whole number that a text is. -/
def parseW (l : List Int) : Option Int :=
  match l with
  | [] => none
  | x :: r => if x = 45 then (if right r = true then some (sgn true (valL r)) else none) else (if right (x :: r) = true then some (sgn false (valL (x :: r))) else none)

end Go.Proofs.YtbdklokfijjifaaGreat

/- Contracts of whole numbers: what is read, the chapter's examples. -/
set_option linter.unusedVariables false
namespace Go.Proofs.YtbdklokfijjifaaGreat
open Go Go.AL NM

end Go.Proofs.YtbdklokfijjifaaGreat

/- Contracts of whole numbers: sums and products of one and two, sizes. -/
set_option linter.unusedVariables false
namespace Go.Proofs.YtbdklokfijjifaaGreat
open Go Go.AL NM

theorem Plus1 (a b : Int) (ha : (limbs a.natAbs).length < 100000) (hb : (limbs b.natAbs).length < 100000) (hs : (limbs (a + b).natAbs).length < 100000) : AC Tryz.prog 173 [WI a, .sl 2 [rowW b] false] (.pure (WI (a + b))) :=
  Plus_ok a [b] (fun k => if k = 0 then a else a + b) rfl (fun k h => by
    have hk : k = 0 := by simp at h; omega
    subst hk; rfl) (by simp) (fun k hk => by
    show (limbs (if k = 0 then a else a + b).natAbs).length < _
    split <;> omega) (fun k h => by
    have hk : k = 0 := by simp at h; omega
    subst hk
    show (limbs b.natAbs).length < _
    omega)
theorem limbs_abs_add (a b : Int) : (limbs (a + b).natAbs).length ≤ (limbs a.natAbs).length + (limbs b.natAbs).length + 1 := by
  apply limbs_len_le
  have h1 := val_lt (limbs_lim a.natAbs)
  have h2 := val_lt (limbs_lim b.natAbs)
  rw [val_limbs] at h1 h2
  have h3 : (a + b).natAbs ≤ a.natAbs + b.natAbs := by omega
  have h4 : 4294967296 ^ (limbs a.natAbs).length ≤ 4294967296 ^ ((limbs a.natAbs).length + (limbs b.natAbs).length) := Nat.pow_le_pow_right (by decide) (by omega)
  have h5 : 4294967296 ^ (limbs b.natAbs).length ≤ 4294967296 ^ ((limbs a.natAbs).length + (limbs b.natAbs).length) := Nat.pow_le_pow_right (by decide) (by omega)
  rw [Nat.pow_succ]
  omega
theorem decL_abs (n : Nat) : (decL n).length ≤ 10 * (limbs n).length + 1 := by
  have := decR_limbs n
  unfold decL
  split
  · simp
  · rw [List.length_reverse]; omega


theorem Times1 (a b : Int) (ha : (limbs a.natAbs).length < 100000) (hb : (limbs b.natAbs).length < 100000) (hs : (limbs (a * b).natAbs).length < 100000) : AC Tryz.prog 45 [WI a, .sl 2 [rowW b] false] (.pure (WI (a * b))) :=
  Times_ok a [b] (fun k => if k = 0 then a else a * b) rfl (fun k h => by
    have hk : k = 0 := by simp at h; omega
    subst hk; rfl) (by simp) (fun k hk => by
    show (limbs (if k = 0 then a else a * b).natAbs).length < _
    split <;> omega) (fun k h => by
    have hk : k = 0 := by simp at h; omega
    subst hk
    show (limbs b.natAbs).length < _
    omega)
theorem limbs_abs_mul (a b : Int) : (limbs (a * b).natAbs).length ≤ (limbs a.natAbs).length + (limbs b.natAbs).length := by
  rw [Int.natAbs_mul]
  exact limbs_mul a.natAbs b.natAbs

end Go.Proofs.YtbdklokfijjifaaGreat

/- Long division: plain facts, no program in sight. -/
set_option linter.unusedVariables false
namespace NM

/-- A guess that the test tells too great is too great. -/
theorem guess_dec {W V T S K num third vlow wlow g r : Nat} (hV : V = (T * 4294967296 + S) * K + vlow) (hW : W = (num * 4294967296 + third) * K + wlow) (hw : wlow < K)
    (hn : num = g * T + r) (ht : r * 4294967296 + third < g * S) : W < g * V := by
  have h1 : num * 4294967296 + third + 1 ≤ g * (T * 4294967296 + S) := by
    rw [hn, Nat.mul_add, ← Nat.mul_assoc, Nat.add_mul]
    omega
  have h2 := Nat.mul_le_mul_right K h1
  rw [Nat.add_mul, Nat.one_mul] at h2
  rw [hW, hV, Nat.mul_add g, ← Nat.mul_assoc]
  omega
theorem guess_big {W V g : Nat} (h : W < 4294967296 * V) (hg : 4294967296 ≤ g) : W < g * V := Nat.lt_of_lt_of_le h (Nat.mul_le_mul_right V hg)
theorem guess_first {W V T S K num third vlow wlow : Nat} (hV : V = (T * 4294967296 + S) * K + vlow) (hW : W = (num * 4294967296 + third) * K + wlow) (hw : wlow < K) (h3 : third < 4294967296) (hT : 0 < T) : W < (num / T + 1) * V := by
  have h0 : num < (num / T + 1) * T := by
    rw [Nat.add_mul, Nat.one_mul, Nat.mul_comm]
    have := Nat.mod_add_div num T
    have := Nat.mod_lt num hT
    omega
  have h1 : num * 4294967296 + third + 1 ≤ (num / T + 1) * (T * 4294967296 + S) := by
    rw [Nat.mul_add, ← Nat.mul_assoc]
    have : (num + 1) * 4294967296 ≤ (num / T + 1) * T * 4294967296 := Nat.mul_le_mul_right _ h0
    omega
  have h2 := Nat.mul_le_mul_right K h1
  rw [Nat.add_mul, Nat.one_mul] at h2
  rw [hW, hV, Nat.mul_add (num / T + 1), ← Nat.mul_assoc]
  omega
/-- A guess that the test lets pass is too great by one at most. -/
theorem guess_ok {W V T S K num third vlow wlow g : Nat} (hV : V = (T * 4294967296 + S) * K + vlow) (hW : W = (num * 4294967296 + third) * K + wlow) (hv : vlow < K) (hT : 0 < T)
    (hE : g * (T * 4294967296 + S) ≤ num * 4294967296 + third) (hg : g < 4294967296) : g * V < W + V := by
  have h2 := Nat.mul_le_mul_right K hE
  have h3 : g * vlow ≤ 4294967295 * K := Nat.mul_le_mul (by omega) (by omega)
  have h4 : 4294967296 * K ≤ (T * 4294967296 + S) * K := Nat.mul_le_mul_right K (by omega)
  rw [hW]
  conv => lhs; rw [hV, Nat.mul_add, ← Nat.mul_assoc]
  rw [hV]
  have hK : 0 < K := by omega
  omega
theorem guess_pass {T S num third g r : Nat} (hn : num = g * T + r) (ht : g * S ≤ r * 4294967296 + third) : g * (T * 4294967296 + S) ≤ num * 4294967296 + third := by
  rw [hn, Nat.mul_add, ← Nat.mul_assoc, Nat.add_mul]
  omega
theorem guess_break {T S num third g r : Nat} (hn : num = g * T + r) (hr : 4294967296 ≤ r) (hg : g < 4294967296) (hS : S < 4294967296) : g * (T * 4294967296 + S) ≤ num * 4294967296 + third := by
  have h1 : g * S ≤ 4294967295 * 4294967295 := Nat.mul_le_mul (by omega) (by omega)
  rw [hn, Nat.mul_add, ← Nat.mul_assoc, Nat.add_mul]
  omega
theorem guess_lt {T num g r un : Nat} (hn : num = g * T + r) (hr : 4294967296 ≤ r) (hnum : num ≤ T * 4294967296 + 4294967295) : g < 4294967296 := by
  rcases Nat.lt_or_ge g 4294967296 with h | h
  · exact h
  · have := Nat.mul_le_mul_right T h
    rw [Nat.mul_comm 4294967296] at this
    omega
/-- The step's end: the digit, and what is left. -/
theorem step_pos {W V g w : Nat} (h : w + g * V = W) (hq : W < (g + 1) * V) : w < V := by
  rw [Nat.add_mul, Nat.one_mul] at hq
  omega
theorem step_neg {W V g w w2 c M : Nat} (h : w + g * V = W + M) (hw : w < M) (hg : g * V < W + V) (hVM : V < M) (h2 : w2 + c * M = w + V) (hw2 : w2 < M) : 0 < g ∧ W = (g - 1) * V + w2 ∧ w2 < V := by
  have hgV : W < g * V := by omega
  have hg0 : 0 < g := by
    rcases Nat.eq_zero_or_pos g with h0 | h0
    · rw [h0, Nat.zero_mul] at hgV; omega
    · exact h0
  obtain ⟨k, rfl⟩ : ∃ k, g = k + 1 := ⟨g - 1, by omega⟩
  rw [Nat.add_mul, Nat.one_mul] at h hg hgV
  have hc : c = 1 := by
    rcases Nat.lt_or_ge c 1 with hc | hc
    · have : c = 0 := by omega
      rw [this, Nat.zero_mul] at h2; omega
    · rcases Nat.lt_or_ge c 2 with hc2 | hc2
      · omega
      · have := Nat.mul_le_mul_right M hc2
        omega
  rw [hc, Nat.one_mul] at h2
  refine ⟨by omega, ?_, by omega⟩
  show W = k * V + w2
  omega

/-- A number by its three greatest limbs. -/
theorem val_top3 {w : List Int} {n : Nat} (hl : w.length = n + 3) : val w = ((w[n + 2].toNat * 4294967296 + w[n + 1].toNat) * 4294967296 + w[n].toNat) * 4294967296 ^ n + val (w.take n) := by
  have h1 := val_append (w.take n) (w.drop n)
  rw [List.take_append_drop, List.length_take, Nat.min_eq_left (by omega)] at h1
  have h2 : w.drop n = [w[n], w[n + 1], w[n + 2]] := by
    rw [List.drop_eq_getElem_cons (by omega), List.drop_eq_getElem_cons (by omega), List.drop_eq_getElem_cons (by omega), List.drop_of_length_le (by omega)]
  rw [h1, h2]
  simp only [val]
  rw [Nat.mul_comm (4294967296 ^ n), Nat.add_comm]
  congr 2
  omega
theorem val_top2 {v : List Int} {n : Nat} (hl : v.length = n + 2) : val v = (v[n + 1].toNat * 4294967296 + v[n].toNat) * 4294967296 ^ n + val (v.take n) := by
  have h1 := val_append (v.take n) (v.drop n)
  rw [List.take_append_drop, List.length_take, Nat.min_eq_left (by omega)] at h1
  have h2 : v.drop n = [v[n], v[n + 1]] := by
    rw [List.drop_eq_getElem_cons (by omega), List.drop_eq_getElem_cons (by omega), List.drop_of_length_le (by omega)]
  rw [h1, h2]
  simp only [val]
  rw [Nat.mul_comm (4294967296 ^ n), Nat.add_comm]
  congr 2
  omega
theorem top_le {w v : List Int} {n : Nat} (hw : Lim w) (hv : Lim v) (hlw : w.length = n + 3) (hlv : v.length = n + 2) (h : val w < 4294967296 * val v) : w[n + 2].toNat ≤ v[n + 1].toNat := by
  have e1 := val_top3 hlw
  have e2 := val_top2 hlv
  have h3 := val_lt (l := v.take n) (fun x hx => hv x (List.mem_of_mem_take hx))
  rw [List.length_take, Nat.min_eq_left (by omega)] at h3
  have hS := hv v[n] (List.getElem_mem _)
  rcases Nat.lt_or_ge v[n + 1].toNat w[n + 2].toNat with h4 | h4
  · exfalso
    generalize v[n + 1].toNat = T at *
    generalize w[n + 2].toNat = X at *
    have hK : 0 < 4294967296 ^ n := Nat.pow_pos (by decide)
    generalize 4294967296 ^ n = K at *
    have h5 : (T * 4294967296 + v[n].toNat + 1) * K ≤ (T + 1) * 4294967296 * K := Nat.mul_le_mul_right K (by omega)
    have h6 : val v < (T + 1) * 4294967296 * K := by
      rw [Nat.add_mul, Nat.one_mul] at h5
      omega
    have h7 : ((T + 1) * 4294967296) * 4294967296 * K ≤ ((X * 4294967296 + w[n + 1].toNat) * 4294967296 + w[n].toNat) * K := Nat.mul_le_mul_right K (by omega)
    have h8 : (T + 1) * 4294967296 * 4294967296 * K = 4294967296 * ((T + 1) * 4294967296 * K) := by rw [Nat.mul_comm ((T + 1) * 4294967296), Nat.mul_assoc]
    omega
  · exact h4

/-- One limb of what is taken away. -/
theorem under_step {w : List Int} {i g x ca bo d bo' W G : Nat} (hi : i < w.length) (hv : val w + G = W + (bo + ca) * 4294967296 ^ i)
    (hd : d + (g * x + ca) % 4294967296 + bo = (w[i]).toNat + 4294967296 * bo') :
    val (w.set i (d : Int)) + (G + g * x * 4294967296 ^ i) = W + (bo' + (g * x + ca) / 4294967296) * 4294967296 ^ (i + 1) := by
  have hs := val_set w i (d : Int) hi
  rw [Int.toNat_natCast] at hs
  have ht := Nat.mod_add_div (g * x + ca) 4294967296
  generalize (g * x + ca) % 4294967296 = lo at *
  generalize (g * x + ca) / 4294967296 = ca' at *
  generalize g * x = z at *
  generalize (w[i]).toNat = o at *
  generalize val (w.set i (d : Int)) = V' at *
  rw [Nat.pow_succ]
  generalize 4294967296 ^ i = K at *
  have e1 : (d + lo + bo) * K = (o + 4294967296 * bo') * K := by rw [hd]
  have e2 : (lo + 4294967296 * ca') * K = (z + ca) * K := by rw [ht]
  have e3 : (bo' + ca') * (K * 4294967296) = 4294967296 * bo' * K + 4294967296 * ca' * K := by
    rw [Nat.mul_comm K, ← Nat.mul_assoc, Nat.add_mul, Nat.add_mul, Nat.mul_comm bo', Nat.mul_comm ca']
  simp only [Nat.add_mul] at e1 e2 hv
  omega
/-- One limb of what is added back. -/
theorem back_step {w : List Int} {i x c W G : Nat} (hi : i < w.length) (hv : val w + c * 4294967296 ^ i = W + G) :
    val (w.set i (((w[i].toNat + x + c) % 4294967296 : Nat) : Int)) + (w[i].toNat + x + c) / 4294967296 * 4294967296 ^ (i + 1) = W + (G + x * 4294967296 ^ i) := by
  have hs := val_set w i (((w[i].toNat + x + c) % 4294967296 : Nat) : Int) hi
  rw [Int.toNat_natCast] at hs
  have ht := Nat.mod_add_div (w[i].toNat + x + c) 4294967296
  generalize val (w.set i (((w[i].toNat + x + c) % 4294967296 : Nat) : Int)) = V' at *
  generalize (w[i].toNat + x + c) % 4294967296 = lo at *
  generalize (w[i].toNat + x + c) / 4294967296 = c' at *
  generalize w[i].toNat = o at *
  rw [Nat.pow_succ]
  generalize 4294967296 ^ i = K at *
  have e1 : (lo + 4294967296 * c') * K = (o + x + c) * K := by rw [ht]
  have e2 : c' * (K * 4294967296) = 4294967296 * c' * K := by rw [Nat.mul_comm K, ← Nat.mul_assoc, Nat.mul_comm c']
  simp only [Nat.add_mul] at e1
  omega

end NM

/- Contracts of nat: long division. -/
set_option linter.unusedVariables false
namespace Go.Proofs.YtbdklokfijjifaaGreat
open Go Go.AL NM

/-- The divisor moved so far that its greatest limb is great. -/
theorem norm_len {b s : Nat} {l : List Int} {x : Nat} (h : limbs b = l ++ [(x : Int)]) (h0 : 0 < x) (hx : x < 4294967296) (hs : s + blen x = 32) : (limbs (b * 2 ^ s)).length = l.length + 1 ∧ 2 ^ (32 * l.length + 31) ≤ b * 2 ^ s := by
  have hbl := blen_limbs h h0
  have hb0 : 0 < b := by
    rcases Nat.eq_zero_or_pos b with h1 | h1
    · subst h1; rw [limbs_zero] at h; simp at h
    · exact h1
  have hlow : 2 ^ (blen b - 1) ≤ b := by
    unfold blen
    rw [if_neg (by omega), Nat.add_sub_cancel]
    exact Nat.log2_self_le (by omega)
  have hup : b < 2 ^ blen b := by
    unfold blen
    rw [if_neg (by omega)]
    exact Nat.lt_log2_self
  have hbx : 0 < blen x := by unfold blen; rw [if_neg (by omega)]; omega
  have h1 : 2 ^ (32 * l.length + 31) ≤ b * 2 ^ s := by
    have := Nat.mul_le_mul_right (2 ^ s) hlow
    rw [← Nat.pow_add, show blen b - 1 + s = 32 * l.length + 31 by omega] at this
    exact this
  have h2 : b * 2 ^ s < 2 ^ (32 * (l.length + 1)) := by
    have := Nat.mul_lt_mul_of_pos_right hup (Nat.pow_pos (n := s) (show 0 < 2 by decide))
    rw [← Nat.pow_add, show blen b + s = 32 * (l.length + 1) by omega] at this
    exact this
  refine ⟨?_, h1⟩
  have h3 := blen_le h2
  have h4 := blen_gt h1
  rw [limbs_blen]
  omega

theorem div_scale {U a b t Q : Nat} (h : U + b * t * Q = a * t) (hU : U < b * t) (ht : 0 < t) : Q = a / b ∧ U = a % b * t := by
  have h1 : b * t * Q = b * Q * t := by rw [Nat.mul_assoc, Nat.mul_comm t, ← Nat.mul_assoc]
  rw [h1] at h
  have hle : b * Q ≤ a := by
    rcases Nat.lt_or_ge a (b * Q) with h2 | h2
    · have := Nat.mul_lt_mul_of_pos_right h2 ht
      omega
    · exact h2
  have hU2 : U = (a - b * Q) * t := by rw [Nat.sub_mul]; omega
  have hr : a - b * Q < b := by
    rw [hU2] at hU
    exact Nat.lt_of_mul_lt_mul_right hU
  have ha : a = (a - b * Q) + b * Q := by omega
  have hb : 0 < b := by omega
  constructor
  · conv => rhs; rw [ha, Nat.add_mul_div_left _ _ hb, Nat.div_eq_of_lt hr, Nat.zero_add]
  · rw [hU2]
    congr 1
    conv => rhs; rw [ha, Nat.add_mul_mod_self_left, Nat.mod_eq_of_lt hr]

theorem long_T {v : List Int} {k : Nat} (hvL : Lim v) (hvl : v.length = k + 2) (hvT : 2 ^ (32 * (k + 1) + 31) ≤ val v) (hk : k + 1 < v.length) : 0 < v[k + 1].toNat := by
  rcases Nat.eq_zero_or_pos v[k + 1].toNat with h | h
  · exfalso
    have hVeq := val_top2 (v := v) (n := k) hvl
    have hvlow := val_lt (l := v.take k) (fun x hx => hvL x (List.mem_of_mem_take hx))
    rw [List.length_take, Nat.min_eq_left (by omega)] at hvlow
    have hS := hvL (v[k]'(by omega)) (List.getElem_mem _)
    rw [h, Nat.zero_mul, Nat.zero_add] at hVeq
    have h3 : 2 ^ (32 * (k + 1) + 31) = 4294967296 ^ k * 4294967296 * 2 ^ 31 := by
      rw [Nat.pow_add, ← pow32, Nat.pow_succ]
    rw [h3] at hvT
    have h5 : (v[k]'(by omega)).toNat * 4294967296 ^ k ≤ 4294967295 * 4294967296 ^ k := Nat.mul_le_mul_right _ (by omega)
    have h6 : 4294967296 ^ k * 4294967296 ≤ val v := Nat.le_trans (Nat.le_mul_of_pos_right _ (show 0 < 2 ^ 31 by decide)) hvT
    clear hvT h3
    omega
  · exact h
theorem long_win {u v : List Int} {j k : Nat} (huL : Lim u) (hvL : Lim v) (hvl : v.length = k + 2) (hlen : j + k + 3 ≤ u.length) (hut : val (u.drop (j + 1)) < val v) :
    ∃ P w R : List Int, u = P ++ (w ++ R) ∧ P.length = j ∧ w.length = k + 3 ∧ Lim w ∧ Lim P ∧ Lim R ∧ val R = 0 ∧ val w < 4294967296 * val v ∧ val (u.drop j) = val w := by
  have hjl : j < u.length := by omega
  have hWd : val (u.drop j) < 4294967296 * val v := by
    rw [List.drop_eq_getElem_cons hjl]
    have := huL u[j] (List.getElem_mem _)
    show u[j].toNat + 4294967296 * val (u.drop (j + 1)) < _
    omega
  have hvlt : val v < 4294967296 ^ (k + 2) := by have := val_lt hvL; rwa [hvl] at this
  have hwl : ((u.drop j).take (k + 3)).length = k + 3 := by rw [List.length_take, List.length_drop]; omega
  have hsum : val (u.drop j) = val ((u.drop j).take (k + 3)) + 4294967296 ^ (k + 3) * val ((u.drop j).drop (k + 3)) := by
    conv => lhs; rw [← List.take_append_drop (k + 3) (u.drop j), val_append, hwl]
  have hR0 : val ((u.drop j).drop (k + 3)) = 0 := by
    rcases Nat.eq_zero_or_pos (val ((u.drop j).drop (k + 3))) with h | h
    · exact h
    · have h2 : 4294967296 ^ (k + 3) ≤ 4294967296 ^ (k + 3) * val ((u.drop j).drop (k + 3)) := Nat.le_mul_of_pos_right _ h
      rw [show 4294967296 ^ (k + 3) = 4294967296 ^ (k + 2) * 4294967296 from Nat.pow_succ ..] at h2 hsum
      omega
  rw [hR0, Nat.mul_zero, Nat.add_zero] at hsum
  refine ⟨u.take j, (u.drop j).take (k + 3), (u.drop j).drop (k + 3), by rw [List.take_append_drop, List.take_append_drop], by rw [List.length_take]; omega, hwl,
    fun x hx => huL x (List.mem_of_mem_drop (List.mem_of_mem_take hx)), fun x hx => huL x (List.mem_of_mem_take hx), fun x hx => huL x (List.mem_of_mem_drop (List.mem_of_mem_drop hx)), hR0, by omega, hsum⟩
theorem long_num {v w : List Int} {k : Nat} (hvL : Lim v) (hwL : Lim w) (hvl : v.length = k + 2) (hwl : w.length = k + 3) (h1 : k + 1 < v.length) (h0 : k < v.length) (g2 : k + 2 < w.length) (g1 : k + 1 < w.length) (g0 : k < w.length) (hT0 : 0 < v[k + 1].toNat) (hWB : val w < 4294967296 * val v) :
    ∃ T S num third vlow wlow K : Nat, T = v[k + 1].toNat ∧ S = v[k].toNat ∧ third = w[k].toNat ∧ num = w[k + 2].toNat * 4294967296 + w[k + 1].toNat ∧ T < 4294967296 ∧ S < 4294967296 ∧ 0 < T ∧ third < 4294967296 ∧ num ≤ T * 4294967296 + 4294967295 ∧
      val v = (T * 4294967296 + S) * K + vlow ∧ vlow < K ∧ val w = (num * 4294967296 + third) * K + wlow ∧ wlow < K := by
  have hVeq := val_top2 (v := v) (n := k) hvl
  have hWeq := val_top3 (w := w) (n := k) hwl
  have hvlow := val_lt (l := v.take k) (fun x hx => hvL x (List.mem_of_mem_take hx))
  have hwlow := val_lt (l := w.take k) (fun x hx => hwL x (List.mem_of_mem_take hx))
  rw [List.length_take, Nat.min_eq_left (by omega)] at hvlow hwlow
  have htop := top_le (n := k) hwL hvL hwl hvl hWB
  have hT := hvL v[k + 1] (List.getElem_mem _)
  have hS := hvL v[k] (List.getElem_mem _)
  have hY := hwL w[k + 1] (List.getElem_mem _)
  have hZ := hwL w[k] (List.getElem_mem _)
  have h9 := Nat.mul_le_mul_right 4294967296 htop
  have h10 : w[k + 2].toNat * 4294967296 + w[k + 1].toNat ≤ v[k + 1].toNat * 4294967296 + 4294967295 := Nat.add_le_add h9 (by omega)
  exact ⟨v[k + 1].toNat, v[k].toNat, w[k + 2].toNat * 4294967296 + w[k + 1].toNat, w[k].toNat, val (v.take k), val (w.take k), 4294967296 ^ k, rfl, rfl, rfl, rfl, by omega, by omega, hT0, by omega, h10, hVeq, hvlow, hWeq, hwlow⟩

theorem long_mul {g S : Nat} (hg : g < 4294967296) (hS : S < 4294967296) : IntKind.u64.wrap ((g : Int) * (S : Int)) = ((g * S : Nat) : Int) := by
  have hgS : g * S ≤ 4294967295 * 4294967295 := Nat.mul_le_mul (by omega) (by omega)
  rw [← Int.natCast_mul, IntKind.wrap_u64]
  omega
theorem long_sh {r : Nat} (hr : r < 4294967296) : IntKind.u64.wrap ((r : Int) * 2 ^ (min (32 : Int).toNat IntKind.u64.bits)) = ((r * 4294967296 : Nat) : Int) := by
  show IntKind.u64.wrap ((r : Int) * 4294967296) = _
  rw [IntKind.wrap_u64]; omega
theorem long_or {r third rb : Nat} {x : Int} (hx : 0 ≤ x ∧ x < 4294967296) (ht : third = x.toNat) (hr : r < 4294967296) (hb : rb = r * 4294967296) : IntKind.u64.wrap ((BitVec.ofInt IntKind.u64.bits (rb : Int) ||| BitVec.ofInt IntKind.u64.bits (IntKind.u64.wrap x)).toNat : Int) = ((third + 4294967296 * r : Nat) : Int) := by
  rw [hb, show IntKind.u64.wrap x = (third : Int) by rw [IntKind.wrap_u64, ht]; omega, BitVec.or_comm, or_u64 (by omega) hr]

end Go.Proofs.YtbdklokfijjifaaGreat

/- Contracts of nat: long division, one digit. -/
set_option linter.unusedVariables false
namespace Go.Proofs.YtbdklokfijjifaaGreat
open Go Go.AL NM

def cAt : Code → List Nat → Code
  | c, [] => c
  | .seq a b, 0 :: l => cAt a l
  | .seq a b, _ :: l => cAt b l
  | .block _ c, _ :: l => cAt c l
  | .loop c, _ :: l => cAt c l
  | .cond _ x y, 0 :: l => cAt x l
  | .cond _ x y, _ :: l => cAt y l
  | c, _ => c
theorem l_ejn {j k n : Nat} (h : j + k + 2 ≤ n) (hn : n < 1000000000) : IntKind.i64.wrap ((j : Int) + ((k + 2 : Nat) : Int)) = ((j + (k + 2) : Nat) : Int) := by rw [IntWalk.i64_in _ (by omega)]; omega
theorem l_ehi {j k n : Nat} (h : j + k + 2 ≤ n) (hn : n < 1000000000) : IntKind.i64.wrap (IntKind.i64.wrap ((j : Int) + ((k + 2 : Nat) : Int)) + 1) = ((j + (k + 3) : Nat) : Int) := by rw [l_ejn h hn, IntWalk.i64_in _ (by omega)]; omega

/-- What is taken away so far. -/
theorem l_under {w w1 v : List Int} {g i ca bo x d bo' : Nat} (hi : i < w1.length) (hiv : i < v.length) (hx : x = v[i].toNat) (hv : val w1 + g * val (v.take i) = val w + (bo + ca) * 4294967296 ^ i)
    (hd : d + (g * x + ca) % 4294967296 + bo = w1[i].toNat + 4294967296 * bo') : val (w1.set i (d : Int)) + g * val (v.take (i + 1)) = val w + (bo' + (g * x + ca) / 4294967296) * 4294967296 ^ (i + 1) := by
  have h := under_step (x := x) hi hv hd
  rw [val_take_succ hiv, ← hx, Nat.mul_add, ← Nat.mul_assoc]
  exact h
theorem l_sub {x lo bo : Nat} (hx : x < 4294967296) (hlo : lo < 4294967296) (hbo : bo ≤ 1) : ∃ d bo' : Nat, d < 4294967296 ∧ bo' ≤ 1 ∧ d + lo + bo = x + 4294967296 * bo' ∧ ((x : Int) - (lo : Int) - (bo : Int)) % 4294967296 = (d : Int) ∧ (if (x : Int) < (lo : Int) + (bo : Int) then (1 : Int) else 0) = (bo' : Int) := by
  by_cases h : x < lo + bo
  · refine ⟨x + 4294967296 - lo - bo, 1, by omega, by omega, by omega, by omega, ?_⟩
    rw [if_pos (by omega)]; rfl
  · refine ⟨x - lo - bo, 0, by omega, by omega, by omega, by omega, ?_⟩
    rw [if_neg (by omega)]; rfl
theorem l_mul {g x ca : Nat} {X : Int} (hX : 0 ≤ X ∧ X < 4294967296) (hx : x = X.toNat) (hg : g < 4294967296) (hca : ca < 4294967296) : g * x + ca < 18446744073709551616 ∧ IntKind.u64.wrap (IntKind.u64.wrap ((g : Int) * IntKind.u64.wrap X) + (ca : Int)) = ((g * x + ca : Nat) : Int) := by
  have hxB : x < 4294967296 := by omega
  have h1 : g * x ≤ 4294967295 * 4294967295 := Nat.mul_le_mul (by omega) (by omega)
  have e1 : IntKind.u64.wrap X = (x : Int) := by rw [IntKind.wrap_u64]; omega
  refine ⟨by omega, ?_⟩
  rw [e1, ← Int.natCast_mul]
  generalize g * x = z at *
  simp only [IntKind.wrap_u64]
  omega
theorem l_hi {t : Nat} (h : t < 18446744073709551616) : (t : Int).fdiv (2 ^ (min (32 : Int).toNat IntKind.u64.bits)) = ((t / 4294967296 : Nat) : Int) := by
  show (t : Int).fdiv 4294967296 = _
  rw [Int.fdiv_eq_ediv_of_nonneg _ (by decide)]
  omega
theorem l_lo (t : Nat) : IntKind.u32.wrap (t : Int) = ((t % 4294967296 : Nat) : Int) := by rw [IntKind.wrap_u32]; omega

set_option maxHeartbeats 4000000 in
theorem Long_step (la m k s j g : Nat) (v P w R q : List Int) (T S : Nat) (hlam : la = m + k + 2) (hla : la < 100000000) (hj : j ≤ m) (hvl : v.length = k + 2) (hvL : Lim v) (hPl : P.length = j) (hwl : w.length = k + 3) (hwL : Lim w) (hRl : (P ++ (w ++ R)).length = la + 1) (hql : q.length = m + 1)
    (hgB : g < 4294967296) (hgq : val w < (g + 1) * val v) (hgV : g * val v < val w + val v) {Q : Exit → St → Prop}
    (hQ : ∀ (g' : Nat) (w' : List Int) (s2 : St), w'.length = k + 3 → Lim w' → val w = g' * val v + val w' → val w' < val v → g' < 4294967296 → s2.m = 152 → okT s2 (σf []) 100000 [(4, .lp 16 0), (5, .lp 24 0), (6, .val (.int .i64 s)), (7, .sl 1 (irows .u32 v) false), (8, .own 184 0 (la + 1)), (9, .val (.int .i64 (k + 2 : Nat))), (11, .own 352 0 (m + 1)), (12, .val (.int .u64 T)), (13, .val (.int .u64 S)), (14, .val (.int .i64 j)), (16, .val (.int .u64 g'))] →
      okH s2 (σf []) 100000 [(16, .cells 1 [[.sl 0 [] true]]), (24, .cells 1 [[.sl 0 [] true]]), (184, .cells 1 (irows .u32 (P ++ (w' ++ R)))), (352, .cells 1 (irows .u32 (q.set j (g' : Int))))] → Q .normal s2) :
    SW Tryz.prog (cAt (Tryz.f171.body.getD .skip) [1, 1, 1, 1, 1, 1, 1, 1, 0, 1, 0, 0, 1, 0, 0, 1, 1, 1]) Q (mkS [(4, .lp 16 0), (5, .lp 24 0), (6, .val (.int .i64 s)), (7, .sl 1 (irows .u32 v) false), (8, .own 184 0 (la + 1)), (9, .val (.int .i64 (k + 2 : Nat))), (11, .own 352 0 (m + 1)), (12, .val (.int .u64 T)), (13, .val (.int .u64 S)), (14, .val (.int .i64 j)), (16, .val (.int .u64 g))] [(16, .cells 1 [[.sl 0 [] true]]), (24, .cells 1 [[.sl 0 [] true]]), (184, .cells 1 (irows .u32 (P ++ (w ++ R)))), (352, .cells 1 (irows .u32 q))] 100000 152) := by
  have ehi := l_ehi (j := j) (k := k) (n := la) (by omega) (by omega)
  have elo : 0 + ((j : Int)).toNat = j := by omega
  have elen : (IntKind.i64.wrap (IntKind.i64.wrap ((j : Int) + ((k + 2 : Nat) : Int)) + 1)).toNat - ((j : Int)).toNat = k + 3 := by rw [ehi]; omega
  have hb1 : 0 ≤ (j : Int) := Int.natCast_nonneg j
  have hb2 : (j : Int) ≤ IntKind.i64.wrap (IntKind.i64.wrap ((j : Int) + ((k + 2 : Nat) : Int)) + 1) := by rw [ehi]; omega
  have hb3 : IntKind.i64.wrap (IntKind.i64.wrap ((j : Int) + ((k + 2 : Nat) : Int)) + 1) ≤ ((la + 1 : Nat) : Int) := by rw [ehi]; omega
  show SW Tryz.prog (.seq (.seq (.region 17 _ false) (.cond _ _ _)) _) _ _
  refine SW.seq (SW.seq (SW.regionIn TTok _ rfl rfl rfl rfl Tryz.func200 rfl (enter_of Tryz.func200 (by kernel_rfl) (by kernel_rfl)) (Nat.le_of_ble_eq_true rfl) (Nat.le_of_ble_eq_true rfl) ?_))
  conv => whnf
  refine ⟨⟨hb1, hb2, hb3⟩, ?_⟩
  conv => whnf
  rw [elo, elen]
  refine ⟨rfl, SW.go TTok ?_⟩
  conv => whnf
  have hgets : ∀ (y : List Int), y.length = k + 3 → ∀ i (h : i < y.length), (P ++ (y ++ R))[j + i]? = some y[i] := fun y hy i h => by
    rw [List.getElem?_append_right (by omega), hPl, Nat.add_sub_cancel_left, List.getElem?_append_left h, List.getElem?_eq_getElem h]
  have hsets : ∀ (y : List Int), y.length = k + 3 → ∀ i (x : Int), i < y.length → (P ++ (y ++ R)).set (j + i) x = P ++ (y.set i x ++ R) := fun y hy i x h => by
    rw [List.set_append_right _ _ (by omega), hPl, Nat.add_sub_cancel_left, List.set_append_left _ _ h]
  have hlens : ∀ (y : List Int), y.length = k + 3 → (P ++ (y ++ R)).length = la + 1 := fun y hy => by
    rw [← hRl]; simp only [List.length_append]; omega
  refine SW.loopM TTok (fun x : Nat × Nat × Nat × List Int => [(0, .own 184 j (k + 3)), (1, .sl 1 (irows .u32 v) false), (2, .val (.int .u64 g)), (7, .val (.int .u64 x.2.1)), (8, .val (.int .u32 x.2.2.1)), (12, .sl 1 (irows .u32 v) false), (13, .val (.int .i64 (k + 2 : Nat))), (14, .val (.int .i64 x.1)), (1000004, .lp 16 0), (1000005, .lp 24 0), (1000006, .val (.int .i64 s)), (1000007, .sl 1 (irows .u32 v) false), (1000008, .own 184 0 (la + 1)), (1000009, .val (.int .i64 (k + 2 : Nat))), (1000011, .own 352 0 (m + 1)), (1000012, .val (.int .u64 T)), (1000013, .val (.int .u64 S)), (1000014, .val (.int .i64 j)), (1000016, .val (.int .u64 g))])
    (fun x => [(16, .cells 1 [[.sl 0 [] true]]), (24, .cells 1 [[.sl 0 [] true]]), (184, .cells 1 (irows .u32 (P ++ (x.2.2.2 ++ R)))), (352, .cells 1 (irows .u32 q))]) 200000 60 rfl (fun x => k + 2 - x.1)
    (fun x => x.1 ≤ k + 2 ∧ x.2.2.2.length = k + 3 ∧ Lim x.2.2.2 ∧ x.2.1 < 4294967296 ∧ x.2.2.1 ≤ 1 ∧ val x.2.2.2 + g * val (v.take x.1) = val w + (x.2.2.1 + x.2.1) * 4294967296 ^ x.1) (0, 0, 0, w) [] ⟨Nat.zero_le _, hwl, hwL, Nat.zero_lt_succ _, Nat.zero_le _, by show val w + g * val [] = val w + (0 + 0) * 1; rw [show val [] = 0 from rfl]; omega⟩
    ⟨⟨rfl, rfl⟩, ⟨rfl, rfl⟩, ⟨rfl, rfl⟩, ⟨rfl, rfl⟩, ⟨rfl, rfl⟩, ⟨rfl, rfl⟩, ⟨valI (by rw [irows_len]; omega), rfl⟩, ⟨rfl, rfl⟩, ⟨rfl, rfl⟩, ⟨rfl, rfl⟩, ⟨rfl, rfl⟩, ⟨rfl, rfl⟩, ⟨rfl, rfl⟩, ⟨rfl, rfl⟩, ⟨rfl, rfl⟩, ⟨rfl, rfl⟩, ⟨rfl, rfl⟩, ⟨rfl, rfl⟩, ⟨rfl, rfl⟩, trivial⟩
    ⟨⟨rfl, .inr ⟨rfl, rfl⟩⟩, ⟨rfl, .inr ⟨rfl, rfl⟩⟩, ⟨rfl, .inl ⟨rfl, irows_noid _ _⟩⟩, ⟨rfl, .inl ⟨rfl, irows_noid _ _⟩⟩, trivial⟩ rfl ?_
  rintro ⟨i, ca, bo, w1⟩ hJ
  have hi : i ≤ k + 2 := hJ.1
  have hwl1 : w1.length = k + 3 := hJ.2.1
  have hwL1 : Lim w1 := hJ.2.2.1
  have hca : ca < 4294967296 := hJ.2.2.2.1
  have hbo : bo ≤ 1 := hJ.2.2.2.2.1
  have hv1 : val w1 + g * val (v.take i) = val w + (bo + ca) * 4294967296 ^ i := hJ.2.2.2.2.2
  clear hJ
  have hl1 := hlens w1 hwl1
  conv => whnf
  refine caseb (fun h2 => ?_) (fun h2 => ?_)
  · have h2' : (i : Int) < ((k + 2 : Nat) : Int) := of_decide_eq_true h2
    have hiv : i < v.length := by omega
    have hiw : i < w1.length := by omega
    have hX := hvL v[i] (List.getElem_mem _)
    have hW1 := hwL1 w1[i] (List.getElem_mem _)
    obtain ⟨x, hx⟩ : ∃ x, x = v[i].toNat := ⟨_, rfl⟩
    obtain ⟨htB, et⟩ := l_mul hX hx hgB hca
    have hu := fun d bo' => l_under (w := w) (d := d) (bo' := bo') hiw hiv hx hv1
    obtain ⟨t, ht⟩ : ∃ t, t = g * x + ca := ⟨_, rfl⟩
    rw [← ht] at et hu htB
    have ehi2 := l_hi htB
    have elo2 := l_lo t
    obtain ⟨th, hth⟩ : ∃ x, x = t / 4294967296 := ⟨_, rfl⟩
    obtain ⟨tl, htl⟩ : ∃ x, x = t % 4294967296 := ⟨_, rfl⟩
    rw [← hth] at ehi2 hu
    rw [← htl] at elo2 hu
    have htlB : tl < 4294967296 := by omega
    have hthB : th < 4294967296 := by omega
    obtain ⟨d, bo', hdB, hbo', hd, ed, eb⟩ := l_sub (x := w1[i].toNat) (lo := tl) (bo := bo) (by omega) htlB hbo
    have hS := Sub32_ok w1[i] tl bo hW1 (by omega) (by omega)
    rw [show w1[i] = ((w1[i].toNat : Nat) : Int) by omega, ed, eb] at hS
    rw [show ((w1[i].toNat : Nat) : Int) = w1[i] by omega] at hS
    have hn := hu d bo' hd
    have hb0 : 0 ≤ (i : Int) := Int.natCast_nonneg i
    have hb1 : (i : Int) < ((k + 3 : Nat) : Int) := by omega
    have hgi := hgets w1 hwl1 i hiw
    have hji : j + ((i : Int)).toNat = j + i := by rw [Int.toNat_natCast]
    conv => whnf
    refine ⟨[.val (.int .u32 v[i])], ⟨hb0, irows_get _ _ (by rw [Int.toNat_natCast]; exact List.getElem?_eq_getElem hiv)⟩, ?_⟩
    conv => whnf
    rw [et]
    refine ⟨by decide, ?_⟩
    conv => whnf
    rw [ehi2]
    refine ⟨⟨hb0, hb1⟩, ?_⟩
    conv => whnf
    refine ⟨[.val (.int .u32 w1[i])], (by rw [hji]; exact irows_get _ _ hgi), ?_⟩
    conv => whnf
    rw [← elo2] at hS
    refine ⟨_, hS, ?_⟩
    conv => whnf
    refine ⟨⟨hb0, hb1⟩, ?_⟩
    conv => whnf
    refine ⟨by rw [hji, irows_len]; show j + i < (P ++ (w1 ++ R)).length; omega, ?_⟩
    conv => whnf
    refine ⟨(i + 1, th, bo', w1.set i (d : Int)), [], (by show k + 2 - (i + 1) < k + 2 - i; omega), ⟨(by show i + 1 ≤ k + 2; omega), (by show (w1.set i (d : Int)).length = k + 3; rw [List.length_set]; exact hwl1), hwL1.set ⟨by omega, by omega⟩, hthB, hbo', hn⟩,
      ⟨⟨rfl, rfl⟩, ⟨rfl, rfl⟩, ⟨rfl, rfl⟩, ⟨rfl, rfl⟩, ⟨rfl, rfl⟩, ⟨rfl, rfl⟩, ⟨rfl, rfl⟩, ⟨valI ?_, rfl⟩, ⟨rfl, rfl⟩, ⟨rfl, rfl⟩, ⟨rfl, rfl⟩, ⟨rfl, rfl⟩, ⟨rfl, rfl⟩, ⟨rfl, rfl⟩, ⟨rfl, rfl⟩, ⟨rfl, rfl⟩, ⟨rfl, rfl⟩, ⟨rfl, rfl⟩, ⟨rfl, rfl⟩, trivial⟩,
      ⟨⟨rfl, .inr ⟨rfl, rfl⟩⟩, ⟨rfl, .inr ⟨rfl, rfl⟩⟩, ⟨rfl, .inl ⟨celE ?_, irows_noid _ _⟩⟩, ⟨rfl, .inl ⟨rfl, irows_noid _ _⟩⟩, trivial⟩, rfl⟩
    · show IntKind.i64.wrap ((i : Int) + 1) = ((i + 1 : Nat) : Int)
      rw [IntWalk.i64_in _ (by omega)]; omega
    · show (irows .u32 (P ++ (w1 ++ R))).set (j + ((i : Int)).toNat) [AV.val (.int .u32 (d : Int))] = irows .u32 (P ++ (w1.set i (d : Int) ++ R))
      rw [hji, ← hsets w1 hwl1 i _ hiw, irows_set]
  · have h2' : ¬ (i : Int) < ((k + 2 : Nat) : Int) := of_decide_eq_false h2
    have hik : i = k + 2 := by omega
    conv => whnf
    have hkw : k + 2 < w1.length := by omega
    have hW1 := hwL1 w1[k + 2] (List.getElem_mem _)
    rw [hik, List.take_of_length_le (by omega)] at hv1
    obtain ⟨d, bo', hdB, hbo', hd, ed, eb⟩ := l_sub (x := w1[k + 2].toNat) (lo := ca) (bo := bo) (by omega) hca hbo
    have hS := Sub32_ok w1[k + 2] ca bo hW1 (by omega) (by omega)
    rw [show w1[k + 2] = ((w1[k + 2].toNat : Nat) : Int) by omega, ed, eb] at hS
    rw [show ((w1[k + 2].toNat : Nat) : Int) = w1[k + 2] by omega] at hS
    have eca : IntKind.u32.wrap (ca : Int) = (ca : Int) := by rw [IntKind.wrap_u32]; omega
    rw [← eca] at hS
    have hwf : (w1.set (k + 2) (d : Int)).length = k + 3 := by rw [List.length_set]; exact hwl1
    have hLf : Lim (w1.set (k + 2) (d : Int)) := hwL1.set ⟨by omega, by omega⟩
    have hvf : val (w1.set (k + 2) (d : Int)) + g * val v = val w + bo' * 4294967296 ^ (k + 3) := by
      have h := val_set w1 (k + 2) (d : Int) hkw
      rw [Int.toNat_natCast] at h
      rw [show 4294967296 ^ (k + 3) = 4294967296 ^ (k + 2) * 4294967296 from Nat.pow_succ .., ]
      have e1 : (d + ca + bo) * 4294967296 ^ (k + 2) = (w1[k + 2].toNat + 4294967296 * bo') * 4294967296 ^ (k + 2) := by rw [hd]
      have e2 : bo' * (4294967296 ^ (k + 2) * 4294967296) = 4294967296 * bo' * 4294967296 ^ (k + 2) := by rw [Nat.mul_comm (4294967296 ^ (k + 2)), ← Nat.mul_assoc, Nat.mul_comm bo']
      simp only [Nat.add_mul] at e1 hv1
      omega
    have hrow : (irows .u32 (P ++ (w1 ++ R))).set (j + (((irows .u32 v).length : Int)).toNat) [AV.val (.int .u32 (d : Int))] = irows .u32 (P ++ (w1.set (k + 2) (d : Int) ++ R)) := by
      rw [irows_len, Int.toNat_natCast, hvl, ← hsets w1 hwl1 (k + 2) _ hkw, irows_set]
    have hb0 : 0 ≤ ((irows .u32 v).length : Int) ∧ ((irows .u32 v).length : Int) < ((k + 3 : Nat) : Int) := by rw [irows_len, hvl]; omega
    have hji : j + (((irows .u32 v).length : Int)).toNat = j + (k + 2) := by rw [irows_len, hvl, Int.toNat_natCast]
    have hgk := hgets w1 hwl1 (k + 2) hkw
    refine ⟨hb0, ?_⟩
    conv => whnf
    refine ⟨[.val (.int .u32 w1[k + 2])], (by rw [hji]; exact irows_get _ _ hgk), ?_⟩
    conv => whnf
    refine ⟨_, hS, ?_⟩
    conv => whnf
    refine ⟨hb0, ?_⟩
    conv => whnf
    refine ⟨by rw [hji, irows_len]; show j + (k + 2) < (P ++ (w1 ++ R)).length; omega, ?_⟩
    conv => whnf
    rw [hrow]
    refine ⟨.inl rfl, _, rfl, ?_⟩
    have hqj : 0 ≤ (j : Int) ∧ (j : Int) < ((m + 1 : Nat) : Int) := by omega
    have hql2 : 0 + ((j : Int)).toNat < (irows .u32 q).length := by rw [irows_len]; omega
    have hqset : ∀ x : Nat, x < 4294967296 → (irows .u32 q).set (0 + ((j : Int)).toNat) [AV.val (.int .u32 (IntKind.u32.wrap (x : Int)))] = irows .u32 (q.set j (x : Int)) := fun x hx => by
      rw [show IntKind.u32.wrap (x : Int) = (x : Int) by rw [IntKind.wrap_u32]; omega, elo, irows_set]
    refine SW.cond (t := ((bo' : Int) == 1)) rfl (fun h3 => ?_) (fun h3 => ?_)
    rotate_left
    · have hb0' : bo' = 0 := by
        rcases Nat.lt_or_ge 0 bo' with h | h
        · have : bo' = 1 := by omega
          rw [this] at h3; cases h3
        · omega
      have hvf : val (w1.set (k + 2) (d : Int)) + g * val v = val w := by rw [hvf, hb0', Nat.zero_mul, Nat.add_zero]
      refine SW.skip ?_
      refine SW.go TTok ?_
      conv => whnf
      refine ⟨hqj, ?_⟩
      conv => whnf
      refine ⟨hql2, ?_⟩
      conv => whnf
      exact hQ g _ _ hwf hLf (by rw [← hvf]; exact Nat.add_comm _ _) (step_pos hvf hgq) hgB rfl ⟨⟨rfl, rfl⟩, ⟨rfl, rfl⟩, ⟨rfl, rfl⟩, ⟨rfl, rfl⟩, ⟨rfl, rfl⟩, ⟨rfl, rfl⟩, ⟨rfl, rfl⟩, ⟨rfl, rfl⟩, ⟨rfl, rfl⟩, ⟨rfl, rfl⟩, ⟨rfl, rfl⟩, trivial⟩
        ⟨⟨rfl, .inr ⟨rfl, rfl⟩⟩, ⟨rfl, .inr ⟨rfl, rfl⟩⟩, ⟨rfl, .inl ⟨rfl, irows_noid _ _⟩⟩, ⟨rfl, .inl ⟨celE (hqset g hgB), irows_noid _ _⟩⟩, trivial⟩
    · have hb1' : bo' = 1 := by
        rcases Nat.lt_or_ge 0 bo' with h | h
        · omega
        · have : bo' = 0 := by omega
          rw [this] at h3; cases h3
      rw [hb1', Nat.one_mul] at hvf
      obtain ⟨wf, hwfe⟩ : ∃ x, x = w1.set (k + 2) (d : Int) := ⟨_, rfl⟩
      rw [← hwfe] at hwf hLf hvf ⊢
      have hVM : val v < 4294967296 ^ (k + 3) := by
        have h := val_lt hvL
        rw [hvl] at h
        exact Nat.lt_of_lt_of_le h (Nat.pow_le_pow_right (by decide) (by omega))
      have hwfM : val wf < 4294967296 ^ (k + 3) := by have := val_lt hLf; rwa [hwf] at this
      have hg0 : 0 < g := by
        rcases Nat.eq_zero_or_pos g with h | h
        · rw [h, Nat.zero_mul, Nat.add_zero] at hvf
          have := Nat.zero_le (val w)
          omega
        · exact h
      have eg1 : IntKind.u64.wrap ((g : Int) - 1) = ((g - 1 : Nat) : Int) := by rw [IntKind.wrap_u64]; omega
      refine SW.seq (SW.go TTok ?_)
      conv => whnf
      rw [eg1]
      refine SW.regionIn TTok _ rfl rfl rfl rfl Tryz.func201 rfl (enter_of Tryz.func201 (by kernel_rfl) (by kernel_rfl)) (Nat.le_of_ble_eq_true rfl) (Nat.le_of_ble_eq_true rfl) ?_
      conv => whnf
      refine ⟨⟨hb1, hb2, hb3⟩, ?_⟩
      conv => whnf
      rw [elo, elen]
      refine ⟨rfl, SW.go TTok ?_⟩
      conv => whnf
      refine SW.loopM TTok (fun x : Nat × Nat × List Int => [(0, .own 184 j (k + 3)), (1, .sl 1 (irows .u32 v) false), (4, .val (.int .u32 x.2.1)), (7, .sl 1 (irows .u32 v) false), (8, .val (.int .i64 (k + 2 : Nat))), (9, .val (.int .i64 x.1)), (1000004, .lp 16 0), (1000005, .lp 24 0), (1000006, .val (.int .i64 s)), (1000007, .sl 1 (irows .u32 v) false), (1000008, .own 184 0 (la + 1)), (1000009, .val (.int .i64 (k + 2 : Nat))), (1000011, .own 352 0 (m + 1)), (1000012, .val (.int .u64 T)), (1000013, .val (.int .u64 S)), (1000014, .val (.int .i64 j)), (1000016, .val (.int .u64 (g - 1 : Nat)))])
        (fun x => [(16, .cells 1 [[.sl 0 [] true]]), (24, .cells 1 [[.sl 0 [] true]]), (184, .cells 1 (irows .u32 (P ++ (x.2.2 ++ R)))), (352, .cells 1 (irows .u32 q))]) 300000 36 rfl (fun x => k + 2 - x.1)
        (fun x => x.1 ≤ k + 2 ∧ x.2.2.length = k + 3 ∧ Lim x.2.2 ∧ x.2.1 ≤ 1 ∧ val x.2.2 + x.2.1 * 4294967296 ^ x.1 = val wf + val (v.take x.1)) (0, 0, wf) [] ⟨Nat.zero_le _, hwf, hLf, Nat.zero_le _, by show val wf + 0 * 1 = val wf + val []; rw [show val [] = 0 from rfl]⟩
        ⟨⟨rfl, rfl⟩, ⟨rfl, rfl⟩, ⟨rfl, rfl⟩, ⟨rfl, rfl⟩, ⟨valI (by rw [irows_len]; omega), rfl⟩, ⟨rfl, rfl⟩, ⟨rfl, rfl⟩, ⟨rfl, rfl⟩, ⟨rfl, rfl⟩, ⟨rfl, rfl⟩, ⟨rfl, rfl⟩, ⟨rfl, rfl⟩, ⟨rfl, rfl⟩, ⟨rfl, rfl⟩, ⟨rfl, rfl⟩, ⟨rfl, rfl⟩, ⟨rfl, rfl⟩, trivial⟩
        ⟨⟨rfl, .inr ⟨rfl, rfl⟩⟩, ⟨rfl, .inr ⟨rfl, rfl⟩⟩, ⟨rfl, .inl ⟨rfl, irows_noid _ _⟩⟩, ⟨rfl, .inl ⟨rfl, irows_noid _ _⟩⟩, trivial⟩ rfl ?_
      rintro ⟨i2, c, w2⟩ hJ
      have hi2 : i2 ≤ k + 2 := hJ.1
      have hwl2 : w2.length = k + 3 := hJ.2.1
      have hwL2 : Lim w2 := hJ.2.2.1
      have hc1 : c ≤ 1 := hJ.2.2.2.1
      have hv2 : val w2 + c * 4294967296 ^ i2 = val wf + val (v.take i2) := hJ.2.2.2.2
      clear hJ
      have hl2 := hlens w2 hwl2
      conv => whnf
      refine caseb (fun h4 => ?_) (fun h4 => ?_)
      · have h4' : (i2 : Int) < ((k + 2 : Nat) : Int) := of_decide_eq_true h4
        have hiv : i2 < v.length := by omega
        have hiw : i2 < w2.length := by omega
        have hX := hvL v[i2] (List.getElem_mem _)
        have hW2 := hwL2 w2[i2] (List.getElem_mem _)
        have hst := back_step (x := v[i2].toNat) hiw hv2
        rw [← val_take_succ hiv] at hst
        have hA := Add32_ok w2[i2] v[i2] c hW2 hX (by omega)
        obtain ⟨t, ht⟩ : ∃ t, t = w2[i2].toNat + v[i2].toNat + c := ⟨_, rfl⟩
        rw [show w2[i2] + v[i2] + (c : Int) = (t : Int) by omega, show (t : Int) % 4294967296 = ((t % 4294967296 : Nat) : Int) by omega, show (t : Int) / 4294967296 = ((t / 4294967296 : Nat) : Int) by omega] at hA
        rw [← ht] at hst
        have htB : t / 4294967296 ≤ 1 := by omega
        obtain ⟨d2, hd2⟩ : ∃ x, x = t % 4294967296 := ⟨_, rfl⟩
        obtain ⟨c2, hc2⟩ : ∃ x, x = t / 4294967296 := ⟨_, rfl⟩
        rw [← hd2, ← hc2] at hA hst
        rw [← hc2] at htB
        have hd2B : d2 < 4294967296 := by omega
        have hb0 : 0 ≤ (i2 : Int) := Int.natCast_nonneg i2
        have hb1 : (i2 : Int) < ((k + 3 : Nat) : Int) := by omega
        have hgi := hgets w2 hwl2 i2 hiw
        have hji : j + ((i2 : Int)).toNat = j + i2 := by rw [Int.toNat_natCast]
        conv => whnf
        refine ⟨[.val (.int .u32 v[i2])], ⟨hb0, irows_get _ _ (by rw [Int.toNat_natCast]; exact List.getElem?_eq_getElem hiv)⟩, ?_⟩
        conv => whnf
        refine ⟨⟨hb0, hb1⟩, ?_⟩
        conv => whnf
        refine ⟨[.val (.int .u32 w2[i2])], (by rw [hji]; exact irows_get _ _ hgi), ?_⟩
        conv => whnf
        refine ⟨_, hA, ?_⟩
        conv => whnf
        refine ⟨⟨hb0, hb1⟩, ?_⟩
        conv => whnf
        refine ⟨by rw [hji, irows_len]; show j + i2 < (P ++ (w2 ++ R)).length; omega, ?_⟩
        conv => whnf
        refine ⟨(i2 + 1, c2, w2.set i2 (d2 : Int)), [], (by show k + 2 - (i2 + 1) < k + 2 - i2; omega), ⟨(by show i2 + 1 ≤ k + 2; omega), (by show (w2.set i2 (d2 : Int)).length = k + 3; rw [List.length_set]; exact hwl2), hwL2.set ⟨by omega, by omega⟩, htB, hst⟩,
          ⟨⟨rfl, rfl⟩, ⟨rfl, rfl⟩, ⟨rfl, rfl⟩, ⟨rfl, rfl⟩, ⟨rfl, rfl⟩, ⟨valI ?_, rfl⟩, ⟨rfl, rfl⟩, ⟨rfl, rfl⟩, ⟨rfl, rfl⟩, ⟨rfl, rfl⟩, ⟨rfl, rfl⟩, ⟨rfl, rfl⟩, ⟨rfl, rfl⟩, ⟨rfl, rfl⟩, ⟨rfl, rfl⟩, ⟨rfl, rfl⟩, ⟨rfl, rfl⟩, trivial⟩,
          ⟨⟨rfl, .inr ⟨rfl, rfl⟩⟩, ⟨rfl, .inr ⟨rfl, rfl⟩⟩, ⟨rfl, .inl ⟨celE ?_, irows_noid _ _⟩⟩, ⟨rfl, .inl ⟨rfl, irows_noid _ _⟩⟩, trivial⟩, rfl⟩
        · show IntKind.i64.wrap ((i2 : Int) + 1) = ((i2 + 1 : Nat) : Int)
          rw [IntWalk.i64_in _ (by omega)]; omega
        · show (irows .u32 (P ++ (w2 ++ R))).set (j + ((i2 : Int)).toNat) [AV.val (.int .u32 (d2 : Int))] = irows .u32 (P ++ (w2.set i2 (d2 : Int) ++ R))
          rw [hji, ← hsets w2 hwl2 i2 _ hiw, irows_set]
      · have h4' : ¬ (i2 : Int) < ((k + 2 : Nat) : Int) := of_decide_eq_false h4
        have hik2 : i2 = k + 2 := by omega
        have hkw : k + 2 < w2.length := by omega
        have hW2 := hwL2 w2[k + 2] (List.getElem_mem _)
        rw [hik2, List.take_of_length_le (by omega)] at hv2
        have hst := back_step (x := 0) hkw hv2
        simp only [Nat.add_zero, Nat.zero_mul] at hst
        obtain ⟨d2, hd2⟩ : ∃ x, x = (w2[k + 2].toNat + c) % 4294967296 := ⟨_, rfl⟩
        have hd2B : d2 < 4294967296 := by omega
        have ed2 : IntKind.u32.wrap (w2[k + 2] + (c : Int)) = (d2 : Int) := by rw [IntKind.wrap_u32]; omega
        rw [← hd2] at hst
        have hwb : (w2.set (k + 2) (d2 : Int)).length = k + 3 := by rw [List.length_set]; exact hwl2
        have hLb : Lim (w2.set (k + 2) (d2 : Int)) := hwL2.set ⟨by omega, by omega⟩
        have hwbM : val (w2.set (k + 2) (d2 : Int)) < 4294967296 ^ (k + 3) := by have := val_lt hLb; rwa [hwb] at this
        obtain ⟨_, hq1, hq2⟩ := step_neg hvf hwfM hgV hVM hst hwbM
        have hb0 : 0 ≤ ((irows .u32 v).length : Int) ∧ ((irows .u32 v).length : Int) < ((k + 3 : Nat) : Int) := by rw [irows_len, hvl]; omega
        have hji : j + (((irows .u32 v).length : Int)).toNat = j + (k + 2) := by rw [irows_len, hvl, Int.toNat_natCast]
        have hgk := hgets w2 hwl2 (k + 2) hkw
        have hrow : (irows .u32 (P ++ (w2 ++ R))).set (j + (((irows .u32 v).length : Int)).toNat) [AV.val (.int .u32 (IntKind.u32.wrap (w2[k + 2] + (c : Int))))] = irows .u32 (P ++ (w2.set (k + 2) (d2 : Int) ++ R)) := by
          rw [ed2, irows_len, Int.toNat_natCast, hvl, ← hsets w2 hwl2 (k + 2) _ hkw, irows_set]
        conv => whnf
        refine ⟨hb0, ?_⟩
        conv => whnf
        refine ⟨[.val (.int .u32 w2[k + 2])], (by rw [hji]; exact irows_get _ _ hgk), ?_⟩
        conv => whnf
        refine ⟨hb0, ?_⟩
        conv => whnf
        refine ⟨by rw [hji, irows_len]; show j + (k + 2) < (P ++ (w2 ++ R)).length; omega, ?_⟩
        conv => whnf
        rw [hrow]
        refine ⟨.inr rfl, _, rfl, ?_⟩
        refine SW.go TTok ?_
        conv => whnf
        refine ⟨hqj, ?_⟩
        conv => whnf
        refine ⟨hql2, ?_⟩
        conv => whnf
        exact hQ (g - 1) _ _ hwb hLb hq1 hq2 (by omega) rfl ⟨⟨rfl, rfl⟩, ⟨rfl, rfl⟩, ⟨rfl, rfl⟩, ⟨rfl, rfl⟩, ⟨rfl, rfl⟩, ⟨rfl, rfl⟩, ⟨rfl, rfl⟩, ⟨rfl, rfl⟩, ⟨rfl, rfl⟩, ⟨rfl, rfl⟩, ⟨rfl, rfl⟩, trivial⟩
          ⟨⟨rfl, .inr ⟨rfl, rfl⟩⟩, ⟨rfl, .inr ⟨rfl, rfl⟩⟩, ⟨rfl, .inl ⟨rfl, irows_noid _ _⟩⟩, ⟨rfl, .inl ⟨celE (hqset (g - 1) (by omega)), irows_noid _ _⟩⟩, trivial⟩

end Go.Proofs.YtbdklokfijjifaaGreat

/- Long division: plain facts on what a round leaves. -/
set_option linter.unusedVariables false
namespace Go.Proofs.YtbdklokfijjifaaGreat
open Go Go.AL NM

theorem l_inv {P w w' R q v : List Int} {j g' U0 : Nat} (hPl : P.length = j) (hR0 : val R = 0) (hjq : j < q.length) (hinv : val (P ++ (w ++ R)) + val v * 4294967296 ^ (j + 1) * val (q.drop (j + 1)) = U0) (hW : val w = g' * val v + val w') :
    val (P ++ (w' ++ R)) + val v * 4294967296 ^ j * val ((q.set j (g' : Int)).drop j) = U0 := by
  rw [val_append, val_append, hR0, Nat.mul_zero, Nat.add_zero, hPl, Nat.pow_succ, hW] at hinv
  rw [val_append, val_append, hR0, Nat.mul_zero, Nat.add_zero, hPl, List.drop_eq_getElem_cons (by rw [List.length_set]; exact hjq), List.getElem_set_self, List.drop_set_of_lt (Nat.lt_succ_self j)]
  show val P + 4294967296 ^ j * val w' + val v * 4294967296 ^ j * ((g' : Int).toNat + 4294967296 * val (q.drop (j + 1))) = U0
  rw [Int.toNat_natCast, ← hinv, Nat.mul_add, Nat.mul_add]
  have e1 : val v * 4294967296 ^ j * g' = 4294967296 ^ j * (g' * val v) := by ac_rfl
  have e2 : val v * 4294967296 ^ j * (4294967296 * val (q.drop (j + 1))) = val v * (4294967296 ^ j * 4294967296) * val (q.drop (j + 1)) := by ac_rfl
  rw [e1, e2]
  omega
theorem l_top {P w' R v : List Int} {j : Nat} (hPl : P.length = j) (hR0 : val R = 0) (h : val w' < val v) : val ((P ++ (w' ++ R)).drop j) < val v := by
  rw [List.drop_append, hPl, Nat.sub_self, List.drop_zero, List.drop_of_length_le (by omega), List.nil_append, val_append, hR0, Nat.mul_zero, Nat.add_zero]
  exact h

end Go.Proofs.YtbdklokfijjifaaGreat
