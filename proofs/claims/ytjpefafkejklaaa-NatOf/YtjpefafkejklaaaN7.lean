/- Contracts of nat: the order of two numbers, their quotient by one limb. -/
import Derived.Test.YtjpefafkejklaaaN6
import Derived.Test.YtjpefafkejklaaaAL26
set_option linter.unusedVariables false
namespace Go.Proofs.Ytjpefafkejklaaa
open Go Go.AL NM

def cmpN (n m : Nat) : Int := if n < m then -1 else if n = m then 0 else 1
theorem cmpN_lt {n m : Nat} (h : n < m) : cmpN n m = -1 := by unfold cmpN; rw [if_pos h]
theorem cmpN_gt {n m : Nat} (h : m < n) : cmpN n m = 1 := by unfold cmpN; rw [if_neg (by omega), if_neg (by omega)]
theorem cmpN_eq (n : Nat) : cmpN n n = 0 := by unfold cmpN; rw [if_neg (by omega), if_pos rfl]

theorem Cmp_ok (n m : Nat) (hb : (limbs n).length < 4000000000) (hb' : (limbs m).length < 4000000000) : AC Try.prog 30 [natA n, natA m] (.pure (.val (.int .i64 (cmpN n m)))) := by
  refine AC.of_body TTok Try.func30 rfl (enter_of Try.func30 (by kernel_rfl) (by kernel_rfl)) (noid2 (natA_noid n) (natA_noid m)) (.val _) (Nat.le_of_ble_eq_true rfl) ?_
  have hlen1 : (limbs n).length < (limbs m).length → n < m := len_lt
  have hlen2 : (limbs m).length < (limbs n).length → m < n := len_lt
  unfold natA
  have hva := val_limbs n
  have hvb := val_limbs m
  have hLa := limbs_lim n
  have hLb := limbs_lim m
  generalize limbs n = a at *
  generalize limbs m = b at *
  conv => whnf
  refine caseb (fun h1 => ?_) (fun h1 => ?_)
  · have h1' : ((irows .u32 a).length : Int) ≠ ((irows .u32 b).length : Int) := bne_iff_ne.1 h1
    rw [irows_len, irows_len] at h1'
    conv => whnf
    refine caseb (fun h2 => ?_) (fun h2 => ?_)
    · have h2' : ((irows .u32 a).length : Int) < ((irows .u32 b).length : Int) := of_decide_eq_true h2
      rw [irows_len, irows_len] at h2'
      conv => whnf
      refine valI ?_
      rw [cmpN_lt (hlen1 (by omega))]
    · have h2' : ¬ ((irows .u32 a).length : Int) < ((irows .u32 b).length : Int) := of_decide_eq_false h2
      rw [irows_len, irows_len] at h2'
      conv => whnf
      refine valI ?_
      rw [cmpN_gt (hlen2 (by omega))]
  · have h1' : ((irows .u32 a).length : Int) = ((irows .u32 b).length : Int) := by
      have : ¬ ((irows .u32 a).length : Int) ≠ ((irows .u32 b).length : Int) := fun h => by
        have := bne_iff_ne.2 h
        rw [show ((((irows .u32 a).length : Nat) : Int) != (((irows .u32 b).length : Nat) : Int)) = false from h1] at this
        cases this
      exact Decidable.byContradiction this
    rw [irows_len, irows_len] at h1'
    have hab : a.length = b.length := by omega
    conv => whnf
    refine SW.loopM TTok (fun k : Nat => [(2, .lp 0 0), (3, .lp 8 0), (5, .val (.int .i64 ((k : Int) - 1)))])
      (fun k => [(0, .cells 1 [[.sl 1 (irows .u32 a) false]]), (8, .cells 1 [[.sl 1 (irows .u32 b) false]])]) 120 50 rfl id
      (fun k => k ≤ a.length ∧ a.drop k = b.drop k) a.length [] ⟨Nat.le_refl _, by rw [List.drop_length, hab, List.drop_length]⟩
      ⟨⟨rfl, rfl⟩, ⟨rfl, rfl⟩, ⟨valI ?_, rfl⟩, trivial⟩ ⟨⟨rfl, .inr ⟨rfl, rfl⟩⟩, ⟨rfl, .inr ⟨rfl, rfl⟩⟩, trivial⟩ rfl ?_
    · rw [irows_len, IntWalk.i64_in _ (by omega)]
    rintro k ⟨hk, hd⟩
    conv => whnf
    refine caseb (fun h2 => ?_) (fun h2 => ?_)
    · have h2' : (k : Int) - 1 ≥ 0 := of_decide_eq_true h2
      have hka : k - 1 < a.length := by omega
      have hkb : k - 1 < b.length := by omega
      have ga : 0 ≤ (k : Int) - 1 ∧ (irows .u32 a)[((k : Int) - 1).toNat]? = some [.val (.int .u32 (a[k - 1]'hka))] :=
        ⟨h2', by rw [show ((k : Int) - 1).toNat = k - 1 by omega]; exact irows_get _ _ (List.getElem?_eq_getElem hka)⟩
      have gb : 0 ≤ (k : Int) - 1 ∧ (irows .u32 b)[((k : Int) - 1).toNat]? = some [.val (.int .u32 (b[k - 1]'hkb))] :=
        ⟨h2', by rw [show ((k : Int) - 1).toNat = k - 1 by omega]; exact irows_get _ _ (List.getElem?_eq_getElem hkb)⟩
      conv => whnf
      refine ⟨_, ga, ?_⟩
      conv => whnf
      refine ⟨_, gb, ?_⟩
      conv => whnf
      refine ⟨by kernel_rfl, ?_⟩
      conv => whnf
      refine caseb (fun h3 => ?_) (fun h3 => ?_)
      · have h3' : a[k - 1]'hka ≠ b[k - 1]'hkb := bne_iff_ne.1 h3
        conv => whnf
        refine ⟨_, ga, ?_⟩
        conv => whnf
        refine ⟨_, gb, ?_⟩
        conv => whnf
        refine ⟨by kernel_rfl, ?_⟩
        conv => whnf
        refine caseb (fun h4 => ?_) (fun h4 => ?_)
        · have h4' : a[k - 1]'hka < b[k - 1]'hkb := of_decide_eq_true h4
          conv => whnf
          refine valI ?_
          rw [cmpN_lt]
          rw [← hva, ← hvb]
          exact cmp_lt hLa hLb hka hkb (by rw [show k - 1 + 1 = k by omega]; exact hd) h4'
        · have h4' : ¬ a[k - 1]'hka < b[k - 1]'hkb := of_decide_eq_false h4
          conv => whnf
          refine valI ?_
          rw [cmpN_gt]
          rw [← hva, ← hvb]
          exact cmp_lt hLb hLa hkb hka (by rw [show k - 1 + 1 = k by omega]; exact hd.symm) (by omega)
      · have h3' : a[k - 1]'hka = b[k - 1]'hkb := by
          refine Decidable.byContradiction fun h => ?_
          have := bne_iff_ne.2 h
          rw [show ((a[k - 1]'hka) != (b[k - 1]'hkb)) = false from h3] at this
          cases this
        conv => whnf
        refine ⟨k - 1, [], (by show k - 1 < k; omega), ⟨(by omega), ?_⟩, ⟨⟨rfl, rfl⟩, ⟨rfl, rfl⟩, ⟨valI ?_, rfl⟩, trivial⟩,
          ⟨⟨rfl, .inr ⟨rfl, rfl⟩⟩, ⟨rfl, .inr ⟨rfl, rfl⟩⟩, trivial⟩, rfl⟩
        · rw [drop_pred (by omega) hk, drop_pred (by omega) (by omega), hd, h3']
        · rw [IntWalk.i64_in _ (by omega)]; omega
    · have h2' : ¬ (k : Int) - 1 ≥ 0 := of_decide_eq_false h2
      have hk0 : k = 0 := by omega
      subst hk0
      have hab : n = m := by
        have : a = b := hd
        rw [← hva, ← hvb, this]
      conv => whnf
      refine valI ?_
      rw [hab, cmpN_eq]

end Go.Proofs.Ytjpefafkejklaaa
