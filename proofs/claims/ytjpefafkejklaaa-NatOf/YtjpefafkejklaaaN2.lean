/- Contracts of nat: division by a limb. -/
import Derived.Test.YtjpefafkejklaaaN1
set_option linter.unusedVariables false
namespace Go.Proofs.Ytjpefafkejklaaa
open Go Go.AL NM

theorem small_ok (n d : Nat) (hd : 0 < d) (hd' : d < 4294967296) (hb : (limbs n).length < 4294967296) : AC Try.prog 62 [natA n, .val (.int .u32 d)] (.pure (.tup [natA (n / d), .val (.int .u32 (n % d : Nat))])) := by
  refine AC.of_body TTok Try.func62 rfl (enter_of Try.func62 (by kernel_rfl) (by kernel_rfl)) (noid2 (natA_noid n) (.val _)) (.tup _ (noid2 (natA_noid _) (.val _))) (Nat.le_of_ble_eq_true rfl) ?_
  unfold natA
  have hv := val_limbs n
  have hL := limbs_lim n
  generalize limbs n = l at *
  subst hv
  conv => whnf
  refine ⟨⟨?_, ?_, ?_⟩, ?_⟩
  · rw [irows_len]; omega
  · rw [irows_len]; omega
  · rw [irows_len]; show (l.length : Int) * 4 ≤ _; omega
  conv => whnf
  refine SW.loopM TTok (fun k : Nat => [(1, .val (.int .u32 d)), (2, .lp 0 0), (4, .lp 8 0), (6, .own 48 0 l.length), (7, .val (.int .u64 (sdiv d (l.drop k)).2)), (8, .val (.int .i64 ((k : Int) - 1)))])
    (fun k => [(0, .cells 1 [[.sl 1 (irows .u32 l) false]]), (8, .cells 1 [[.sl 0 [] true]]), (48, .cells 1 (irows .u32 (List.replicate k 0 ++ (sdiv d (l.drop k)).1)))]) 112 47 rfl id
    (fun k => k ≤ l.length) l.length [] (Nat.le_refl _) ⟨⟨rfl, rfl⟩, ⟨rfl, rfl⟩, ⟨rfl, rfl⟩, ⟨ownE rfl ?_, rfl⟩, ⟨valI ?_, rfl⟩, ⟨valI ?_, rfl⟩, trivial⟩
    ⟨⟨rfl, .inr ⟨rfl, rfl⟩⟩, ⟨rfl, .inr ⟨rfl, rfl⟩⟩, ⟨rfl, .inl ⟨celE ?_, irows_noid _ _⟩⟩, trivial⟩ rfl ?_
  · rw [irows_len]; omega
  · rw [List.drop_length]; rfl
  · rw [irows_len, IntWalk.i64_in _ (by omega)]
  · rw [irows_len, List.drop_length]
    show List.replicate ((l.length : Int).toNat) [AV.val (.int .u32 0)] = _
    rw [Int.toNat_natCast, irows_rep]
    simp [sdiv]
  intro k hk
  conv => whnf
  refine caseb (fun h1 => ?_) (fun h1 => ?_)
  · have h1' : (k : Int) - 1 ≥ 0 := of_decide_eq_true h1
    clear h1
    conv => whnf
    refine ⟨by decide, ?_⟩
    conv => whnf
    refine ⟨[.val (.int .u32 (l[k - 1]'(by omega)))], ⟨h1', ?_⟩, ?_⟩
    · rw [show ((k : Int) - 1).toNat = k - 1 by omega]
      exact irows_get _ _ (List.getElem?_eq_getElem (by omega))
    conv => whnf
    have hx := hL (l[k - 1]'(by omega)) (List.getElem_mem _)
    have hr : (sdiv d (l.drop k)).2 < d := by
      rw [(sdiv_val d hd (l.drop k) (fun y hy => hL y (List.mem_of_mem_drop hy))).2.1]
      exact Nat.mod_lt _ hd
    have ht : IntKind.u64.wrap ((BitVec.ofInt IntKind.u64.bits (IntKind.u64.wrap (((sdiv d (l.drop k)).2 : Nat) * 2 ^ (min (32 : Int).toNat IntKind.u64.bits))) ||| BitVec.ofInt IntKind.u64.bits (IntKind.u64.wrap (l[k - 1]'(by omega)))).toNat : Int) =
        (((sdiv d (l.drop k)).2 * 4294967296 + (l[k - 1]'(by omega)).toNat : Nat) : Int) := by
      have e1 : IntKind.u64.wrap (((sdiv d (l.drop k)).2 : Nat) * 2 ^ (min (32 : Int).toNat IntKind.u64.bits)) = (((sdiv d (l.drop k)).2 * 2 ^ 32 : Nat) : Int) := by
        show IntKind.u64.wrap ((((sdiv d (l.drop k)).2 : Nat) : Int) * 4294967296) = _
        rw [IntKind.wrap_u64]; omega
      have e2 : IntKind.u64.wrap (l[k - 1]'(by omega)) = (((l[k - 1]'(by omega)).toNat : Nat) : Int) := by rw [IntKind.wrap_u64]; omega
      rw [e1, e2]
      show IntKind.u64.wrap ((BitVec.ofInt 64 _ ||| BitVec.ofInt 64 _).toNat : Int) = _
      rw [or_add 64 _ _ 32 (by omega) (by omega), IntKind.wrap_u64]
      omega
    have hq : sdiv d (l.drop (k - 1)) = sdiv d (l[k - 1]'(by omega) :: l.drop k) := by rw [drop_pred (by omega) hk]
    have hd64 : IntKind.u64.wrap (d : Int) = d := by rw [IntKind.wrap_u64]; omega
    refine ⟨by rw [hd64]; omega, ?_⟩
    conv => whnf
    refine ⟨by rw [hd64]; omega, ?_⟩
    conv => whnf
    refine ⟨⟨h1', by omega⟩, ?_⟩
    conv => whnf
    refine ⟨by rw [irows_len, List.length_append, List.length_replicate, sdiv_len, List.length_drop]; omega, ?_⟩
    conv => whnf
    refine ⟨by kernel_rfl, ?_⟩
    conv => whnf
    refine ⟨k - 1, [], (by show k - 1 < k; omega), (by show k - 1 ≤ l.length; omega), ⟨⟨rfl, rfl⟩, ⟨rfl, rfl⟩, ⟨rfl, rfl⟩, ⟨rfl, rfl⟩, ⟨valI ?_, rfl⟩, ⟨valI ?_, rfl⟩, trivial⟩,
      ⟨⟨rfl, .inr ⟨rfl, rfl⟩⟩, ⟨rfl, .inr ⟨rfl, rfl⟩⟩, ⟨rfl, .inl ⟨celE ?_, irows_noid _ _⟩⟩, trivial⟩, rfl⟩
    · rw [hd64, ht, hq]
      show ((((sdiv d (l.drop k)).2 * 4294967296 + (l[k - 1]'(by omega)).toNat : Nat) : Int)).tmod d = _
      rw [Int.tmod_eq_emod_of_nonneg (Int.natCast_nonneg _)]
      rfl
    · rw [IntWalk.i64_in _ (by omega)]; omega
    · rw [hd64, ht, hq, show 0 + ((k : Int) - 1).toNat = k - 1 by omega, irows_set, rep_set (by omega)]
      congr 3
      show IntKind.u32.wrap (IntKind.u64.wrap ((((sdiv d (l.drop k)).2 * 4294967296 + (l[k - 1]'(by omega)).toNat : Nat) : Int).tdiv d)) = ((((sdiv d (l.drop k)).2 * 4294967296 + (l[k - 1]'(by omega)).toNat) / d : Nat) : Int)
      rw [Int.tdiv_eq_ediv_of_nonneg (Int.natCast_nonneg _), ← Int.natCast_ediv]
      have hlt := quo_lt hr (show (l[k - 1]'(by omega)).toNat < 4294967296 by omega)
      generalize ((sdiv d (l.drop k)).2 * 4294967296 + (l[k - 1]'(by omega)).toNat) / d = q at *
      rw [IntKind.wrap_u64, IntKind.wrap_u32]
      omega
  · have h1' : ¬ (k : Int) - 1 ≥ 0 := of_decide_eq_false h1
    have hk0 : k = 0 := by omega
    subst hk0
    have hs := sdiv_val d hd l hL
    conv => whnf
    refine ⟨?_, .pure (natA (val l / d)), ?_, ?_⟩
    · show 0 + l.length ≤ (irows .u32 (List.replicate 0 0 ++ (sdiv d (l.drop 0)).1)).length
      rw [irows_len, List.drop_zero, List.replicate_zero, List.nil_append, sdiv_len]; omega
    · have := trim_ok (sdiv d l).1 hs.2.2 (by rw [sdiv_len]; exact hb)
      rw [hs.1] at this
      have e : List.take l.length (List.drop 0 (irows .u32 (List.replicate 0 0 ++ (sdiv d (l.drop 0)).1))) = irows .u32 (sdiv d l).1 := by
        rw [List.drop_zero, List.drop_zero, List.replicate_zero, List.nil_append]
        exact List.take_of_length_le (by rw [irows_len, sdiv_len]; exact Nat.le_refl _)
      rw [e]
      exact this
    conv => whnf
    refine tup2 rfl (valI ?_)
    show IntKind.u32.wrap (((sdiv d (l.drop 0)).2 : Nat) : Int) = _
    rw [List.drop_zero, hs.2.1, IntKind.wrap_u32]
    have : val l % d < d := Nat.mod_lt _ hd
    omega

end Go.Proofs.Ytjpefafkejklaaa
