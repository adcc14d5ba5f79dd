/- Contracts of nat: small functions. -/
import Derived.Test.YtjpefafkejklaaaTT
import Derived.Test.YtjpefafkejklaaaAL23
import Derived.Test.YtjpefafkejklaaaNM1
set_option linter.unusedVariables false
namespace Go.Proofs.Ytjpefafkejklaaa
open Go Go.AL NM
def natA (n : Nat) : AV := .agg [.sl 1 (irows .u32 (limbs n)) false]
theorem noid_sl (k : IntKind) (l : List Int) (t : Bool) : NoId (.sl 1 (irows k l) t) := .sl _ _ _ (irows_noid k l)
theorem natA_noid (n : Nat) : NoId (natA n) := .agg _ (by intro x hx; simp at hx; subst hx; exact noid_sl _ _ _)
theorem noid1 {x : AV} (h : NoId x) : ∀ y ∈ [x], NoId y := by intro y hy; simp at hy; subst hy; exact h
theorem noid2 {x y : AV} (h : NoId x) (h' : NoId y) : ∀ z ∈ [x, y], NoId z := by
  intro z hz; simp at hz; rcases hz with rfl | rfl; exact h; exact h'
theorem natA_irows {n : Nat} {l : List Int} (h : irows .u32 l = irows .u32 (limbs n)) : True := trivial

theorem trim_ok (l : List Int) (hl : Lim l) (hb : l.length < 4294967296) : AC Try.prog 64 [.sl 1 (irows .u32 l) false] (.pure (natA (val l))) := by
  refine AC.of_body TTok Try.func64 rfl (enter_of Try.func64 (by kernel_rfl) (by kernel_rfl)) (noid1 (noid_sl _ _ _)) (natA_noid _) (Nat.le_of_ble_eq_true rfl) ?_
  conv => whnf
  refine SW.loopM TTok (fun l' : List Int => [(0, .sl 1 (irows .u32 l') false), (2, .lp 0 0)]) (fun _ => [(0, .cells 1 [[.sl 0 [] true]])]) 8 22 rfl List.length
    (fun l' => l'.length < 4294967296 ∧ Lim l' ∧ val l' = val l) l [] ⟨hb, hl, rfl⟩ ⟨⟨rfl, rfl⟩, ⟨rfl, rfl⟩, trivial⟩ ⟨⟨rfl, .inr ⟨rfl, rfl⟩⟩, trivial⟩ rfl ?_
  rintro l' ⟨hb', hl', hv⟩
  conv => whnf
  refine caseb (fun h1 => ?_) (fun h1 => ?_)
  · have h0 : 0 < l'.length := by have := of_decide_eq_true h1; rw [irows_len] at this; omega
    obtain ⟨x, hx⟩ : ∃ x, l'[l'.length - 1]? = some x := ⟨l'[l'.length - 1], List.getElem?_eq_getElem (by omega)⟩
    have e1 : IntKind.i64.wrap (((irows .u32 l').length : Int) - 1) = ((l'.length - 1 : Nat) : Int) := by rw [irows_len, IntWalk.i64_in _ (by omega)]; omega
    conv => whnf
    refine ⟨[.val (.int .u32 x)], ⟨by rw [e1]; omega, by rw [e1]; exact irows_get _ _ hx⟩, ?_⟩
    conv => whnf
    refine caseb (fun h2 => ?_) (fun h2 => ?_)
    · conv => whnf
      refine ⟨by rw [e1, irows_len]; omega, ?_⟩
      have hx0 : x = 0 := by simpa using h2
      have hne : l' ≠ [] := by intro e; subst e; simp at h0
      have hlast : l'.getLast hne = 0 := by rw [← hx0, List.getLast_eq_getElem]; exact (List.getElem?_eq_some_iff.1 hx).2
      refine ⟨l'.dropLast, [], by simp; omega, ⟨by simp; omega, fun y hy => hl' y (List.dropLast_subset _ hy), by rw [val_dropLast hne hlast, hv]⟩, ⟨⟨slE ?_, rfl⟩, ⟨rfl, rfl⟩, trivial⟩, ⟨⟨rfl, .inr ⟨rfl, rfl⟩⟩, trivial⟩, rfl⟩
      conv => lhs; whnf
      rw [e1, irows_take, List.dropLast_eq_take]; rfl
    · conv => whnf
      have hx0 : x ≠ 0 := by simpa using h2
      show AV.agg [.sl 1 (irows .u32 l') false] = _
      unfold natA
      rw [← hv, limbs_val hl' (fun hne => by rw [List.getLast_eq_getElem]; intro e; apply hx0; rw [← e]; exact ((List.getElem?_eq_some_iff.1 hx).2).symm)]
  · conv => whnf
    have h0 : l' = [] := by
      have := of_decide_eq_false h1
      rw [irows_len] at this
      exact List.eq_nil_of_length_eq_zero (by omega)
    subst h0
    show AV.agg [.sl 1 (irows .u32 []) false] = _
    unfold natA
    rw [← hv]
    show _ = AV.agg [.sl 1 (irows .u32 (limbs 0)) false]
    rw [limbs_zero]

theorem Of_ok (n : Nat) (hn : n < 18446744073709551616) : AC Try.prog 34 [.val (.int .u64 n)] (.pure (natA n)) := by
  refine AC.of_body TTok Try.func34 rfl (enter_of Try.func34 (by kernel_rfl) (by kernel_rfl)) (noid1 (.val _)) (natA_noid _) (Nat.le_of_ble_eq_true rfl) ?_
  have ea : IntKind.u32.wrap (n : Int) = ((n % 4294967296 : Nat) : Int) := by rw [IntKind.wrap_u32]; omega
  have eb : IntKind.u32.wrap ((n : Int).fdiv (2 ^ (min (32 : Int).toNat IntKind.u64.bits))) = ((n / 4294967296 : Nat) : Int) := by
    rw [IntKind.wrap_u32]
    show (n : Int).fdiv 4294967296 % 4294967296 = _
    rw [Int.fdiv_eq_ediv_of_nonneg _ (by decide)]
    omega
  have hl : Lim [((n % 4294967296 : Nat) : Int), ((n / 4294967296 : Nat) : Int)] := by
    intro x hx
    simp at hx
    rcases hx with rfl | rfl <;> omega
  have hv : val [((n % 4294967296 : Nat) : Int), ((n / 4294967296 : Nat) : Int)] = n := by simp only [val]; omega
  conv => whnf
  refine ⟨by decide, ?_⟩
  conv => whnf
  refine ⟨Nat.le_of_ble_eq_true rfl, .pure (natA n), ?_, ?_⟩
  · have := trim_ok _ hl (by simp)
    rw [hv, ← ea, ← eb] at this
    exact this
  conv => whnf
  exact rfl

theorem Zero_ok (n : Nat) : AC Try.prog 24 [natA n] (.pure (.val (.bool (decide (n = 0))))) := by
  refine AC.of_body TTok Try.func24 rfl (enter_of Try.func24 (by kernel_rfl) (by kernel_rfl)) (noid1 (natA_noid n)) (.val _) (Nat.le_of_ble_eq_true rfl) ?_
  conv => whnf
  refine valB ?_
  show ((((irows .u32 (limbs n)).length : Nat) : Int) == 0) = _
  rw [irows_len, Bool.eq_iff_iff]
  simp [limbs_nil]
theorem One_ok (n : Nat) : AC Try.prog 41 [natA n] (.pure (.val (.bool (decide (n = 1))))) := by
  refine AC.of_body TTok Try.func41 rfl (enter_of Try.func41 (by kernel_rfl) (by kernel_rfl)) (noid1 (natA_noid n)) (.val _) (Nat.le_of_ble_eq_true rfl) ?_
  unfold natA
  rcases limbs_cases n with ⟨e, hn⟩ | ⟨x, l, e, hn, hx0, hx1, hl⟩
  · rw [e]
    conv => whnf
    refine valB ?_
    show false = _
    rw [hn]
    rfl
  · rw [e]
    have hlast := limbs_last n
    rw [e] at hlast
    conv => whnf
    refine caseb (fun h1 => ?_) (fun h1 => ?_)
    · have h1' : ((irows .u32 (x :: l)).length : Int) = 1 := of_decide_eq_true h1
      clear h1
      rw [irows_len, List.length_cons] at h1'
      have hl0 : l = [] := List.eq_nil_of_length_eq_zero (by omega)
      conv => whnf
      refine ⟨[.val (.int .u32 x)], ⟨Int.le_refl 0, rfl⟩, ?_⟩
      conv => whnf
      refine valB ?_
      show (x == 1) = _
      refine beqD ?_
      rw [hn, hl0]
      simp only [val]
      omega
    · have h1' : ¬ ((irows .u32 (x :: l)).length : Int) = 1 := of_decide_eq_false h1
      clear h1
      rw [irows_len, List.length_cons] at h1'
      have hl0 : l ≠ [] := by intro e; rw [e] at h1'; exact h1' rfl
      have hp : 0 < val l := val_pos hl hl0 (by rw [← List.getLast_cons (a := x) hl0]; exact hlast (by simp))
      conv => whnf
      refine valB ?_
      show false = _
      symm
      rw [decide_eq_false_iff_not]
      omega

theorem Limbs_ok (n : Nat) : AC Try.prog 45 [natA n] (.pure (.val (.int .i64 (limbs n).length))) := by
  refine AC.of_body TTok Try.func45 rfl (enter_of Try.func45 (by kernel_rfl) (by kernel_rfl)) (noid1 (natA_noid n)) (.val _) (Nat.le_of_ble_eq_true rfl) ?_
  conv => whnf
  refine valI ?_
  show ((irows .u32 (limbs n)).length : Int) = _
  rw [irows_len]
theorem Even_ok (n : Nat) : AC Try.prog 42 [natA n] (.pure (.val (.bool (decide (n % 2 = 0))))) := by
  refine AC.of_body TTok Try.func42 rfl (enter_of Try.func42 (by kernel_rfl) (by kernel_rfl)) (noid1 (natA_noid n)) (.val _) (Nat.le_of_ble_eq_true rfl) ?_
  unfold natA
  rcases limbs_cases n with ⟨e, hn⟩ | ⟨x, l, e, hn, hx0, hx1, hl⟩
  · rw [e]
    conv => whnf
    refine valB ?_
    show true = _
    rw [hn]
    rfl
  · rw [e]
    conv => whnf
    refine ⟨[.val (.int .u32 x)], ⟨Int.le_refl 0, rfl⟩, ?_⟩
    conv => whnf
    refine valB ?_
    have hm := and_mask 32 x hx0 hx1 1 (by decide)
    rw [show ((2 ^ 1 - 1 : Nat) : Int) = 1 from rfl] at hm
    show (IntKind.u32.wrap ((BitVec.ofInt 32 x &&& BitVec.ofInt 32 1).toNat : Int) == 0) = _
    rw [hm, IntKind.wrap_u32]
    refine beqD ?_
    rw [hn]
    omega

theorem Uint_ok (n : Nat) : AC Try.prog 35 [natA n] (.pure (.tup [.val (.int .u64 (if n < 18446744073709551616 then n else 0)), .val (.bool (decide (n < 18446744073709551616)))])) := by
  refine AC.of_body TTok Try.func35 rfl (enter_of Try.func35 (by kernel_rfl) (by kernel_rfl)) (noid1 (natA_noid n)) (.tup _ (noid2 (.val _) (.val _))) (Nat.le_of_ble_eq_true rfl) ?_
  unfold natA
  have hlast := limbs_last n
  have hv := val_limbs n
  have hL := limbs_lim n
  generalize limbs n = l at *
  rcases l with _ | ⟨x, _ | ⟨y, _ | ⟨z, l⟩⟩⟩
  · have h0 : n = 0 := hv.symm
    rw [h0]
    conv => whnf
    exact rfl
  · have hx := hL x (by simp)
    simp only [val] at hv
    rw [if_pos (show n < 18446744073709551616 by omega), decide_eq_true (show n < 18446744073709551616 by omega)]
    conv => whnf
    refine ⟨[.val (.int .u32 x)], ⟨Int.le_refl 0, rfl⟩, ?_⟩
    conv => whnf
    refine tup2 (valI ?_) rfl
    rw [IntKind.wrap_u64]
    omega
  · have hx := hL x (by simp)
    have hy := hL y (by simp)
    simp only [val] at hv
    rw [if_pos (show n < 18446744073709551616 by omega), decide_eq_true (show n < 18446744073709551616 by omega)]
    conv => whnf
    refine ⟨[.val (.int .u32 x)], ⟨Int.le_refl 0, rfl⟩, ?_⟩
    conv => whnf
    refine ⟨[.val (.int .u32 y)], ⟨by decide, rfl⟩, ?_⟩
    conv => whnf
    refine ⟨by decide, ?_⟩
    conv => whnf
    refine ⟨by kernel_rfl, ?_⟩
    conv => whnf
    refine tup2 (valI ?_) rfl
    have e1 : IntKind.u64.wrap x = ((x.toNat : Nat) : Int) := by rw [IntKind.wrap_u64]; omega
    have e2 : IntKind.u64.wrap (IntKind.u64.wrap y * 2 ^ (min (32 : Int).toNat IntKind.u64.bits)) = ((y.toNat * 2 ^ 32 : Nat) : Int) := by
      show IntKind.u64.wrap (IntKind.u64.wrap y * 4294967296) = _
      rw [IntKind.wrap_u64, IntKind.wrap_u64]
      omega
    have h3 := or_add' 64 y.toNat x.toNat 32 (by omega) (by omega)
    show IntKind.u64.wrap ((BitVec.ofInt 64 (IntKind.u64.wrap x) ||| BitVec.ofInt 64 (IntKind.u64.wrap (IntKind.u64.wrap y * 2 ^ (min (32 : Int).toNat IntKind.u64.bits)))).toNat : Int) = _
    rw [e1, e2, h3, IntKind.wrap_u64]
    omega
  · have hp : 0 < val (z :: l) := val_pos (fun a ha => hL a (by simp at ha ⊢; exact .inr (.inr ha))) (by simp) (by have := hlast (by simp); rwa [List.getLast_cons (by simp), List.getLast_cons (by simp)] at this)
    have hx := hL x (by simp)
    have hy := hL y (by simp)
    simp only [val] at hv hp
    have hge : ¬ n < 18446744073709551616 := by omega
    rw [if_neg hge, decide_eq_false hge]
    conv => whnf
    exact rfl

end Go.Proofs.Ytjpefafkejklaaa
