/- Contracts of nat: how many bits. -/
import Derived.Test.YtjpefafkejklaaaN9
set_option linter.unusedVariables false
namespace Go.Proofs.Ytjpefafkejklaaa
open Go Go.AL NM

/-- How many bits a number has. -/
def blen (n : Nat) : Nat := if n = 0 then 0 else Nat.log2 n + 1
theorem blen_div {n k : Nat} (h : 2 ^ k ≤ n) : blen n = blen (n / 2 ^ k) + k := by
  have hn : n ≠ 0 := by have := Nat.two_pow_pos k; omega
  have hq : 0 < n / 2 ^ k := Nat.div_pos h (Nat.two_pow_pos k)
  unfold blen
  rw [if_neg hn, if_neg (by omega)]
  induction k generalizing n with
  | zero => simp
  | succ k ih =>
    have h2 : 2 ≤ n := Nat.le_trans (by rw [Nat.pow_succ]; have := Nat.two_pow_pos k; omega) h
    have hh : 2 ^ k ≤ n / 2 := by rw [Nat.le_div_iff_mul_le (by decide)]; rw [Nat.pow_succ] at h; exact h
    have e : n / 2 ^ (k + 1) = n / 2 / 2 ^ k := by rw [Nat.div_div_eq_div_mul, Nat.pow_succ, Nat.mul_comm]
    rw [e] at hq ⊢
    have := ih hh (by have := Nat.two_pow_pos k; omega) hq
    rw [Nat.log2_def n, if_pos h2]
    omega
theorem blen_le {n k : Nat} (h : n < 2 ^ k) : blen n ≤ k := by
  unfold blen
  split
  · omega
  · rename_i h0
    have := (Nat.log2_lt h0).2 h
    omega

def lenTab : ByteArray := { data := (([0, 1, 2, 2, 3, 3, 3, 3, 4, 4, 4, 4, 4, 4, 4, 4, 5, 5, 5, 5, 5, 5, 5, 5, 5, 5, 5, 5, 5, 5, 5, 5, 6, 6, 6, 6, 6, 6, 6, 6, 6, 6, 6, 6, 6, 6, 6, 6, 6, 6, 6, 6, 6, 6, 6, 6, 6, 6, 6, 6, 6, 6, 6, 6].append [7, 7, 7, 7, 7, 7, 7, 7, 7, 7, 7, 7, 7, 7, 7, 7, 7, 7, 7, 7, 7, 7, 7, 7, 7, 7, 7, 7, 7, 7, 7, 7, 7, 7, 7, 7, 7, 7, 7, 7, 7, 7, 7, 7, 7, 7, 7, 7, 7, 7, 7, 7, 7, 7, 7, 7, 7, 7, 7, 7, 7, 7, 7, 7]).append ([8, 8, 8, 8, 8, 8, 8, 8, 8, 8, 8, 8, 8, 8, 8, 8, 8, 8, 8, 8, 8, 8, 8, 8, 8, 8, 8, 8, 8, 8, 8, 8, 8, 8, 8, 8, 8, 8, 8, 8, 8, 8, 8, 8, 8, 8, 8, 8, 8, 8, 8, 8, 8, 8, 8, 8, 8, 8, 8, 8, 8, 8, 8, 8].append [8, 8, 8, 8, 8, 8, 8, 8, 8, 8, 8, 8, 8, 8, 8, 8, 8, 8, 8, 8, 8, 8, 8, 8, 8, 8, 8, 8, 8, 8, 8, 8, 8, 8, 8, 8, 8, 8, 8, 8, 8, 8, 8, 8, 8, 8, 8, 8, 8, 8, 8, 8, 8, 8, 8, 8, 8, 8, 8, 8, 8, 8, 8, 8])).toArray }
theorem lenTab_ok : (List.range 256).all (fun k => Nat.beq ((lenTab.data.toList.getD k 0).toNat) (blen k)) = true := by kernel_rfl
theorem lenTab_at {k : Nat} (h : k < 256) : byteAt lenTab (k : Int) = (blen k : Int) := by
  have := List.all_eq_true.1 lenTab_ok k (List.mem_range.2 h)
  have := Nat.eq_of_beq_eq_true this
  unfold byteAt
  rw [Int.toNat_natCast, this]

theorem Len32_ok (x : Nat) (hx : x < 4294967296) : AC Try.prog 76 [.val (.int .u32 x)] (.pure (.val (.int .i64 (blen x)))) := by
  refine AC.of_body TTok Try.func76 rfl (enter_of Try.func76 (by kernel_rfl) (by kernel_rfl)) (noid1 (.val _)) (.val _) (Nat.le_of_ble_eq_true rfl) ?_
  have hbl := blen_le (n := x) (k := 32) hx
  have fdv : ∀ (y : Nat) (k : Nat), k ≤ 32 → ((y : Int).fdiv (2 ^ (min ((k : Nat) : Int).toNat IntKind.u32.bits))) = ((y / 2 ^ k : Nat) : Int) := by
    intro y k hk
    rw [Int.toNat_natCast, show IntKind.u32.bits = 32 from rfl, Nat.min_eq_left hk, Int.fdiv_eq_ediv_of_nonneg _ (Int.le_of_lt (Int.pow_pos (by decide)))]
    rfl
  have f16 : ∀ y : Nat, ((y : Int).fdiv (2 ^ (min (16 : Int).toNat IntKind.u32.bits))) = ((y / 2 ^ 16 : Nat) : Int) := fun y => fdv y 16 (by decide)
  have f8 : ∀ y : Nat, ((y : Int).fdiv (2 ^ (min (8 : Int).toNat IntKind.u32.bits))) = ((y / 2 ^ 8 : Nat) : Int) := fun y => fdv y 8 (by decide)
  have fin : ∀ (k : Nat) (a : Int) (q : Int), q = (k : Int) → k < 256 → 0 ≤ a → a ≤ 32 → IntKind.i64.wrap (a + IntKind.i64.wrap (byteAt lenTab (IntKind.u8.wrap q))) = a + blen k := by
    intro k a q hq hk h0 h1
    have hb := blen_le (n := k) (k := 8) hk
    subst hq
    rw [show IntKind.u8.wrap (k : Int) = (k : Int) by rw [IntKind.wrap_u8]; omega, lenTab_at hk, IntWalk.i64_in (blen k : Int) (by omega), IntWalk.i64_in _ (by omega)]
  have hcond : ∀ z : Int, 0 ≤ IntKind.u8.wrap z ∧ IntKind.u8.wrap z < (lenTab.size : Int) := by
    intro z
    rw [show lenTab.size = 256 by kernel_rfl, IntKind.wrap_u8]
    omega
  conv => whnf
  refine caseb (fun h1 => ?_) (fun h1 => ?_)
  · have h1' : (x : Int) ≥ 65536 := of_decide_eq_true h1
    have e1 := blen_div (n := x) (k := 16) (by show 65536 ≤ x; omega)
    have hq : x / 2 ^ 16 < 65536 := by show x / 65536 < 65536; omega
    have hq1 := f16 x
    conv => whnf
    refine ⟨by decide, ?_⟩
    conv => whnf
    refine caseb (fun h2 => ?_) (fun h2 => ?_)
    · have h2' : ((x : Int).fdiv (2 ^ (min (16 : Int).toNat IntKind.u32.bits))) ≥ 256 := of_decide_eq_true h2
      rw [hq1] at h2'
      generalize hqq : x / 2 ^ 16 = q at *
      have e2 := blen_div (n := q) (k := 8) (by show 256 ≤ q; omega)
      conv => whnf
      refine ⟨by decide, ?_⟩
      conv => whnf
      refine ⟨hcond _, ?_⟩
      conv => whnf
      refine valI ?_
      have hz : ((x : Int).fdiv (2 ^ (min (16 : Int).toNat IntKind.u32.bits))).fdiv (2 ^ (min (8 : Int).toNat IntKind.u32.bits)) = ((q / 2 ^ 8 : Nat) : Int) := by rw [hq1, f8]
      refine (fin (q / 2 ^ 8) (IntKind.i64.wrap (16 + 8)) _ hz (by show q / 256 < 256; omega) (by decide) (by decide)).trans ?_
      rw [show IntKind.i64.wrap (16 + 8) = 24 from rfl]
      omega
    · have h2' : ¬ ((x : Int).fdiv (2 ^ (min (16 : Int).toNat IntKind.u32.bits))) ≥ 256 := of_decide_eq_false h2
      rw [hq1] at h2'
      generalize hqq : x / 2 ^ 16 = q at *
      conv => whnf
      refine ⟨hcond _, ?_⟩
      conv => whnf
      refine valI ?_
      refine (fin q 16 _ hq1 (by omega) (by decide) (by decide)).trans ?_
      omega
  · have h1' : ¬ (x : Int) ≥ 65536 := of_decide_eq_false h1
    conv => whnf
    refine caseb (fun h2 => ?_) (fun h2 => ?_)
    · have h2' : (x : Int) ≥ 256 := of_decide_eq_true h2
      have e2 := blen_div (n := x) (k := 8) (by show 256 ≤ x; omega)
      conv => whnf
      refine ⟨by decide, ?_⟩
      conv => whnf
      refine ⟨hcond _, ?_⟩
      conv => whnf
      refine valI ?_
      refine (fin (x / 2 ^ 8) (IntKind.i64.wrap (0 + 8)) _ (f8 x) (by show x / 256 < 256; omega) (by decide) (by decide)).trans ?_
      rw [show IntKind.i64.wrap (0 + 8) = 8 from rfl]
      omega
    · have h2' : ¬ (x : Int) ≥ 256 := of_decide_eq_false h2
      conv => whnf
      refine ⟨hcond _, ?_⟩
      conv => whnf
      refine valI ?_
      refine (fin x 0 _ rfl (by omega) (by decide) (by decide)).trans ?_
      omega

theorem Lead_ok (x : Nat) (hx : x < 4294967296) : AC Try.prog 68 [.val (.int .u32 x)] (.pure (.val (.int .i64 (32 - (blen x : Int))))) := by
  refine AC.of_body TTok Try.func68 rfl (enter_of Try.func68 (by kernel_rfl) (by kernel_rfl)) (noid1 (.val _)) (.val _) (Nat.le_of_ble_eq_true rfl) ?_
  have hbl := blen_le (n := x) (k := 32) hx
  conv => whnf
  refine ⟨_, Len32_ok x hx, ?_⟩
  conv => whnf
  refine valI ?_
  rw [IntWalk.i64_in _ (by omega)]

theorem blen_limbs {n : Nat} {l : List Int} {x : Nat} (h : limbs n = l ++ [(x : Int)]) (h0 : 0 < x) : blen n = 32 * l.length + blen x := by
  have hv := val_limbs n
  have hL := limbs_lim n
  rw [h] at hv hL
  rw [val_append] at hv
  simp only [val, Int.toNat_natCast, Nat.mul_zero, Nat.add_zero] at hv
  have hlt := val_lt (l := l) (fun y hy => hL y (by simp [hy]))
  have hp : (4294967296 : Nat) ^ l.length = 2 ^ (32 * l.length) := by rw [Nat.pow_mul]
  rw [hp] at hv hlt
  have hge : 2 ^ (32 * l.length) ≤ n := by
    have : 2 ^ (32 * l.length) * 1 ≤ 2 ^ (32 * l.length) * x := Nat.mul_le_mul_left _ h0
    omega
  have hq : n / 2 ^ (32 * l.length) = x := by
    rw [← hv, Nat.add_mul_div_left _ _ (Nat.two_pow_pos _), Nat.div_eq_of_lt hlt]
    omega
  rw [blen_div hge, hq]
  omega

theorem Bits_ok (n : Nat) (hb : (limbs n).length < 4000000000) : AC Try.prog 43 [natA n] (.pure (.val (.int .i64 (blen n)))) := by
  refine AC.of_body TTok Try.func43 rfl (enter_of Try.func43 (by kernel_rfl) (by kernel_rfl)) (noid1 (natA_noid n)) (.val _) (Nat.le_of_ble_eq_true rfl) ?_
  by_cases hn0 : n = 0
  · subst hn0
    unfold natA
    rw [limbs_zero]
    conv => whnf
    exact rfl
  have hne : limbs n ≠ [] := fun e => hn0 ((limbs_nil n).1 e)
  have hlast := limbs_last n hne
  have hsplit : limbs n = (limbs n).dropLast ++ [(((limbs n).getLast hne).toNat : Int)] := by
    have hx := limbs_lim n _ (List.getLast_mem hne)
    rw [Int.toNat_of_nonneg hx.1]
    exact (List.dropLast_concat_getLast hne).symm
  have hx := limbs_lim n _ (List.getLast_mem hne)
  have hbl := blen_limbs hsplit (by omega)
  have hlen : (limbs n).dropLast.length = (limbs n).length - 1 := List.length_dropLast
  have hpos := List.length_pos_iff.2 hne
  have hget : (limbs n)[(limbs n).length - 1]? = some ((((limbs n).getLast hne).toNat : Nat) : Int) := by
    rw [Int.toNat_of_nonneg hx.1, List.getLast_eq_getElem]
    exact List.getElem?_eq_getElem _
  have hble := blen_le (n := ((limbs n).getLast hne).toNat) (k := 32) (by show _ < 4294967296; omega)
  have hxlt : ((limbs n).getLast hne).toNat < 4294967296 := by omega
  generalize ((limbs n).getLast hne).toNat = x at *
  unfold natA
  generalize limbs n = l at *
  have e1 : IntKind.i64.wrap (((irows .u32 l).length : Int) - 1) = ((l.length - 1 : Nat) : Int) := by rw [irows_len, IntWalk.i64_in _ (by omega)]; omega
  conv => whnf
  refine caseb (fun h1 => ?_) (fun h1 => ?_)
  · have h1' : ((irows .u32 l).length : Int) = 0 := of_decide_eq_true h1
    rw [irows_len] at h1'
    omega
  conv => whnf
  refine ⟨[.val (.int .u32 (x : Int))], ⟨by rw [e1]; omega, by rw [e1]; exact irows_get _ _ hget⟩, ?_⟩
  conv => whnf
  refine ⟨_, Lead_ok x hxlt, ?_⟩
  conv => whnf
  refine ⟨by kernel_rfl, ?_⟩
  conv => whnf
  refine valI ?_
  show IntKind.i64.wrap (IntKind.i64.wrap (32 * ((irows .u32 l).length : Int)) - (32 - (blen x : Int))) = (blen n : Int)
  rw [irows_len, IntWalk.i64_in (32 * (l.length : Int)) (by omega), IntWalk.i64_in _ (by omega)]
  omega

end Go.Proofs.Ytjpefafkejklaaa
