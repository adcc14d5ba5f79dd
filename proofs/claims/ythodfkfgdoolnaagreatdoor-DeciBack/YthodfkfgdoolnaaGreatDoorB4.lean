/- Numbers as texts: powers of ten, the order of a number, its rounding (plain laws). -/
import Derived.Test.YthodfkfgdoolnaaGreatDoorB3
import Derived.ChangeSlices
import Derived.Below
set_option linter.unusedVariables false
namespace Go.Proofs.YthodfkfgdoolnaaGreatDoor
open Go Go.AL NM

theorem r_lt_le {a b c : Rat} (h : a < b) (g : b ≤ c) : a < c := by grind
theorem r_le_lt {a b c : Rat} (h : a ≤ b) (g : b < c) : a < c := by grind
theorem t_add (m n : Int) : (10:Rat)^(m+n) = 10^m * 10^n := Rat.zpow_add (by decide) m n
theorem t_nat (n : Nat) : (10:Rat)^(n:Int) = ((10^n : Nat) : Rat) := by rw [Rat.zpow_natCast, Rat.natCast_pow]; rfl
theorem t_pos (n : Int) : (0:Rat) < 10^n := Rat.zpow_pos (by decide)
theorem t_zero : (10:Rat)^(0:Int) = 1 := Rat.zpow_zero _
theorem t_inv (n : Int) : (10:Rat)^n * 10^(-n) = 1 := by rw [← t_add, Int.add_right_neg, t_zero]
theorem t_ge {k : Int} (h : 0 ≤ k) : (1:Rat) ≤ 10^k := by
  obtain ⟨n, rfl⟩ := Int.eq_ofNat_of_zero_le h
  rw [t_nat]
  exact_mod_cast Nat.one_le_pow n 10 (by decide)
theorem t_mono {m n : Int} (h : m ≤ n) : (10:Rat)^m ≤ 10^n := by
  have h1 := t_ge (k := n - m) (by omega)
  have h2 := t_add m (n - m)
  rw [show m + (n - m) = n by omega] at h2
  have h3 := Rat.mul_le_mul_of_nonneg_left h1 (Rat.le_of_lt (t_pos m))
  rw [Rat.mul_one] at h3
  rw [h2]; exact h3
theorem t_cancel {a b : Rat} {n : Int} : a * 10^n < b * 10^n ↔ a < b := Rat.mul_lt_mul_right (t_pos n)
theorem t_cancel' {a b : Rat} {n : Int} : a * 10^n ≤ b * 10^n ↔ a ≤ b := ⟨fun h => Rat.le_of_mul_le_mul_right h (t_pos n), fun h => Rat.mul_le_mul_of_nonneg_right h (Rat.le_of_lt (t_pos n))⟩
theorem sc_neg (a : Rat) {n : Int} (h : n < 0) : a / ((10^(-n).toNat : Nat) : Rat) = a * 10^n := by
  rw [← t_nat, Int.toNat_of_nonneg (by omega), Rat.div_def, ← Rat.zpow_neg, Int.neg_neg]
theorem sc_pos (a : Rat) {n : Int} (h : 0 ≤ n) : a * ((10^n.toNat : Nat) : Rat) = a * 10^n := by
  rw [← t_nat, Int.toNat_of_nonneg h]

/-- The power of ten of a number's first digit. -/
def Ord (a : Rat) (e : Int) : Prop := (10:Rat)^e ≤ a ∧ a < 10^(e+1)
theorem Ord_uniq {a : Rat} {e f : Int} (h : Ord a e) (g : Ord a f) : e = f := by
  rcases Int.lt_trichotomy e f with hl | rfl | hl
  · have := t_mono (m := e + 1) (n := f) (by omega)
    exact absurd (Rat.le_trans this g.1) (Rat.not_le.2 h.2)
  · rfl
  · have := t_mono (m := f + 1) (n := e) (by omega)
    exact absurd (Rat.le_trans this h.1) (Rat.not_le.2 g.2)
theorem Ord_sc {a : Rat} {e n : Int} (h : Ord a e) : Ord (a * 10^n) (e + n) := by
  refine ⟨?_, ?_⟩
  · rw [t_add]; exact t_cancel'.2 h.1
  · rw [show e + n + 1 = (e + 1) + n by omega, t_add]; exact t_cancel.2 h.2

theorem decL_len_pos (n : Nat) : 1 ≤ (decL n).length := List.length_pos_iff.2 (decL_ne n)
theorem decL_hi (n : Nat) : n < 10 ^ (decL n).length := by
  have h := valL_lt (decL_byt n)
  rwa [valL_decL] at h
theorem decL_lo {n : Nat} (h : 0 < n) : 10 ^ ((decL n).length - 1) ≤ n := by
  rcases Nat.lt_or_ge n (10 ^ ((decL n).length - 1)) with hl | hl
  · have h1 := decL_len_pos n
    by_cases h2 : (decL n).length = 1
    · rw [h2]
      exact h
    · have := decL_len_le (n := n) (k := (decL n).length - 1) (by omega) hl
      omega
  · exact hl
theorem num_pos {a : Rat} (h : 0 < a) : 0 < a.num := by
  have := (Rat.lt_iff 0 a).1 h
  simpa using this
theorem num_den (a : Rat) (h : 0 < a) : a * (a.den : Rat) = ((a.num.natAbs : Nat) : Rat) := by
  have h1 := num_pos h
  have h2 : a = (a.num : Rat) / ((a.den : Int) : Rat) := by rw [← Rat.divInt_eq_div, Rat.num_divInt_den]
  have h3 : ((a.den : Int) : Rat) ≠ 0 := by have := a.den_nz; intro hh; apply this; exact_mod_cast hh
  have h4 : a * ((a.den : Int) : Rat) = (a.num : Rat) := by
    have h5 := Rat.div_mul_cancel (a := (a.num : Rat)) h3
    rwa [← h2] at h5
  have h5 : ((a.den : Int) : Rat) = (a.den : Rat) := rfl
  rw [h5] at h4
  rw [h4]
  rw [show a.num = ((a.num.natAbs : Nat) : Int) by omega]
  rfl
/-- The difference of the digits above and below the line. -/
def dif (a : Rat) : Int := ((decL a.num.natAbs).length : Int) - ((decL a.den).length : Int)
theorem dif_hi {a : Rat} (h : 0 < a) : a < 10 ^ (dif a + 1) := by
  rw [← Rat.not_le]
  intro hl
  have h1 := num_den a h
  have h2 := decL_hi a.num.natAbs
  have h3 := decL_lo (Nat.pos_of_ne_zero a.den_nz)
  have h4 : ((10 ^ ((decL a.den).length - 1) : Nat) : Rat) ≤ (a.den : Rat) := Rat.natCast_le_natCast.2 h3
  rw [← t_nat] at h4
  have h5 := Rat.mul_le_mul_of_nonneg_left h4 (Rat.le_of_lt (t_pos (dif a + 1)))
  have h6 := Rat.mul_le_mul_of_nonneg_right hl (Rat.le_trans (Rat.le_of_lt (t_pos _)) h4)
  rw [← t_add] at h5
  have h7 : dif a + 1 + (((decL a.den).length - 1 : Nat) : Int) = ((decL a.num.natAbs).length : Int) := by
    have := decL_len_pos a.den
    unfold dif; omega
  rw [h7, t_nat] at h5
  rw [h1] at h6
  have h8 : ((10 ^ (decL a.num.natAbs).length : Nat) : Rat) ≤ ((a.num.natAbs : Nat) : Rat) := Rat.le_trans h5 h6
  have := Rat.natCast_le_natCast.1 h8
  omega
theorem dif_lo {a : Rat} (h : 0 < a) : 10 ^ (dif a - 1) ≤ a := by
  refine Rat.not_lt.1 (fun hl => ?_)
  have h1 := num_den a h
  have h0 := num_pos h
  have h2 := decL_lo (n := a.num.natAbs) (by omega)
  have h3 := decL_hi a.den
  have h4 : (a.den : Rat) ≤ ((10 ^ (decL a.den).length : Nat) : Rat) := Rat.natCast_le_natCast.2 (by omega)
  rw [← t_nat] at h4
  have hd : (0 : Rat) < (a.den : Rat) := by
    have := Nat.pos_of_ne_zero a.den_nz
    exact_mod_cast this
  have h5 := Rat.mul_le_mul_of_nonneg_left h4 (Rat.le_of_lt (t_pos (dif a - 1)))
  have h6 := (Rat.mul_lt_mul_right hd).2 hl
  rw [← t_add] at h5
  have h7 : dif a - 1 + ((decL a.den).length : Int) = (((decL a.num.natAbs).length - 1 : Nat) : Int) := by
    have := decL_len_pos a.num.natAbs
    unfold dif; omega
  rw [h7, t_nat] at h5
  rw [h1] at h6
  have h8 : ((10 ^ ((decL a.num.natAbs).length - 1) : Nat) : Rat) ≤ ((a.num.natAbs : Nat) : Rat) := Rat.natCast_le_natCast.2 h2
  exact Rat.lt_irrefl (r_lt_le h6 (Rat.le_trans h5 h8))
/-- The program's order. -/
def ordP (a : Rat) : Int := if a * 10^(-dif a) < 1 then dif a - 1 else dif a
theorem Ord_P {a : Rat} (h : 0 < a) : Ord a (ordP a) := by
  have hi := t_inv (dif a)
  unfold ordP
  split
  · rename_i hl
    refine ⟨dif_lo h, ?_⟩
    rw [show dif a - 1 + 1 = dif a by omega]
    rw [← hi] at hl
    exact t_cancel.1 hl
  · rename_i hl
    refine ⟨?_, dif_hi h⟩
    rw [Rat.not_lt, ← hi] at hl
    exact t_cancel'.1 hl
theorem ordP_bd (a : Rat) {k : Nat} (h1 : (decL a.num.natAbs).length ≤ k) (h2 : (decL a.den).length ≤ k) : -(k : Int) ≤ ordP a ∧ ordP a ≤ k := by
  have := decL_len_pos a.num.natAbs
  have := decL_len_pos a.den
  unfold ordP dif
  split <;> omega
/-- The document's order, where the number is 1 at least. -/
theorem Ord_fl {a : Rat} (h : 0 < a) (hf : a.floor ≠ 0) : Ord a (((decL a.floor.natAbs).length : Int) - 1) := by
  have h0 : 0 ≤ a.floor := Rat.le_floor_iff.2 (by simpa using Rat.le_of_lt h)
  have h1 := decL_lo (n := a.floor.natAbs) (by omega)
  have h2 := decL_hi a.floor.natAbs
  have h3 := decL_len_pos a.floor.natAbs
  refine ⟨?_, ?_⟩
  · rw [show ((decL a.floor.natAbs).length : Int) - 1 = (((decL a.floor.natAbs).length - 1 : Nat) : Int) by omega, t_nat]
    have : ((10 ^ ((decL a.floor.natAbs).length - 1) : Nat) : Int) ≤ a.floor := by omega
    have := Rat.le_floor_iff.1 this
    exact this
  · rw [Int.sub_add_cancel, t_nat]
    have : a.floor < ((10 ^ (decL a.floor.natAbs).length : Nat) : Int) := by omega
    exact Rat.floor_lt_iff.1 this
theorem fl_zero {a : Rat} (h : 0 < a) (hf : a.floor = 0) : a < 1 := by
  have := Rat.floor_lt_iff (a := a) (x := 1)
  exact this.1 (by omega)
theorem Ord_step {a : Rat} {i : Nat} (h : a * 10^(i:Int) < 10) (h1 : ¬ a * 10^(i:Int) < 1) : Ord a (-(i:Int)) := by
  have hi := t_inv (i:Int)
  have hi' := t_inv (-(i:Int))
  rw [Int.neg_neg] at hi'
  refine ⟨?_, ?_⟩
  · rw [Rat.not_lt, ← hi'] at h1
    exact t_cancel'.1 h1
  · rw [show -(i:Int) + 1 = 1 + -(i:Int) by omega, t_add]
    refine (t_cancel (n := (i : Int))).1 ?_
    rw [Rat.mul_assoc, hi', Rat.mul_one]
    exact h
theorem lo_den {a : Rat} (h : 0 < a) : ¬ a * 10^((decL a.den).length : Int) < 1 := by
  intro hl
  have h1 := num_den a h
  have h0 := num_pos h
  have h3 := decL_hi a.den
  rw [t_nat] at hl
  have h4 : (a.den : Rat) ≤ ((10 ^ (decL a.den).length : Nat) : Rat) := Rat.natCast_le_natCast.2 (by omega)
  have h5 := Rat.mul_le_mul_of_nonneg_left h4 (Rat.le_of_lt h)
  rw [h1] at h5
  have h6 : ((1 : Nat) : Rat) ≤ ((a.num.natAbs : Nat) : Rat) := Rat.natCast_le_natCast.2 (by omega)
  exact Rat.lt_irrefl (r_lt_le hl (Rat.le_trans h6 h5))
theorem t_lt {a : Rat} {i : Nat} (h : a * 10^(i:Int) < 1) : a * 10^((i+1 : Nat):Int) < 10 := by
  rw [show ((i+1 : Nat):Int) = (i:Int) + 1 by omega, t_add, ← Rat.mul_assoc]
  have := (t_cancel (n := 1)).2 h
  rw [Rat.one_mul] at this
  rw [Rat.zpow_one] at this ⊢
  exact this

/-- A number brought to the next whole one (up, from a half on). -/
def rnd (a : Rat) : Nat := a.num.natAbs / a.den + (if a.den ≤ 2 * (a.num.natAbs % a.den) then 1 else 0)
theorem half_ne : (2 : Rat) ≠ 0 := by decide
theorem rnd_floor {a : Rat} (h : 0 < a) : (a + 1 / 2).floor = (rnd a : Int) := by
  have h1 := num_den a h
  have hd : (0 : Rat) < (a.den : Rat) := by
    have := Nat.pos_of_ne_zero a.den_nz
    exact_mod_cast this
  have hq := Nat.div_add_mod a.num.natAbs a.den
  have hr := Nat.mod_lt a.num.natAbs (Nat.pos_of_ne_zero a.den_nz)
  have h2d : (0 : Rat) < 2 * (a.den : Rat) := Rat.mul_pos (by decide) hd
  have key : (a + 1/2) * (2 * (a.den : Rat)) = ((2 * a.num.natAbs + a.den : Nat) : Rat) := by
    have : ((2 * a.num.natAbs + a.den : Nat) : Rat) = 2 * ((a.num.natAbs : Nat) : Rat) + (a.den : Rat) := by
      rw [Rat.natCast_add, Rat.natCast_mul]; rfl
    rw [this, ← h1]
    generalize (a.den : Rat) = d
    grind
  have lo : rnd a * (2 * a.den) ≤ 2 * a.num.natAbs + a.den := by
    unfold rnd
    generalize a.num.natAbs / a.den = q at *
    generalize a.num.natAbs % a.den = r at *
    rw [← hq]
    generalize a.den = d at *
    have e : q * (2 * d) = 2 * (d * q) := by rw [Nat.mul_left_comm, Nat.mul_comm q d]
    split
    · rw [Nat.add_mul, e]; omega
    · rw [Nat.add_zero, e]; omega
  have hi : 2 * a.num.natAbs + a.den < (rnd a + 1) * (2 * a.den) := by
    unfold rnd
    generalize a.num.natAbs / a.den = q at *
    generalize a.num.natAbs % a.den = r at *
    rw [← hq]
    generalize a.den = d at *
    have e : q * (2 * d) = 2 * (d * q) := by rw [Nat.mul_left_comm, Nat.mul_comm q d]
    split
    · rw [Nat.add_mul, Nat.add_mul, e]; omega
    · rw [Nat.add_zero, Nat.add_mul, e]; omega
  have A : ((rnd a : Int)) ≤ (a + 1/2).floor := by
    rw [Rat.le_floor_iff]
    refine Rat.le_of_mul_le_mul_right ?_ h2d
    rw [key]
    have : ((rnd a * (2 * a.den) : Nat) : Rat) ≤ ((2 * a.num.natAbs + a.den : Nat) : Rat) := Rat.natCast_le_natCast.2 lo
    rw [Rat.natCast_mul, Rat.natCast_mul] at this
    exact this
  have B : (a + 1/2).floor < ((rnd a + 1 : Nat) : Int) := by
    rw [Rat.floor_lt_iff]
    refine (Rat.mul_lt_mul_right h2d).1 ?_
    rw [key]
    have : ((2 * a.num.natAbs + a.den : Nat) : Rat) < (((rnd a + 1) * (2 * a.den) : Nat) : Rat) := Rat.natCast_lt_natCast.2 hi
    rw [Rat.natCast_mul, Rat.natCast_mul 2 a.den] at this
    exact this
  omega
theorem rnd_whole {a : Rat} (h : a.den = 1) : rnd a = a.num.natAbs := by
  unfold rnd
  rw [h, Nat.mod_one]
  simp
theorem rnd_bd {a : Rat} {k : Nat} (h1 : ((10^k : Nat) : Rat) ≤ a) (h2 : a < ((10^(k+1) : Nat) : Rat)) : 10^k ≤ rnd a ∧ rnd a ≤ 10^(k+1) := by
  have h0 : (0 : Rat) < a := r_lt_le (by have := Nat.pow_pos (n := k) (show 0 < 10 by decide); exact_mod_cast this) h1
  have hf := rnd_floor h0
  have A : ((10^k : Nat) : Int) ≤ (a + 1/2).floor := by
    rw [Rat.le_floor_iff]
    refine Rat.le_trans h1 ?_
    grind
  have B : (a + 1/2).floor < ((10^(k+1) + 1 : Nat) : Int) := by
    rw [Rat.floor_lt_iff]
    have e : (((10^(k+1) + 1 : Nat) : Int) : Rat) = ((10^(k+1) : Nat) : Rat) + 1 := by
      show ((10^(k+1) + 1 : Nat) : Rat) = _
      rw [Rat.natCast_add]; rfl
    rw [e]
    generalize ((10^(k+1) : Nat) : Rat) = x at *
    grind
  omega

end Go.Proofs.YthodfkfgdoolnaaGreatDoor

/- Contracts of ratios: small functions, and how a number is made. -/
set_option linter.unusedVariables false
namespace Go.Proofs.YthodfkfgdoolnaaGreatDoor
open Go Go.AL NM

/-- A ratio: as the program has it, as the document's answer has it. -/
def RA (t : Int) (d : Nat) : AV := .agg [.sl 1 (irows .u32 (limbs t.natAbs)) false, .val (.bool (decide (t < 0))), .sl 1 (irows .u32 (limbs d)) false]
def RN (t : Int) (d : Nat) : AV := .agg [.val (.bool (decide (t < 0))), .val (.string (decS t.natAbs)), .val (.string (decS d))]
theorem RA_noid (t : Int) (d : Nat) : NoId (RA t d) := .agg _ (noid3 (noid_sl _ _ _) (.val _) (noid_sl _ _ _))
theorem RN_noid (t : Int) (d : Nat) : NoId (RN t d) := .agg _ (noid3 (.val _) (.val _) (.val _))
/-- What stands below the line: 1 if there is nothing. -/
def dn (d : Nat) : Nat := if d = 0 then 1 else d
theorem dn_pos (d : Nat) : dn d ≠ 0 := by unfold dn; split <;> omega
theorem dn_self {d : Nat} (h : d ≠ 0) : dn d = d := if_neg h
theorem dn_den (q : Rat) : dn q.den = q.den := if_neg q.den_nz
theorem agg3 {a b c d e f : AV} (h1 : a = d) (h2 : b = e) (h3 : c = f) : AV.agg [a, b, c] = AV.agg [d, e, f] := by rw [h1, h2, h3]

theorem down_ok (t : Int) (d : Nat) : AC Tryz.prog 47 [RA t d] (.pure (natA (dn d))) := by
  refine AC.of_body TTok Tryz.func47 rfl (enter_of Tryz.func47 (by kernel_rfl) (by kernel_rfl)) (noid1 (RA_noid t d)) (natA_noid _) (Nat.le_of_ble_eq_true rfl) ?_
  have hz := Zero_ok d
  have h1 := Of_ok 1 (by decide)
  unfold dn
  by_cases h : d = 0
  · rw [decide_eq_true h] at hz
    rw [if_pos h]
    unfold RA natA at *
    repeat
      conv => whnf
      first
        | refine ⟨_, by assumption, ?_⟩
        | refine ⟨(Nat.le_of_ble_eq_true rfl), _, by assumption, ?_⟩
        | refine ⟨by kernel_rfl, ?_⟩
        | exact rfl
        | exact ⟨Nat.le_of_ble_eq_true rfl, rfl⟩
        | refine ⟨by decide, ?_⟩
  · rw [decide_eq_false h] at hz
    rw [if_neg h]
    unfold RA natA at *
    repeat
      conv => whnf
      first
        | refine ⟨_, by assumption, ?_⟩
        | refine ⟨(Nat.le_of_ble_eq_true rfl), _, by assumption, ?_⟩
        | refine ⟨by kernel_rfl, ?_⟩
        | exact rfl
        | exact ⟨Nat.le_of_ble_eq_true rfl, rfl⟩
        | refine ⟨by decide, ?_⟩
theorem under_ok (t : Int) (d : Nat) : AC Tryz.prog 111 [RA t d] (.pure (WI (dn d : Int))) := by
  refine AC.of_body TTok Tryz.func111 rfl (enter_of Tryz.func111 (by kernel_rfl) (by kernel_rfl)) (noid1 (RA_noid t d)) (WI_noid _) (Nat.le_of_ble_eq_true rfl) ?_
  have hD := down_ok t d
  have hO := WOf_ok false (dn d)
  rw [show sgn false (dn d) = (dn d : Int) from rfl] at hO
  unfold RA WI natA at *
  repeat
    conv => whnf
    first
      | refine ⟨_, by assumption, ?_⟩
      | refine ⟨(Nat.le_of_ble_eq_true rfl), _, by assumption, ?_⟩
      | refine ⟨by kernel_rfl, ?_⟩
      | exact rfl
      | exact ⟨Nat.le_of_ble_eq_true rfl, rfl⟩
      | refine ⟨by decide, ?_⟩
theorem New_ok (x y : Int) (hy : y ≠ 0) (lx : (limbs x.natAbs).length ≤ 100000) (ly : (limbs y.natAbs).length ≤ 100000) :
    AC Tryz.prog 51 [WI x, WI y] (.pure (.tup [RA (Rat.divInt x y).num (Rat.divInt x y).den, .val (.bool true)])) := by
  refine AC.of_body TTok Tryz.func51 rfl (enter_of Tryz.func51 (by kernel_rfl) (by kernel_rfl)) (noid2 (WI_noid x) (WI_noid y)) (.tup _ (noid2 (RA_noid _ _) (.val _))) (Nat.le_of_ble_eq_true rfl) ?_
  have hz := Zero_ok y.natAbs
  rw [decide_eq_false (show ¬ y.natAbs = 0 by omega)] at hz
  have hS := SizeW_ok y
  have hG := Gcd_ok x.natAbs y.natAbs (by omega) (by omega)
  have hg : 0 < Nat.gcd x.natAbs y.natAbs := Nat.gcd_pos_of_pos_right _ (by omega)
  have lg := limbs_len_mono (Nat.gcd_le_right (n := y.natAbs) x.natAbs (by omega))
  have hD1 := DivMod_ok x.natAbs (Nat.gcd x.natAbs y.natAbs) hg (by omega) (by omega)
  have hD2 := DivMod_ok y.natAbs (Nat.gcd x.natAbs y.natAbs) hg (by omega) (by omega)
  have hN1 := NegW_ok x
  have hN2 := NegW_ok y
  have hO := WOf_ok (!(decide (x < 0) == decide (y < 0))) (x.natAbs / Nat.gcd x.natAbs y.natAbs)
  rw [← sgn_num x y hy] at hO
  rw [← sgn_den x y hy] at hD2
  clear hg lg lx ly hy
  revert hG hD1 hD2 hO
  generalize Nat.gcd x.natAbs y.natAbs = g
  generalize x.natAbs / g = a
  generalize x.natAbs % g = b
  generalize y.natAbs % g = c
  generalize (Rat.divInt x y).num = n
  generalize (Rat.divInt x y).den = d
  intro hG hD1 hD2 hO
  unfold RA WI natA at *
  repeat
    conv => whnf
    first
      | refine ⟨_, by assumption, ?_⟩
      | refine ⟨(Nat.le_of_ble_eq_true rfl), _, by assumption, ?_⟩
      | refine ⟨by kernel_rfl, ?_⟩
      | exact rfl
      | exact ⟨Nat.le_of_ble_eq_true rfl, rfl⟩
      | refine ⟨by decide, ?_⟩
theorem New_zero (x : Int) : AC Tryz.prog 51 [WI x, WI 0] (.pure (.tup [RA 0 0, .val (.bool false)])) := by
  have e1 : AVle (.agg [.sl 0 [] true, .val (.bool false), .sl 0 [] true]) (RA 0 0) := by
    unfold RA
    rw [show (0 : Int).natAbs = 0 from rfl, limbs_zero]
    exact .agg _ _ rfl (fun i a b ha hb => by
      match i with
      | 0 => cases ha; cases hb; exact .sl _ _ _
      | 1 => cases ha; cases hb; exact .refl _
      | 2 => cases ha; cases hb; exact .sl _ _ _
      | (i + 3) => cases ha)
  have e2 : NoId (.agg [.sl 0 [] true, .val (.bool false), .sl 0 [] true]) := .agg _ (noid3 (.sl _ _ _ (fun r hr => (nomatch hr))) (.val _) (.sl _ _ _ (fun r hr => (nomatch hr))))
  refine AC.le_res (v := .tup [.agg [.sl 0 [] true, .val (.bool false), .sl 0 [] true], .val (.bool false)]) ?_ (.tup2 e1 (.refl _)) (.tup _ (noid2 (RA_noid _ _) (.val _)))
  refine AC.of_body TTok Tryz.func51 rfl (enter_of Tryz.func51 (by kernel_rfl) (by kernel_rfl)) (noid2 (WI_noid x) (WI_noid 0)) (.tup _ (noid2 e2 (.val _))) (Nat.le_of_ble_eq_true rfl) ?_
  have hz := Zero_ok (0 : Int).natAbs
  rw [decide_eq_true (show (0 : Int).natAbs = 0 from rfl)] at hz
  unfold WI natA at *
  repeat
    conv => whnf
    first
      | refine ⟨_, by assumption, ?_⟩
      | refine ⟨(Nat.le_of_ble_eq_true rfl), _, by assumption, ?_⟩
      | refine ⟨by kernel_rfl, ?_⟩
      | exact rfl
      | exact ⟨Nat.le_of_ble_eq_true rfl, rfl⟩
      | refine ⟨by decide, ?_⟩
theorem RatFrom_ok (n : Int) (hn : -9223372036854775808 ≤ n ∧ n < 9223372036854775808) : AC Tryz.prog 18 [.val (.int .i64 n)] (.pure (RA n 1)) := by
  refine AC.of_body TTok Tryz.func18 rfl (enter_of Tryz.func18 (by kernel_rfl) (by kernel_rfl)) (noid1 (.val _)) (RA_noid _ _) (Nat.le_of_ble_eq_true rfl) ?_
  have hF := From_ok n hn
  have h1 := Of_ok 1 (by decide)
  unfold RA WI natA at *
  repeat
    conv => whnf
    first
      | refine ⟨_, by assumption, ?_⟩
      | refine ⟨(Nat.le_of_ble_eq_true rfl), _, by assumption, ?_⟩
      | refine ⟨by kernel_rfl, ?_⟩
      | exact rfl
      | exact ⟨Nat.le_of_ble_eq_true rfl, rfl⟩
      | refine ⟨by decide, ?_⟩
theorem Whole_ok (n : Int) : AC Tryz.prog 37 [WI n] (.pure (RA n 1)) := by
  refine AC.of_body TTok Tryz.func37 rfl (enter_of Tryz.func37 (by kernel_rfl) (by kernel_rfl)) (noid1 (WI_noid n)) (RA_noid _ _) (Nat.le_of_ble_eq_true rfl) ?_
  have h1 := Of_ok 1 (by decide)
  unfold RA WI natA at *
  repeat
    conv => whnf
    first
      | refine ⟨_, by assumption, ?_⟩
      | refine ⟨(Nat.le_of_ble_eq_true rfl), _, by assumption, ?_⟩
      | refine ⟨by kernel_rfl, ?_⟩
      | exact rfl
      | exact ⟨Nat.le_of_ble_eq_true rfl, rfl⟩
      | refine ⟨by decide, ?_⟩
theorem Num_ok (t : Int) (d : Nat) (lt : (limbs t.natAbs).length ≤ 100000) (ld : (limbs (dn d)).length ≤ 100000) : AC Tryz.prog 14 [RA t d] (.pure (RN t (dn d))) := by
  refine AC.of_body TTok Tryz.func14 rfl (enter_of Tryz.func14 (by kernel_rfl) (by kernel_rfl)) (noid1 (RA_noid t d)) (RN_noid _ _) (Nat.le_of_ble_eq_true rfl) ?_
  have hN := NegW_ok t
  have hT := Text_ok t.natAbs (by omega)
  have hD := down_ok t d
  have hT2 := Text_ok (dn d) (by omega)
  unfold RA RN WI natA at *
  repeat
    conv => whnf
    first
      | refine ⟨_, by assumption, ?_⟩
      | refine ⟨(Nat.le_of_ble_eq_true rfl), _, by assumption, ?_⟩
      | refine ⟨by kernel_rfl, ?_⟩
      | exact rfl
      | exact ⟨Nat.le_of_ble_eq_true rfl, rfl⟩
      | refine ⟨by decide, ?_⟩

end Go.Proofs.YthodfkfgdoolnaaGreatDoor

/- Contracts of ratios: what is told of one, sums, products, quotients. -/
set_option linter.unusedVariables false
namespace Go.Proofs.YthodfkfgdoolnaaGreatDoor
open Go Go.AL NM

theorem RTop_ok (t : Int) (d : Nat) : AC Tryz.prog 56 [RA t d] (.pure (WI t)) := by
  refine AC.of_body TTok Tryz.func56 rfl (enter_of Tryz.func56 (by kernel_rfl) (by kernel_rfl)) (noid1 (RA_noid t d)) (WI_noid _) (Nat.le_of_ble_eq_true rfl) ?_
  unfold RA WI at *
  repeat
    conv => whnf
    first
      | refine ⟨_, by assumption, ?_⟩
      | refine ⟨(Nat.le_of_ble_eq_true rfl), _, by assumption, ?_⟩
      | refine ⟨by kernel_rfl, ?_⟩
      | exact rfl
      | exact ⟨Nat.le_of_ble_eq_true rfl, rfl⟩
      | refine ⟨by decide, ?_⟩
theorem RBot_ok (t : Int) (d : Nat) : AC Tryz.prog 58 [RA t d] (.pure (natA (dn d))) := by
  refine AC.of_body TTok Tryz.func58 rfl (enter_of Tryz.func58 (by kernel_rfl) (by kernel_rfl)) (noid1 (RA_noid t d)) (natA_noid _) (Nat.le_of_ble_eq_true rfl) ?_
  have hD := down_ok t d
  unfold RA natA at *
  repeat
    conv => whnf
    first
      | refine ⟨_, by assumption, ?_⟩
      | refine ⟨(Nat.le_of_ble_eq_true rfl), _, by assumption, ?_⟩
      | refine ⟨by kernel_rfl, ?_⟩
      | exact rfl
      | exact ⟨Nat.le_of_ble_eq_true rfl, rfl⟩
      | refine ⟨by decide, ?_⟩
theorem RaSign_ok (t : Int) (d : Nat) : AC Tryz.prog 19 [RA t d] (.pure (.val (.int .i64 (sigW t)))) := by
  refine AC.of_body TTok Tryz.func19 rfl (enter_of Tryz.func19 (by kernel_rfl) (by kernel_rfl)) (noid1 (RA_noid t d)) (.val _) (Nat.le_of_ble_eq_true rfl) ?_
  have hD := SignW_ok t
  revert hD
  generalize sigW t = s
  intro hD
  unfold RA WI at *
  repeat
    conv => whnf
    first
      | refine ⟨_, by assumption, ?_⟩
      | refine ⟨(Nat.le_of_ble_eq_true rfl), _, by assumption, ?_⟩
      | refine ⟨by kernel_rfl, ?_⟩
      | exact rfl
      | exact ⟨Nat.le_of_ble_eq_true rfl, rfl⟩
      | refine ⟨by decide, ?_⟩
def qLimbs (t : Int) (d : Nat) : Nat := max (limbs t.natAbs).length (limbs d).length
def fitQ (t : Int) (d : Nat) : Prop := d = 1 ∧ fit t
instance (t : Int) (d : Nat) : Decidable (fitQ t d) := inferInstanceAs (Decidable (_ ∧ _))
theorem QMinus_ok (t : Int) (d : Nat) : AC Tryz.prog 20 [RA t d] (.pure (RA (-t) (dn d))) := by
  refine AC.of_body TTok Tryz.func20 rfl (enter_of Tryz.func20 (by kernel_rfl) (by kernel_rfl)) (noid1 (RA_noid t d)) (RA_noid _ _) (Nat.le_of_ble_eq_true rfl) ?_
  have hD := down_ok t d
  have h1 := Minus_ok t
  revert h1
  generalize -t = e
  intro h1
  unfold RA WI natA at *
  repeat
    conv => whnf
    first
      | refine ⟨_, by assumption, ?_⟩
      | refine ⟨(Nat.le_of_ble_eq_true rfl), _, by assumption, ?_⟩
      | refine ⟨by kernel_rfl, ?_⟩
      | exact rfl
      | exact ⟨Nat.le_of_ble_eq_true rfl, rfl⟩
      | refine ⟨by decide, ?_⟩
section
variable (p q : Rat) (i j : Nat) (hi : dn i = p.den) (hj : dn j = q.den) (lp : Sz p 1000) (lq : Sz q 1000)
include hi hj lp lq

theorem QCmp_ok : AC Tryz.prog 90 [RA p.num i, RA q.num j] (.pure (.val (.int .i64 (cmpQ p q)))) := by
  refine AC.of_body TTok Tryz.func90 rfl (enter_of Tryz.func90 (by kernel_rfl) (by kernel_rfl)) (noid2 (RA_noid _ _) (RA_noid _ _)) (.val _) (Nat.le_of_ble_eq_true rfl) ?_
  have m1 := limbs_num_den p q
  have m2 := limbs_num_den q p
  have := lp.1; have := lp.2; have := lq.1; have := lq.2
  have u1 := under_ok p.num i
  have u2 := under_ok q.num j
  rw [hi] at u1
  rw [hj] at u2
  have t1 := Times1 p.num (q.den : Int) (by omega) (by rw [Int.natAbs_natCast]; omega) (by omega)
  have t2 := Times1 q.num (p.den : Int) (by omega) (by rw [Int.natAbs_natCast]; omega) (by omega)
  have hC := CmpW_ok (p.num * (q.den : Int)) (q.num * (p.den : Int)) (by omega) (by omega)
  rw [cmpZ_Q] at hC
  revert u1 u2 t1 t2 hC
  generalize p.num * (q.den : Int) = x
  generalize q.num * (p.den : Int) = y
  generalize (p.den : Int) = a
  generalize (q.den : Int) = b
  generalize cmpQ p q = c
  intro u1 u2 t1 t2 hC
  unfold RA WI rowW at *
  repeat
    conv => whnf
    first
      | refine ⟨_, by assumption, ?_⟩
      | refine ⟨(Nat.le_of_ble_eq_true rfl), _, by assumption, ?_⟩
      | refine ⟨by kernel_rfl, ?_⟩
      | exact rfl
      | exact ⟨Nat.le_of_ble_eq_true rfl, rfl⟩
      | refine ⟨by decide, ?_⟩
theorem By_ok (h0 : q ≠ 0) : AC Tryz.prog 83 [RA p.num i, RA q.num j] (.pure (.tup [RA (p / q).num (p / q).den, .val (.bool true)])) := by
  refine AC.of_body TTok Tryz.func83 rfl (enter_of Tryz.func83 (by kernel_rfl) (by kernel_rfl)) (noid2 (RA_noid _ _) (RA_noid _ _)) (.tup _ (noid2 (RA_noid _ _) (.val _))) (Nat.le_of_ble_eq_true rfl) ?_
  have m1 := limbs_num_den p q
  have m2 := limbs_num_den q p
  rw [Int.mul_comm] at m2
  have := lp.1; have := lp.2; have := lq.1; have := lq.2
  have u1 := under_ok p.num i
  have u2 := under_ok q.num j
  rw [hi] at u1
  rw [hj] at u2
  have t1 := Times1 p.num (q.den : Int) (by omega) (by rw [Int.natAbs_natCast]; omega) (by omega)
  have t2 := Times1 (p.den : Int) q.num (by rw [Int.natAbs_natCast]; omega) (by omega) (by omega)
  have hC := New_ok (p.num * (q.den : Int)) ((p.den : Int) * q.num) (Int.mul_ne_zero (by have := p.den_nz; omega) (num_ne h0)) (by omega) (by omega)
  rw [q_div] at hC
  revert u1 u2 t1 t2 hC
  generalize p.num * (q.den : Int) = x
  generalize (p.den : Int) * q.num = y
  generalize (p.den : Int) = a
  generalize (q.den : Int) = b
  generalize p / q = c
  intro u1 u2 t1 t2 hC
  unfold RA WI rowW at *
  repeat
    conv => whnf
    first
      | refine ⟨_, by assumption, ?_⟩
      | refine ⟨(Nat.le_of_ble_eq_true rfl), _, by assumption, ?_⟩
      | refine ⟨by kernel_rfl, ?_⟩
      | exact rfl
      | exact ⟨Nat.le_of_ble_eq_true rfl, rfl⟩
      | refine ⟨by decide, ?_⟩
end
theorem By_zero (p : Rat) (i j : Nat) (hi : dn i = p.den) (hj : dn j = (0 : Rat).den) (lp : Sz p 1000) : AC Tryz.prog 83 [RA p.num i, RA (0 : Rat).num j] (.pure (.tup [RA 0 0, .val (.bool false)])) := by
  refine AC.of_body TTok Tryz.func83 rfl (enter_of Tryz.func83 (by kernel_rfl) (by kernel_rfl)) (noid2 (RA_noid _ _) (RA_noid _ _)) (.tup _ (noid2 (RA_noid _ _) (.val _))) (Nat.le_of_ble_eq_true rfl) ?_
  have m1 := limbs_num_den p 0
  have l1 := limbs_1
  have := lp.1; have := lp.2
  have u1 := under_ok p.num i
  have u2 := under_ok (0 : Rat).num j
  rw [hi] at u1
  rw [hj] at u2
  have l0 : (limbs (0 : Rat).num.natAbs).length = 0 := by show (limbs 0).length = 0; rw [limbs_zero]; rfl
  have l2 : (limbs (0 : Rat).den).length = 1 := l1
  have t1 := Times1 p.num ((0 : Rat).den : Int) (by omega) (by rw [Int.natAbs_natCast]; omega) (by omega)
  have t2 := Times1 (p.den : Int) (0 : Rat).num (by rw [Int.natAbs_natCast]; omega) (by omega) (by rw [Rat.zero_num, Int.mul_zero]; show (limbs 0).length < _; rw [limbs_zero]; decide)
  rw [show (p.den : Int) * (0 : Rat).num = 0 by rw [Rat.zero_num, Int.mul_zero]] at t2
  have hC := New_zero (p.num * ((0 : Rat).den : Int))
  revert u1 u2 t1 t2 hC
  generalize p.num * ((0 : Rat).den : Int) = x
  generalize (p.den : Int) = a
  generalize ((0 : Rat).den : Int) = b
  generalize (0 : Rat).num = c
  intro u1 u2 t1 t2 hC
  unfold RA WI rowW at *
  repeat
    conv => whnf
    first
      | refine ⟨_, by assumption, ?_⟩
      | refine ⟨(Nat.le_of_ble_eq_true rfl), _, by assumption, ?_⟩
      | refine ⟨by kernel_rfl, ?_⟩
      | exact rfl
      | exact ⟨Nat.le_of_ble_eq_true rfl, rfl⟩
      | refine ⟨by decide, ?_⟩

end Go.Proofs.YthodfkfgdoolnaaGreatDoor

/- Contracts of ratios: sums and products of many, whole numbers around one, rests. -/
set_option linter.unusedVariables false
namespace Go.Proofs.YthodfkfgdoolnaaGreatDoor
open Go Go.AL NM

/-- A ratio among those that are handed in, with what stands below its line. -/
def rowR (p : Rat × Nat) : List AV := [.sl 1 (irows .u32 (limbs p.1.num.natAbs)) false, .val (.bool (decide (p.1.num < 0))), .sl 1 (irows .u32 (limbs p.2)) false]
theorem rowR_noid (p : Rat × Nat) : ∀ x ∈ rowR p, NoId x := noid3 (noid_sl _ _ _) (.val _) (noid_sl _ _ _)
theorem rowsR_noid (l : List (Rat × Nat)) : ∀ r ∈ l.map rowR, ∀ x ∈ r, NoId x := by
  intro r hr
  obtain ⟨b, _, rfl⟩ := List.mem_map.1 hr
  exact rowR_noid b

section
variable (l : List (Rat × Nat)) (f : Nat → Rat) (g : Nat → Nat) (hl : l.length < 10000) (hl1 : ∀ k (h : k < l.length), dn (l[k]).2 = (l[k]).1.den) (hg : ∀ k, k ≤ l.length → dn (g k) = (f k).den) (hg1 : ∀ k, k < l.length → g (k + 1) = (f (k + 1)).den)
  (hb : ∀ k, k ≤ l.length → Sz (f k) 1000) (hbl : ∀ k (h : k < l.length), Sz (l[k]).1 1000)
include hl hl1 hg hg1 hb hbl
theorem QTimes_ok (hf : ∀ k (h : k < l.length), f (k + 1) = f k * (l[k]).1) : AC Tryz.prog 82 [RA (f 0).num (g 0), .sl 3 (l.map rowR) false] (.pure (RA (f l.length).num (g l.length))) := by
  refine AC.of_body TTok Tryz.func82 rfl (enter_of Tryz.func82 (by kernel_rfl) (by kernel_rfl)) (noid2 (RA_noid _ _) (.sl _ _ _ (rowsR_noid l))) (RA_noid _ _) (Nat.le_of_ble_eq_true rfl) ?_
  unfold RA
  conv => whnf
  refine SW.loopM TTok (fun k : Nat => [(2, .lp 0 0), (4, .lp 8 0), (7, .sl 3 (l.map rowR) false), (8, .val (.int .i64 l.length)), (9, .val (.int .i64 k))])
    (fun k => [(0, .cells 3 [rowR (f k, g k)]), (8, .cells 3 [[.sl 0 [] true, .val (.bool false), .sl 0 [] true]])]) 40 31 rfl (fun k => l.length - k) (fun k => k ≤ l.length) 0 [] (Nat.zero_le _)
    ⟨⟨rfl, rfl⟩, ⟨rfl, rfl⟩, ⟨rfl, rfl⟩, ⟨valI (by simp), rfl⟩, ⟨rfl, rfl⟩, trivial⟩ ⟨⟨rfl, .inl ⟨rfl, ?_⟩⟩, ⟨rfl, .inr ⟨rfl, rfl⟩⟩, trivial⟩ rfl ?_
  · intro r hr; simp at hr; subst hr; exact rowR_noid _
  intro k hk
  have hk : k ≤ l.length := hk
  conv => whnf
  refine caseb (fun h1 => ?_) (fun h1 => ?_)
  · have h1' : (k : Int) < (l.length : Int) := of_decide_eq_true h1
    have hlt : k < l.length := by omega
    obtain ⟨q, hq⟩ : ∃ q, q = l[k] := ⟨_, rfl⟩
    have hj := hl1 k hlt
    have lq := hbl k hlt
    have hF := hf k hlt
    rw [← hq] at hj lq hF
    obtain ⟨p, hp⟩ : ∃ p, p = f k := ⟨_, rfl⟩
    have hi := hg k hk
    have lp := hb k hk
    have hg' := hg1 k hlt
    rw [← hp] at hi lp hF
    rw [hF] at hg'
    have m3 := limbs_den_mul p q.1
    have m4 := limbs_abs_mul p.num q.1.num
    have := lp.1; have := lp.2; have := lq.1; have := lq.2
    have u1 := under_ok p.num (g k)
    have u2 := under_ok q.1.num q.2
    rw [hi] at u1
    rw [hj] at u2
    have t1 := Times1 p.num q.1.num (by omega) (by omega) (by omega)
    have t3 := Times1 (p.den : Int) (q.1.den : Int) (by rw [Int.natAbs_natCast]; omega) (by rw [Int.natAbs_natCast]; omega) (by omega)
    have hN := New_ok (p.num * q.1.num) ((p.den : Int) * (q.1.den : Int)) (den_mul_ne p q.1) (by omega) (by omega)
    rw [q_mul] at hN
    have hrow : (l.map rowR)[k]? = some (rowR q) := by rw [List.getElem?_map, List.getElem?_eq_getElem hlt, hq]; rfl
    have hr2 : rowR (f (k + 1), g (k + 1)) = [.sl 1 (irows .u32 (limbs (p * q.1).num.natAbs)) false, .val (.bool (decide ((p * q.1).num < 0))), .sl 1 (irows .u32 (limbs (p * q.1).den)) false] := by
      unfold rowR; rw [hF, hg']
    clear hF hg' hf hg hg1 hl1 hb hbl m3 m4
    revert t1 t3 hN hr2
    generalize p.num * q.1.num = x
    generalize (p.den : Int) * (q.1.den : Int) = w
    generalize p * q.1 = s
    intro t1 t3 hN hr2
    unfold RA WI rowW at *
    conv => whnf
    refine ⟨rowR q, ⟨by omega, by rw [show ((k : Int)).toNat = k by omega]; exact hrow⟩, ?_⟩
    subst hp
    conv => whnf
    refine ⟨(Nat.le_of_ble_eq_true rfl), _, t1, ?_⟩
    conv => whnf
    refine ⟨_, u1, ?_⟩
    conv => whnf
    refine ⟨_, u2, ?_⟩
    conv => whnf
    refine ⟨(Nat.le_of_ble_eq_true rfl), _, t3, ?_⟩
    conv => whnf
    refine ⟨_, hN, ?_⟩
    conv => whnf
    refine ⟨by kernel_rfl, ?_⟩
    conv => whnf
    refine ⟨k + 1, [], (by show l.length - (k + 1) < l.length - k; omega), (by show k + 1 ≤ l.length; omega), ⟨⟨rfl, rfl⟩, ⟨rfl, rfl⟩, ⟨rfl, rfl⟩, ⟨rfl, rfl⟩, ⟨valI ?_, rfl⟩, trivial⟩, ⟨⟨rfl, .inl ⟨?_, fun r hr => by simp at hr; subst hr; exact rowR_noid _⟩⟩, ⟨rfl, .inr ⟨rfl, rfl⟩⟩, trivial⟩, rfl⟩
    · show IntKind.i64.wrap ((k : Int) + 1) = ((k + 1 : Nat) : Int)
      rw [IntWalk.i64_in _ (by omega)]; omega
    · show _ = some (LB.cells 3 [rowR (f (k + 1), g (k + 1))])
      rw [hr2]; rfl
  · have h1' : ¬ (k : Int) < (l.length : Int) := of_decide_eq_false h1
    have hkl : k = l.length := by omega
    conv => whnf
    show RA (f k).num (g k) = RA (f l.length).num (g l.length)
    rw [hkl]
end

theorem QTimes_nil (t : Int) (d : Nat) : AC Tryz.prog 82 [RA t d, .sl 0 [] true] (.pure (RA t d)) := by
  refine AC.of_body TTok Tryz.func82 rfl (enter_of Tryz.func82 (by kernel_rfl) (by kernel_rfl)) (noid2 (RA_noid _ _) (.sl _ _ _ (fun r hr => (nomatch hr)))) (RA_noid _ _) (Nat.le_of_ble_eq_true rfl) ?_
  conv => whnf
  refine SW.loopM TTok (fun k : Nat => [(2, .lp 0 0), (4, .lp 8 0), (8, .val (.int .i64 0)), (9, .val (.int .i64 0))])
    (fun k => [(0, .cells 3 [[.sl 1 (irows .u32 (limbs t.natAbs)) false, .val (.bool (decide (t < 0))), .sl 1 (irows .u32 (limbs d)) false]]), (8, .cells 3 [[.sl 0 [] true, .val (.bool false), .sl 0 [] true]])]) 40 31 rfl (fun k => k) (fun k => True) 0 [] trivial
    ⟨⟨rfl, rfl⟩, ⟨rfl, rfl⟩, ⟨rfl, rfl⟩, ⟨rfl, rfl⟩, trivial⟩ ⟨⟨rfl, .inr ⟨rfl, rfl⟩⟩, ⟨rfl, .inr ⟨rfl, rfl⟩⟩, trivial⟩ rfl ?_
  intro k hk
  conv => whnf
  exact rfl

theorem QTimes1 (p q : Rat) (i j : Nat) (hi : dn i = p.den) (hj : dn j = q.den) (lp : Sz p 400) (lq : Sz q 400) : AC Tryz.prog 82 [RA p.num i, .sl 3 [rowR (q, j)] false] (.pure (RA (p * q).num (p * q).den)) :=
  QTimes_ok [(q, j)] (fun k => match k with | 0 => p | _ + 1 => p * q) (fun k => match k with | 0 => i | _ + 1 => (p * q).den) (Nat.le_of_ble_eq_true rfl)
    (fun k h => by match k, h with | 0, _ => exact hj | k + 1, h => exact absurd h (by simp))
    (fun k h => by match k with | 0 => exact hi | k + 1 => exact dn_den _)
    (fun k h => rfl)
    (fun k h => by match k with | 0 => exact lp.mono (by decide) | k + 1 => exact (Sz_mul lp lq).mono (by decide))
    (fun k h => by match k, h with | 0, _ => exact lq.mono (by decide) | k + 1, h => exact absurd h (by simp))
    (fun k h => by match k, h with | 0, _ => rfl | k + 1, h => exact absurd h (by simp))
end Go.Proofs.YthodfkfgdoolnaaGreatDoor

/- Contracts of ratios: whole numbers around one, rests. -/
set_option linter.unusedVariables false
namespace Go.Proofs.YthodfkfgdoolnaaGreatDoor
open Go Go.AL NM

/-- What is left of x by a. -/
def restQ (a x : Rat) : Rat := if a = 0 then x else x + -(a * ((x / a).floor : Rat))
end Go.Proofs.YthodfkfgdoolnaaGreatDoor

/- Contracts of the document's ratios: how a number is made, and what is told of one. -/
set_option linter.unusedVariables false
namespace Go.Proofs.YthodfkfgdoolnaaGreatDoor
open Go Go.AL NM

theorem decL_le (n : Nat) : (decL n).length ≤ 10 * (limbs n).length + 1 := decL_limbs n
theorem STop_ok (t : Int) (d : Nat) (lt : (limbs t.natAbs).length ≤ 100000) : AC Tryz.prog 72 [RN t d] (.pure (WR t)) := by
  refine AC.of_body TTok Tryz.func72 rfl (enter_of Tryz.func72 (by kernel_rfl) (by kernel_rfl)) (noid1 (RN_noid t d)) (WR_noid _) (Nat.le_of_ble_eq_true rfl) ?_
  have h1 := decL_le t.natAbs
  have hO := ROfW_ok (decide (t < 0)) t.natAbs (by omega)
  rw [sgn_self] at hO
  unfold RN WR at *
  repeat
    conv => whnf
    first
      | refine ⟨_, by assumption, ?_⟩
      | refine ⟨(Nat.le_of_ble_eq_true rfl), _, by assumption, ?_⟩
      | refine ⟨by kernel_rfl, ?_⟩
      | exact rfl
      | exact ⟨Nat.le_of_ble_eq_true rfl, rfl⟩
      | refine ⟨by decide, ?_⟩
theorem SBot_ok (t : Int) (d : Nat) (ld : (limbs d).length ≤ 100000) : AC Tryz.prog 73 [RN t d] (.pure (WR (d : Int))) := by
  refine AC.of_body TTok Tryz.func73 rfl (enter_of Tryz.func73 (by kernel_rfl) (by kernel_rfl)) (noid1 (RN_noid t d)) (WR_noid _) (Nat.le_of_ble_eq_true rfl) ?_
  have h1 := decL_le d
  have hO := ROfW_ok false d (by omega)
  rw [show sgn false d = (d : Int) from rfl] at hO
  unfold RN WR at *
  repeat
    conv => whnf
    first
      | refine ⟨_, by assumption, ?_⟩
      | refine ⟨(Nat.le_of_ble_eq_true rfl), _, by assumption, ?_⟩
      | refine ⟨by kernel_rfl, ?_⟩
      | exact rfl
      | exact ⟨Nat.le_of_ble_eq_true rfl, rfl⟩
      | refine ⟨by decide, ?_⟩
theorem SZero_ok : AC Tryz.prog 39 [] (.pure (RN 0 1)) := by
  refine AC.of_body TTok Tryz.func39 rfl (enter_of Tryz.func39 (by kernel_rfl) (by kernel_rfl)) (by intro x hx; cases hx) (RN_noid _ _) (Nat.le_of_ble_eq_true rfl) ?_
  unfold RN
  rw [show (0 : Int).natAbs = 0 from rfl, decS_zero, decS_one]
  repeat
    conv => whnf
    first
      | refine ⟨_, by assumption, ?_⟩
      | refine ⟨(Nat.le_of_ble_eq_true rfl), _, by assumption, ?_⟩
      | refine ⟨by kernel_rfl, ?_⟩
      | exact rfl
      | exact ⟨Nat.le_of_ble_eq_true rfl, rfl⟩
      | refine ⟨by decide, ?_⟩
theorem SFrom_ok (n : Int) (hn : -9223372036854775808 ≤ n ∧ n < 9223372036854775808) : AC Tryz.prog 70 [.val (.int .i64 n)] (.pure (RN n 1)) := by
  refine AC.of_body TTok Tryz.func70 rfl (enter_of Tryz.func70 (by kernel_rfl) (by kernel_rfl)) (noid1 (.val _)) (RN_noid _ _) (Nat.le_of_ble_eq_true rfl) ?_
  have h := RFrom_ok n hn
  unfold RN WR at *
  rw [decS_one]
  repeat
    conv => whnf
    first
      | refine ⟨_, by assumption, ?_⟩
      | refine ⟨(Nat.le_of_ble_eq_true rfl), _, by assumption, ?_⟩
      | refine ⟨by kernel_rfl, ?_⟩
      | exact rfl
      | exact ⟨Nat.le_of_ble_eq_true rfl, rfl⟩
      | refine ⟨by decide, ?_⟩
theorem SWhole_ok (n : Int) : AC Tryz.prog 41 [WR n] (.pure (RN n 1)) := by
  refine AC.of_body TTok Tryz.func41 rfl (enter_of Tryz.func41 (by kernel_rfl) (by kernel_rfl)) (noid1 (WR_noid _)) (RN_noid _ _) (Nat.le_of_ble_eq_true rfl) ?_
  unfold RN WR at *
  rw [decS_one]
  repeat
    conv => whnf
    first
      | refine ⟨_, by assumption, ?_⟩
      | refine ⟨(Nat.le_of_ble_eq_true rfl), _, by assumption, ?_⟩
      | refine ⟨by kernel_rfl, ?_⟩
      | exact rfl
      | exact ⟨Nat.le_of_ble_eq_true rfl, rfl⟩
      | refine ⟨by decide, ?_⟩
theorem SNew_ok (x y : Int) (hy : y ≠ 0) (hl : (limbs x.natAbs).length + (limbs y.natAbs).length ≤ 600) :
    AC Tryz.prog 74 [WR x, WR y] (.pure (.tup [RN (Rat.divInt x y).num (Rat.divInt x y).den, .val (.bool true)])) := by
  refine AC.of_body TTok Tryz.func74 rfl (enter_of Tryz.func74 (by kernel_rfl) (by kernel_rfl)) (noid2 (WR_noid x) (WR_noid y)) (.tup _ (noid2 (RN_noid _ _) (.val _))) (Nat.le_of_ble_eq_true rfl) ?_
  have i0 := is0 y.natAbs
  rw [decide_eq_false (by omega)] at i0
  have hG := RGcd2 x.natAbs y.natAbs hl
  have hg : 0 < Nat.gcd x.natAbs y.natAbs := Nat.gcd_pos_of_pos_right _ (by omega)
  have lg := limbs_len_mono (Nat.gcd_le_right (n := y.natAbs) x.natAbs (by omega))
  have d1 := decL_le x.natAbs
  have d2 := decL_le y.natAbs
  have d3 := decL_le (Nat.gcd x.natAbs y.natAbs)
  have hD1 := RDivMod_ok x.natAbs (Nat.gcd x.natAbs y.natAbs) hg (by omega)
  have hD2 := RDivMod_ok y.natAbs (Nat.gcd x.natAbs y.natAbs) hg (by omega)
  have j0 := is0 (x.natAbs / Nat.gcd x.natAbs y.natAbs)
  have hn := congrArg (fun z => decide (z < 0)) (sgn_num x y hy)
  have ha := congrArg Int.natAbs (sgn_num x y hy)
  have hd := sgn_den x y hy
  simp only [sgn_neg] at hn
  rw [sgn_abs] at ha
  rw [← j0] at hn
  rw [← ha] at hD1 hn
  rw [← hd] at hD2
  clear hg lg hl hy d1 d2 d3 j0 ha hd
  revert hG hD1 hD2 hn
  generalize Nat.gcd x.natAbs y.natAbs = g
  generalize x.natAbs % g = b
  generalize y.natAbs % g = c
  generalize (Rat.divInt x y).num = n
  generalize (Rat.divInt x y).den = d
  intro hG hD1 hD2 hn
  unfold RN WR at *
  rw [hn]
  conv => whnf
  refine caseb (fun h => Bool.noConfusion ((i0).symm.trans h)) (fun _ => ?_)
  conv => whnf
  refine ⟨_, hG, ?_⟩
  conv => whnf
  refine ⟨_, hD1, ?_⟩
  conv => whnf
  refine ⟨_, hD2, ?_⟩
  conv => whnf
  refine caseb (fun h => ?_) (fun h => ?_)
  · conv => whnf
    exact tup2 (agg3 (valB (by rw [h]; rfl)) rfl rfl) rfl
  · conv => whnf
    exact tup2 (agg3 (valB (by rw [h]; rfl)) rfl rfl) rfl
theorem SNew_zero (x : Int) : AC Tryz.prog 74 [WR x, WR 0] (.pure (.tup [RN 0 1, .val (.bool false)])) := by
  refine AC.of_body TTok Tryz.func74 rfl (enter_of Tryz.func74 (by kernel_rfl) (by kernel_rfl)) (noid2 (WR_noid x) (WR_noid 0)) (.tup _ (noid2 (RN_noid _ _) (.val _))) (Nat.le_of_ble_eq_true rfl) ?_
  have i0 := is0 (0 : Int).natAbs
  rw [decide_eq_true (by rfl)] at i0
  have hZ := SZero_ok
  unfold RN WR at *
  conv => whnf
  refine caseb (fun _ => ?_) (fun h => Bool.noConfusion ((i0).symm.trans h))
  repeat
    conv => whnf
    first
      | refine ⟨_, by assumption, ?_⟩
      | refine ⟨(Nat.le_of_ble_eq_true rfl), _, by assumption, ?_⟩
      | refine ⟨by kernel_rfl, ?_⟩
      | exact rfl
      | exact ⟨Nat.le_of_ble_eq_true rfl, rfl⟩
      | refine ⟨by decide, ?_⟩

end Go.Proofs.YthodfkfgdoolnaaGreatDoor

/- Contracts of the document's ratios: order, sums, products, quotients, whole numbers around one, rests. -/
set_option linter.unusedVariables false
namespace Go.Proofs.YthodfkfgdoolnaaGreatDoor
open Go Go.AL NM

section
variable (p q : Rat) (lp : Sz p 99) (lq : Sz q 99)
include lp lq
theorem SCmp_ok : AC Tryz.prog 69 [RN p.num p.den, RN q.num q.den] (.pure (.val (.int .i64 (cmpQ p q)))) := by
  refine AC.of_body TTok Tryz.func69 rfl (enter_of Tryz.func69 (by kernel_rfl) (by kernel_rfl)) (noid2 (RN_noid _ _) (RN_noid _ _)) (.val _) (Nat.le_of_ble_eq_true rfl) ?_
  have := lp.1; have := lp.2; have := lq.1; have := lq.2
  have t1 := STop_ok p.num p.den (by omega)
  have t2 := STop_ok q.num q.den (by omega)
  have b1 := SBot_ok p.num p.den (by omega)
  have b2 := SBot_ok q.num q.den (by omega)
  have m1 := RMulS p.num (q.den : Int) (by omega) (by rw [Int.natAbs_natCast]; omega)
  have m2 := RMulS q.num (p.den : Int) (by omega) (by rw [Int.natAbs_natCast]; omega)
  have hC := RCmpW_ok (p.num * (q.den : Int)) (q.num * (p.den : Int))
  rw [cmpZ_Q] at hC
  revert t1 t2 b1 b2 m1 m2 hC
  generalize p.num * (q.den : Int) = x
  generalize q.num * (p.den : Int) = y
  generalize (p.den : Int) = a
  generalize (q.den : Int) = b
  generalize cmpQ p q = c
  intro t1 t2 b1 b2 m1 m2 hC
  unfold RN WR at *
  repeat
    conv => whnf
    first
      | refine ⟨_, by assumption, ?_⟩
      | refine ⟨(Nat.le_of_ble_eq_true rfl), _, by assumption, ?_⟩
      | refine ⟨by kernel_rfl, ?_⟩
      | exact rfl
      | exact ⟨Nat.le_of_ble_eq_true rfl, rfl⟩
      | refine ⟨by decide, ?_⟩
theorem SDiv_ok (h0 : q ≠ 0) : AC Tryz.prog 78 [RN p.num p.den, RN q.num q.den] (.pure (.tup [RN (p / q).num (p / q).den, .val (.bool true)])) := by
  refine AC.of_body TTok Tryz.func78 rfl (enter_of Tryz.func78 (by kernel_rfl) (by kernel_rfl)) (noid2 (RN_noid _ _) (RN_noid _ _)) (.tup _ (noid2 (RN_noid _ _) (.val _))) (Nat.le_of_ble_eq_true rfl) ?_
  have := lp.1; have := lp.2; have := lq.1; have := lq.2
  have l1 := limbs_num_den p q
  have l2 := limbs_num_den q p
  rw [Int.mul_comm] at l2
  have t1 := STop_ok p.num p.den (by omega)
  have t2 := STop_ok q.num q.den (by omega)
  have b1 := SBot_ok p.num p.den (by omega)
  have b2 := SBot_ok q.num q.den (by omega)
  have m1 := RMulS p.num (q.den : Int) (by omega) (by rw [Int.natAbs_natCast]; omega)
  have m2 := RMulS (p.den : Int) q.num (by rw [Int.natAbs_natCast]; omega) (by omega)
  have hC := SNew_ok (p.num * (q.den : Int)) ((p.den : Int) * q.num) (Int.mul_ne_zero (by have := p.den_nz; omega) (num_ne h0)) (by omega)
  rw [q_div] at hC
  revert t1 t2 b1 b2 m1 m2 hC
  generalize p.num * (q.den : Int) = x
  generalize (p.den : Int) * q.num = y
  generalize (p.den : Int) = a
  generalize (q.den : Int) = b
  generalize p / q = c
  intro t1 t2 b1 b2 m1 m2 hC
  unfold RN WR at *
  repeat
    conv => whnf
    first
      | refine ⟨_, by assumption, ?_⟩
      | refine ⟨(Nat.le_of_ble_eq_true rfl), _, by assumption, ?_⟩
      | refine ⟨by kernel_rfl, ?_⟩
      | exact rfl
      | exact ⟨Nat.le_of_ble_eq_true rfl, rfl⟩
      | refine ⟨by decide, ?_⟩
theorem SMul_ok : AC Tryz.prog 77 [RN p.num p.den, RN q.num q.den] (.pure (RN (p * q).num (p * q).den)) := by
  refine AC.of_body TTok Tryz.func77 rfl (enter_of Tryz.func77 (by kernel_rfl) (by kernel_rfl)) (noid2 (RN_noid _ _) (RN_noid _ _)) (RN_noid _ _) (Nat.le_of_ble_eq_true rfl) ?_
  have := lp.1; have := lp.2; have := lq.1; have := lq.2
  have l1 := limbs_abs_mul p.num q.num
  have l2 := limbs_den_mul p q
  have t1 := STop_ok p.num p.den (by omega)
  have t2 := STop_ok q.num q.den (by omega)
  have b1 := SBot_ok p.num p.den (by omega)
  have b2 := SBot_ok q.num q.den (by omega)
  have m1 := RMulS p.num q.num (by omega) (by omega)
  have m2 := RMulS (p.den : Int) (q.den : Int) (by rw [Int.natAbs_natCast]; omega) (by rw [Int.natAbs_natCast]; omega)
  have hC := SNew_ok (p.num * q.num) ((p.den : Int) * (q.den : Int)) (den_mul_ne p q) (by omega)
  rw [q_mul] at hC
  revert t1 t2 b1 b2 m1 m2 hC
  generalize p.num * q.num = x
  generalize (p.den : Int) * (q.den : Int) = y
  generalize (p.den : Int) = a
  generalize (q.den : Int) = b
  generalize p * q = c
  intro t1 t2 b1 b2 m1 m2 hC
  unfold RN WR at *
  repeat
    conv => whnf
    first
      | refine ⟨_, by assumption, ?_⟩
      | refine ⟨(Nat.le_of_ble_eq_true rfl), _, by assumption, ?_⟩
      | refine ⟨by kernel_rfl, ?_⟩
      | exact rfl
      | exact ⟨Nat.le_of_ble_eq_true rfl, rfl⟩
      | refine ⟨by decide, ?_⟩
end
theorem SAdd_ok (p q : Rat) (i j : Nat) (lp : Sz p i) (lq : Sz q j) (hij : i + j ≤ 190) : AC Tryz.prog 28 [RN p.num p.den, RN q.num q.den] (.pure (RN (p + q).num (p + q).den)) := by
  refine AC.of_body TTok Tryz.func28 rfl (enter_of Tryz.func28 (by kernel_rfl) (by kernel_rfl)) (noid2 (RN_noid _ _) (RN_noid _ _)) (RN_noid _ _) (Nat.le_of_ble_eq_true rfl) ?_
  have := lp.1; have := lp.2; have := lq.1; have := lq.2
  have l1 := limbs_num_den p q
  have l2 := limbs_num_den q p
  have l3 := limbs_den_mul p q
  have l4 := limbs_abs_add (p.num * (q.den : Int)) (q.num * (p.den : Int))
  have t1 := STop_ok p.num p.den (by omega)
  have t2 := STop_ok q.num q.den (by omega)
  have b1 := SBot_ok p.num p.den (by omega)
  have b2 := SBot_ok q.num q.den (by omega)
  have m1 := RMulS p.num (q.den : Int) (by omega) (by rw [Int.natAbs_natCast]; omega)
  have m2 := RMulS q.num (p.den : Int) (by omega) (by rw [Int.natAbs_natCast]; omega)
  have m3 := RMulS (p.den : Int) (q.den : Int) (by rw [Int.natAbs_natCast]; omega) (by rw [Int.natAbs_natCast]; omega)
  have hA := RAddS (p.num * (q.den : Int)) (q.num * (p.den : Int)) (by omega) (by omega)
  have hC := SNew_ok (p.num * (q.den : Int) + q.num * (p.den : Int)) ((p.den : Int) * (q.den : Int)) (den_mul_ne p q) (by omega)
  rw [q_add] at hC
  revert t1 t2 b1 b2 m1 m2 m3 hA hC
  generalize p.num * (q.den : Int) + q.num * (p.den : Int) = z
  generalize p.num * (q.den : Int) = x
  generalize q.num * (p.den : Int) = y
  generalize (p.den : Int) * (q.den : Int) = w
  generalize (p.den : Int) = a
  generalize (q.den : Int) = b
  generalize p + q = c
  intro t1 t2 b1 b2 m1 m2 m3 hA hC
  unfold RN WR at *
  repeat
    conv => whnf
    first
      | refine ⟨_, by assumption, ?_⟩
      | refine ⟨(Nat.le_of_ble_eq_true rfl), _, by assumption, ?_⟩
      | refine ⟨by kernel_rfl, ?_⟩
      | exact rfl
      | exact ⟨Nat.le_of_ble_eq_true rfl, rfl⟩
      | refine ⟨by decide, ?_⟩
theorem SDiv_zero (p : Rat) (lp : Sz p 99) : AC Tryz.prog 78 [RN p.num p.den, RN (0 : Rat).num (0 : Rat).den] (.pure (.tup [RN 0 1, .val (.bool false)])) := by
  refine AC.of_body TTok Tryz.func78 rfl (enter_of Tryz.func78 (by kernel_rfl) (by kernel_rfl)) (noid2 (RN_noid _ _) (RN_noid _ _)) (.tup _ (noid2 (RN_noid _ _) (.val _))) (Nat.le_of_ble_eq_true rfl) ?_
  have := lp.1; have := lp.2
  have l1 := limbs_1
  have l0 : (limbs (0 : Rat).num.natAbs).length = 0 := by show (limbs 0).length = 0; rw [limbs_zero]; rfl
  have l2 : (limbs (0 : Rat).den).length = 1 := l1
  have t1 := STop_ok p.num p.den (by omega)
  have t2 := STop_ok (0 : Rat).num (0 : Rat).den (by omega)
  have b1 := SBot_ok p.num p.den (by omega)
  have b2 := SBot_ok (0 : Rat).num (0 : Rat).den (by omega)
  have m1 := RMulS p.num ((0 : Rat).den : Int) (by omega) (by rw [Int.natAbs_natCast]; omega)
  have m2 := RMulS (p.den : Int) (0 : Rat).num (by rw [Int.natAbs_natCast]; omega) (by omega)
  rw [show (p.den : Int) * (0 : Rat).num = 0 by rw [Rat.zero_num, Int.mul_zero]] at m2
  have hC := SNew_zero (p.num * ((0 : Rat).den : Int))
  revert t1 t2 b1 b2 m1 m2 hC
  generalize p.num * ((0 : Rat).den : Int) = x
  generalize (p.den : Int) = a
  generalize ((0 : Rat).den : Int) = b
  generalize (0 : Rat).num = c
  intro t1 t2 b1 b2 m1 m2 hC
  unfold RN WR at *
  repeat
    conv => whnf
    first
      | refine ⟨_, by assumption, ?_⟩
      | refine ⟨(Nat.le_of_ble_eq_true rfl), _, by assumption, ?_⟩
      | refine ⟨by kernel_rfl, ?_⟩
      | exact rfl
      | exact ⟨Nat.le_of_ble_eq_true rfl, rfl⟩
      | refine ⟨by decide, ?_⟩
theorem SFloor_ok (p : Rat) (lp : Sz p 200) : AC Tryz.prog 27 [RN p.num p.den] (.pure (WR p.floor)) := by
  refine AC.of_body TTok Tryz.func27 rfl (enter_of Tryz.func27 (by kernel_rfl) (by kernel_rfl)) (noid1 (RN_noid _ _)) (WR_noid _) (Nat.le_of_ble_eq_true rfl) ?_
  have := lp.1; have := lp.2
  have t1 := STop_ok p.num p.den (by omega)
  have b1 := SBot_ok p.num p.den (by omega)
  have hF := RFloor_ok p.num (p.den : Int) (by have := p.den_nz; omega) (by omega) (by rw [Int.natAbs_natCast]; omega)
  rw [flQ_floor] at hF
  revert t1 b1 hF
  generalize (p.den : Int) = b
  generalize flR p.num b = r
  generalize p.floor = f
  intro t1 b1 hF
  unfold RN WR at *
  repeat
    conv => whnf
    first
      | refine ⟨_, by assumption, ?_⟩
      | refine ⟨(Nat.le_of_ble_eq_true rfl), _, by assumption, ?_⟩
      | refine ⟨by kernel_rfl, ?_⟩
      | exact rfl
      | exact ⟨Nat.le_of_ble_eq_true rfl, rfl⟩
      | refine ⟨by decide, ?_⟩
end Go.Proofs.YthodfkfgdoolnaaGreatDoor

/- Contracts of ratios: which texts are numbers. -/
set_option linter.unusedVariables false
namespace Go.Proofs.YthodfkfgdoolnaaGreatDoor
open Go Go.AL NM

/-- A number as the page speaks of it, right or not. -/
def RT (b : Bool) (s t : List Int) : AV := .agg [.val (.bool b), .val (.string (strL s)), .val (.string (strL t))]
theorem RT_noid (b : Bool) (s t : List Int) : NoId (RT b s t) := .agg _ (noid3 (.val _) (.val _) (.val _))
/-- Is it right? -/
def RQ (b : Bool) (s t : List Int) : Prop := right s = true ∧ right t = true ∧ s = decL (valL s) ∧ t = decL (valL t) ∧ valL t ≠ 0 ∧ Nat.gcd (valL s) (valL t) = 1 ∧ ¬ (b = true ∧ valL s = 0)
instance (b : Bool) (s t : List Int) : Decidable (RQ b s t) := inferInstanceAs (Decidable (_ ∧ _))
def qOf (b : Bool) (s t : List Int) : Rat := Rat.divInt (sgn b (valL s)) (valL t : Int)

theorem RQ_num {b : Bool} {s t : List Int} (h : RQ b s t) : (qOf b s t).num = sgn b (valL s) ∧ (qOf b s t).den = valL t := by
  obtain ⟨_, _, _, _, h0, hg, hn⟩ := h
  have hy : (valL t : Int) ≠ 0 := by omega
  unfold qOf
  rw [sgn_num _ _ hy, sgn_den _ _ hy, sgn_abs, Int.natAbs_natCast, hg, Nat.div_one, Nat.div_one]
  refine ⟨?_, rfl⟩
  congr 1
  rw [sgn_neg, decide_eq_false (show ¬ (valL t : Int) < 0 by omega)]
  cases b
  · rfl
  · rw [decide_eq_false (fun e => hn ⟨rfl, e⟩)]; rfl
theorem RQ_is {b : Bool} {s t : List Int} (h : RQ b s t) : RT b s t = RN (qOf b s t).num (qOf b s t).den := by
  obtain ⟨e1, e2⟩ := RQ_num h
  obtain ⟨_, _, hs, ht, h0, hg, hn⟩ := h
  rw [e1, e2]
  unfold RT RN decS
  rw [sgn_abs, ← hs, ← ht, sgn_neg]
  refine agg3 (valB ?_) rfl rfl
  cases b
  · rfl
  · rw [decide_eq_false (fun e => hn ⟨rfl, e⟩)]; rfl
theorem RQ_sz {b : Bool} {s t : List Int} (h : RQ b s t) {k l : Nat} (hs : s.length ≤ l) (ht : t.length ≤ l) (hk : 10 ^ l ≤ 4294967296 ^ k) : Sz (qOf b s t) k := by
  obtain ⟨e1, e2⟩ := RQ_num h
  obtain ⟨d1, _, _⟩ := right_dig h.1
  obtain ⟨d2, _, _⟩ := right_dig h.2.1
  have h1 := valL_lt d1
  have h2 := valL_lt d2
  have p1 := Nat.pow_le_pow_right (n := 10) (by decide) hs
  have p2 := Nat.pow_le_pow_right (n := 10) (by decide) ht
  refine ⟨?_, ?_⟩
  · rw [e1, sgn_abs]; exact limbs_len_le (by omega)
  · rw [e2]; exact limbs_len_le (by omega)
/-- The number that was made is written as it was read just if it is right. -/
theorem RQ_back {b : Bool} {s t : List Int} (hBs : Byt s) (hBt : Byt t) (hs : right s = true) (ht : right t = true) (h0 : valL t ≠ 0) :
    ((decide ((qOf b s t).num < 0) == b) && (((decS (qOf b s t).num.natAbs).toList == (strL s).toList) && (((decS (qOf b s t).den).toList == (strL t).toList) && true))) = decide (RQ b s t) := by
  rw [decS_is _ _ hBs, decS_is _ _ hBt, Bool.and_true]
  by_cases h : RQ b s t
  · obtain ⟨e1, e2⟩ := RQ_num h
    rw [decide_eq_true h, e1, e2, sgn_abs, sgn_neg]
    obtain ⟨_, _, hs, ht, h0, hg, hn⟩ := h
    rw [decide_eq_true hs.symm, decide_eq_true ht.symm]
    cases b
    · rfl
    · rw [decide_eq_false (fun e => hn ⟨rfl, e⟩)]; rfl
  · rw [decide_eq_false h]
    cases hc : (decide ((qOf b s t).num < 0) == b) && (decide (decL (qOf b s t).num.natAbs = s) && decide (decL (qOf b s t).den = t)) with
    | false => rfl
    | true =>
      exfalso
      simp only [Bool.and_eq_true, decide_eq_true_eq, beq_iff_eq] at hc
      obtain ⟨h1, h2, h3⟩ := hc
      have v1 : valL s = (qOf b s t).num.natAbs := (congrArg valL h2).symm.trans (valL_decL _)
      have v2 : valL t = (qOf b s t).den := (congrArg valL h3).symm.trans (valL_decL _)
      refine h ⟨hs, ht, h2.symm.trans (by rw [v1]), h3.symm.trans (by rw [v2]), h0, by rw [v1, v2]; exact (qOf b s t).reduced, fun hb => ?_⟩
      rw [hb.1] at h1
      have := of_decide_eq_true h1
      rw [← hb.1] at this
      have := hb.2
      omega

theorem SRight_ok (b : Bool) (s t : List Int) (hBs : Byt s) (hBt : Byt t) (ls : s.length ≤ 100) (lt : t.length ≤ 100) : AC Tryz.prog 16 [RT b s t] (.pure (.val (.bool (decide (RQ b s t))))) := by
  refine AC.of_body TTok Tryz.func16 rfl (enter_of Tryz.func16 (by kernel_rfl) (by kernel_rfl)) (noid1 (RT_noid b s t)) (.val _) (Nat.le_of_ble_eq_true rfl) ?_
  have r1 := Right_ok s hBs (by omega)
  have r2 := Right_ok t hBt (by omega)
  cases hr : right s with
  | false =>
    rw [hr] at r1
    rw [decide_eq_false (fun h : RQ b s t => Bool.noConfusion (h.1.symm.trans hr))]
    unfold RT
    repeat
      conv => whnf
      first
        | refine ⟨_, by assumption, ?_⟩
        | refine ⟨(Nat.le_of_ble_eq_true rfl), _, by assumption, ?_⟩
        | refine ⟨by kernel_rfl, ?_⟩
        | exact rfl
        | exact ⟨Nat.le_of_ble_eq_true rfl, rfl⟩
        | refine ⟨by decide, ?_⟩
  | true =>
    rw [hr] at r1
    cases hr' : right t with
    | false =>
      rw [hr'] at r2
      rw [decide_eq_false (fun h : RQ b s t => Bool.noConfusion (h.2.1.symm.trans hr'))]
      unfold RT
      repeat
        conv => whnf
        first
          | refine ⟨_, by assumption, ?_⟩
          | refine ⟨(Nat.le_of_ble_eq_true rfl), _, by assumption, ?_⟩
          | refine ⟨by kernel_rfl, ?_⟩
          | exact rfl
          | exact ⟨Nat.le_of_ble_eq_true rfl, rfl⟩
          | refine ⟨by decide, ?_⟩
    | true =>
      rw [hr'] at r2
      obtain ⟨d1, n1, _⟩ := right_dig hr
      obtain ⟨d2, n2, _⟩ := right_dig hr'
      have t1 := Trim_ok s d1 n1 (by omega)
      have t2 := Trim_ok t d2 n2 (by omega)
      have e1 := decS_is (valL s) s hBs
      have e2 := decS_is (valL t) t hBt
      by_cases c1 : decL (valL s) = s
      · rw [decide_eq_true c1] at e1
        have f1 : (!((decS (valL s)).toList == (strL s).toList)) = false := by rw [e1]; rfl
        by_cases c2 : decL (valL t) = t
        · rw [decide_eq_true c2] at e2
          have f2 : (!((decS (valL t)).toList == (strL t).toList)) = false := by rw [e2]; rfl
          have z := is0 (valL t)
          have s2 : strL t = decS (valL t) := by unfold decS; rw [c2]
          have s1 : strL s = decS (valL s) := by unfold decS; rw [c1]
          rw [← s2] at z
          by_cases c3 : valL t = 0
          · rw [decide_eq_true c3] at z
            rw [decide_eq_false (fun h : RQ b s t => h.2.2.2.2.1 c3)]
            unfold RT
            conv => whnf
            refine ⟨_, r1, ?_⟩
            conv => whnf
            refine ⟨_, r2, ?_⟩
            conv => whnf
            refine ⟨_, t1, ?_⟩
            conv => whnf
            refine caseb (fun h => Bool.noConfusion ((f1).symm.trans h)) (fun _ => ?_)
            conv => whnf
            refine ⟨_, t2, ?_⟩
            conv => whnf
            refine caseb (fun h => Bool.noConfusion ((f2).symm.trans h)) (fun _ => ?_)
            conv => whnf
            refine ⟨by kernel_rfl, ?_⟩
            conv => whnf
            refine caseb (fun _ => ?_) (fun h => Bool.noConfusion ((z).symm.trans h))
            repeat
              conv => whnf
              first
                | refine ⟨_, by assumption, ?_⟩
                | refine ⟨(Nat.le_of_ble_eq_true rfl), _, by assumption, ?_⟩
                | refine ⟨by kernel_rfl, ?_⟩
                | exact rfl
                | exact ⟨Nat.le_of_ble_eq_true rfl, rfl⟩
                | refine ⟨by decide, ?_⟩
          · rw [decide_eq_false c3] at z
            have y := is0 (valL s)
            have k1 := limbs_ten (valL_lt d1)
            have k2 := limbs_ten (valL_lt d2)
            have hG := RGcd2 (valL s) (valL t) (by omega)
            have o := is1 (Nat.gcd (valL s) (valL t))
            rw [← s1] at y hG
            rw [← s2] at hG
            unfold RT
            conv => whnf
            refine ⟨_, r1, ?_⟩
            conv => whnf
            refine ⟨_, r2, ?_⟩
            conv => whnf
            refine ⟨_, t1, ?_⟩
            conv => whnf
            refine caseb (fun h => Bool.noConfusion ((f1).symm.trans h)) (fun _ => ?_)
            conv => whnf
            refine ⟨_, t2, ?_⟩
            conv => whnf
            refine caseb (fun h => Bool.noConfusion ((f2).symm.trans h)) (fun _ => ?_)
            conv => whnf
            refine ⟨by kernel_rfl, ?_⟩
            conv => whnf
            refine caseb (fun h => Bool.noConfusion ((z).symm.trans h)) (fun _ => ?_)
            conv => whnf
            refine ⟨_, hG, ?_⟩
            conv => whnf
            by_cases c4 : Nat.gcd (valL s) (valL t) = 1
            · rw [decide_eq_true c4] at o
              rw [o]
              have e : decide (RQ b s t) = !(b && decide (valL s = 0)) := by
                cases hb : b && decide (valL s = 0) with
                | true =>
                  simp only [Bool.and_eq_true, decide_eq_true_eq] at hb
                  exact decide_eq_false (fun h => h.2.2.2.2.2.2 hb)
                | false =>
                  refine decide_eq_true ⟨hr, hr', c1.symm, c2.symm, c3, c4, fun h => ?_⟩
                  rw [h.1, decide_eq_true h.2] at hb
                  cases hb
              rw [e, ← y]
              cases b
              · conv => whnf
                exact rfl
              · conv => whnf
                exact valB rfl
            · rw [decide_eq_false c4] at o
              rw [o, decide_eq_false (fun h : RQ b s t => c4 h.2.2.2.2.2.1)]
              conv => whnf
              exact rfl
        · rw [decide_eq_false c2] at e2
          have f2 : (!((decS (valL t)).toList == (strL t).toList)) = true := by rw [e2]; rfl
          rw [decide_eq_false (fun h : RQ b s t => c2 h.2.2.2.1.symm)]
          unfold RT
          conv => whnf
          refine ⟨_, r1, ?_⟩
          conv => whnf
          refine ⟨_, r2, ?_⟩
          conv => whnf
          refine ⟨_, t1, ?_⟩
          conv => whnf
          refine caseb (fun h => Bool.noConfusion ((f1).symm.trans h)) (fun _ => ?_)
          conv => whnf
          refine ⟨_, t2, ?_⟩
          conv => whnf
          refine caseb (fun _ => ?_) (fun h => Bool.noConfusion ((f2).symm.trans h))
          repeat
            conv => whnf
            first
              | refine ⟨_, by assumption, ?_⟩
              | refine ⟨(Nat.le_of_ble_eq_true rfl), _, by assumption, ?_⟩
              | refine ⟨by kernel_rfl, ?_⟩
              | exact rfl
              | exact ⟨Nat.le_of_ble_eq_true rfl, rfl⟩
              | refine ⟨by decide, ?_⟩
      · rw [decide_eq_false c1] at e1
        have f1 : (!((decS (valL s)).toList == (strL s).toList)) = true := by rw [e1]; rfl
        rw [decide_eq_false (fun h : RQ b s t => c1 h.2.2.1.symm)]
        unfold RT
        conv => whnf
        refine ⟨_, r1, ?_⟩
        conv => whnf
        refine ⟨_, r2, ?_⟩
        conv => whnf
        refine ⟨_, t1, ?_⟩
        conv => whnf
        refine caseb (fun _ => ?_) (fun h => Bool.noConfusion ((f1).symm.trans h))
        repeat
          conv => whnf
          first
            | refine ⟨_, by assumption, ?_⟩
            | refine ⟨(Nat.le_of_ble_eq_true rfl), _, by assumption, ?_⟩
            | refine ⟨by kernel_rfl, ?_⟩
            | exact rfl
            | exact ⟨Nat.le_of_ble_eq_true rfl, rfl⟩
            | refine ⟨by decide, ?_⟩

end Go.Proofs.YthodfkfgdoolnaaGreatDoor

/- Contracts of ratios: numbers are read. -/
set_option linter.unusedVariables false
namespace Go.Proofs.YthodfkfgdoolnaaGreatDoor
open Go Go.AL NM

/-- The zero value of a ratio. -/
def RZ : AV := .agg [.sl 0 [] true, .val (.bool false), .sl 0 [] true]
theorem RZ_noid : NoId RZ := .agg _ (noid3 (.sl _ _ _ (fun r hr => (nomatch hr))) (.val _) (.sl _ _ _ (fun r hr => (nomatch hr))))
theorem RZ_le : AVle RZ (RA 0 0) := by
  unfold RA
  rw [show (0 : Int).natAbs = 0 from rfl, limbs_zero]
  exact .agg _ _ rfl (fun i a b ha hb => by
    match i with
    | 0 => cases ha; cases hb; exact .sl _ _ _
    | 1 => cases ha; cases hb; exact .refl _
    | 2 => cases ha; cases hb; exact .sl _ _ _
    | (i + 3) => cases ha)
theorem RZ_res {P : Program} {f : FuncId} {args : List AV} {b : Bool} (h : AC P f args (.pure (.tup [RZ, .val (.bool b)]))) : AC P f args (.pure (.tup [RA 0 0, .val (.bool b)])) :=
  AC.le_res h (.tup2 RZ_le (.refl _)) (.tup _ (noid2 (RA_noid _ _) (.val _)))

theorem SOf_bad (b : Bool) (s t : List Int) (hBs : Byt s) (hBt : Byt t) (h : ¬ (right s = true ∧ right t = true)) : AC Tryz.prog 17 [RT b s t] (.pure (.tup [RA 0 0, .val (.bool false)])) := by
  refine RZ_res ?_
  refine AC.of_body TTok Tryz.func17 rfl (enter_of Tryz.func17 (by kernel_rfl) (by kernel_rfl)) (noid1 (RT_noid b s t)) (.tup _ (noid2 RZ_noid (.val _))) (Nat.le_of_ble_eq_true rfl) ?_
  have p1 := Parse_any s hBs
  have p2 := Parse_any t hBt
  revert p1 p2
  generalize (if right s = true then valL s else 0) = x
  generalize (if right t = true then valL t else 0) = y
  intro p1 p2
  cases hr : right s with
  | false =>
    rw [hr] at p1
    unfold RT natA at *
    repeat
      conv => whnf
      first
        | refine ⟨_, by assumption, ?_⟩
        | refine ⟨(Nat.le_of_ble_eq_true rfl), _, by assumption, ?_⟩
        | refine ⟨by kernel_rfl, ?_⟩
        | exact rfl
        | exact ⟨Nat.le_of_ble_eq_true rfl, rfl⟩
        | refine ⟨by decide, ?_⟩
  | true =>
    have hr' : right t = false := by
      cases h' : right t with
      | false => rfl
      | true => exact absurd ⟨hr, h'⟩ h
    rw [hr] at p1
    rw [hr'] at p2
    unfold RT natA at *
    repeat
      conv => whnf
      first
        | refine ⟨_, by assumption, ?_⟩
        | refine ⟨(Nat.le_of_ble_eq_true rfl), _, by assumption, ?_⟩
        | refine ⟨by kernel_rfl, ?_⟩
        | exact rfl
        | exact ⟨Nat.le_of_ble_eq_true rfl, rfl⟩
        | refine ⟨by decide, ?_⟩
theorem SOf_zero (b : Bool) (s t : List Int) (hBs : Byt s) (hBt : Byt t) (hs : right s = true) (ht : right t = true) (h0 : valL t = 0) : AC Tryz.prog 17 [RT b s t] (.pure (.tup [RA 0 0, .val (.bool false)])) := by
  refine AC.of_body TTok Tryz.func17 rfl (enter_of Tryz.func17 (by kernel_rfl) (by kernel_rfl)) (noid1 (RT_noid b s t)) (.tup _ (noid2 (RA_noid _ _) (.val _))) (Nat.le_of_ble_eq_true rfl) ?_
  have p1 := Parse_any s hBs
  have p2 := Parse_any t hBt
  rw [if_pos hs, hs] at p1
  rw [if_pos ht, ht, h0] at p2
  have o1 := WOf_ok b (valL s)
  have o2 := WOf_ok false 0
  rw [show sgn false 0 = 0 from rfl] at o2
  have hN := New_zero (sgn b (valL s))
  revert p1 o1 hN
  generalize sgn b (valL s) = z
  generalize valL s = x
  intro p1 o1 hN
  unfold RT RA WI natA at *
  repeat
    conv => whnf
    first
      | refine ⟨_, by assumption, ?_⟩
      | refine ⟨(Nat.le_of_ble_eq_true rfl), _, by assumption, ?_⟩
      | refine ⟨by kernel_rfl, ?_⟩
      | exact rfl
      | exact ⟨Nat.le_of_ble_eq_true rfl, rfl⟩
      | refine ⟨by decide, ?_⟩
theorem SOf_ok (b : Bool) (s t : List Int) (hBs : Byt s) (hBt : Byt t) (ls : s.length ≤ 100) (lt : t.length ≤ 100) (hs : right s = true) (ht : right t = true) (h0 : valL t ≠ 0) :
    AC Tryz.prog 17 [RT b s t] (.pure (.tup [RA (qOf b s t).num (qOf b s t).den, .val (.bool (decide (RQ b s t)))])) := by
  rw [← RQ_back hBs hBt hs ht h0]
  refine AC.of_body TTok Tryz.func17 rfl (enter_of Tryz.func17 (by kernel_rfl) (by kernel_rfl)) (noid1 (RT_noid b s t)) (.tup _ (noid2 (RA_noid _ _) (.val _))) (Nat.le_of_ble_eq_true rfl) ?_
  have p1 := Parse_any s hBs
  have p2 := Parse_any t hBt
  rw [if_pos hs, hs] at p1
  rw [if_pos ht, ht] at p2
  have o1 := WOf_ok b (valL s)
  have o2 := WOf_ok false (valL t)
  rw [show sgn false (valL t) = (valL t : Int) from rfl] at o2
  have k1 := limbs_ten (valL_lt (right_dig hs).1)
  have k2 := limbs_ten (valL_lt (right_dig ht).1)
  have hN := New_ok (sgn b (valL s)) (valL t : Int) (by omega) (by rw [sgn_abs]; omega) (by rw [Int.natAbs_natCast]; omega)
  have hz : Sz (qOf b s t) 100 := Sz_divInt (by omega) (by rw [sgn_abs]; omega) (by rw [Int.natAbs_natCast]; omega)
  have := hz.1
  have := hz.2
  have hM := Num_ok (qOf b s t).num (qOf b s t).den (by omega) (by rw [dn_den]; omega)
  rw [dn_den] at hM
  change AC Tryz.prog 51 _ (.pure (.tup [RA (qOf b s t).num (qOf b s t).den, .val (.bool true)])) at hN
  revert p1 p2 o1 o2 hN hM
  generalize qOf b s t = q
  generalize sgn b (valL s) = z
  generalize (valL t : Int) = w
  generalize valL s = x
  generalize valL t = y
  intro p1 p2 o1 o2 hN hM
  unfold RT RA RN WI natA at *
  repeat
    conv => whnf
    first
      | refine ⟨_, by assumption, ?_⟩
      | refine ⟨(Nat.le_of_ble_eq_true rfl), _, by assumption, ?_⟩
      | refine ⟨by kernel_rfl, ?_⟩
      | exact rfl
      | exact ⟨Nat.le_of_ble_eq_true rfl, rfl⟩
      | refine ⟨by decide, ?_⟩

end Go.Proofs.YthodfkfgdoolnaaGreatDoor

/- Contracts of ratios: powers. -/
set_option linter.unusedVariables false
namespace Go.Proofs.YthodfkfgdoolnaaGreatDoor
open Go Go.AL NM

/-- Has a power of a number above 0 at most so many limbs? -/
def fitsN (a k : Nat) (most : Int) : Prop := a = 1 ∨ ((limbs (a ^ k)).length : Int) ≤ most
instance (a k : Nat) (most : Int) : Decidable (fitsN a k most) := inferInstanceAs (Decidable (_ ∨ _))
/-- How often it is multiplied, and what. -/
def pk (n : Int) : Nat := if n < 0 then (if n < -9223372036854775807 then 9223372036854775807 else (-n).toNat) else n.toNat
def pb (q : Rat) (n : Int) : Rat := if n < 0 then 1 / q else q
def limQ (q : Rat) : Prop := q.den = 1 ∧ (q.num.natAbs = 0 ∨ q.num.natAbs = 1)
instance (q : Rat) : Decidable (limQ q) := inferInstanceAs (Decidable (_ ∧ _))
/-- A power, or none. -/
def powQ (q : Rat) (n most : Int) : Rat × Bool :=
  if n = 0 then (1, true)
  else if limQ q then (if q = 0 ∧ n < 0 then (0, false) else (if n % 2 = 0 then q * q else q, true))
  else if fitsN (pb q n).num.natAbs (pk n) most ∧ fitsN (pb q n).den (pk n) most then ((pb q n) ^ (pk n), true) else (0, false)

theorem and1 (n : Int) : IntKind.i64.wrap (((BitVec.ofInt 64 n &&& BitVec.ofInt 64 1).toNat : Nat) : Int) = n % 2 := by
  have h1 : (BitVec.ofInt 64 n &&& BitVec.ofInt 64 1).toNat = (n % 2).toNat := by
    rw [BitVec.toNat_and, show (BitVec.ofInt 64 1).toNat = 2 ^ 1 - 1 from rfl, Nat.and_two_pow_sub_one_eq_mod, BitVec.toNat_ofInt]
    omega
  rw [h1, IntWalk.i64_in _ (by omega)]
  omega
theorem and1e (n : Int) : (IntKind.i64.wrap (((BitVec.ofInt 64 n &&& BitVec.ofInt 64 1).toNat : Nat) : Int) == 0) = decide (n % 2 = 0) := by rw [and1]; exact beqD Iff.rfl
theorem and1o (n : Int) : (IntKind.i64.wrap (((BitVec.ofInt 64 n &&& BitVec.ofInt 64 1).toNat : Nat) : Int) == 1) = decide (n % 2 = 1) := by rw [and1]; exact beqD Iff.rfl

theorem pow_sgn (a : Int) (k : Nat) : a ^ k = sgn (decide (a < 0) && decide ((k : Int) % 2 = 1)) (a.natAbs ^ k) := by
  have hc : ((a.natAbs ^ k : Nat) : Int) = (a.natAbs : Int) ^ k := Int.natCast_pow _ _
  by_cases h : a < 0
  · rw [decide_eq_true h, Bool.true_and]
    obtain ⟨m, rfl⟩ : ∃ m : Nat, a = -(m : Int) := ⟨a.natAbs, by omega⟩
    rw [Int.natAbs_neg, Int.natAbs_natCast]
    clear hc h
    have key : ∀ k : Nat, (-(m : Int)) ^ k = if k % 2 = 1 then -((m : Int) ^ k) else (m : Int) ^ k := by
      intro k
      induction k with
      | zero => simp
      | succ k ih =>
        rw [Int.pow_succ, ih, Int.pow_succ]
        by_cases hk : k % 2 = 1
        · rw [if_pos hk, if_neg (by omega), Int.neg_mul_neg]
        · rw [if_neg hk, if_pos (by omega), Int.mul_neg]
    rw [key k]
    by_cases hk : k % 2 = 1
    · rw [if_pos hk, decide_eq_true (by omega)]
      show _ = -((m ^ k : Nat) : Int)
      rw [Int.natCast_pow]
    · rw [if_neg hk, decide_eq_false (by omega)]
      show _ = ((m ^ k : Nat) : Int)
      rw [Int.natCast_pow]
  · rw [decide_eq_false h, Bool.false_and]
    show _ = ((a.natAbs ^ k : Nat) : Int)
    rw [hc]
    congr 1
    omega

theorem NPow_fit (a : Nat) (n most : Int) (ha : 1 ≤ a) (hn : 0 < n) (hn63 : n < 9223372036854775808) (hm : most ≤ 200) (hl : (limbs a).length ≤ 400) (h : fitsN a n.toNat most) : AC Tryz.prog 109 [natA a, .val (.int .i64 n), .val (.int .i64 most)] (.pure (.tup [natA (a ^ n.toNat), .val (.bool true)])) := by
  by_cases h1 : a = 1
  · subst h1
    rw [Nat.one_pow]
    exact Pow_one 1 n most (.inr rfl)
  · exact Pow_gen a n most (by omega) hn hn63 hm hl _ (.tup _ (noid2 (natA_noid _) (.val _))) (fun h' => by rcases h with h | h <;> omega) (fun _ => rfl)
theorem NPow_not (a : Nat) (n most : Int) (ha : 1 ≤ a) (hn : 0 < n) (hn63 : n < 9223372036854775808) (hm : most ≤ 200) (hl : (limbs a).length ≤ 400) (h : ¬ fitsN a n.toNat most) : AC Tryz.prog 109 [natA a, .val (.int .i64 n), .val (.int .i64 most)] (.pure (.tup [.agg [.sl 0 [] true], .val (.bool false)])) := by
  have h1 : a ≠ 1 := fun e => h (.inl e)
  exact Pow_gen a n most (by omega) hn hn63 hm hl _ (.tup _ (noid2 (.agg _ (noid1 (.sl _ _ _ (fun r hr => (nomatch hr))))) (.val _))) (fun _ => rfl) (fun h' => absurd (.inr h') h)
/-- A power of so many factors has too many limbs. -/
theorem fitsN_big {a k : Nat} {most : Int} (ha : 1 ≤ a) (hk : 6400 ≤ k) (hm : most ≤ 200) (h : fitsN a k most) : a = 1 := by
  rcases h with h | h
  · exact h
  · rcases Nat.lt_or_ge a 2 with h2 | h2
    · omega
    · exfalso
      have h3 := val_lt (limbs_lim (a ^ k))
      rw [val_limbs, pow32] at h3
      obtain ⟨B, hB⟩ : ∃ B, B = 6400 := ⟨_, rfl⟩
      have h4 : 2 ^ (32 * (limbs (a ^ k)).length) ≤ 2 ^ B := Nat.pow_le_pow_right (by decide) (by omega)
      have h5 : 2 ^ B ≤ 2 ^ k := Nat.pow_le_pow_right (by decide) (by omega)
      have h6 : 2 ^ k ≤ a ^ k := Nat.pow_le_pow_left h2 k
      exact absurd (Nat.lt_of_lt_of_le h3 (Nat.le_trans h4 (Nat.le_trans h5 h6))) (Nat.lt_irrefl _)

end Go.Proofs.YthodfkfgdoolnaaGreatDoor

/- Contracts of ratios: the program's powers. -/
set_option linter.unusedVariables false
namespace Go.Proofs.YthodfkfgdoolnaaGreatDoor
open Go Go.AL NM

theorem lim_num {q : Rat} (h : ¬ limQ q) : q ≠ 0 := fun e => h (by rw [e]; exact ⟨rfl, .inl rfl⟩)
theorem beq_ne0 {n : Int} (h : n ≠ 0) : (n == 0) = false := beq_false_of_ne h
theorem pk_pos {n : Int} (h : 0 < n) : (pk n : Int) = n := by unfold pk; rw [if_neg (by omega)]; omega
theorem pk_neg {n : Int} (h : n < 0) (h1 : -9223372036854775808 ≤ n) : IntKind.i64.wrap (0 - (if -9223372036854775807 > n then -9223372036854775807 else n)) = (pk n : Int) := by
  unfold pk
  rw [if_pos h]
  by_cases h2 : n < -9223372036854775807
  · rw [if_pos h2, if_pos (by omega)]; rfl
  · rw [if_neg h2, if_neg (by omega), IntWalk.i64_in _ (by omega)]; omega
theorem pk_bd {n : Int} (h0 : n ≠ 0) (h1 : -9223372036854775808 ≤ n ∧ n < 9223372036854775808) : 0 < (pk n : Int) ∧ (pk n : Int) < 9223372036854775808 := by
  unfold pk
  split
  · split <;> omega
  · omega
theorem pb_ne {q : Rat} (n : Int) (h : ¬ limQ q) : pb q n ≠ 0 := by
  unfold pb
  have hq := lim_num h
  split
  · intro e
    have := Rat.div_mul_cancel (a := 1) hq
    rw [e, Rat.zero_mul] at this
    exact absurd this (by decide)
  · exact hq
theorem pb_sz {q : Rat} {k : Nat} (n : Int) (h : ¬ limQ q) (hk : Sz q k) : Sz (pb q n) (k + 1) := by
  unfold pb
  split
  · exact (Sz_div (lim_num h) (i := 1) (j := k) ⟨by show (limbs 1).length ≤ 1; rw [limbs_1]; decide, by show (limbs 1).length ≤ 1; rw [limbs_1]; decide⟩ hk).mono (by omega)
  · exact hk.mono (by omega)

end Go.Proofs.YthodfkfgdoolnaaGreatDoor

/- Contracts of the document's ratios: powers. -/
set_option linter.unusedVariables false
namespace Go.Proofs.YthodfkfgdoolnaaGreatDoor
open Go Go.AL NM

theorem inv_parts {q : Rat} (h : q ≠ 0) : (1 / q).num.natAbs = q.den ∧ (1 / q).den = q.num.natAbs := by
  rw [Rat.div_def, Rat.one_mul, Rat.num_inv, Rat.den_inv, if_neg (num_ne h)]
  refine ⟨?_, rfl⟩
  rw [Int.natAbs_mul, Int.natAbs_natCast]
  have : q.num.sign.natAbs = 1 := by
    rcases Int.lt_trichotomy q.num 0 with h' | h' | h'
    · rw [Int.sign_eq_neg_one_of_neg h']; rfl
    · exact absurd h' (num_ne h)
    · rw [Int.sign_eq_one_of_pos h']; rfl
  rw [this, Nat.one_mul]
theorem fit_par {q : Rat} {n most : Int} (hl : ¬ limQ q) (h0 : n ≠ 0) (hn : -9223372036854775808 ≤ n ∧ n < 9223372036854775808) (hm : most ≤ 200) (f1 : fitsN (pb q n).num.natAbs (pk n) most) (f2 : fitsN (pb q n).den (pk n) most) :
    ((pk n : Int) % 2 = 1) ↔ n.tmod 2 ≠ 0 := by
  have e2 : n.tmod 2 ≠ 0 ↔ n % 2 = 1 := by
    rcases Int.lt_or_le n 0 with h | h
    · obtain ⟨m, rfl⟩ : ∃ m : Nat, n = -(m : Int) := ⟨n.natAbs, by omega⟩
      rw [Int.neg_tmod, Int.tmod_eq_emod_of_nonneg (by omega)]
      omega
    · rw [Int.tmod_eq_emod_of_nonneg h]; omega
  rw [e2]
  by_cases hb : n < -9223372036854775807
  · exfalso
    have hp : pk n = 9223372036854775807 := by unfold pk; rw [if_pos (by omega), if_pos hb]
    have hpb : pb q n = 1 / q := by unfold pb; rw [if_pos (by omega)]
    have np := num_ne (pb_ne n hl)
    have g1 := fitsN_big (by omega) (by omega) hm f1
    have g2 := fitsN_big (by have := (pb q n).den_nz; omega) (by omega) hm f2
    rw [hpb] at g1 g2
    obtain ⟨i1, i2⟩ := inv_parts (lim_num hl)
    exact hl ⟨i1.symm.trans g1, .inr (i2.symm.trans g2)⟩
  · unfold pk
    split
    · omega
    · omega
theorem tmod_b (n : Int) : ((n.tmod 2) != 0) = decide (n.tmod 2 ≠ 0) := bneD Iff.rfl

theorem lim_sq {q : Rat} (hl : limQ q) : (q * q).num = (q.num.natAbs : Int) ∧ (q * q).den = 1 := by
  obtain ⟨h1, h2⟩ := hl
  obtain ⟨n, rfl⟩ : ∃ n : Int, q = (n : Rat) := ⟨q.num, Rat.ext rfl h1⟩
  have hn : (n : Rat).num = n := rfl
  rw [hn] at h2 ⊢
  have : n = 0 ∨ n = 1 ∨ n = -1 := by omega
  rw [← Rat.intCast_mul]
  rcases this with rfl | rfl | rfl
  · exact ⟨rfl, rfl⟩
  · exact ⟨rfl, rfl⟩
  · exact ⟨rfl, rfl⟩
end Go.Proofs.YthodfkfgdoolnaaGreatDoor

/- Layer 3: what is read, the chapter's examples. -/
set_option linter.unusedVariables false
namespace Go.Proofs.YthodfkfgdoolnaaGreatDoor
open Go Go.AL NM

theorem limbs_small {n : Nat} (h : n < 4294967296) : (limbs n).length ≤ 1 := limbs_len_le (k := 1) (by omega)
theorem Sz_small {q : Rat} (h1 : q.num.natAbs < 4294967296) (h2 : q.den < 4294967296) : Sz q 1 := ⟨limbs_small h1, limbs_small h2⟩
/-- Small numbers written out. -/
theorem RN_small (t : Int) (d : Nat) (s : Bool) (x y : Nat) (ht : decide (t < 0) = s) (hx : t.natAbs = x) (hx' : x < 10) (hd : d = y) (hy' : y < 10) :
    RN t d = .agg [.val (.bool s), .val (.string (strL [((48 + x : Nat) : Int)])), .val (.string (strL [((48 + y : Nat) : Int)]))] := by
  unfold RN decS
  rw [ht, hx, hd, decL_one x hx', decL_one y hy']

/-- Such a number is the one that was written. -/
theorem RN_is (s : Bool) (x y : Nat) (X Y : ByteArray) (hx : strL [((48 + x : Nat) : Int)] = X) (hy : strL [((48 + y : Nat) : Int)] = Y) :
    ((s == s) && (((strL [((48 + x : Nat) : Int)]).toList == X.toList) && (((strL [((48 + y : Nat) : Int)]).toList == Y.toList) && true))) = true := by
  rw [hx, hy]; simp

end Go.Proofs.YthodfkfgdoolnaaGreatDoor

/- Layer 3: words for its laws. -/
set_option linter.unusedVariables false
namespace Go.Proofs.YthodfkfgdoolnaaGreatDoor
open Go Go.AL NM

/-- A number is itself. -/
theorem RN_self (x : Bool) (s t : ByteArray) : ((x == x) && ((s.toList == s.toList) && ((t.toList == t.toList) && true))) = true := by simp
theorem RN_selfn (x : Bool) (s t : ByteArray) : (!((x == x) && ((s.toList == s.toList) && ((t.toList == t.toList) && true)))) = false := by simp
theorem int_self (x : Int) : (x == x) = true := beq_self_eq_true x
theorem bool_self (x : Bool) : (x == x) = true := beq_self_eq_true x
theorem str_self (s : ByteArray) : (s.toList == s.toList) = true := beq_self_eq_true _
theorem NumS (q : Rat) (i : Nat) (hi : dn i = q.den) (h : Sz q 100000) : AC Tryz.prog 14 [RA q.num i] (.pure (RN q.num q.den)) := by
  have := Num_ok q.num i h.1 (by rw [hi]; exact h.2)
  rwa [hi] at this
theorem Sz_zero : Sz 0 1 := Sz_small (by decide) (by decide)

/-- A quotient, in both, or none. -/
theorem by_both (p q : Rat) (lp : Sz p 99) (lq : Sz q 99) (i j : Nat) (hi : dn i = p.den) (hj : dn j = q.den) : ∃ (x : Rat) (d : Nat) (g : Bool), g = decide (q ≠ 0) ∧ dn d = x.den ∧ Sz x 198 ∧ (g = true → x = p / q) ∧ (g = false → x = 0 ∧ d = 0) ∧
    AC Tryz.prog 83 [RA p.num i, RA q.num j] (.pure (.tup [RA x.num d, .val (.bool g)])) ∧ AC Tryz.prog 78 [RN p.num p.den, RN q.num q.den] (.pure (.tup [RN x.num x.den, .val (.bool g)])) := by
  by_cases h : q = 0
  · subst h
    exact ⟨0, 0, false, rfl, rfl, Sz_zero.mono (by decide), fun h => Bool.noConfusion h, fun _ => ⟨rfl, rfl⟩, By_zero p i j hi hj (lp.mono (by decide)), SDiv_zero p lp⟩
  · exact ⟨p / q, (p / q).den, true, (decide_eq_true h).symm, dn_den _, (Sz_div h lp lq).mono (by decide), fun _ => rfl, fun h => Bool.noConfusion h, By_ok p q i j hi hj (lp.mono (by decide)) (lq.mono (by decide)) h, SDiv_ok p q lp lq h⟩

end Go.Proofs.YthodfkfgdoolnaaGreatDoor

/- Layer 3: powers, in both. -/
set_option linter.unusedVariables false
namespace Go.Proofs.YthodfkfgdoolnaaGreatDoor
open Go Go.AL NM

theorem right_decL (n : Nat) (h : (decL n).length ≤ 2000) : right (decL n) = true := by
  unfold right
  rw [Bool.and_eq_true, decide_eq_true_eq, List.all_eq_true]
  have h1 := List.length_pos_iff.2 (decL_ne n)
  exact ⟨⟨h1, h⟩, fun x hx => decide_eq_true (decL_byt n x hx)⟩
theorem Right_num (n : Nat) (h : (decL n).length ≤ 2000) : AC Tryz.prog 48 [.val (.string (decS n))] (.pure (.val (.bool true))) := by
  have := Right_ok (decL n) (fun x hx => by have := decL_byt n x hx; omega) (by omega)
  rwa [right_decL n h] at this
theorem fits_sz {a k : Nat} {most : Int} {K : Nat} (h1 : 1 ≤ K) (hm : most ≤ K) (h : fitsN a k most) : (limbs (a ^ k)).length ≤ K := by
  rcases h with h | h
  · subst h; rw [Nat.one_pow, limbs_1]; exact h1
  · omega

theorem pow_sz (q : Rat) (n most : Int) (K : Nat) (h1 : 1 ≤ K) (hm : most ≤ K) (hq : Sz q K) : Sz (powQ q n most).1 (2 * K) := by
  unfold powQ
  split
  · exact (Sz_small (q := 1) (by decide) (by decide)).mono (by omega)
  · split
    · split
      · exact Sz_zero.mono (by omega)
      · show Sz (if n % 2 = 0 then q * q else q) (2 * K)
        split
        · exact (Sz_mul hq hq).mono (by omega)
        · exact hq.mono (by omega)
    · split
      · rename_i hf
        refine ⟨?_, ?_⟩
        · show (limbs (pb q n ^ pk n).num.natAbs).length ≤ _
          rw [Rat.num_pow, Int.natAbs_pow]
          exact Nat.le_trans (fits_sz h1 hm hf.1) (by omega)
        · show (limbs (pb q n ^ pk n).den).length ≤ _
          rw [Rat.den_pow]
          exact Nat.le_trans (fits_sz h1 hm hf.2) (by omega)
      · exact Sz_zero.mono (by omega)

theorem RT_of (b : Bool) (s t : ByteArray) : AV.agg [.val (.bool b), .val (.string s), .val (.string t)] = RT b (bytesL s) (bytesL t) := by
  unfold RT
  rw [strL_bytesL, strL_bytesL]
theorem RQ_len {b : Bool} {s t : List Int} (h : RQ b s t) : (decS (qOf b s t).num.natAbs).size = s.length ∧ (decS (qOf b s t).den).size = t.length := by
  obtain ⟨e1, e2⟩ := RQ_num h
  rw [e1, e2, sgn_abs]
  unfold decS
  rw [strL_size, strL_size, ← h.2.2.1, ← h.2.2.2.1]
  exact ⟨rfl, rfl⟩

end Go.Proofs.YthodfkfgdoolnaaGreatDoor

/- Numbers as texts: digits, powers of ten (contracts). -/
set_option linter.unusedVariables false
namespace Go.Proofs.YthodfkfgdoolnaaGreatDoor
open Go Go.AL NM

theorem PowT_ok (a : Nat) (n most : Int) (h2 : 2 ≤ a) (hn : 0 < n) (hn63 : n < 9223372036854775808) (hm : ((limbs (a ^ n.toNat)).length : Int) ≤ most) (hl : (limbs (a ^ n.toNat)).length ≤ 10000) (ha : (limbs a).length ≤ 400) :
    AC Tryz.prog 109 [natA a, .val (.int .i64 n), .val (.int .i64 most)] (.pure (.tup [natA (a ^ n.toNat), .val (.bool true)])) := by
  refine AC.of_body TTok Tryz.func109 rfl (enter_of Tryz.func109 (by kernel_rfl) (by kernel_rfl)) (noid3 (natA_noid a) (.val _) (.val _)) (.tup _ (noid2 (natA_noid _) (.val _))) (Nat.le_of_ble_eq_true rfl) ?_
  have hO := One_ok a
  have hZ := Zero_ok a
  rw [decide_eq_false (by omega)] at hO hZ
  obtain ⟨k, hk⟩ : ∃ k : Nat, k = n.toNat := ⟨_, rfl⟩
  rw [← hk] at hm hl ⊢
  have hmono : ∀ i : Nat, i ≤ k → (limbs (a ^ i)).length ≤ (limbs (a ^ k)).length := fun i hi => limbs_pow_le (by omega) hi
  have hM : ∀ i : Nat, i ≤ k → AC Tryz.prog 80 [natA (a ^ i), natA a] (.pure (natA (a ^ (i + 1)))) := fun i hi => by
    have := hmono i hi
    rw [Nat.pow_succ]; exact Mul_ok _ _ (by omega)
  have hOf := Of_ok 1 (by decide)
  unfold natA at hO hZ hM hOf ⊢
  conv => whnf
  refine ⟨_, hOf, ?_⟩
  conv => whnf
  refine caseb (fun h3 => ?_) (fun h3 => ?_)
  · have h3' : n ≤ 0 := of_decide_eq_true h3
    omega
  conv => whnf
  refine ⟨_, hO, ?_⟩
  conv => whnf
  refine ⟨_, hZ, ?_⟩
  conv => whnf
  refine SW.loopM TTok (fun i : Nat => [(2, .val (.int .i64 most)), (3, .lp 0 0), (6, .lp 8 0), (8, .lp 32 0), (20, .val (.int .i64 n)), (21, .val (.int .i64 i))])
    (fun i => [(0, .cells 1 [[.sl 1 (irows .u32 (limbs a)) false]]), (8, .cells 1 [[.sl 0 [] true]]), (32, .cells 1 [[.sl 1 (irows .u32 (limbs (a ^ i))) false]])]) 128 33 rfl (fun i => k - i)
    (fun i => i ≤ k) 0 [] (Nat.zero_le _)
    ⟨⟨rfl, rfl⟩, ⟨rfl, rfl⟩, ⟨rfl, rfl⟩, ⟨rfl, rfl⟩, ⟨rfl, rfl⟩, ⟨rfl, rfl⟩, trivial⟩ ⟨⟨rfl, .inr ⟨rfl, rfl⟩⟩, ⟨rfl, .inr ⟨rfl, rfl⟩⟩, ⟨rfl, .inr ⟨?_, rfl⟩⟩, trivial⟩ rfl ?_
  · show some (LB.cells 1 [[.sl 1 (irows .u32 (limbs 1)) false]]) = some (LB.cells 1 [[.sl 1 (irows .u32 (limbs (a ^ 0))) false]])
    rw [Nat.pow_zero]
  intro i hJ
  have hi : i ≤ k := hJ
  clear hJ
  conv => whnf
  refine caseb (fun h4 => ?_) (fun h4 => ?_)
  · have h4' : (i : Int) < n := of_decide_eq_true h4
    conv => whnf
    refine ⟨_, hM i hi, ?_⟩
    conv => whnf
    refine ⟨_, Limbs_ok (a ^ (i + 1)), ?_⟩
    conv => whnf
    refine caseb (fun h5 => ?_) (fun h5 => ?_)
    · have h5' : ((limbs (a ^ (i + 1))).length : Int) > most := of_decide_eq_true h5
      have := hmono (i + 1) (by omega)
      omega
    · conv => whnf
      refine ⟨i + 1, [], (by show k - (i + 1) < k - i; omega), (by show i + 1 ≤ k; omega), ⟨⟨rfl, rfl⟩, ⟨rfl, rfl⟩, ⟨rfl, rfl⟩, ⟨rfl, rfl⟩, ⟨rfl, rfl⟩, ⟨valI ?_, rfl⟩, trivial⟩, ⟨⟨rfl, .inr ⟨rfl, rfl⟩⟩, ⟨rfl, .inr ⟨rfl, rfl⟩⟩, ⟨rfl, .inr ⟨rfl, rfl⟩⟩, trivial⟩, rfl⟩
      show IntKind.i64.wrap ((i : Int) + 1) = ((i + 1 : Nat) : Int)
      rw [IntWalk.i64_in _ (by omega)]; omega
  · have h4' : ¬ (i : Int) < n := of_decide_eq_false h4
    have hik : i = k := by omega
    conv => whnf
    show AV.tup [.agg [.sl 1 (irows .u32 (limbs (a ^ i))) false], .val (.bool true)] = _
    rw [hik]

theorem ten_limbs {n : Int} (h : n ≤ 2000) : (limbs (10 ^ n.toNat)).length ≤ 250 := by
  obtain ⟨K, hK⟩ : ∃ K : Nat, K = 223 := ⟨_, rfl⟩
  have h1 : (limbs (10 ^ n.toNat)).length ≤ K := by
    refine limbs_len_le ?_
    refine Nat.lt_of_le_of_lt (Nat.pow_le_pow_right (by decide) (show n.toNat ≤ 9 * K by omega)) ?_
    rw [Nat.pow_mul]
    exact Nat.pow_lt_pow_left (by decide) (by omega)
  omega
theorem ten_ok (n : Int) (h : n ≤ 2000) : AC Tryz.prog 81 [.val (.int .i64 n)] (.pure (natA (10 ^ n.toNat))) := by
  refine AC.of_body TTok Tryz.func81 rfl (enter_of Tryz.func81 (by kernel_rfl) (by kernel_rfl)) (noid1 (.val _)) (natA_noid _) (Nat.le_of_ble_eq_true rfl) ?_
  have hl := ten_limbs h
  have hP : AC Tryz.prog 109 [natA 10, .val (.int .i64 n), .val (.int .i64 1048576)] (.pure (.tup [natA (10 ^ n.toNat), .val (.bool true)])) := by
    by_cases h0 : 0 < n
    · exact PowT_ok 10 n 1048576 (by decide) h0 (by omega) (by omega) (by omega) (by have := limbs_small (n := 10) (by decide); omega)
    · rw [show n.toNat = 0 by omega, Nat.pow_zero]
      exact Pow_one 10 n 1048576 (.inl (by omega))
  have hOf := Of_ok 10 (by decide)
  unfold natA at *
  repeat
    conv => whnf
    first
      | refine ⟨_, by assumption, ?_⟩
      | refine ⟨(Nat.le_of_ble_eq_true rfl), _, by assumption, ?_⟩
      | refine ⟨by kernel_rfl, ?_⟩
      | exact rfl
      | exact ⟨Nat.le_of_ble_eq_true rfl, rfl⟩
      | refine ⟨by decide, ?_⟩

/-- Is it a digit? -/
def isD (c : Int) : Bool := decide (48 ≤ c ∧ c ≤ 57)
theorem dgt_ok (c : Int) : AC Tryz.prog 43 [.val (.int .i32 c)] (.pure (.val (.bool (isD c)))) := by
  refine AC.of_body TTok Tryz.func43 rfl (enter_of Tryz.func43 (by kernel_rfl) (by kernel_rfl)) (noid1 (.val _)) (.val _) (Nat.le_of_ble_eq_true rfl) ?_
  unfold isD
  conv => whnf
  refine caseb (fun h1 => ?_) (fun h1 => ?_)
  · have h1' : c ≥ 48 := of_decide_eq_true h1
    conv => whnf
    exact valB (decide_eq_decide.2 ⟨fun h => ⟨h1', h⟩, fun h => h.2⟩)
  · have h1' : ¬ c ≥ 48 := of_decide_eq_false h1
    conv => whnf
    exact valB (decide_eq_false (by omega)).symm
theorem Rdgt_ok (c : Int) : AC Tryz.prog 44 [.val (.int .i32 c)] (.pure (.val (.bool (isD c)))) := by
  refine AC.of_body TTok Tryz.func44 rfl (enter_of Tryz.func44 (by kernel_rfl) (by kernel_rfl)) (noid1 (.val _)) (.val _) (Nat.le_of_ble_eq_true rfl) ?_
  unfold isD
  conv => whnf
  refine caseb (fun h1 => ?_) (fun h1 => ?_)
  · have h1' : c ≥ 48 := of_decide_eq_true h1
    conv => whnf
    exact valB (decide_eq_decide.2 ⟨fun h => ⟨h1', h⟩, fun h => h.2⟩)
  · have h1' : ¬ c ≥ 48 := of_decide_eq_false h1
    conv => whnf
    exact valB (decide_eq_false (by omega)).symm

/-- The digits that stand from a place on. -/
def dT (L : List Int) (p : Nat) : List Int := (L.drop p).takeWhile isD
theorem dT_dig (L : List Int) (p : Nat) : Dig (dT L p) := fun x hx => by
  have := List.all_takeWhile (p := isD) (l := L.drop p)
  have := (List.all_eq_true.1 this) x hx
  unfold isD at this
  have := of_decide_eq_true this
  omega
theorem dT_pre (L : List Int) (p : Nat) : dT L p = (L.drop p).take (dT L p).length := by
  have := List.takeWhile_prefix (p := isD) (l := L.drop p)
  exact (List.prefix_iff_eq_take.1 this)
theorem dT_len (L : List Int) (p : Nat) : p + (dT L p).length ≤ max p L.length := by
  have := (List.takeWhile_prefix (p := isD) (l := L.drop p)).length_le
  rw [List.length_drop] at this
  unfold dT; omega
theorem dT_le (L : List Int) {p : Nat} (h : p ≤ L.length) : p + (dT L p).length ≤ L.length := by
  have := dT_len L p; omega
theorem dT_at (L : List Int) (p : Nat) {k : Nat} (hk : k < (dT L p).length) : ∃ c, L[p + k]? = some c ∧ isD c = true ∧ (dT L p)[k]? = some c := by
  have h1 : (dT L p)[k]? = some (dT L p)[k] := List.getElem?_eq_getElem hk
  have h2 : ((L.drop p).take (dT L p).length)[k]? = some (dT L p)[k] := by rw [← dT_pre]; exact h1
  rw [List.getElem?_take_of_lt hk, List.getElem?_drop] at h2
  refine ⟨_, h2, ?_, h1⟩
  exact (List.all_eq_true.1 (List.all_takeWhile (p := isD) (l := L.drop p))) _ (List.getElem_mem hk)
theorem dT_end (L : List Int) (p : Nat) {c : Int} (h : L[p + (dT L p).length]? = some c) : isD c = false := by
  have h1 : (L.drop p) = dT L p ++ (L.drop p).dropWhile isD := List.takeWhile_append_dropWhile.symm
  have h2 : (L.drop p)[(dT L p).length]? = some c := by rw [List.getElem?_drop]; exact h
  rw [h1, List.getElem?_append_right (Nat.le_refl _), Nat.sub_self] at h2
  cases hd : (L.drop p).dropWhile isD with
  | nil => rw [hd] at h2; cases h2
  | cons x l =>
    rw [hd] at h2
    have hx : x = c := Option.some.inj h2
    subst hx
    have := List.head?_dropWhile_not isD (L.drop p)
    rw [hd] at this
    simpa using this

theorem slI_noid' (l : List Int) : NoId (.sl 1 (irows .i32 l) false) := noid_sl _ _ _
theorem irows_drop (k : IntKind) (l : List Int) (i : Nat) : (irows k l).drop i = irows k (l.drop i) := by unfold irows; rw [List.map_drop]
theorem irows_take (k : IntKind) (l : List Int) (i : Nat) : (irows k l).take i = irows k (l.take i) := by unfold irows; rw [List.map_take]

theorem run_ok (L : List Int) (p : Nat) (hp : p ≤ L.length) (hb : L.length < 1000000000) : AC Tryz.prog 40 [.sl 1 (irows .i32 L) false, .val (.int .i64 (p : Int))] (.pure (.val (.int .i64 ((dT L p).length : Nat)))) := by
  refine AC.of_body TTok Tryz.func40 rfl (enter_of Tryz.func40 (by kernel_rfl) (by kernel_rfl)) (noid2 (slI_noid' _) (.val _)) (.val _) (Nat.le_of_ble_eq_true rfl) ?_
  have hlen := irows_len .i32 L
  have hD := dT_le L hp
  conv => whnf
  refine SW.loopM TTok (fun i : Nat => [(0, .sl 1 (irows .i32 L) false), (1, .val (.int .i64 (p : Int))), (5, .val (.int .i64 (i : Int)))]) (fun i => []) 16 24 rfl (fun i => L.length - i) (fun i => i ≤ (dT L p).length) 0 [] (Nat.zero_le _)
    ⟨⟨rfl, rfl⟩, ⟨rfl, rfl⟩, ⟨rfl, rfl⟩, trivial⟩ trivial rfl ?_
  intro i hi
  have hi : i ≤ (dT L p).length := hi
  have eA : IntKind.i64.wrap ((p : Int) + (i : Int)) = ((p + i : Nat) : Int) := by rw [IntWalk.i64_in _ (by omega)]; omega
  have eI : IntKind.i64.wrap ((i : Int) + 1) = ((i + 1 : Nat) : Int) := by rw [IntWalk.i64_in _ (by omega)]; omega
  by_cases h1 : p + i < L.length
  · have hg := irows_get .i32 L (List.getElem?_eq_getElem h1)
    have hd := Rdgt_ok L[p + i]
    conv => whnf
    rw [eA]
    conv => whnf
    first
      | refine caseb (fun _ => ?_) (fun h => absurd (of_decide_eq_false h) (by omega))
      | refine caseb (fun h => absurd (of_decide_eq_true h) (by omega)) (fun _ => ?_)
      | refine caseb (fun _ => ?_) (fun h => absurd (beq_eq_false_iff_ne.1 h) (by omega))
      | refine caseb (fun h => absurd (eq_of_beq h) (by omega)) (fun _ => ?_)
    conv => whnf
    rw [eA]
    refine ⟨_, ⟨by omega, hg⟩, ?_⟩
    conv => whnf
    refine ⟨_, hd, ?_⟩
    conv => whnf
    by_cases h2 : i < (dT L p).length
    · obtain ⟨c, h3, h4, h5⟩ := dT_at L p h2
      rw [List.getElem?_eq_getElem h1] at h3
      have h3 := Option.some.inj h3
      rw [← h3] at h4
      conv => whnf
      refine caseb (fun _ => ?_) (fun h => Bool.noConfusion ((h4).symm.trans h))
      conv => whnf
      refine ⟨i + 1, [], (by show L.length - (i + 1) < L.length - i; omega), h2, ⟨⟨rfl, rfl⟩, ⟨rfl, rfl⟩, ⟨valI eI, rfl⟩, trivial⟩, trivial, rfl⟩
    · have hie : i = (dT L p).length := by omega
      have h4 := dT_end L p (c := L[p + i]) (by rw [← hie]; exact List.getElem?_eq_getElem h1)
      conv => whnf
      refine caseb (fun h => Bool.noConfusion ((h4).symm.trans h)) (fun _ => ?_)
      conv => whnf
      exact valI (by rw [hie])
  · have hie : i = (dT L p).length := by omega
    conv => whnf
    rw [eA]
    conv => whnf
    first
      | refine caseb (fun _ => ?_) (fun h => absurd (of_decide_eq_false h) (by omega))
      | refine caseb (fun h => absurd (of_decide_eq_true h) (by omega)) (fun _ => ?_)
      | refine caseb (fun _ => ?_) (fun h => absurd (beq_eq_false_iff_ne.1 h) (by omega))
      | refine caseb (fun h => absurd (eq_of_beq h) (by omega)) (fun _ => ?_)
    conv => whnf
    exact valI (by rw [hie])
end Go.Proofs.YthodfkfgdoolnaaGreatDoor

/- An abstract program logic over tree values (part 30): what a caller hands in, structs and slices of any depth, as abstract values. -/
set_option linter.unusedVariables false
set_option linter.unusedSimpArgs false
namespace Go.AL
open Go Go.RowKit Go.ChangeShapes Go.WideShapes

/-- Cells that stand to abstract values that name no live block. -/
def CellsR (W : World) (cs : List Value) (xs : List AV) : Prop :=
  xs.length = cs.length ∧ ∀ (i : Nat) (y : AV), xs[i]? = some y → VR W (fun b => b < W.heap.size) (fun _ => none) (cs.getD i undef) y ∧ (cs.getD i undef).oneCell' = true ∧ NoId y

theorem CellsR.nil (W : World) : CellsR W [] [] := ⟨rfl, fun i y h => by simp at h⟩
theorem CellsR.append {W : World} {a b : List Value} {xs ys : List AV} (h : CellsR W a xs) (h' : CellsR W b ys) : CellsR W (a ++ b) (xs ++ ys) := by
  refine ⟨by rw [List.length_append, List.length_append, h.1, h'.1], fun i y hy => ?_⟩
  by_cases hi : i < xs.length
  · rw [List.getElem?_append_left hi] at hy
    have := h.2 i y hy
    rw [show (a ++ b).getD i undef = a.getD i undef by rw [List.getD, List.getD, List.getElem?_append_left (by rw [← h.1]; exact hi)]]
    exact this
  · rw [List.getElem?_append_right (by omega)] at hy
    have := h'.2 _ y hy
    rw [show (a ++ b).getD i undef = b.getD (i - xs.length) undef by rw [List.getD, List.getD, List.getElem?_append_right (by rw [← h.1]; omega), h.1]]
    exact this
theorem CellsR.one {W : World} {v : Value} {x : AV} (h : VR W (fun b => b < W.heap.size) (fun _ => none) v x) (h1 : v.oneCell' = true) (h2 : NoId x) : CellsR W [v] [x] := by
  refine ⟨rfl, fun i y hy => ?_⟩
  rcases i with _ | i
  · simp at hy; subst hy; exact ⟨h, h1, h2⟩
  · simp at hy

/-- What is known of the cells of a type. -/
def Opens (P : Program) (t : TypeId) (Φ : List AV → Prop) : Prop :=
  ∀ (W : World) (H : Type) (enc : TypeId × Value → H) (fuel : Nat) (cs : List Value) (x : DataW H × List MemPlace), DataW.trod enc P W 0 (fun _ => true) true fuel t cs = some x → ∃ xs, CellsR W cs xs ∧ Φ xs

section
variable {P : Program} {t : TypeId}

theorem opens_int {k : IntKind} (ht : P.underlying t = some (.int k)) : Opens P t (fun xs => ∃ n, xs = [.val (.int k n)] ∧ (Lit.int k n).wf = true) := by
  intro W H enc fuel cs x h
  obtain ⟨n, rfl, _, hw⟩ := DataW.trod_int ht h
  exact ⟨_, CellsR.one (.val _) rfl (.val _), n, rfl, hw⟩
theorem opens_bool (ht : P.underlying t = some .bool) : Opens P t (fun xs => ∃ b, xs = [.val (.bool b)]) := by
  intro W H enc fuel cs x h
  obtain ⟨n, rfl, _⟩ := DataW.trod_bool ht h
  exact ⟨_, CellsR.one (.val _) rfl (.val _), n, rfl⟩
theorem opens_str (ht : P.underlying t = some .string) : Opens P t (fun xs => ∃ s, xs = [.val (.string s)] ∧ s.size ≤ maxLen) := by
  intro W H enc fuel cs x h
  obtain ⟨s, rfl, _, hs⟩ := DataW.trod_string ht h
  exact ⟨_, CellsR.one (.val _) rfl (.val _), s, rfl, hs⟩

/-- The fields of a struct, from a place on. -/
inductive OpensF (P : Program) : List (Nat × Nat) → Nat → Nat → (List AV → Prop) → Prop
  | nil (n : Nat) : OpensF P [] n n (fun xs => xs = [])
  | cons (t : Nat) (fs : List (Nat × Nat)) (off c n : Nat) (Φ Ψ : List AV → Prop) (hc : P.cellsOf t = c) (hf : Opens P t Φ) (hr : OpensF P fs (off + c) n Ψ) :
      OpensF P ((off, t) :: fs) off n (fun xs => ∃ a b, xs = a ++ b ∧ Φ a ∧ Ψ b)

theorem OpensF.spec {fs : List (Nat × Nat)} {off n : Nat} {Φ : List AV → Prop} (h : OpensF P fs off n Φ) : ∀ (W : World) (H : Type) (enc : TypeId × Value → H) (fuel : Nat) (cs : List Value),
    cs.length = n → (∀ f ∈ fs, ∃ y, DataW.trod enc P W 0 (fun _ => true) true fuel f.2 ((cs.drop f.1).take (P.cellsOf f.2)) = some y) → ∃ xs, CellsR W (cs.drop off) xs ∧ Φ xs := by
  induction h with
  | nil n =>
    intro W H enc fuel cs hl _
    refine ⟨[], ?_, rfl⟩
    rw [List.drop_of_length_le (by omega)]
    exact .nil W
  | cons t fs off c n Φ Ψ hc hf hr ih =>
    intro W H enc fuel cs hl hall
    obtain ⟨y, hy⟩ := hall (off, t) (by simp)
    rw [hc] at hy
    obtain ⟨a, ha, hΦ⟩ := hf W H enc fuel _ y hy
    obtain ⟨b, hb, hΨ⟩ := ih W H enc fuel cs hl (fun g hg => hall g (by simp [hg]))
    refine ⟨a ++ b, ?_, a, b, rfl, hΦ, hΨ⟩
    have e : cs.drop off = (cs.drop off).take c ++ cs.drop (off + c) := by
      rw [← List.drop_drop, List.take_append_drop]
    rw [e]
    exact ha.append hb

theorem opens_struct {fs : Array Field} {l : List (Nat × Nat)} {n : Nat} {Φ : List AV → Prop} (ht : P.underlying t = some (.struct fs)) (hfs : fs.toList.map (fun f => (f.offset, f.type)) = l) (hc : P.cellsOf t = n) (h : OpensF P l 0 n Φ) : Opens P t Φ := by
  intro W H enc fuel cs x hx
  obtain ⟨xs, m, rfl, _, hl, hs, hf⟩ := DataW.trod_struct ht hx
  have := h.spec W H enc m cs (by rw [hl, hc]) (fun g hgm => by
    rw [← hfs] at hgm
    obtain ⟨f, hfm, rfl⟩ := List.mem_map.1 hgm
    obtain ⟨i, hi⟩ := List.getElem?_of_mem hfm
    have hi' : fs[i]? = some f := by rw [← Array.getElem?_toList]; exact hi
    have hlt : i < xs.length := by
      have := (Array.getElem?_eq_some_iff.1 hi').1
      omega
    exact ⟨xs[i], by rw [hf i f hi']; exact List.getElem?_eq_getElem hlt⟩)
  simpa using this

theorem opens_slice {e c : Nat} {Φ : List AV → Prop} (ht : P.underlying t = some (.slice e)) (hc : P.cellsOf e = c) (h0 : 0 < c) (he : Opens P e Φ) :
    Opens P t (fun xs => ∃ rows, xs = [.sl c rows false] ∧ rows.length ≤ maxLen ∧ ∀ r ∈ rows, r.length = c ∧ Φ r) := by
  intro W H enc fuel cs x hx
  rcases DataW.trod_slice ht hx with ⟨rfl, _⟩ | ⟨a, len, cap, elems, rest, n, rfl, rfl, _, hb, hl, hm, hlen, hel, _, _⟩
  · refine ⟨[.sl c [] false], CellsR.one (.sl none 0 0 c [] false 0 0 (fun _ => undef) rfl (Nat.le_refl _) (fun h => by cases h) (fun r hr => by cases hr) (fun h => absurd rfl h) (fun j x hx => by simp at hx) (fun j x hx => by simp at hx) (fun j x hx => by simp at hx) (fun j x hx => by simp at hx)) rfl (.sl _ _ _ (fun r hr => by cases hr)), [], rfl, Nat.zero_le _, fun r hr => by cases hr⟩
  · have ex : ∀ i, i < len → ∃ (ci : List Value) (xs : List AV), W.cells? 0 (a.add (i * c)) c = some ci ∧ CellsR W ci xs ∧ Φ xs := by
      intro i hi
      have h1 := hel i hi
      rw [hc, List.getElem?_eq_getElem (by omega), Option.bind_eq_some_iff] at h1
      obtain ⟨ci, h2, h3⟩ := h1
      obtain ⟨xs, h4, h5⟩ := he W H enc n ci _ h3
      exact ⟨ci, xs, h2, h4, h5⟩
    have : ∃ f : Nat → List AV, ∀ i, i < len → ∃ ci : List Value, W.cells? 0 (a.add (i * c)) c = some ci ∧ CellsR W ci (f i) ∧ Φ (f i) :=
      ⟨fun i => if h : i < len then (ex i h).choose_spec.choose else [], fun i hi => ⟨(ex i hi).choose, by
        simp only [dif_pos hi]
        exact (ex i hi).choose_spec.choose_spec⟩⟩
    obtain ⟨f, hf⟩ := this
    have hrl : ((List.range len).map f).length = len := by simp
    have hget : ∀ i r, ((List.range len).map f)[i]? = some r → i < len ∧ r = f i := fun i r hr => by
      rw [List.getElem?_map] at hr
      by_cases hi : i < len
      · rw [List.getElem?_range hi] at hr
        exact ⟨hi, (Option.some.inj hr).symm⟩
      · rw [List.getElem?_eq_none (by simp; omega)] at hr; cases hr
    have hw : ∀ r ∈ (List.range len).map f, r.length = c ∧ Φ r := fun r hr => by
      obtain ⟨i, hi, rfl⟩ := List.mem_map.1 hr
      obtain ⟨ci, h1, h2, h3⟩ := hf i (List.mem_range.1 hi)
      exact ⟨by rw [h2.1]; exact (World.cells?_some h1).2.1, h3⟩
    have spot : 0 < len → a.spot = none := fun hp => by
      obtain ⟨ci, h1, _, _⟩ := hf 0 hp
      have h2 := World.cells?_some h1
      have h3 := h2.2.2 0 h0
      rw [Nat.zero_mul, show (a.add 0).add 0 = a from rfl, List.getElem?_eq_getElem (by omega)] at h3
      unfold World.cell? at h3
      split at h3
      · cases hs : a.spot with
        | none => rfl
        | some z => rw [hs] at h3; simp at h3
      · cases h3
    have cell : ∀ (j : Nat) (y : AV), ((List.range len).map f).flatten[j]? = some y → ∃ v, W.cell? ⟨a.block, a.off + j, none⟩ = some v ∧ v.oneCell' = true ∧ VR W (fun b => b < W.heap.size) (fun _ => none) v y ∧ NoId y := by
      intro j y hy
      rw [flat_get h0 _ (fun r hr => (hw r hr).1), Option.bind_eq_some_iff] at hy
      obtain ⟨r, hr, hy⟩ := hy
      obtain ⟨hi, rfl⟩ := hget _ _ hr
      obtain ⟨ci, h1, h2, h3⟩ := hf _ hi
      obtain ⟨_, hcl, hcell⟩ := World.cells?_some h1
      have hk : j % c < c := Nat.mod_lt _ h0
      have h4 := hcell (j % c) hk
      rw [List.getElem?_eq_getElem (by omega)] at h4
      obtain ⟨g1, g2, g3⟩ := h2.2 _ y hy
      rw [List.getD, List.getElem?_eq_getElem (by omega), Option.getD_some] at g1 g2
      have hs := spot (Nat.lt_of_le_of_lt (Nat.zero_le _) hi)
      have ea : (a.add (j / c * c)).add (j % c) = ⟨a.block, a.off + j, none⟩ := by
        obtain ⟨b, o, sp⟩ := a
        have hs : sp = none := hs
        subst hs
        rw [add_plain, add_plain, Nat.add_assoc, Nat.mul_comm, Nat.div_add_mod]
      rw [ea] at h4
      exact ⟨_, h4, g2, g1, g3⟩
    refine ⟨[.sl c ((List.range len).map f) false], CellsR.one ?_ rfl (.sl _ _ _ (fun r hr y hy => ?_)), _, rfl, by rw [hrl]; omega, hw⟩
    · refine .sl (some a) len cap c _ false a.block a.off (fun j => (W.cell? ⟨a.block, a.off + j, none⟩).getD undef) (by rw [hrl]) hl (fun h => by cases h) (fun r hr => (hw r hr).1) (fun hne => ?_) (fun j y hy => ?_) (fun j y hy => ?_) (fun j y hy => ?_) (fun j y hy => ?_)
      · have hp : 0 < len := by
          rcases Nat.eq_zero_or_pos len with h | h
          · exact absurd (by rw [h]; rfl) hne
          · exact h
        have hs := spot hp
        obtain ⟨ci, h1, _, _⟩ := hf 0 hp
        have h3 := (World.cells?_some h1).2.2 0 h0
        rw [Nat.zero_mul, show (a.add 0).add 0 = a from rfl, List.getElem?_eq_getElem (by rw [(World.cells?_some h1).2.1]; exact h0)] at h3
        refine ⟨by obtain ⟨b, o, sp⟩ := a; have hs : sp = none := hs; rw [hs], ?_⟩
        unfold World.cell? at h3
        split at h3
        · rename_i hb' 
          exact (Array.getElem?_eq_some_iff.1 hb').1
        · cases h3
      · obtain ⟨v, h1, _⟩ := cell j y hy
        rw [h1]; rfl
      · obtain ⟨v, h1, h2, _⟩ := cell j y hy
        rw [h1]; exact h2
      · obtain ⟨v, h1, _, h3, _⟩ := cell j y hy
        rw [h1]; exact h3
      · obtain ⟨v, h1, _, _, h4⟩ := cell j y hy
        exact h4
    · obtain ⟨i, hi⟩ := List.getElem?_of_mem hr
      obtain ⟨k, hk⟩ := List.getElem?_of_mem hy
      have := flat_row (fun r hr => (hw r hr).1) hi hk
      exact (cell _ y this).choose_spec.2.2.2

theorem Opens.mono {Φ Ψ : List AV → Prop} (h : Opens P t Φ) (hm : ∀ xs, Φ xs → Ψ xs) : Opens P t Ψ := fun W H enc fuel cs x hx => by
  obtain ⟨xs, h1, h2⟩ := h W H enc fuel cs x hx
  exact ⟨xs, h1, hm xs h2⟩

/-- An argument of one cell. -/
theorem Opens.cell {Φ : List AV → Prop} (h : Opens P t Φ) {W : World} {H : Type} {enc : TypeId × Value → H} {v : Value} {d : DataW H} {ps : List MemPlace} (hd : DataW.Trod enc P W 0 (fun _ => true) true t v d ps)
    (hc : v.cells = #[v]) : ∃ x, Φ [x] ∧ VR W (fun b => b < W.heap.size) (fun _ => none) v x ∧ NoId x := by
  obtain ⟨fuel, hf⟩ := hd
  obtain ⟨xs, h1, h2⟩ := h W H enc fuel _ _ hf
  rw [hc] at h1
  match xs, h1, h2 with
  | [x], h1, h2 =>
    obtain ⟨g1, _, g3⟩ := h1.2 0 x rfl
    exact ⟨x, h2, g1, g3⟩
  | [], h1, _ => exact absurd h1.1 (by simp)
  | _ :: _ :: _, h1, _ => exact absurd h1.1 (by simp)

/-- An argument that is a struct. -/
theorem Opens.struct {Φ : List AV → Prop} (h : Opens P t Φ) {W : World} {H : Type} {enc : TypeId × Value → H} {cs : Array Value} {d : DataW H} {ps : List MemPlace} (hd : DataW.Trod enc P W 0 (fun _ => true) true t (.agg cs) d ps) :
    ∃ xs, Φ xs ∧ VR W (fun b => b < W.heap.size) (fun _ => none) (.agg cs) (.agg xs) ∧ NoId (.agg xs) := by
  obtain ⟨fuel, hf⟩ := hd
  obtain ⟨xs, h1, h2⟩ := h W H enc fuel _ _ hf
  have hg : ∀ i, (Value.cells (.agg cs)).toList.getD i undef = cs.getD i undef := fun i => by
    show cs.toList.getD i undef = _
    rw [List.getD, Array.getElem?_toList, Array.getD_eq_getD_getElem?]
  refine ⟨xs, h2, .agg cs xs ?_ (fun i x hx => ?_) (fun i x hx => ?_), .agg _ (fun x hx => ?_)⟩
  · have : xs.length = cs.toList.length := h1.1
    rw [this]; simp
  · have := (h1.2 i x hx).2.1
    rwa [hg] at this
  · have := (h1.2 i x hx).1
    rwa [hg] at this
  · obtain ⟨i, hi⟩ := List.getElem?_of_mem hx
    exact (h1.2 i x hi).2.2
end
end Go.AL

/- An abstract program logic over tree values (part 31): ways that meet again, told by slots and blocks. -/
set_option linter.unusedVariables false
set_option linter.unusedSimpArgs false
namespace Go.AL
open Go Go.RowKit

theorem SW.cutM {P : Program} {TT : Nat → Option TI} (hT : TTok P TT) {α : Type} {x y : Code} {Q : Exit → St → Prop} {s : St} (ts : α → List (Nat × AV)) (hs : α → List (Nat × LB)) (n m : Nat) (hm : s.m = m) (J : α → Prop)
    (h : axp P TT x (loopQ Q fun s2 => ∃ (a : α) (σ : List (Nat × Nat)), J a ∧ okT s2 (σf σ) n (ts a) ∧ okH s2 (σf σ) n (hs a) ∧ distinct (((hs a).map (·.1)).map (σf σ)) = true) s)
    (hy : ∀ a, J a → SW P y Q (mkS (ts a) (hs a) n m)) : SW P (.seq x y) Q s := by
  refine SW.cut (fun s3 => ∃ a, J a ∧ s3 = mkS (ts a) (hs a) n m) (((axp_sound hT _ _ _ h).keep).mono fun e s' hq => ?_) ?_
  · obtain ⟨hq, hms⟩ := hq
    cases e with
    | normal =>
      obtain ⟨a, σ, g2, g3, g4, g5⟩ := hq
      exact ⟨mkS (ts a) (hs a) n m, Wk.of _ _ _ _ _ (by rw [hms, hm]) g3 g4 g5, (by rw [hms, hm]; rfl), a, g2, rfl⟩
    | _ => exact hq
  · rintro s3 hm3 ⟨a, hJ, rfl⟩
    exact hy a hJ

theorem SW.cutS {P : Program} {TT : Nat → Option TI} (hT : TTok P TT) {α : Type} {x y : Code} {Q : Exit → St → Prop} {s : St} (ts : α → List (Nat × AV)) (hs : α → List (Nat × LB)) (n m : Nat) (hm : s.m = m) (J : α → Prop)
    (h : SW P x (loopQ Q fun s2 => ∃ (a : α) (σ : List (Nat × Nat)), J a ∧ okT s2 (σf σ) n (ts a) ∧ okH s2 (σf σ) n (hs a) ∧ distinct (((hs a).map (·.1)).map (σf σ)) = true) s)
    (hy : ∀ a, J a → SW P y Q (mkS (ts a) (hs a) n m)) : SW P (.seq x y) Q s := by
  refine SW.cut (fun s3 => ∃ a, J a ∧ s3 = mkS (ts a) (hs a) n m) ((h.keep).mono fun e s' hq => ?_) ?_
  · obtain ⟨hq, hms⟩ := hq
    cases e with
    | normal =>
      obtain ⟨a, σ, g2, g3, g4, g5⟩ := hq
      exact ⟨mkS (ts a) (hs a) n m, Wk.of _ _ _ _ _ (by rw [hms, hm]) g3 g4 g5, (by rw [hms, hm]; rfl), a, g2, rfl⟩
    | _ => exact hq
  · rintro s3 hm3 ⟨a, hJ, rfl⟩
    exact hy a hJ

theorem SW.seqA {P : Program} {TT : Nat → Option TI} (hT : TTok P TT) {x y : Code} {Q : Exit → St → Prop} {s : St} (h : axp P TT x (seqQ P y Q) s) : SW P (.seq x y) Q s := SW.seq (axp_sound hT _ _ _ h)

end Go.AL

/- Numbers as texts: where a number begins, digits, exponents (contracts of both). -/
set_option linter.unusedVariables false
namespace Go.Proofs.YthodfkfgdoolnaaGreatDoor
open Go Go.AL NM

theorem encode_low {c : Int} (h0 : 0 ≤ c) (h : c < 128) : (Utf8.encode c).data.toList = [UInt8.ofNat c.toNat] := by
  unfold Utf8.encode
  dsimp only
  have hv : Utf8.valid c = true := by unfold Utf8.valid; simp; omega
  rw [hv, if_pos rfl, if_pos (by omega)]
theorem runesStr_snoc (g : List Int) (c : Int) : runesStr (g ++ [c]) = runesStr g ++ Utf8.encode c := by
  unfold runesStr; rw [List.foldl_append]; rfl
theorem runesStr_acc (b : List Int) : ∀ a : ByteArray, b.foldl (fun s n => s ++ Utf8.encode n) a = a ++ runesStr b := by
  induction b with
  | nil => intro a; show a = a ++ ByteArray.empty; rw [ByteArray.append_empty]
  | cons c b ih =>
    intro a
    show b.foldl _ (a ++ Utf8.encode c) = a ++ b.foldl _ (ByteArray.empty ++ Utf8.encode c)
    rw [ih, ih, ByteArray.empty_append, ByteArray.append_assoc]
theorem runesStr_app (a b : List Int) : runesStr (a ++ b) = runesStr a ++ runesStr b := by
  rw [show runesStr (a ++ b) = b.foldl (fun s n => s ++ Utf8.encode n) (runesStr a) from List.foldl_append, runesStr_acc]
/-- Signs of numbers. -/
def gd (c : Int) : Prop := (0 ≤ c ∧ c < 128) ∨ c = 175
/-- The bytes of signs of numbers. -/
def u8 (l : List Int) : List Int := l.flatMap fun c => if c = 175 then [194, 175] else [c]
theorem enc_low {c : Int} (h0 : 0 ≤ c) (h : c < 128) : Utf8.encode c = strL [c] := by
  have h1 := encode_low h0 h
  have : (Utf8.encode c).data = (strL [c]).data := Array.toList_inj.1 h1
  exact ByteArray.ext this
theorem enc_high : Utf8.encode 175 = strL [194, 175] := by decide +kernel
theorem runesStr_u8 (l : List Int) (h : ∀ c ∈ l, gd c) : runesStr l = strL (u8 l) := by
  induction l with
  | nil => rfl
  | cons c l ih =>
    have e : runesStr (c :: l) = Utf8.encode c ++ runesStr l := by
      show l.foldl _ (ByteArray.empty ++ Utf8.encode c) = _
      rw [runesStr_acc, ByteArray.empty_append]
    rw [e, ih (fun x hx => h x (List.mem_cons_of_mem _ hx))]
    have hc := h c List.mem_cons_self
    show _ = strL ((if c = 175 then [194, 175] else [c]) ++ u8 l)
    rw [← strL_append]
    split
    · rename_i hh; rw [hh, enc_high]
    · rename_i hh
      unfold gd at hc
      rw [enc_low (by omega) (by omega)]
theorem u8_low (l : List Int) (h : ∀ c ∈ l, c ≠ 175) : u8 l = l := by
  induction l with
  | nil => rfl
  | cons c l ih =>
    show (if c = 175 then [194, 175] else [c]) ++ u8 l = _
    rw [if_neg (h c List.mem_cons_self), ih (fun x hx => h x (List.mem_cons_of_mem _ hx))]; rfl
theorem runesStr_dig {l : List Int} (h : Dig l) : runesStr l = strL l := by
  rw [runesStr_u8 l (fun c hc => by have := h c hc; unfold gd; omega), u8_low l (fun c hc => by have := h c hc; omega)]

/-- What a sign is at a place. -/
def isAt (L : List Int) (p : Nat) (f : Int → Bool) : Bool := match L[p]? with | some c => f c | none => false
theorem isAt_lt {L : List Int} {p : Nat} {f : Int → Bool} (h : p < L.length) : isAt L p f = f L[p] := by
  unfold isAt; rw [List.getElem?_eq_getElem h]
theorem isAt_ge {L : List Int} {p : Nat} {f : Int → Bool} (h : L.length ≤ p) : isAt L p f = false := by
  unfold isAt; rw [List.getElem?_eq_none h]
def begins (L : List Int) (p : Nat) : Bool := isAt L p isD || isAt L p (· == 175) || (isAt L p (· == 46) && isAt L (p + 1) isD)
theorem begins_lt {L : List Int} {p : Nat} (h : begins L p = true) : p < L.length := by
  rcases Nat.lt_or_ge p L.length with h1 | h1
  · exact h1
  · unfold begins at h
    rw [isAt_ge h1, isAt_ge h1, isAt_ge h1] at h
    cases h

theorem Begins_ok (L : List Int) (a : Int) (hb : L.length < 1000000000) : AC Tryz.prog 12 [.sl 1 (irows .i32 L) false, .val (.int .i64 a)] (.pure (.val (.bool (decide (0 ≤ a) && begins L a.toNat)))) := by
  refine AC.of_body TTok Tryz.func12 rfl (enter_of Tryz.func12 (by kernel_rfl) (by kernel_rfl)) (noid2 (slI_noid' _) (.val _)) (.val _) (Nat.le_of_ble_eq_true rfl) ?_
  have hlen := irows_len .i32 L
  by_cases h0 : a < 0
  · rw [decide_eq_false (by omega)]
    conv => whnf
    first
      | refine caseb (fun _ => ?_) (fun h => absurd (of_decide_eq_false h) (by omega))
      | refine caseb (fun h => absurd (of_decide_eq_true h) (by omega)) (fun _ => ?_)
      | refine caseb (fun _ => ?_) (fun h => absurd (beq_eq_false_iff_ne.1 h) (by omega))
      | refine caseb (fun h => absurd (eq_of_beq h) (by omega)) (fun _ => ?_)
    repeat
      conv => whnf
      first
        | refine ⟨_, by assumption, ?_⟩
        | refine ⟨(Nat.le_of_ble_eq_true rfl), _, by assumption, ?_⟩
        | refine ⟨by kernel_rfl, ?_⟩
        | exact rfl
        | exact ⟨Nat.le_of_ble_eq_true rfl, rfl⟩
        | refine ⟨by decide, ?_⟩
  · obtain ⟨p, rfl⟩ := Int.eq_ofNat_of_zero_le (Int.not_lt.1 h0)
    rw [decide_eq_true (by omega), Bool.true_and, Int.toNat_natCast]
    by_cases h1 : p < L.length
    · have hg := irows_get .i32 L (List.getElem?_eq_getElem h1)
      have hd := dgt_ok L[p]
      have e1 := isAt_lt (f := isD) h1
      have e2 := isAt_lt (f := (· == 175)) h1
      have e3 := isAt_lt (f := (· == 46)) h1
      have eI : IntKind.i64.wrap ((p : Int) + 1) = ((p + 1 : Nat) : Int) := by rw [IntWalk.i64_in _ (by omega)]; omega
      unfold begins
      rw [e1, e2, e3]
      generalize isD L[p] = d at *
      generalize hc : L[p] = c at *
      cases d with
      | true =>
        conv => whnf
        first
          | refine caseb (fun _ => ?_) (fun h => absurd (of_decide_eq_false h) (by omega))
          | refine caseb (fun h => absurd (of_decide_eq_true h) (by omega)) (fun _ => ?_)
          | refine caseb (fun _ => ?_) (fun h => absurd (beq_eq_false_iff_ne.1 h) (by omega))
          | refine caseb (fun h => absurd (eq_of_beq h) (by omega)) (fun _ => ?_)
        conv => whnf
        refine ⟨_, ⟨by omega, hg⟩, ?_⟩
        conv => whnf
        refine ⟨_, hd, ?_⟩
        repeat
          conv => whnf
          first
            | refine ⟨_, by assumption, ?_⟩
            | refine ⟨(Nat.le_of_ble_eq_true rfl), _, by assumption, ?_⟩
            | refine ⟨by kernel_rfl, ?_⟩
            | exact rfl
            | exact ⟨Nat.le_of_ble_eq_true rfl, rfl⟩
            | refine ⟨by decide, ?_⟩
      | false =>
        by_cases h5 : c = 175
        · conv => whnf
          first
            | refine caseb (fun _ => ?_) (fun h => absurd (of_decide_eq_false h) (by omega))
            | refine caseb (fun h => absurd (of_decide_eq_true h) (by omega)) (fun _ => ?_)
            | refine caseb (fun _ => ?_) (fun h => absurd (beq_eq_false_iff_ne.1 h) (by omega))
            | refine caseb (fun h => absurd (eq_of_beq h) (by omega)) (fun _ => ?_)
          conv => whnf
          refine ⟨_, ⟨by omega, hg⟩, ?_⟩
          conv => whnf
          refine ⟨_, hd, ?_⟩
          conv => whnf
          refine ⟨_, ⟨by omega, hg⟩, ?_⟩
          have t5 : (c == 175) = true := by rw [h5]; rfl
          conv => whnf
          refine caseb (fun _ => ?_) (fun h => Bool.noConfusion ((t5).symm.trans h))
          conv => whnf
          exact valB (by rw [t5]; rfl)
        · have t5 : (c == 175) = false := beq_false_of_ne h5
          conv => whnf
          first
            | refine caseb (fun _ => ?_) (fun h => absurd (of_decide_eq_false h) (by omega))
            | refine caseb (fun h => absurd (of_decide_eq_true h) (by omega)) (fun _ => ?_)
            | refine caseb (fun _ => ?_) (fun h => absurd (beq_eq_false_iff_ne.1 h) (by omega))
            | refine caseb (fun h => absurd (eq_of_beq h) (by omega)) (fun _ => ?_)
          conv => whnf
          refine ⟨_, ⟨by omega, hg⟩, ?_⟩
          conv => whnf
          refine ⟨_, hd, ?_⟩
          conv => whnf
          refine ⟨_, ⟨by omega, hg⟩, ?_⟩
          conv => whnf
          refine caseb (fun h => Bool.noConfusion ((t5).symm.trans h)) (fun _ => ?_)
          conv => whnf
          refine ⟨_, ⟨by omega, hg⟩, ?_⟩
          by_cases h6 : c = 46
          · have t6 : (c == 46) = true := by rw [h6]; rfl
            rw [t5, t6]
            by_cases h7 : p + 1 < L.length
            · have hg2 := irows_get .i32 L (List.getElem?_eq_getElem h7)
              have hd2 := dgt_ok L[p + 1]
              rw [isAt_lt h7]
              conv => whnf
              refine caseb (fun _ => ?_) (fun h => Bool.noConfusion ((t6).symm.trans h))
              conv => whnf
              rw [eI]
              conv => whnf
              first
                | refine caseb (fun _ => ?_) (fun h => absurd (of_decide_eq_false h) (by omega))
                | refine caseb (fun h => absurd (of_decide_eq_true h) (by omega)) (fun _ => ?_)
                | refine caseb (fun _ => ?_) (fun h => absurd (beq_eq_false_iff_ne.1 h) (by omega))
                | refine caseb (fun h => absurd (eq_of_beq h) (by omega)) (fun _ => ?_)
              conv => whnf
              rw [eI]
              refine ⟨_, ⟨by omega, hg2⟩, ?_⟩
              conv => whnf
              refine ⟨_, hd2, ?_⟩
              conv => whnf
              exact rfl
            · rw [isAt_ge (by omega)]
              conv => whnf
              refine caseb (fun _ => ?_) (fun h => Bool.noConfusion ((t6).symm.trans h))
              conv => whnf
              rw [eI]
              conv => whnf
              first
                | refine caseb (fun _ => ?_) (fun h => absurd (of_decide_eq_false h) (by omega))
                | refine caseb (fun h => absurd (of_decide_eq_true h) (by omega)) (fun _ => ?_)
                | refine caseb (fun _ => ?_) (fun h => absurd (beq_eq_false_iff_ne.1 h) (by omega))
                | refine caseb (fun h => absurd (eq_of_beq h) (by omega)) (fun _ => ?_)
              conv => whnf
              exact rfl
          · have t6 : (c == 46) = false := beq_false_of_ne h6
            conv => whnf
            refine caseb (fun h => Bool.noConfusion ((t6).symm.trans h)) (fun _ => ?_)
            conv => whnf
            exact valB (by rw [t5, t6]; rfl)
    · have hfalse : begins L p = false := by
        unfold begins
        rw [isAt_ge (by omega), isAt_ge (by omega), isAt_ge (by omega)]; rfl
      rw [hfalse]
      conv => whnf
      first
        | refine caseb (fun _ => ?_) (fun h => absurd (of_decide_eq_false h) (by omega))
        | refine caseb (fun h => absurd (of_decide_eq_true h) (by omega)) (fun _ => ?_)
        | refine caseb (fun _ => ?_) (fun h => absurd (beq_eq_false_iff_ne.1 h) (by omega))
        | refine caseb (fun h => absurd (eq_of_beq h) (by omega)) (fun _ => ?_)
      conv => whnf
      exact rfl
theorem RBegins_ok (L : List Int) (a : Int) (hb : L.length < 1000000000) : AC Tryz.prog 13 [.sl 1 (irows .i32 L) false, .val (.int .i64 a)] (.pure (.val (.bool (decide (0 ≤ a) && begins L a.toNat)))) := by
  refine AC.of_body TTok Tryz.func13 rfl (enter_of Tryz.func13 (by kernel_rfl) (by kernel_rfl)) (noid2 (slI_noid' _) (.val _)) (.val _) (Nat.le_of_ble_eq_true rfl) ?_
  have hlen := irows_len .i32 L
  by_cases h0 : a < 0
  · rw [decide_eq_false (by omega)]
    conv => whnf
    first
      | refine caseb (fun _ => ?_) (fun h => absurd (of_decide_eq_false h) (by omega))
      | refine caseb (fun h => absurd (of_decide_eq_true h) (by omega)) (fun _ => ?_)
      | refine caseb (fun _ => ?_) (fun h => absurd (beq_eq_false_iff_ne.1 h) (by omega))
      | refine caseb (fun h => absurd (eq_of_beq h) (by omega)) (fun _ => ?_)
    repeat
      conv => whnf
      first
        | refine ⟨_, by assumption, ?_⟩
        | refine ⟨(Nat.le_of_ble_eq_true rfl), _, by assumption, ?_⟩
        | refine ⟨by kernel_rfl, ?_⟩
        | exact rfl
        | exact ⟨Nat.le_of_ble_eq_true rfl, rfl⟩
        | refine ⟨by decide, ?_⟩
  · obtain ⟨p, rfl⟩ := Int.eq_ofNat_of_zero_le (Int.not_lt.1 h0)
    rw [decide_eq_true (by omega), Bool.true_and, Int.toNat_natCast]
    by_cases h1 : p < L.length
    · have hg := irows_get .i32 L (List.getElem?_eq_getElem h1)
      have hd := Rdgt_ok L[p]
      have e1 := isAt_lt (f := isD) h1
      have e2 := isAt_lt (f := (· == 175)) h1
      have e3 := isAt_lt (f := (· == 46)) h1
      have eI : IntKind.i64.wrap ((p : Int) + 1) = ((p + 1 : Nat) : Int) := by rw [IntWalk.i64_in _ (by omega)]; omega
      have eL : IntKind.i64.wrap (((irows .i32 L).length : Int) - 1) = ((L.length - 1 : Nat) : Int) := by rw [IntWalk.i64_in _ (by omega)]; omega
      unfold begins
      rw [e1, e2, e3]
      generalize isD L[p] = d at *
      generalize hc : L[p] = c at *
      cases d with
      | true =>
        conv => whnf
        first
          | refine caseb (fun _ => ?_) (fun h => absurd (of_decide_eq_false h) (by omega))
          | refine caseb (fun h => absurd (of_decide_eq_true h) (by omega)) (fun _ => ?_)
          | refine caseb (fun _ => ?_) (fun h => absurd (beq_eq_false_iff_ne.1 h) (by omega))
          | refine caseb (fun h => absurd (eq_of_beq h) (by omega)) (fun _ => ?_)
        conv => whnf
        refine ⟨_, ⟨by omega, hg⟩, ?_⟩
        conv => whnf
        refine ⟨_, hd, ?_⟩
        repeat
          conv => whnf
          first
            | refine ⟨_, by assumption, ?_⟩
            | refine ⟨(Nat.le_of_ble_eq_true rfl), _, by assumption, ?_⟩
            | refine ⟨by kernel_rfl, ?_⟩
            | exact rfl
            | exact ⟨Nat.le_of_ble_eq_true rfl, rfl⟩
            | refine ⟨by decide, ?_⟩
      | false =>
        by_cases h5 : c = 175
        · conv => whnf
          first
            | refine caseb (fun _ => ?_) (fun h => absurd (of_decide_eq_false h) (by omega))
            | refine caseb (fun h => absurd (of_decide_eq_true h) (by omega)) (fun _ => ?_)
            | refine caseb (fun _ => ?_) (fun h => absurd (beq_eq_false_iff_ne.1 h) (by omega))
            | refine caseb (fun h => absurd (eq_of_beq h) (by omega)) (fun _ => ?_)
          conv => whnf
          refine ⟨_, ⟨by omega, hg⟩, ?_⟩
          conv => whnf
          refine ⟨_, hd, ?_⟩
          conv => whnf
          refine ⟨_, ⟨by omega, hg⟩, ?_⟩
          have t5 : (c == 175) = true := by rw [h5]; rfl
          conv => whnf
          refine caseb (fun _ => ?_) (fun h => Bool.noConfusion ((t5).symm.trans h))
          conv => whnf
          exact valB (by rw [t5]; rfl)
        · have t5 : (c == 175) = false := beq_false_of_ne h5
          conv => whnf
          first
            | refine caseb (fun _ => ?_) (fun h => absurd (of_decide_eq_false h) (by omega))
            | refine caseb (fun h => absurd (of_decide_eq_true h) (by omega)) (fun _ => ?_)
            | refine caseb (fun _ => ?_) (fun h => absurd (beq_eq_false_iff_ne.1 h) (by omega))
            | refine caseb (fun h => absurd (eq_of_beq h) (by omega)) (fun _ => ?_)
          conv => whnf
          refine ⟨_, ⟨by omega, hg⟩, ?_⟩
          conv => whnf
          refine ⟨_, hd, ?_⟩
          conv => whnf
          refine ⟨_, ⟨by omega, hg⟩, ?_⟩
          conv => whnf
          refine caseb (fun h => Bool.noConfusion ((t5).symm.trans h)) (fun _ => ?_)
          conv => whnf
          refine ⟨_, ⟨by omega, hg⟩, ?_⟩
          by_cases h6 : c = 46
          · have t6 : (c == 46) = true := by rw [h6]; rfl
            rw [t5, t6]
            by_cases h7 : p + 1 < L.length
            · have hg2 := irows_get .i32 L (List.getElem?_eq_getElem h7)
              have hd2 := Rdgt_ok L[p + 1]
              rw [isAt_lt h7]
              conv => whnf
              refine caseb (fun _ => ?_) (fun h => Bool.noConfusion ((t6).symm.trans h))
              conv => whnf
              rw [eL]
              conv => whnf
              first
                | refine caseb (fun _ => ?_) (fun h => absurd (of_decide_eq_false h) (by omega))
                | refine caseb (fun h => absurd (of_decide_eq_true h) (by omega)) (fun _ => ?_)
                | refine caseb (fun _ => ?_) (fun h => absurd (beq_eq_false_iff_ne.1 h) (by omega))
                | refine caseb (fun h => absurd (eq_of_beq h) (by omega)) (fun _ => ?_)
              conv => whnf
              rw [eI]
              refine ⟨_, ⟨by omega, hg2⟩, ?_⟩
              conv => whnf
              refine ⟨_, hd2, ?_⟩
              conv => whnf
              exact rfl
            · rw [isAt_ge (by omega)]
              conv => whnf
              refine caseb (fun _ => ?_) (fun h => Bool.noConfusion ((t6).symm.trans h))
              conv => whnf
              rw [eL]
              conv => whnf
              first
                | refine caseb (fun _ => ?_) (fun h => absurd (of_decide_eq_false h) (by omega))
                | refine caseb (fun h => absurd (of_decide_eq_true h) (by omega)) (fun _ => ?_)
                | refine caseb (fun _ => ?_) (fun h => absurd (beq_eq_false_iff_ne.1 h) (by omega))
                | refine caseb (fun h => absurd (eq_of_beq h) (by omega)) (fun _ => ?_)
              conv => whnf
              exact rfl
          · have t6 : (c == 46) = false := beq_false_of_ne h6
            conv => whnf
            refine caseb (fun h => Bool.noConfusion ((t6).symm.trans h)) (fun _ => ?_)
            conv => whnf
            exact valB (by rw [t5, t6]; rfl)
    · have hfalse : begins L p = false := by
        unfold begins
        rw [isAt_ge (by omega), isAt_ge (by omega), isAt_ge (by omega)]; rfl
      rw [hfalse]
      conv => whnf
      first
        | refine caseb (fun _ => ?_) (fun h => absurd (of_decide_eq_false h) (by omega))
        | refine caseb (fun h => absurd (of_decide_eq_true h) (by omega)) (fun _ => ?_)
        | refine caseb (fun _ => ?_) (fun h => absurd (beq_eq_false_iff_ne.1 h) (by omega))
        | refine caseb (fun h => absurd (eq_of_beq h) (by omega)) (fun _ => ?_)
      conv => whnf
      exact rfl

theorem digits_ok (L : List Int) (p : Nat) (hp : p ≤ L.length) (hb : L.length < 1000000000) : AC Tryz.prog 33 [.sl 1 (irows .i32 L) false, .val (.int .i64 (p : Int))] (.pure (.tup [.val (.string (strL (dT L p))), .val (.int .i64 ((p + (dT L p).length : Nat) : Int))])) := by
  refine AC.of_body TTok Tryz.func33 rfl (enter_of Tryz.func33 (by kernel_rfl) (by kernel_rfl)) (noid2 (slI_noid' _) (.val _)) (.tup _ (noid2 (.val _) (.val _))) (Nat.le_of_ble_eq_true rfl) ?_
  have hlen := irows_len .i32 L
  have hD := dT_le L hp
  conv => whnf
  refine SW.loopM TTok (fun i : Nat => [(0, .sl 1 (irows .i32 L) false), (1, .val (.int .i64 (p : Int))), (6, .val (.int .i64 (i : Int)))]) (fun i => []) 32 27 rfl (fun i => L.length - i) (fun i => p ≤ i ∧ i ≤ p + (dT L p).length) p [] ⟨Nat.le_refl _, Nat.le_add_right _ _⟩
    ⟨⟨rfl, rfl⟩, ⟨rfl, rfl⟩, ⟨rfl, rfl⟩, trivial⟩ trivial rfl ?_
  intro i hJ
  have hi : p ≤ i := hJ.1
  have hi2 : i ≤ p + (dT L p).length := hJ.2
  clear hJ
  have eI : IntKind.i64.wrap ((i : Int) + 1) = ((i + 1 : Nat) : Int) := by rw [IntWalk.i64_in _ (by omega)]; omega
  have fin : i = p + (dT L p).length → (0 ≤ (p : Int) ∧ (p : Int) ≤ (i : Int) ∧ (i : Int) ≤ ((irows .i32 L).length : Int)) ∧ ∃ ns : List Int, ((irows .i32 L).take i).drop p = irows .i32 ns ∧ runesStr ns = strL (dT L p) := by
    intro hie
    refine ⟨by omega, dT L p, ?_, runesStr_dig (dT_dig L p)⟩
    rw [irows_take, irows_drop, hie]
    congr 1
    rw [List.drop_take, Nat.add_sub_cancel_left, ← dT_pre]
  by_cases h1 : i < L.length
  · have hg := irows_get .i32 L (List.getElem?_eq_getElem h1)
    have hd := dgt_ok L[i]
    by_cases h2 : i < p + (dT L p).length
    · obtain ⟨c, h3, h4, h5⟩ := dT_at L p (k := i - p) (by omega)
      rw [show p + (i - p) = i by omega, List.getElem?_eq_getElem h1] at h3
      have h3 := Option.some.inj h3
      rw [← h3] at h4
      conv => whnf
      first
        | refine caseb (fun _ => ?_) (fun h => absurd (of_decide_eq_false h) (by omega))
        | refine caseb (fun h => absurd (of_decide_eq_true h) (by omega)) (fun _ => ?_)
        | refine caseb (fun _ => ?_) (fun h => absurd (beq_eq_false_iff_ne.1 h) (by omega))
        | refine caseb (fun h => absurd (eq_of_beq h) (by omega)) (fun _ => ?_)
      conv => whnf
      refine ⟨_, ⟨by omega, hg⟩, ?_⟩
      conv => whnf
      refine ⟨_, hd, ?_⟩
      conv => whnf
      refine caseb (fun _ => ?_) (fun h => Bool.noConfusion ((h4).symm.trans h))
      conv => whnf
      refine ⟨i + 1, [], (by show L.length - (i + 1) < L.length - i; omega), (by show p ≤ i + 1 ∧ i + 1 ≤ p + (dT L p).length; omega), ⟨⟨rfl, rfl⟩, ⟨rfl, rfl⟩, ⟨valI eI, rfl⟩, trivial⟩, trivial, rfl⟩
    · have hie : i = p + (dT L p).length := by omega
      have h4 := dT_end L p (c := L[i]) (by rw [← hie]; exact List.getElem?_eq_getElem h1)
      obtain ⟨f1, ns, f2, f3⟩ := fin hie
      conv => whnf
      first
        | refine caseb (fun _ => ?_) (fun h => absurd (of_decide_eq_false h) (by omega))
        | refine caseb (fun h => absurd (of_decide_eq_true h) (by omega)) (fun _ => ?_)
        | refine caseb (fun _ => ?_) (fun h => absurd (beq_eq_false_iff_ne.1 h) (by omega))
        | refine caseb (fun h => absurd (eq_of_beq h) (by omega)) (fun _ => ?_)
      conv => whnf
      refine ⟨_, ⟨by omega, hg⟩, ?_⟩
      conv => whnf
      refine ⟨_, hd, ?_⟩
      conv => whnf
      refine caseb (fun h => Bool.noConfusion ((h4).symm.trans h)) (fun _ => ?_)
      conv => whnf
      refine ⟨by omega, ?_⟩
      conv => whnf
      refine ⟨ns, f2, ?_⟩
      conv => whnf
      exact tup2 (strE f3) (valI (by rw [hie]))
  · have hie : i = p + (dT L p).length := by omega
    obtain ⟨f1, ns, f2, f3⟩ := fin hie
    conv => whnf
    first
      | refine caseb (fun _ => ?_) (fun h => absurd (of_decide_eq_false h) (by omega))
      | refine caseb (fun h => absurd (of_decide_eq_true h) (by omega)) (fun _ => ?_)
      | refine caseb (fun _ => ?_) (fun h => absurd (beq_eq_false_iff_ne.1 h) (by omega))
      | refine caseb (fun h => absurd (eq_of_beq h) (by omega)) (fun _ => ?_)
    conv => whnf
    refine ⟨by omega, ?_⟩
    conv => whnf
    refine ⟨ns, f2, ?_⟩
    conv => whnf
    exact tup2 (strE f3) (valI (by rw [hie]))
end Go.Proofs.YthodfkfgdoolnaaGreatDoor

/- Numbers as texts: exponents (the program's). -/
set_option linter.unusedVariables false
namespace Go.Proofs.YthodfkfgdoolnaaGreatDoor
open Go Go.AL NM

def isH (c : Int) : Bool := c == 175
/-- The number of an exponent, and the place behind it. -/
def expoL (L : List Int) (p : Nat) : Option (Int × Nat) :=
  if isAt L p (· == 69) then
    if (dT L (p + 1 + (isAt L (p + 1) isH).toNat)).length = 0 ∨ 3 < (dT L (p + 1 + (isAt L (p + 1) isH).toNat)).length then none
    else some (sgn (isAt L (p + 1) isH) (valL (dT L (p + 1 + (isAt L (p + 1) isH).toNat))), p + 1 + (isAt L (p + 1) isH).toNat + (dT L (p + 1 + (isAt L (p + 1) isH).toNat)).length)
  else some (0, p)
def expoV (o : Option (Int × Nat)) : AV := match o with
  | some (e, q) => .tup [.val (.int .i64 e), .val (.int .i64 (q : Int)), .val (.bool true)]
  | none => .tup [.val (.int .i64 0), .val (.int .i64 0), .val (.bool false)]
theorem expoV_noid (o : Option (Int × Nat)) : NoId (expoV o) := by
  cases o
  · exact .tup _ (noid3 (.val _) (.val _) (.val _))
  · exact .tup _ (noid3 (.val _) (.val _) (.val _))
theorem dig3 {l : List Int} (h : Dig l) (hl : l.length ≤ 3) : valL l < 1000 := by
  have h1 := valL_lt h
  have h2 : 10 ^ l.length ≤ 10 ^ 3 := Nat.pow_le_pow_right (by decide) hl
  omega
theorem str_empty (l : List Int) : ((strL l).toList == ({ data := #[] } : ByteArray).toList) = decide (l.length = 0) := by
  rw [ByteArray.toList_eq, ByteArray.toList_eq]
  cases l with
  | nil => rfl
  | cons c l => rfl
theorem dig_byt {l : List Int} (h : Dig l) : Byt l := Dig.byt h

theorem exponent_ok (L : List Int) (p : Nat) (hp : p ≤ L.length) (hb : L.length < 1000000000) : AC Tryz.prog 34 [.sl 1 (irows .i32 L) false, .val (.int .i64 (p : Int))] (.pure (expoV (expoL L p))) := by
  refine AC.of_sw TTok Tryz.func34 rfl (enter_of Tryz.func34 (by kernel_rfl) (by kernel_rfl)) (noid2 (slI_noid' _) (.val _)) (expoV_noid _) (Nat.le_of_ble_eq_true rfl) ?_
  have hlen := irows_len .i32 L
  by_cases hE : isAt L p (· == 69) = true
  · have h1 : p < L.length := by
      rcases Nat.lt_or_ge p L.length with h | h
      · exact h
      · rw [isAt_ge h] at hE; cases hE
    have hg := irows_get .i32 L (List.getElem?_eq_getElem h1)
    have tE : (L[p] != 69) = false := by rw [isAt_lt h1] at hE; simp at hE; simp [hE]
    have eP : IntKind.i64.wrap ((p : Int) + 1) = ((p + 1 : Nat) : Int) := by rw [IntWalk.i64_in _ (by omega)]; omega
    have eX : expoV (expoL L p) = expoV (if (dT L (p + 1 + (isAt L (p + 1) isH).toNat)).length = 0 ∨ 3 < (dT L (p + 1 + (isAt L (p + 1) isH).toNat)).length then none
      else some (sgn (isAt L (p + 1) isH) (valL (dT L (p + 1 + (isAt L (p + 1) isH).toNat))), p + 1 + (isAt L (p + 1) isH).toNat + (dT L (p + 1 + (isAt L (p + 1) isH).toNat)).length)) := by
      unfold expoL; rw [if_pos hE]
    rw [eX]
    obtain ⟨ng, hng⟩ : ∃ ng, ng = isAt L (p + 1) isH := ⟨_, rfl⟩
    rw [← hng]
    refine SW.seqA TTok ?_
    conv => whnf
    refine SW.seqA TTok ?_
    conv => whnf
    first
      | refine caseb (fun _ => ?_) (fun h => absurd (of_decide_eq_false h) (by omega))
      | refine caseb (fun h => absurd (of_decide_eq_true h) (by omega)) (fun _ => ?_)
      | refine caseb (fun _ => ?_) (fun h => absurd (beq_eq_false_iff_ne.1 h) (by omega))
      | refine caseb (fun h => absurd (eq_of_beq h) (by omega)) (fun _ => ?_)
    conv => whnf
    refine ⟨_, ⟨by omega, hg⟩, ?_⟩
    conv => whnf
    refine caseb (fun h => Bool.noConfusion ((tE).symm.trans h)) (fun _ => ?_)
    conv => whnf
    refine SW.seqA TTok ?_
    conv => whnf
    rw [eP]
    refine SW.cutM TTok (fun _ : Unit => [(0, .sl 1 (irows .i32 L) false), (1, .val (.int .i64 ((p + 1 : Nat) : Int))), (7, .val (.bool ng))]) (fun _ => []) 264 73 rfl (fun _ => True) ?_ (fun _ _ => ?_)
    · by_cases h2 : p + 1 < L.length
      · have hg2 := irows_get .i32 L (List.getElem?_eq_getElem h2)
        conv => whnf
        first
          | refine caseb (fun _ => ?_) (fun h => absurd (of_decide_eq_false h) (by omega))
          | refine caseb (fun h => absurd (of_decide_eq_true h) (by omega)) (fun _ => ?_)
          | refine caseb (fun _ => ?_) (fun h => absurd (beq_eq_false_iff_ne.1 h) (by omega))
          | refine caseb (fun h => absurd (eq_of_beq h) (by omega)) (fun _ => ?_)
        conv => whnf
        refine ⟨_, ⟨by omega, hg2⟩, ?_⟩
        conv => whnf
        exact ⟨(), [], trivial, ⟨⟨rfl, rfl⟩, ⟨rfl, rfl⟩, ⟨valB (by rw [hng, isAt_lt h2]; rfl), rfl⟩, trivial⟩, trivial, rfl⟩
      · conv => whnf
        first
          | refine caseb (fun _ => ?_) (fun h => absurd (of_decide_eq_false h) (by omega))
          | refine caseb (fun h => absurd (of_decide_eq_true h) (by omega)) (fun _ => ?_)
          | refine caseb (fun _ => ?_) (fun h => absurd (beq_eq_false_iff_ne.1 h) (by omega))
          | refine caseb (fun h => absurd (eq_of_beq h) (by omega)) (fun _ => ?_)
        conv => whnf
        exact ⟨(), [], trivial, ⟨⟨rfl, rfl⟩, ⟨rfl, rfl⟩, ⟨valB (by rw [hng, isAt_ge (by omega)]), rfl⟩, trivial⟩, trivial, rfl⟩
    have hp2 : p + 1 + ng.toNat ≤ L.length := by
      cases hc : ng with
      | false => exact h1
      | true =>
        rcases Nat.lt_or_ge (p + 1) L.length with h | h
        · exact h
        · rw [isAt_ge h] at hng; rw [hng] at hc; cases hc
    obtain ⟨p2, hp2e⟩ : ∃ p2, p2 = p + 1 + ng.toNat := ⟨_, rfl⟩
    rw [← hp2e] at hp2 ⊢
    refine SW.cutM TTok (fun _ : Unit => [(0, .sl 1 (irows .i32 L) false), (1, .val (.int .i64 (p2 : Int))), (7, .val (.bool ng))]) (fun _ => []) 296 73 rfl (fun _ => True) ?_ (fun _ _ => ?_)
    · have eP2 : IntKind.i64.wrap (((p + 1 : Nat) : Int) + 1) = ((p + 1 + 1 : Nat) : Int) := by rw [IntWalk.i64_in _ (by omega)]; omega
      cases ng with
      | true =>
        conv => whnf
        exact ⟨(), [], trivial, ⟨⟨rfl, rfl⟩, ⟨valI (by rw [eP2, hp2e]; rfl), rfl⟩, ⟨rfl, rfl⟩, trivial⟩, trivial, rfl⟩
      | false =>
        conv => whnf
        exact ⟨(), [], trivial, ⟨⟨rfl, rfl⟩, ⟨valI (by rw [hp2e]; rfl), rfl⟩, ⟨rfl, rfl⟩, trivial⟩, trivial, rfl⟩
    have hD := digits_ok L p2 hp2 hb
    have hdl := dT_le L hp2
    have hdd := dT_dig L p2
    have hse := str_empty (dT L p2)
    have hsz := strL_size (dT L p2)
    have hBy := bytesL_strL (dig_byt hdd)
    generalize dT L p2 = d at *
    refine SW.seqA TTok ?_
    conv => whnf
    refine ⟨_, hD, ?_⟩
    conv => whnf
    refine SW.seqA TTok ?_
    by_cases hk : d.length = 0
    · rw [decide_eq_true hk] at hse
      rw [if_pos (.inl hk)]
      conv => whnf
      refine caseb (fun _ => ?_) (fun h => Bool.noConfusion ((hse).symm.trans h))
      conv => whnf
      exact rfl
    · rw [decide_eq_false hk] at hse
      by_cases hk3 : 3 < d.length
      · rw [if_pos (.inr hk3)]
        conv => whnf
        refine caseb (fun h => Bool.noConfusion ((hse).symm.trans h)) (fun _ => ?_)
        conv => whnf
        first
          | refine caseb (fun _ => ?_) (fun h => absurd (of_decide_eq_false h) (by omega))
          | refine caseb (fun h => absurd (of_decide_eq_true h) (by omega)) (fun _ => ?_)
          | refine caseb (fun _ => ?_) (fun h => absurd (beq_eq_false_iff_ne.1 h) (by omega))
          | refine caseb (fun h => absurd (eq_of_beq h) (by omega)) (fun _ => ?_)
        conv => whnf
        exact rfl
      · rw [if_neg (by omega)]
        have hv3 := dig3 hdd (by omega)
        conv => whnf
        refine caseb (fun h => Bool.noConfusion ((hse).symm.trans h)) (fun _ => ?_)
        conv => whnf
        first
          | refine caseb (fun _ => ?_) (fun h => absurd (of_decide_eq_false h) (by omega))
          | refine caseb (fun h => absurd (of_decide_eq_true h) (by omega)) (fun _ => ?_)
          | refine caseb (fun _ => ?_) (fun h => absurd (beq_eq_false_iff_ne.1 h) (by omega))
          | refine caseb (fun h => absurd (eq_of_beq h) (by omega)) (fun _ => ?_)
        conv => whnf
        refine axp_sound TTok _ _ _ ?_
        conv => whnf
        rw [hBy]
        have hbl := irows_len .u8 d
        refine SW.loopM TTok (fun i : Nat => [(7, .val (.bool ng)), (9, .val (.int .i64 ((p2 + d.length : Nat) : Int))), (10, .val (.int .i64 ((valL (d.take i) : Nat) : Int))), (55, .sl 1 (irows .u8 d) false), (56, .val (.int .i64 ((irows .u8 d).length : Int))), (57, .val (.int .i64 (i : Int)))]) (fun _ => []) 480 73 rfl (fun i => d.length - i) (fun i => i ≤ d.length) 0 [] (Nat.zero_le _)
          ⟨⟨rfl, rfl⟩, ⟨rfl, rfl⟩, ⟨rfl, rfl⟩, ⟨rfl, rfl⟩, ⟨rfl, rfl⟩, ⟨rfl, rfl⟩, trivial⟩ trivial rfl ?_
        intro i hi
        have hi : i ≤ d.length := hi
        by_cases hi2 : i < d.length
        · have hg3 := irows_get .u8 d (List.getElem?_eq_getElem hi2)
          have hs := valL_take_succ hi2
          have hdi := hdd _ (List.getElem_mem hi2)
          have hv := dig3 (Dig.take hdd (i + 1)) (by rw [List.length_take]; omega)
          have eI : IntKind.i64.wrap ((i : Int) + 1) = ((i + 1 : Nat) : Int) := by rw [IntWalk.i64_in _ (by omega)]; omega
          have eV : IntKind.i64.wrap (IntKind.i64.wrap (10 * ((valL (d.take i) : Nat) : Int)) + IntKind.i64.wrap (IntKind.u8.wrap (d[i] - 48))) = ((valL (d.take (i + 1)) : Nat) : Int) := by
            rw [hs] at hv ⊢
            rw [w_u8, IntWalk.i64_in (10 * _) (by omega), IntWalk.i64_in ((d[i] - 48) % 256) (by omega), IntWalk.i64_in _ (by omega)]
            omega
          conv => whnf
          first
            | refine caseb (fun _ => ?_) (fun h => absurd (of_decide_eq_false h) (by omega))
            | refine caseb (fun h => absurd (of_decide_eq_true h) (by omega)) (fun _ => ?_)
            | refine caseb (fun _ => ?_) (fun h => absurd (beq_eq_false_iff_ne.1 h) (by omega))
            | refine caseb (fun h => absurd (eq_of_beq h) (by omega)) (fun _ => ?_)
          conv => whnf
          refine ⟨_, ⟨by omega, hg3⟩, ?_⟩
          conv => whnf
          refine ⟨i + 1, [], (by show d.length - (i + 1) < d.length - i; omega), hi2, ⟨⟨rfl, rfl⟩, ⟨rfl, rfl⟩, ⟨valI eV, rfl⟩, ⟨rfl, rfl⟩, ⟨rfl, rfl⟩, ⟨valI eI, rfl⟩, trivial⟩, trivial, rfl⟩
        · have hie : i = d.length := by omega
          have hta : d.take i = d := by rw [hie, List.take_length]
          rw [hta]
          have eN : IntKind.i64.wrap (0 - ((valL d : Nat) : Int)) = -((valL d : Nat) : Int) := by rw [IntWalk.i64_in _ (by omega)]; omega
          cases ng with
          | true =>
            conv => whnf
            first
              | refine caseb (fun _ => ?_) (fun h => absurd (of_decide_eq_false h) (by omega))
              | refine caseb (fun h => absurd (of_decide_eq_true h) (by omega)) (fun _ => ?_)
              | refine caseb (fun _ => ?_) (fun h => absurd (beq_eq_false_iff_ne.1 h) (by omega))
              | refine caseb (fun h => absurd (eq_of_beq h) (by omega)) (fun _ => ?_)
            conv => whnf
            exact tup3 (valI eN) rfl rfl
          | false =>
            conv => whnf
            first
              | refine caseb (fun _ => ?_) (fun h => absurd (of_decide_eq_false h) (by omega))
              | refine caseb (fun h => absurd (of_decide_eq_true h) (by omega)) (fun _ => ?_)
              | refine caseb (fun _ => ?_) (fun h => absurd (beq_eq_false_iff_ne.1 h) (by omega))
              | refine caseb (fun h => absurd (eq_of_beq h) (by omega)) (fun _ => ?_)
            conv => whnf
            exact rfl
  · have hX : expoL L p = some (0, p) := by unfold expoL; rw [if_neg hE]
    rw [hX]
    refine axp_sound TTok _ _ _ ?_
    by_cases h1 : p < L.length
    · have hg := irows_get .i32 L (List.getElem?_eq_getElem h1)
      have tE : (L[p] != 69) = true := by rw [isAt_lt h1] at hE; simp at hE; simp [hE]
      conv => whnf
      first
        | refine caseb (fun _ => ?_) (fun h => absurd (of_decide_eq_false h) (by omega))
        | refine caseb (fun h => absurd (of_decide_eq_true h) (by omega)) (fun _ => ?_)
        | refine caseb (fun _ => ?_) (fun h => absurd (beq_eq_false_iff_ne.1 h) (by omega))
        | refine caseb (fun h => absurd (eq_of_beq h) (by omega)) (fun _ => ?_)
      conv => whnf
      refine ⟨_, ⟨by omega, hg⟩, ?_⟩
      conv => whnf
      refine caseb (fun _ => ?_) (fun h => Bool.noConfusion ((tE).symm.trans h))
      conv => whnf
      exact rfl
    · conv => whnf
      first
        | refine caseb (fun _ => ?_) (fun h => absurd (of_decide_eq_false h) (by omega))
        | refine caseb (fun h => absurd (of_decide_eq_true h) (by omega)) (fun _ => ?_)
        | refine caseb (fun _ => ?_) (fun h => absurd (beq_eq_false_iff_ne.1 h) (by omega))
        | refine caseb (fun h => absurd (eq_of_beq h) (by omega)) (fun _ => ?_)
      conv => whnf
      exact rfl
end Go.Proofs.YthodfkfgdoolnaaGreatDoor

/- Numbers as texts: times a power of ten (contracts of both). -/
set_option linter.unusedVariables false
namespace Go.Proofs.YthodfkfgdoolnaaGreatDoor
open Go Go.AL NM

theorem RA_noid' (t : Int) (d : Nat) : NoId (RA t d) := RA_noid t d
theorem Sz_ten {k : Nat} (h : k ≤ 2000) : Sz ((10 ^ k : Nat) : Rat) 250 := by
  have h1 := ten_limbs (n := (k : Int)) (by omega)
  rw [Int.toNat_natCast] at h1
  have h2 := limbs_1
  exact ⟨by rw [Rat.num_natCast, Int.natAbs_natCast]; exact h1, by rw [Rat.den_natCast]; omega⟩
theorem ten_ne (k : Nat) : ((10 ^ k : Nat) : Rat) ≠ 0 := by
  have h := Nat.pow_pos (n := k) (show 0 < 10 by decide)
  intro e
  have : ((10 ^ k : Nat) : Rat) = ((0 : Nat) : Rat) := e
  have := Rat.natCast_inj.1 this
  omega
theorem scaled_ok (q : Rat) (i : Nat) (n : Int) (hi : dn i = q.den) (hq : Sz q 400) (hn : -2000 ≤ n ∧ n ≤ 2000) : AC Tryz.prog 36 [RA q.num i, .val (.int .i64 n)] (.pure (RA (q * 10 ^ n).num (q * 10 ^ n).den)) := by
  refine AC.of_body TTok Tryz.func36 rfl (enter_of Tryz.func36 (by kernel_rfl) (by kernel_rfl)) (noid2 (RA_noid _ _) (.val _)) (RA_noid _ _) (Nat.le_of_ble_eq_true rfl) ?_
  have eN : IntKind.i64.wrap (0 - n) = -n := by rw [IntWalk.i64_in _ (by omega)]; omega
  have hT := ten_ok (if IntKind.i64.wrap (0 - n) > n then IntKind.i64.wrap (0 - n) else n) (by rw [eN]; split <;> omega)
  have eM : (if IntKind.i64.wrap (0 - n) > n then IntKind.i64.wrap (0 - n) else n).toNat = n.natAbs := by rw [eN]; split <;> omega
  rw [eM] at hT
  have hk : n.natAbs ≤ 2000 := by omega
  have hP : (((10 ^ n.natAbs : Nat) : Rat)).num = ((10 ^ n.natAbs : Nat) : Int) := Rat.num_natCast _
  have hPd : (((10 ^ n.natAbs : Nat) : Rat)).den = 1 := Rat.den_natCast _
  have hS := Sz_ten hk
  have hW := WOf_ok false (10 ^ n.natAbs)
  have hW2 := Whole_ok (((10 ^ n.natAbs : Nat) : Int))
  rw [show sgn false (10 ^ n.natAbs) = ((10 ^ n.natAbs : Nat) : Int) from rfl] at hW
  have hM := QTimes1 q ((10 ^ n.natAbs : Nat) : Rat) i 1 hi hPd.symm hq (hS.mono (by decide))
  have hB := By_ok q ((10 ^ n.natAbs : Nat) : Rat) i 1 hi hPd.symm (hq.mono (by decide)) (hS.mono (by decide)) (ten_ne _)
  unfold rowR at hM
  dsimp only at hM
  rw [hP] at hM hB
  by_cases h0 : 0 ≤ n
  · have e := sc_pos q h0
    rw [show n.toNat = n.natAbs by omega] at e
    rw [e] at hM
    clear hB
    generalize q * 10 ^ n = x at *
    generalize 10 ^ n.natAbs = t at *
    unfold RA WI natA at *
    repeat
      conv => whnf
      first
        | refine ⟨_, by assumption, ?_⟩
        | refine ⟨(Nat.le_of_ble_eq_true rfl), _, by assumption, ?_⟩
        | refine ⟨by kernel_rfl, ?_⟩
        | exact rfl
        | exact ⟨Nat.le_of_ble_eq_true rfl, rfl⟩
        | refine ⟨by decide, ?_⟩
    conv => whnf
    first
      | refine caseb (fun _ => ?_) (fun h => absurd (of_decide_eq_false h) (by omega))
      | refine caseb (fun h => absurd (of_decide_eq_true h) (by omega)) (fun _ => ?_)
      | refine caseb (fun _ => ?_) (fun h => absurd (beq_eq_false_iff_ne.1 h) (by omega))
      | refine caseb (fun h => absurd (eq_of_beq h) (by omega)) (fun _ => ?_)
    conv => whnf
    refine ⟨(Nat.le_of_ble_eq_true rfl), _, hM, ?_⟩
    conv => whnf
    exact rfl
  · have e := sc_neg q (n := n) (by omega)
    rw [show (-n).toNat = n.natAbs by omega] at e
    rw [e] at hB
    clear hM
    generalize q * 10 ^ n = x at *
    generalize 10 ^ n.natAbs = t at *
    unfold RA WI natA at *
    repeat
      conv => whnf
      first
        | refine ⟨_, by assumption, ?_⟩
        | refine ⟨(Nat.le_of_ble_eq_true rfl), _, by assumption, ?_⟩
        | refine ⟨by kernel_rfl, ?_⟩
        | exact rfl
        | exact ⟨Nat.le_of_ble_eq_true rfl, rfl⟩
        | refine ⟨by decide, ?_⟩
    conv => whnf
    first
      | refine caseb (fun _ => ?_) (fun h => absurd (of_decide_eq_false h) (by omega))
      | refine caseb (fun h => absurd (of_decide_eq_true h) (by omega)) (fun _ => ?_)
      | refine caseb (fun _ => ?_) (fun h => absurd (beq_eq_false_iff_ne.1 h) (by omega))
      | refine caseb (fun h => absurd (eq_of_beq h) (by omega)) (fun _ => ?_)
    repeat
      conv => whnf
      first
        | refine ⟨_, by assumption, ?_⟩
        | refine ⟨(Nat.le_of_ble_eq_true rfl), _, by assumption, ?_⟩
        | refine ⟨by kernel_rfl, ?_⟩
        | exact rfl
        | exact ⟨Nat.le_of_ble_eq_true rfl, rfl⟩
        | refine ⟨by decide, ?_⟩

theorem zeros_ok (n : Int) (hn : n ≤ 1000000) : AC Tryz.prog 32 [.val (.int .i64 n)] (.pure (.val (.string (strL (List.replicate n.toNat 48))))) := by
  refine AC.of_body TTok Tryz.func32 rfl (enter_of Tryz.func32 (by kernel_rfl) (by kernel_rfl)) (noid1 (.val _)) (.val _) (Nat.le_of_ble_eq_true rfl) ?_
  conv => whnf
  refine SW.loopM TTok (fun i : Nat => [(0, .val (.int .i64 n)), (3, .val (.string (strL (List.replicate i 48)))), (4, .val (.int .i64 (i : Int)))]) (fun i => []) 24 13 rfl (fun i => n.toNat - i) (fun i => i ≤ n.toNat) 0 [] (Nat.zero_le _)
    ⟨⟨rfl, rfl⟩, ⟨rfl, rfl⟩, ⟨rfl, rfl⟩, trivial⟩ trivial rfl ?_
  intro i hi
  have hi : i ≤ n.toNat := hi
  have hz := strL_size (List.replicate i 48)
  rw [List.length_replicate] at hz
  by_cases h : (i : Int) < n
  · have eI : IntKind.i64.wrap ((i : Int) + 1) = ((i + 1 : Nat) : Int) := by rw [IntWalk.i64_in _ (by omega)]; omega
    conv => whnf
    first
      | refine caseb (fun _ => ?_) (fun h => absurd (of_decide_eq_false h) (by omega))
      | refine caseb (fun h => absurd (of_decide_eq_true h) (by omega)) (fun _ => ?_)
      | refine caseb (fun _ => ?_) (fun h => absurd (beq_eq_false_iff_ne.1 h) (by omega))
      | refine caseb (fun h => absurd (eq_of_beq h) (by omega)) (fun _ => ?_)
    conv => whnf
    refine ⟨by rw [hz]; show i + 1 ≤ _; omega, ?_⟩
    conv => whnf
    refine ⟨i + 1, [], (by show n.toNat - (i + 1) < n.toNat - i; omega), (by show i + 1 ≤ n.toNat; omega), ⟨⟨rfl, rfl⟩, ⟨strE ?_, rfl⟩, ⟨valI eI, rfl⟩, trivial⟩, trivial, rfl⟩
    rw [List.replicate_succ', ← strL_append]; rfl
  · have : i = n.toNat := by omega
    rw [← this]
    conv => whnf
    first
      | refine caseb (fun _ => ?_) (fun h => absurd (of_decide_eq_false h) (by omega))
      | refine caseb (fun h => absurd (of_decide_eq_true h) (by omega)) (fun _ => ?_)
      | refine caseb (fun _ => ?_) (fun h => absurd (beq_eq_false_iff_ne.1 h) (by omega))
      | refine caseb (fun h => absurd (eq_of_beq h) (by omega)) (fun _ => ?_)
    conv => whnf
    exact rfl

section
variable (p q : Rat) (i j : Nat) (hij : i + j ≤ 280) (lp : Sz p i) (lq : Sz q j)
include hij lp lq
theorem SDivB_ok (h0 : q ≠ 0) : AC Tryz.prog 78 [RN p.num p.den, RN q.num q.den] (.pure (.tup [RN (p / q).num (p / q).den, .val (.bool true)])) := by
  refine AC.of_body TTok Tryz.func78 rfl (enter_of Tryz.func78 (by kernel_rfl) (by kernel_rfl)) (noid2 (RN_noid _ _) (RN_noid _ _)) (.tup _ (noid2 (RN_noid _ _) (.val _))) (Nat.le_of_ble_eq_true rfl) ?_
  have := lp.1; have := lp.2; have := lq.1; have := lq.2
  have l1 := limbs_num_den p q
  have l2 := limbs_num_den q p
  rw [Int.mul_comm] at l2
  have t1 := STop_ok p.num p.den (by omega)
  have t2 := STop_ok q.num q.den (by omega)
  have b1 := SBot_ok p.num p.den (by omega)
  have b2 := SBot_ok q.num q.den (by omega)
  have m1 := RMulS p.num (q.den : Int) (by omega) (by rw [Int.natAbs_natCast]; omega)
  have m2 := RMulS (p.den : Int) q.num (by rw [Int.natAbs_natCast]; omega) (by omega)
  have hC := SNew_ok (p.num * (q.den : Int)) ((p.den : Int) * q.num) (Int.mul_ne_zero (by have := p.den_nz; omega) (num_ne h0)) (by omega)
  rw [q_div] at hC
  revert t1 t2 b1 b2 m1 m2 hC
  generalize p.num * (q.den : Int) = x
  generalize (p.den : Int) * q.num = y
  generalize (p.den : Int) = a
  generalize (q.den : Int) = b
  generalize p / q = c
  intro t1 t2 b1 b2 m1 m2 hC
  unfold RN WR at *
  repeat
    conv => whnf
    first
      | refine ⟨_, by assumption, ?_⟩
      | refine ⟨(Nat.le_of_ble_eq_true rfl), _, by assumption, ?_⟩
      | refine ⟨by kernel_rfl, ?_⟩
      | exact rfl
      | exact ⟨Nat.le_of_ble_eq_true rfl, rfl⟩
      | refine ⟨by decide, ?_⟩
theorem SMulB_ok : AC Tryz.prog 77 [RN p.num p.den, RN q.num q.den] (.pure (RN (p * q).num (p * q).den)) := by
  refine AC.of_body TTok Tryz.func77 rfl (enter_of Tryz.func77 (by kernel_rfl) (by kernel_rfl)) (noid2 (RN_noid _ _) (RN_noid _ _)) (RN_noid _ _) (Nat.le_of_ble_eq_true rfl) ?_
  have := lp.1; have := lp.2; have := lq.1; have := lq.2
  have l1 := limbs_abs_mul p.num q.num
  have l2 := limbs_den_mul p q
  have t1 := STop_ok p.num p.den (by omega)
  have t2 := STop_ok q.num q.den (by omega)
  have b1 := SBot_ok p.num p.den (by omega)
  have b2 := SBot_ok q.num q.den (by omega)
  have m1 := RMulS p.num q.num (by omega) (by omega)
  have m2 := RMulS (p.den : Int) (q.den : Int) (by rw [Int.natAbs_natCast]; omega) (by rw [Int.natAbs_natCast]; omega)
  have hC := SNew_ok (p.num * q.num) ((p.den : Int) * (q.den : Int)) (den_mul_ne p q) (by omega)
  rw [q_mul] at hC
  revert t1 t2 b1 b2 m1 m2 hC
  generalize p.num * q.num = x
  generalize (p.den : Int) * (q.den : Int) = y
  generalize (p.den : Int) = a
  generalize (q.den : Int) = b
  generalize p * q = c
  intro t1 t2 b1 b2 m1 m2 hC
  unfold RN WR at *
  repeat
    conv => whnf
    first
      | refine ⟨_, by assumption, ?_⟩
      | refine ⟨(Nat.le_of_ble_eq_true rfl), _, by assumption, ?_⟩
      | refine ⟨by kernel_rfl, ?_⟩
      | exact rfl
      | exact ⟨Nat.le_of_ble_eq_true rfl, rfl⟩
      | refine ⟨by decide, ?_⟩
end

theorem valL_rep (k : Nat) : valL (List.replicate k 48) = 0 := by
  induction k with
  | zero => rfl
  | succ k ih => rw [List.replicate_succ, valL_zero, ih]
theorem decL_ten (k : Nat) : decL (10 ^ k) = 49 :: List.replicate k 48 := by
  have h : valL (49 :: List.replicate k 48) = 10 ^ k := by
    rw [valL_cons, List.length_replicate, valL_rep]; simp
  rw [← h]
  refine decL_valL ?_ (by simp) (.inr (by simp))
  intro x hx
  rcases List.mem_cons.1 hx with rfl | hx
  · omega
  · have := (List.mem_replicate.1 hx).2; omega
theorem decS_ten (k : Nat) : decS (10 ^ k) = { data := #[49] } ++ strL (List.replicate k 48) := by
  unfold decS
  rw [decL_ten, show ({ data := #[49] } : ByteArray) = strL [49] from rfl, strL_append]; rfl
theorem decS_1x : decS 1 = { data := #[49] } := by
  have h := decS_ten 0
  rw [Nat.pow_zero] at h
  rw [h]; show _ ++ ByteArray.empty = _; rw [ByteArray.append_empty]
theorem RN_ten (k : Nat) : RN (((10 ^ k : Nat) : Rat)).num (((10 ^ k : Nat) : Rat)).den = .agg [.val (.bool false), .val (.string ({ data := #[49] } ++ strL (List.replicate k 48))), .val (.string { data := #[49] })] := by
  unfold RN
  rw [Rat.num_natCast, Rat.den_natCast, Int.natAbs_natCast, decS_ten, decS_1x, decide_eq_false (Int.not_lt.2 (Int.natCast_nonneg _))]
theorem limbs_tenk (k : Nat) : (limbs (10 ^ k)).length ≤ k / 9 + 1 := by
  refine limbs_len_le ?_
  refine Nat.lt_of_le_of_lt (Nat.pow_le_pow_right (by decide) (show k ≤ 9 * (k / 9 + 1) by omega)) ?_
  rw [Nat.pow_mul]
  exact Nat.pow_lt_pow_left (by decide) (by omega)
theorem Sz_tenk (k : Nat) : Sz ((10 ^ k : Nat) : Rat) (k / 9 + 1) := by
  have h2 := limbs_1
  exact ⟨by rw [Rat.num_natCast, Int.natAbs_natCast]; exact limbs_tenk k, by rw [Rat.den_natCast]; omega⟩
theorem Times10_ok (q : Rat) (n : Int) (i : Nat) (hq : Sz q i) (hn : n.natAbs ≤ 1300) (hi : i ≤ 120) : AC Tryz.prog 29 [RN q.num q.den, .val (.int .i64 n)] (.pure (RN (q * 10 ^ n).num (q * 10 ^ n).den)) := by
  refine AC.of_body TTok Tryz.func29 rfl (enter_of Tryz.func29 (by kernel_rfl) (by kernel_rfl)) (noid2 (RN_noid _ _) (.val _)) (RN_noid _ _) (Nat.le_of_ble_eq_true rfl) ?_
  have hz := strL_size (List.replicate n.natAbs 48)
  rw [List.length_replicate] at hz
  have e1 : ({ data := #[49] } : ByteArray).size = 1 := rfl
  by_cases h0 : 0 ≤ n
  · have hZ := zeros_ok n (by omega)
    have hM := SMulB_ok q ((10 ^ n.natAbs : Nat) : Rat) i (n.natAbs / 9 + 1) (by omega) hq (Sz_tenk _)
    have e := sc_pos q h0
    rw [show n.toNat = n.natAbs by omega] at e hZ
    rw [e, RN_ten] at hM
    generalize q * 10 ^ n = x at *
    generalize strL (List.replicate n.natAbs 48) = t at *
    unfold RN at *
    conv => whnf
    first
      | refine caseb (fun _ => ?_) (fun h => absurd (of_decide_eq_false h) (by omega))
      | refine caseb (fun h => absurd (of_decide_eq_true h) (by omega)) (fun _ => ?_)
      | refine caseb (fun _ => ?_) (fun h => absurd (beq_eq_false_iff_ne.1 h) (by omega))
      | refine caseb (fun h => absurd (eq_of_beq h) (by omega)) (fun _ => ?_)
    conv => whnf
    refine ⟨_, hZ, ?_⟩
    conv => whnf
    refine ⟨by omega, ?_⟩
    repeat
      conv => whnf
      first
        | refine ⟨_, by assumption, ?_⟩
        | refine ⟨(Nat.le_of_ble_eq_true rfl), _, by assumption, ?_⟩
        | refine ⟨by kernel_rfl, ?_⟩
        | exact rfl
        | exact ⟨Nat.le_of_ble_eq_true rfl, rfl⟩
        | refine ⟨by decide, ?_⟩
  · have eN : IntKind.i64.wrap (0 - n) = -n := by rw [IntWalk.i64_in _ (by omega)]; omega
    have hZ := zeros_ok (-n) (by omega)
    have hM := SDivB_ok q ((10 ^ n.natAbs : Nat) : Rat) i (n.natAbs / 9 + 1) (by omega) hq (Sz_tenk _) (ten_ne _)
    have e := sc_neg q (n := n) (by omega)
    rw [show (-n).toNat = n.natAbs by omega] at e hZ
    rw [e, RN_ten] at hM
    rw [← eN] at hZ
    generalize q * 10 ^ n = x at *
    generalize strL (List.replicate n.natAbs 48) = t at *
    unfold RN at *
    conv => whnf
    first
      | refine caseb (fun _ => ?_) (fun h => absurd (of_decide_eq_false h) (by omega))
      | refine caseb (fun h => absurd (of_decide_eq_true h) (by omega)) (fun _ => ?_)
      | refine caseb (fun _ => ?_) (fun h => absurd (beq_eq_false_iff_ne.1 h) (by omega))
      | refine caseb (fun h => absurd (eq_of_beq h) (by omega)) (fun _ => ?_)
    conv => whnf
    refine ⟨_, hZ, ?_⟩
    conv => whnf
    refine ⟨by omega, ?_⟩
    repeat
      conv => whnf
      first
        | refine ⟨_, by assumption, ?_⟩
        | refine ⟨(Nat.le_of_ble_eq_true rfl), _, by assumption, ?_⟩
        | refine ⟨by kernel_rfl, ?_⟩
        | exact rfl
        | exact ⟨Nat.le_of_ble_eq_true rfl, rfl⟩
        | refine ⟨by decide, ?_⟩
end Go.Proofs.YthodfkfgdoolnaaGreatDoor

/- Numbers as texts: a number is read (contracts of both). -/
set_option linter.unusedVariables false
namespace Go.Proofs.YthodfkfgdoolnaaGreatDoor
open Go Go.AL NM

def isP (c : Int) : Bool := c == 46
/-- The number that stands at a place, out of its parts. -/
def readP (L : List Int) (ng : Bool) (h : List Int) (dot : Bool) (t : List Int) (p3 : Nat) : Option (Rat × Nat) :=
  if dot = true ∧ t = [] then none else
  match expoL L p3 with
  | none => none
  | some (e, q) => if h.length + t.length = 0 ∨ 200 < h.length + t.length then none else some ((sgn ng (valL (h ++ t)) : Rat) * 10 ^ (e - (t.length : Int)), q)
/-- The number that stands at a place. -/
def readD (L : List Int) (p : Nat) : Option (Rat × Nat) :=
  if begins L p = true then
    let ng := isAt L p isH
    let h := dT L (p + ng.toNat)
    let p2 := p + ng.toNat + h.length
    let dot := isAt L p2 isP
    let t := if dot then dT L (p2 + 1) else []
    readP L ng h dot t (if dot then p2 + 1 + t.length else p2)
  else none
theorem readD_eq {L : List Int} {p : Nat} (hb : begins L p = true) {ng dot : Bool} {h t : List Int} {p2 p3 : Nat} (e1 : ng = isAt L p isH) (e2 : h = dT L (p + ng.toNat)) (e3 : p2 = p + ng.toNat + h.length) (e4 : dot = isAt L p2 isP)
    (e5 : t = if dot then dT L (p2 + 1) else []) (e6 : p3 = if dot then p2 + 1 + t.length else p2) : readD L p = readP L ng h dot t p3 := by
  unfold readD
  rw [if_pos hb]
  subst e6 e5 e4 e3 e2 e1
  rfl
def readW (o : Option (Rat × Nat)) : AV := match o with
  | some (x, q) => .tup [RA x.num x.den, .val (.int .i64 (q : Int)), .val (.bool true)]
  | none => .tup [RZ, .val (.int .i64 0), .val (.bool false)]
theorem readW_noid (o : Option (Rat × Nat)) : NoId (readW o) := by
  cases o
  · exact .tup _ (noid3 RZ_noid (.val _) (.val _))
  · exact .tup _ (noid3 (RA_noid _ _) (.val _) (.val _))
def readV (o : Option (Rat × Nat)) : AV := match o with
  | some (x, q) => .tup [RA x.num x.den, .val (.int .i64 (q : Int)), .val (.bool true)]
  | none => .tup [RA 0 0, .val (.int .i64 0), .val (.bool false)]
def readR (o : Option (Rat × Nat)) : AV := match o with
  | some (x, q) => .tup [RN x.num x.den, .val (.int .i64 (q : Int)), .val (.bool true)]
  | none => .tup [RN 0 1, .val (.int .i64 0), .val (.bool false)]
theorem readR_noid (o : Option (Rat × Nat)) : NoId (readR o) := by
  cases o
  · exact .tup _ (noid3 (RN_noid _ _) (.val _) (.val _))
  · exact .tup _ (noid3 (RN_noid _ _) (.val _) (.val _))
theorem right_app {l : List Int} (h : Dig l) (h1 : l.length ≠ 0) (h2 : l.length ≤ 200) : right l = true := by
  unfold right
  rw [Bool.and_eq_true, decide_eq_true_eq, List.all_eq_true]
  exact ⟨⟨by omega, by omega⟩, fun x hx => decide_eq_true (h x hx)⟩
theorem dig_app {a b : List Int} (ha : Dig a) (hb : Dig b) : Dig (a ++ b) := fun x hx => by
  rcases List.mem_append.1 hx with h | h
  · exact ha x h
  · exact hb x h
theorem limbs_dig {l : List Int} (h : Dig l) {k : Nat} (hl : l.length ≤ 9 * k) (hk : 0 < k) : (limbs (valL l)).length ≤ k := by
  refine limbs_len_le ?_
  refine Nat.lt_of_lt_of_le (valL_lt h) (Nat.le_trans (Nat.pow_le_pow_right (by decide) hl) ?_)
  rw [Nat.pow_mul]
  exact Nat.pow_le_pow_left (by decide) k
theorem expo_bd {L : List Int} {p : Nat} {e : Int} {q : Nat} (h : expoL L p = some (e, q)) : -999 ≤ e ∧ e ≤ 999 := by
  unfold expoL at h
  split at h
  · split at h
    · cases h
    · rename_i hk
      have e1 := (Prod.mk.inj (Option.some.inj h)).1
      have := dig3 (dT_dig L (p + 1 + (isAt L (p + 1) isH).toNat)) (by omega)
      revert e1 this
      generalize valL _ = v
      intro e1 this
      subst e1
      unfold sgn
      split <;> omega
  · have e1 := (Prod.mk.inj (Option.some.inj h)).1
    omega
theorem int_num (a : Int) : (a : Rat).num = a ∧ (a : Rat).den = 1 := ⟨Rat.num_intCast a, Rat.den_intCast a⟩

/-- A text's digits up to the place behind them. -/
theorem parts_le {L : List Int} {p : Nat} (hb : begins L p = true) : p + (isAt L p isH).toNat ≤ L.length := by
  have := begins_lt hb
  have := Bool.toNat_le (isAt L p isH)
  omega

theorem Read_okW (L : List Int) (p : Nat) (hb : L.length ≤ 1000) : AC Tryz.prog 10 [.sl 1 (irows .i32 L) false, .val (.int .i64 (p : Int))] (.pure (readW (readD L p))) := by
  refine AC.of_sw TTok Tryz.func10 rfl (enter_of Tryz.func10 (by kernel_rfl) (by kernel_rfl)) (noid2 (slI_noid' _) (.val _)) (readW_noid _) (Nat.le_of_ble_eq_true rfl) ?_
  have hlen := irows_len .i32 L
  have hB := Begins_ok L (p : Int) (by omega)
  rw [decide_eq_true (by omega), Bool.true_and, Int.toNat_natCast] at hB
  cases hbe : begins L p with
  | false =>
    rw [hbe] at hB
    have hR : readD L p = none := by unfold readD; rw [hbe]; rfl
    rw [hR]
    refine axp_sound TTok _ _ _ ?_
    repeat
      conv => whnf
      first
        | refine ⟨_, by assumption, ?_⟩
        | refine ⟨(Nat.le_of_ble_eq_true rfl), _, by assumption, ?_⟩
        | refine ⟨by kernel_rfl, ?_⟩
        | exact rfl
        | exact ⟨Nat.le_of_ble_eq_true rfl, rfl⟩
        | refine ⟨by decide, ?_⟩
  | true =>
    rw [hbe] at hB
    have hp := begins_lt hbe
    have hp1 := parts_le hbe
    obtain ⟨ng, hng⟩ : ∃ ng, ng = isAt L p isH := ⟨_, rfl⟩
    rw [← hng] at hp1
    obtain ⟨p1, hp1e⟩ : ∃ p1, p1 = p + ng.toNat := ⟨_, rfl⟩
    rw [← hp1e] at hp1
    obtain ⟨h, hh⟩ : ∃ h, h = dT L p1 := ⟨_, rfl⟩
    obtain ⟨p2, hp2e⟩ : ∃ p2, p2 = p1 + h.length := ⟨_, rfl⟩
    obtain ⟨dot, hdot⟩ : ∃ dot, dot = isAt L p2 isP := ⟨_, rfl⟩
    obtain ⟨t, ht⟩ : ∃ t, t = if dot then dT L (p2 + 1) else [] := ⟨_, rfl⟩
    obtain ⟨p3, hp3⟩ : ∃ p3, p3 = if dot then p2 + 1 + t.length else p2 := ⟨_, rfl⟩
    have hR := readD_eq (h := h) (t := t) (dot := dot) (p2 := p2) (p3 := p3) hbe hng (by rw [← hp1e]; exact hh) (by rw [← hp1e]; exact hp2e) hdot ht hp3
    rw [hR]
    obtain ⟨o, hO⟩ : ∃ o, o = readP L ng h dot t p3 := ⟨_, rfl⟩
    rw [← hO]
    have hg := irows_get .i32 L (List.getElem?_eq_getElem hp)
    have hD := digits_ok L p1 hp1 (by omega)
    have hd1 := dT_dig L p1
    have hl1 := dT_le L hp1
    rw [← hh] at hD hd1 hl1
    rw [← hp2e] at hD hl1
    have hd2 : Dig t := by
      rw [ht]; split
      · exact dT_dig _ _
      · exact fun x hx => nomatch hx
    have hdl : dot = true → p2 < L.length := fun hd => by
      rcases Nat.lt_or_ge p2 L.length with h | h
      · exact h
      · rw [isAt_ge h] at hdot; rw [hdot] at hd; cases hd
    have hp3l : p3 ≤ L.length := by
      rw [hp3]; split
      · rename_i hd
        have h1 := hdl hd
        have := dT_le L (p := p2 + 1) (by omega)
        rw [ht, if_pos hd]; omega
      · exact hl1
    refine SW.seqA TTok ?_
    conv => whnf
    refine SW.seqA TTok ?_
    conv => whnf
    refine ⟨_, hB, ?_⟩
    conv => whnf
    refine SW.seqA TTok ?_
    conv => whnf
    refine ⟨_, ⟨by omega, hg⟩, ?_⟩
    conv => whnf
    rw [show (L[p] == 175) = ng by rw [hng, isAt_lt hp]; rfl]
    refine SW.cutM TTok (fun _ : Unit => [(0, .sl 1 (irows .i32 L) false), (1, .val (.int .i64 (p1 : Int))), (4, .lp 0 0), (7, .val (.bool ng))]) (fun _ => [(0, .cells 3 [[.sl 0 [] true, .val (.bool false), .sl 0 [] true]])]) 168 93 rfl (fun _ => True) ?_ (fun _ _ => ?_)
    · have eP2 : IntKind.i64.wrap ((p : Int) + 1) = ((p + 1 : Nat) : Int) := by rw [IntWalk.i64_in _ (by omega)]; omega
      cases ng with
      | true =>
        conv => whnf
        exact ⟨(), [], trivial, ⟨⟨rfl, rfl⟩, ⟨valI (by rw [eP2, hp1e]; rfl), rfl⟩, ⟨rfl, rfl⟩, ⟨rfl, rfl⟩, trivial⟩, ⟨⟨rfl, .inr ⟨rfl, rfl⟩⟩, trivial⟩, rfl⟩
      | false =>
        conv => whnf
        exact ⟨(), [], trivial, ⟨⟨rfl, rfl⟩, ⟨valI (by rw [hp1e]; rfl), rfl⟩, ⟨rfl, rfl⟩, ⟨rfl, rfl⟩, trivial⟩, ⟨⟨rfl, .inr ⟨rfl, rfl⟩⟩, trivial⟩, rfl⟩
    refine SW.seqA TTok ?_
    conv => whnf
    refine ⟨_, hD, ?_⟩
    conv => whnf
    refine SW.seqA TTok ?_
    conv => whnf
    refine SW.cutM TTok (fun _ : Unit => [(0, .sl 1 (irows .i32 L) false), (1, .val (.int .i64 (p3 : Int))), (4, .lp 0 0), (7, .val (.bool ng)), (8, .val (.string (strL h))), (9, .val (.string (strL t)))]) (fun _ => [(0, .cells 3 [[.sl 0 [] true, .val (.bool false), .sl 0 [] true]])]) 448 93 rfl (fun _ => dot = true → t ≠ []) ?_ (fun _ hJ => ?_)
    · cases hdo : dot with
      | false =>
        rw [hdo, if_neg (by decide)] at hp3 ht
        rw [hp3, ht]
        by_cases h1 : p2 < L.length
        · have hg2 := irows_get .i32 L (List.getElem?_eq_getElem h1)
          have tE : (L[p2] == 46) = false := by rw [hdo, isAt_lt h1] at hdot; exact hdot.symm
          conv => whnf
          first
            | refine caseb (fun _ => ?_) (fun h => absurd (of_decide_eq_false h) (by omega))
            | refine caseb (fun h => absurd (of_decide_eq_true h) (by omega)) (fun _ => ?_)
            | refine caseb (fun _ => ?_) (fun h => absurd (beq_eq_false_iff_ne.1 h) (by omega))
            | refine caseb (fun h => absurd (eq_of_beq h) (by omega)) (fun _ => ?_)
          conv => whnf
          refine ⟨_, ⟨by omega, hg2⟩, ?_⟩
          conv => whnf
          refine caseb (fun h => Bool.noConfusion ((tE).symm.trans h)) (fun _ => ?_)
          conv => whnf
          exact ⟨(), [], (fun h => Bool.noConfusion h), ⟨⟨rfl, rfl⟩, ⟨rfl, rfl⟩, ⟨rfl, rfl⟩, ⟨rfl, rfl⟩, ⟨rfl, rfl⟩, ⟨rfl, rfl⟩, trivial⟩, ⟨⟨rfl, .inr ⟨rfl, rfl⟩⟩, trivial⟩, rfl⟩
        · conv => whnf
          first
            | refine caseb (fun _ => ?_) (fun h => absurd (of_decide_eq_false h) (by omega))
            | refine caseb (fun h => absurd (of_decide_eq_true h) (by omega)) (fun _ => ?_)
            | refine caseb (fun _ => ?_) (fun h => absurd (beq_eq_false_iff_ne.1 h) (by omega))
            | refine caseb (fun h => absurd (eq_of_beq h) (by omega)) (fun _ => ?_)
          conv => whnf
          exact ⟨(), [], (fun h => Bool.noConfusion h), ⟨⟨rfl, rfl⟩, ⟨rfl, rfl⟩, ⟨rfl, rfl⟩, ⟨rfl, rfl⟩, ⟨rfl, rfl⟩, ⟨rfl, rfl⟩, trivial⟩, ⟨⟨rfl, .inr ⟨rfl, rfl⟩⟩, trivial⟩, rfl⟩
      | true =>
        have h1 := hdl hdo
        have hg2 := irows_get .i32 L (List.getElem?_eq_getElem h1)
        have tE : (L[p2] == 46) = true := by rw [hdo, isAt_lt h1] at hdot; exact hdot.symm
        have eP : IntKind.i64.wrap ((p2 : Int) + 1) = ((p2 + 1 : Nat) : Int) := by rw [IntWalk.i64_in _ (by omega)]; omega
        have hD2 := digits_ok L (p2 + 1) (by omega) (by omega)
        rw [hdo, if_pos rfl] at hp3 ht
        rw [← ht, ← hp3] at hD2
        have hse := str_empty t
        rw [← eP] at hD2
        by_cases h2 : t.length = 0
        · rw [decide_eq_true h2] at hse
          obtain rfl : o = none := by rw [hO, hdo]; unfold readP; rw [if_pos ⟨rfl, List.length_eq_zero_iff.1 h2⟩]
          conv => whnf
          first
            | refine caseb (fun _ => ?_) (fun h => absurd (of_decide_eq_false h) (by omega))
            | refine caseb (fun h => absurd (of_decide_eq_true h) (by omega)) (fun _ => ?_)
            | refine caseb (fun _ => ?_) (fun h => absurd (beq_eq_false_iff_ne.1 h) (by omega))
            | refine caseb (fun h => absurd (eq_of_beq h) (by omega)) (fun _ => ?_)
          conv => whnf
          refine ⟨_, ⟨by omega, hg2⟩, ?_⟩
          conv => whnf
          refine caseb (fun _ => ?_) (fun h => Bool.noConfusion ((tE).symm.trans h))
          conv => whnf
          refine ⟨_, hD2, ?_⟩
          conv => whnf
          refine caseb (fun _ => ?_) (fun h => Bool.noConfusion ((hse).symm.trans h))
          repeat
            conv => whnf
            first
              | refine ⟨_, by assumption, ?_⟩
              | refine ⟨(Nat.le_of_ble_eq_true rfl), _, by assumption, ?_⟩
              | refine ⟨by kernel_rfl, ?_⟩
              | exact rfl
              | exact ⟨Nat.le_of_ble_eq_true rfl, rfl⟩
              | refine ⟨by decide, ?_⟩
        · rw [decide_eq_false h2] at hse
          conv => whnf
          first
            | refine caseb (fun _ => ?_) (fun h => absurd (of_decide_eq_false h) (by omega))
            | refine caseb (fun h => absurd (of_decide_eq_true h) (by omega)) (fun _ => ?_)
            | refine caseb (fun _ => ?_) (fun h => absurd (beq_eq_false_iff_ne.1 h) (by omega))
            | refine caseb (fun h => absurd (eq_of_beq h) (by omega)) (fun _ => ?_)
          conv => whnf
          refine ⟨_, ⟨by omega, hg2⟩, ?_⟩
          conv => whnf
          refine caseb (fun _ => ?_) (fun h => Bool.noConfusion ((tE).symm.trans h))
          conv => whnf
          refine ⟨_, hD2, ?_⟩
          conv => whnf
          refine caseb (fun h => Bool.noConfusion ((hse).symm.trans h)) (fun _ => ?_)
          conv => whnf
          exact ⟨(), [], (fun _ e => h2 (by rw [e]; rfl)), ⟨⟨rfl, rfl⟩, ⟨rfl, rfl⟩, ⟨rfl, rfl⟩, ⟨rfl, rfl⟩, ⟨rfl, rfl⟩, ⟨rfl, rfl⟩, trivial⟩, ⟨⟨rfl, .inr ⟨rfl, rfl⟩⟩, trivial⟩, rfl⟩
    have hX := exponent_ok L p3 hp3l (by omega)
    have hda := dig_app hd1 hd2
    have hPa := Parse_any (h ++ t) (Dig.byt hda)
    rw [← strL_append] at hPa
    have hPl : readP L ng h dot t p3 = match expoL L p3 with
      | none => none
      | some (e, q) => if h.length + t.length = 0 ∨ 200 < h.length + t.length then none else some ((sgn ng (valL (h ++ t)) : Rat) * 10 ^ (e - (t.length : Int)), q) := by
      unfold readP; rw [if_neg (fun hc => hJ hc.1 hc.2)]
    have z1 := strL_size h
    have z2 := strL_size t
    have la : (h ++ t).length = h.length + t.length := List.length_append
    have lt2 : t.length ≤ 1000 := by rw [ht]; split; exact Nat.le_trans (by have := dT_len L (p2 + 1); have := hdl (by assumption); omega) hb; exact Nat.zero_le _
    have eA : IntKind.i64.wrap (((strL h).size : Int) + ((strL t).size : Int)) = ((h.length + t.length : Nat) : Int) := by rw [IntWalk.i64_in _ (by omega)]; omega
    refine axp_sound TTok _ _ _ ?_
    cases hex : expoL L p3 with
    | none =>
      rw [hex] at hX hPl
      obtain rfl : o = none := hO.trans hPl
      revert hPa
      generalize (if right (h ++ t) = true then valL (h ++ t) else 0) = v
      generalize right (h ++ t) = rg
      intro hPa
      unfold expoV at hX
      unfold natA at *
      conv => whnf
      refine ⟨_, hX, ?_⟩
      conv => whnf
      refine ⟨by omega, ?_⟩
      conv => whnf
      refine ⟨_, hPa, ?_⟩
      repeat
        conv => whnf
        first
          | refine ⟨_, by assumption, ?_⟩
          | refine ⟨(Nat.le_of_ble_eq_true rfl), _, by assumption, ?_⟩
          | refine ⟨by kernel_rfl, ?_⟩
          | exact rfl
          | exact ⟨Nat.le_of_ble_eq_true rfl, rfl⟩
          | refine ⟨by decide, ?_⟩
    | some eq =>
      obtain ⟨e, q⟩ := eq
      rw [hex] at hX hPl
      unfold expoV at hX
      dsimp only at hX hPl
      rw [← hO] at hPl
      clear hO
      by_cases hc : h.length + t.length = 0 ∨ 200 < h.length + t.length
      · rw [if_pos hc] at hPl
        subst hPl
        rcases hc with hc | hc
        · have hr : right (h ++ t) = false := by unfold right; rw [decide_eq_false (by omega), Bool.false_and]
          rw [hr] at hPa
          unfold natA at *
          conv => whnf
          refine ⟨_, hX, ?_⟩
          conv => whnf
          refine ⟨by omega, ?_⟩
          conv => whnf
          refine ⟨_, hPa, ?_⟩
          repeat
            conv => whnf
            first
              | refine ⟨_, by assumption, ?_⟩
              | refine ⟨(Nat.le_of_ble_eq_true rfl), _, by assumption, ?_⟩
              | refine ⟨by kernel_rfl, ?_⟩
              | exact rfl
              | exact ⟨Nat.le_of_ble_eq_true rfl, rfl⟩
              | refine ⟨by decide, ?_⟩
        · revert hPa
          generalize (if right (h ++ t) = true then valL (h ++ t) else 0) = v
          generalize right (h ++ t) = rg
          intro hPa
          unfold natA at *
          cases rg with
          | false =>
            conv => whnf
            refine ⟨_, hX, ?_⟩
            conv => whnf
            refine ⟨by omega, ?_⟩
            conv => whnf
            refine ⟨_, hPa, ?_⟩
            repeat
              conv => whnf
              first
                | refine ⟨_, by assumption, ?_⟩
                | refine ⟨(Nat.le_of_ble_eq_true rfl), _, by assumption, ?_⟩
                | refine ⟨by kernel_rfl, ?_⟩
                | exact rfl
                | exact ⟨Nat.le_of_ble_eq_true rfl, rfl⟩
                | refine ⟨by decide, ?_⟩
          | true =>
            conv => whnf
            refine ⟨_, hX, ?_⟩
            conv => whnf
            refine ⟨by omega, ?_⟩
            conv => whnf
            refine ⟨_, hPa, ?_⟩
            conv => whnf
            rw [eA]
            conv => whnf
            first
              | refine caseb (fun _ => ?_) (fun h => absurd (of_decide_eq_false h) (by omega))
              | refine caseb (fun h => absurd (of_decide_eq_true h) (by omega)) (fun _ => ?_)
              | refine caseb (fun _ => ?_) (fun h => absurd (beq_eq_false_iff_ne.1 h) (by omega))
              | refine caseb (fun h => absurd (eq_of_beq h) (by omega)) (fun _ => ?_)
            repeat
              conv => whnf
              first
                | refine ⟨_, by assumption, ?_⟩
                | refine ⟨(Nat.le_of_ble_eq_true rfl), _, by assumption, ?_⟩
                | refine ⟨by kernel_rfl, ?_⟩
                | exact rfl
                | exact ⟨Nat.le_of_ble_eq_true rfl, rfl⟩
                | refine ⟨by decide, ?_⟩
      · rw [if_neg hc] at hPl
        have hr := right_app hda (by omega) (by omega)
        rw [hr, if_pos rfl] at hPa
        have hbd := expo_bd hex
        have hW := WOf_ok ng (valL (h ++ t))
        have hW2 := Whole_ok (sgn ng (valL (h ++ t)))
        obtain ⟨i1, i2⟩ := int_num (sgn ng (valL (h ++ t)))
        have hS := scaled_ok ((sgn ng (valL (h ++ t)) : Int) : Rat) 1 (e - (t.length : Int)) i2.symm (Sz_int (k := 400) (by decide) (by rw [sgn_abs]; exact Nat.le_trans (limbs_dig hda (k := 23) (by omega) (by decide)) (by decide))) (by omega)
        rw [i1] at hS
        have eS : IntKind.i64.wrap (e - ((strL t).size : Int)) = e - (t.length : Int) := by rw [z2, IntWalk.i64_in _ (by omega)]
        rw [← eS] at hS
        rw [← eS] at hPl
        revert hS hPl
        generalize (((sgn ng (valL (h ++ t)) : Int) : Rat) * (10 : Rat) ^ (_ : Int)) = x
        intro hPl hS
        subst hPl
        generalize sgn ng (valL (h ++ t)) = y at *
        generalize valL (h ++ t) = v at *
        unfold natA WI RA at *
        conv => whnf
        refine ⟨_, hX, ?_⟩
        conv => whnf
        refine ⟨by omega, ?_⟩
        conv => whnf
        refine ⟨_, hPa, ?_⟩
        conv => whnf
        rw [eA]
        conv => whnf
        first
          | refine caseb (fun _ => ?_) (fun h => absurd (of_decide_eq_false h) (by omega))
          | refine caseb (fun h => absurd (of_decide_eq_true h) (by omega)) (fun _ => ?_)
          | refine caseb (fun _ => ?_) (fun h => absurd (beq_eq_false_iff_ne.1 h) (by omega))
          | refine caseb (fun h => absurd (eq_of_beq h) (by omega)) (fun _ => ?_)
        repeat
          conv => whnf
          first
            | refine ⟨_, by assumption, ?_⟩
            | refine ⟨(Nat.le_of_ble_eq_true rfl), _, by assumption, ?_⟩
            | refine ⟨by kernel_rfl, ?_⟩
            | exact rfl
            | exact ⟨Nat.le_of_ble_eq_true rfl, rfl⟩
            | refine ⟨by decide, ?_⟩
theorem Read_ok (L : List Int) (p : Nat) (hb : L.length ≤ 1000) : AC Tryz.prog 10 [.sl 1 (irows .i32 L) false, .val (.int .i64 (p : Int))] (.pure (readV (readD L p))) := by
  have h := Read_okW L p hb
  cases hr : readD L p with
  | none =>
    rw [hr] at h
    exact AC.le_res h (.tup3 RZ_le (.refl _) (.refl _)) (.tup _ (noid3 (RA_noid _ _) (.val _) (.val _)))
  | some x => rw [hr] at h; exact h
end Go.Proofs.YthodfkfgdoolnaaGreatDoor

/- Numbers as texts: a number is read (the document's contract). -/
set_option linter.unusedVariables false
namespace Go.Proofs.YthodfkfgdoolnaaGreatDoor
open Go Go.AL NM

theorem RRead_okD (L : List Int) (p : Nat) (hb : L.length ≤ 1000) : AC Tryz.prog 11 [.sl 1 (irows .i32 L) false, .val (.int .i64 (p : Int))] (.pure (readR (readD L p))) := by
  refine AC.of_sw TTok Tryz.func11 rfl (enter_of Tryz.func11 (by kernel_rfl) (by kernel_rfl)) (noid2 (slI_noid' _) (.val _)) (readR_noid _) (Nat.le_of_ble_eq_true rfl) ?_
  have hlen := irows_len .i32 L
  have hB := RBegins_ok L (p : Int) (by omega)
  rw [decide_eq_true (by omega), Bool.true_and, Int.toNat_natCast] at hB
  have hZ := SZero_ok
  cases hbe : begins L p with
  | false =>
    rw [hbe] at hB
    have hR : readD L p = none := by unfold readD; rw [hbe]; rfl
    rw [hR]
    unfold RN at *
    refine axp_sound TTok _ _ _ ?_
    repeat
      conv => whnf
      first
        | refine ⟨_, by assumption, ?_⟩
        | refine ⟨(Nat.le_of_ble_eq_true rfl), _, by assumption, ?_⟩
        | refine ⟨by kernel_rfl, ?_⟩
        | exact rfl
        | exact ⟨Nat.le_of_ble_eq_true rfl, rfl⟩
        | refine ⟨by decide, ?_⟩
  | true =>
    rw [hbe] at hB
    have hp := begins_lt hbe
    have hp1 := parts_le hbe
    obtain ⟨ng, hng⟩ : ∃ ng, ng = isAt L p isH := ⟨_, rfl⟩
    rw [← hng] at hp1
    obtain ⟨p1, hp1e⟩ : ∃ p1, p1 = p + ng.toNat := ⟨_, rfl⟩
    rw [← hp1e] at hp1
    obtain ⟨h, hh⟩ : ∃ h, h = dT L p1 := ⟨_, rfl⟩
    obtain ⟨p2, hp2e⟩ : ∃ p2, p2 = p1 + h.length := ⟨_, rfl⟩
    obtain ⟨dot, hdot⟩ : ∃ dot, dot = isAt L p2 isP := ⟨_, rfl⟩
    obtain ⟨t, ht⟩ : ∃ t, t = if dot then dT L (p2 + 1) else [] := ⟨_, rfl⟩
    obtain ⟨p3, hp3⟩ : ∃ p3, p3 = if dot then p2 + 1 + t.length else p2 := ⟨_, rfl⟩
    have hR := readD_eq (h := h) (t := t) (dot := dot) (p2 := p2) (p3 := p3) hbe hng (by rw [← hp1e]; exact hh) (by rw [← hp1e]; exact hp2e) hdot ht hp3
    rw [hR]
    obtain ⟨o, hO⟩ : ∃ o, o = readP L ng h dot t p3 := ⟨_, rfl⟩
    rw [← hO]
    have hg := irows_get .i32 L (List.getElem?_eq_getElem hp)
    have hD := run_ok L p1 hp1 (by omega)
    have hd1 := dT_dig L p1
    have hl1 := dT_le L hp1
    have hpre := dT_pre L p1
    rw [← hh] at hD hd1 hl1 hpre
    rw [← hp2e] at hl1
    have hd2 : Dig t := by
      rw [ht]; split
      · exact dT_dig _ _
      · exact fun x hx => nomatch hx
    have hdl : dot = true → p2 < L.length := fun hd => by
      rcases Nat.lt_or_ge p2 L.length with h | h
      · exact h
      · rw [isAt_ge h] at hdot; rw [hdot] at hd; cases hd
    have hp3l : p3 ≤ L.length := by
      rw [hp3]; split
      · rename_i hd
        have h1 := hdl hd
        have := dT_le L (p := p2 + 1) (by omega)
        rw [ht, if_pos hd]; omega
      · exact hl1
    refine SW.seqA TTok ?_
    conv => whnf
    refine SW.seqA TTok ?_
    conv => whnf
    refine ⟨_, hB, ?_⟩
    conv => whnf
    refine SW.seqA TTok ?_
    conv => whnf
    refine ⟨_, ⟨by omega, hg⟩, ?_⟩
    conv => whnf
    rw [show (L[p] == 175) = ng by rw [hng, isAt_lt hp]; rfl]
    refine SW.cutM TTok (fun _ : Unit => [(0, .sl 1 (irows .i32 L) false), (1, .val (.int .i64 (p1 : Int))), (4, .lp 0 0), (7, .val (.bool ng))]) (fun _ => [(0, .cells 3 [[.val (.bool false), .val (.string ByteArray.empty), .val (.string ByteArray.empty)]])]) 168 151 rfl (fun _ => True) ?_ (fun _ _ => ?_)
    · have eP2 : IntKind.i64.wrap ((p : Int) + 1) = ((p + 1 : Nat) : Int) := by rw [IntWalk.i64_in _ (by omega)]; omega
      cases ng with
      | true =>
        conv => whnf
        exact ⟨(), [], trivial, ⟨⟨rfl, rfl⟩, ⟨valI (by rw [eP2, hp1e]; rfl), rfl⟩, ⟨rfl, rfl⟩, ⟨rfl, rfl⟩, trivial⟩, ⟨⟨rfl, .inr ⟨rfl, rfl⟩⟩, trivial⟩, rfl⟩
      | false =>
        conv => whnf
        exact ⟨(), [], trivial, ⟨⟨rfl, rfl⟩, ⟨valI (by rw [hp1e]; rfl), rfl⟩, ⟨rfl, rfl⟩, ⟨rfl, rfl⟩, trivial⟩, ⟨⟨rfl, .inr ⟨rfl, rfl⟩⟩, trivial⟩, rfl⟩
    have e12 : IntKind.i64.wrap ((p1 : Int) + ((h.length : Nat) : Int)) = (p2 : Int) := by rw [IntWalk.i64_in _ (by omega)]; omega
    refine SW.seqA TTok ?_
    conv => whnf
    refine ⟨_, hD, ?_⟩
    conv => whnf
    refine SW.seqA TTok ?_
    conv => whnf
    rw [e12]
    refine ⟨by omega, ?_⟩
    conv => whnf
    refine ⟨h, ?_, ?_⟩
    · show ((irows .i32 L).take p2).drop p1 = irows .i32 h
      rw [irows_take, irows_drop]
      congr 1
      rw [List.drop_take, hp2e, Nat.add_sub_cancel_left, ← hpre]
    conv => whnf
    rw [runesStr_dig hd1]
    refine SW.seqA TTok ?_
    conv => whnf
    rw [e12]
    refine SW.seqA TTok ?_
    conv => whnf
    have z1 := strL_size h
    have z2 := strL_size t
    have lt2 : t.length ≤ 1000 := by rw [ht]; split; exact Nat.le_trans (by have := dT_len L (p2 + 1); have := hdl (by assumption); omega) hb; exact Nat.zero_le _
    refine SW.cutM TTok (fun _ : Unit => [(0, .sl 1 (irows .i32 L) false), (1, .val (.int .i64 (p3 : Int))), (4, .lp 0 0), (7, .val (.bool ng)), (9, .val (.string (strL (h ++ t)))), (10, .val (.int .i64 ((t.length : Nat) : Int)))]) (fun _ => [(0, .cells 3 [[.val (.bool false), .val (.string ByteArray.empty), .val (.string ByteArray.empty)]])]) 616 151 rfl (fun _ => dot = true → t ≠ []) ?_ (fun _ hJ => ?_)
    · cases hdo : dot with
      | false =>
        rw [hdo, if_neg (by decide)] at hp3 ht
        rw [hp3, ht, List.append_nil]
        by_cases h1 : p2 < L.length
        · have hg2 := irows_get .i32 L (List.getElem?_eq_getElem h1)
          have tE : (L[p2] == 46) = false := by rw [hdo, isAt_lt h1] at hdot; exact hdot.symm
          conv => whnf
          first
            | refine caseb (fun _ => ?_) (fun h => absurd (of_decide_eq_false h) (by omega))
            | refine caseb (fun h => absurd (of_decide_eq_true h) (by omega)) (fun _ => ?_)
            | refine caseb (fun _ => ?_) (fun h => absurd (beq_eq_false_iff_ne.1 h) (by omega))
            | refine caseb (fun h => absurd (eq_of_beq h) (by omega)) (fun _ => ?_)
          conv => whnf
          refine ⟨_, ⟨by omega, hg2⟩, ?_⟩
          conv => whnf
          refine caseb (fun h => Bool.noConfusion ((tE).symm.trans h)) (fun _ => ?_)
          conv => whnf
          exact ⟨(), [], (fun h => Bool.noConfusion h), ⟨⟨rfl, rfl⟩, ⟨rfl, rfl⟩, ⟨rfl, rfl⟩, ⟨rfl, rfl⟩, ⟨rfl, rfl⟩, ⟨rfl, rfl⟩, trivial⟩, ⟨⟨rfl, .inr ⟨rfl, rfl⟩⟩, trivial⟩, rfl⟩
        · conv => whnf
          first
            | refine caseb (fun _ => ?_) (fun h => absurd (of_decide_eq_false h) (by omega))
            | refine caseb (fun h => absurd (of_decide_eq_true h) (by omega)) (fun _ => ?_)
            | refine caseb (fun _ => ?_) (fun h => absurd (beq_eq_false_iff_ne.1 h) (by omega))
            | refine caseb (fun h => absurd (eq_of_beq h) (by omega)) (fun _ => ?_)
          conv => whnf
          exact ⟨(), [], (fun h => Bool.noConfusion h), ⟨⟨rfl, rfl⟩, ⟨rfl, rfl⟩, ⟨rfl, rfl⟩, ⟨rfl, rfl⟩, ⟨rfl, rfl⟩, ⟨rfl, rfl⟩, trivial⟩, ⟨⟨rfl, .inr ⟨rfl, rfl⟩⟩, trivial⟩, rfl⟩
      | true =>
        have h1 := hdl hdo
        have hg2 := irows_get .i32 L (List.getElem?_eq_getElem h1)
        have tE : (L[p2] == 46) = true := by rw [hdo, isAt_lt h1] at hdot; exact hdot.symm
        have eP : IntKind.i64.wrap ((p2 : Int) + 1) = ((p2 + 1 : Nat) : Int) := by rw [IntWalk.i64_in _ (by omega)]; omega
        have hD2 := run_ok L (p2 + 1) (by omega) (by omega)
        have hpre2 := dT_pre L (p2 + 1)
        rw [hdo, if_pos rfl] at hp3 ht
        rw [← ht] at hD2 hpre2
        rw [← eP] at hD2
        have eQ : IntKind.i64.wrap (IntKind.i64.wrap ((p2 : Int) + 1) + ((t.length : Nat) : Int)) = (p3 : Int) := by rw [eP, IntWalk.i64_in _ (by omega)]; omega
        by_cases h2 : t.length = 0
        · obtain rfl : o = none := by rw [hO, hdo]; unfold readP; rw [if_pos ⟨rfl, List.length_eq_zero_iff.1 h2⟩]
          have tz : (((t.length : Nat) : Int) == 0) = true := by rw [h2]; rfl
          unfold RN at *
          conv => whnf
          first
            | refine caseb (fun _ => ?_) (fun h => absurd (of_decide_eq_false h) (by omega))
            | refine caseb (fun h => absurd (of_decide_eq_true h) (by omega)) (fun _ => ?_)
            | refine caseb (fun _ => ?_) (fun h => absurd (beq_eq_false_iff_ne.1 h) (by omega))
            | refine caseb (fun h => absurd (eq_of_beq h) (by omega)) (fun _ => ?_)
          conv => whnf
          refine ⟨_, ⟨by omega, hg2⟩, ?_⟩
          conv => whnf
          refine caseb (fun _ => ?_) (fun h => Bool.noConfusion ((tE).symm.trans h))
          conv => whnf
          refine ⟨_, hD2, ?_⟩
          conv => whnf
          refine caseb (fun _ => ?_) (fun h => Bool.noConfusion ((tz).symm.trans h))
          repeat
            conv => whnf
            first
              | refine ⟨_, by assumption, ?_⟩
              | refine ⟨(Nat.le_of_ble_eq_true rfl), _, by assumption, ?_⟩
              | refine ⟨by kernel_rfl, ?_⟩
              | exact rfl
              | exact ⟨Nat.le_of_ble_eq_true rfl, rfl⟩
              | refine ⟨by decide, ?_⟩
        · have tz : (((t.length : Nat) : Int) == 0) = false := beq_false_of_ne (by omega)
          conv => whnf
          first
            | refine caseb (fun _ => ?_) (fun h => absurd (of_decide_eq_false h) (by omega))
            | refine caseb (fun h => absurd (of_decide_eq_true h) (by omega)) (fun _ => ?_)
            | refine caseb (fun _ => ?_) (fun h => absurd (beq_eq_false_iff_ne.1 h) (by omega))
            | refine caseb (fun h => absurd (eq_of_beq h) (by omega)) (fun _ => ?_)
          conv => whnf
          refine ⟨_, ⟨by omega, hg2⟩, ?_⟩
          conv => whnf
          refine caseb (fun _ => ?_) (fun h => Bool.noConfusion ((tE).symm.trans h))
          conv => whnf
          refine ⟨_, hD2, ?_⟩
          conv => whnf
          refine caseb (fun h => Bool.noConfusion ((tz).symm.trans h)) (fun _ => ?_)
          conv => whnf
          rw [eQ, eP]
          refine ⟨by omega, ?_⟩
          conv => whnf
          refine ⟨t, ?_, ?_⟩
          · show ((irows .i32 L).take p3).drop (p2 + 1) = irows .i32 t
            rw [irows_take, irows_drop]
            congr 1
            rw [List.drop_take, hp3, Nat.add_sub_cancel_left, ← hpre2]
          conv => whnf
          rw [runesStr_dig hd2]
          refine ⟨by omega, ?_⟩
          conv => whnf
          exact ⟨(), [], (fun _ e => h2 (by rw [e]; rfl)), ⟨⟨rfl, rfl⟩, ⟨valI eQ, rfl⟩, ⟨rfl, rfl⟩, ⟨rfl, rfl⟩, ⟨strE (strL_append h t), rfl⟩, ⟨rfl, rfl⟩, trivial⟩, ⟨⟨rfl, .inr ⟨rfl, rfl⟩⟩, trivial⟩, rfl⟩
    have hda := dig_app hd1 hd2
    have hPl : readP L ng h dot t p3 = match expoL L p3 with
      | none => none
      | some (e, q) => if h.length + t.length = 0 ∨ 200 < h.length + t.length then none else some ((sgn ng (valL (h ++ t)) : Rat) * 10 ^ (e - (t.length : Int)), q) := by
      unfold readP; rw [if_neg (fun hc => hJ hc.1 hc.2)]; try rfl
    rw [← hO] at hPl
    clear hO
    have za := strL_size (h ++ t)
    have la : (h ++ t).length = h.length + t.length := List.length_append
    refine SW.seqA TTok ?_
    by_cases hc : h.length + t.length = 0 ∨ 200 < h.length + t.length
    · obtain rfl : o = none := by
        rw [hPl]
        cases expoL L p3 with
        | none => rfl
        | some x => show (if _ then none else _) = none; rw [if_pos hc]
      unfold RN at *
      rcases hc with hc | hc
      · have tz : (((strL (h ++ t)).size : Int) == 0) = true := by rw [za, la, hc]; rfl
        conv => whnf
        refine caseb (fun _ => ?_) (fun h => Bool.noConfusion ((tz).symm.trans h))
        repeat
          conv => whnf
          first
            | refine ⟨_, by assumption, ?_⟩
            | refine ⟨(Nat.le_of_ble_eq_true rfl), _, by assumption, ?_⟩
            | refine ⟨by kernel_rfl, ?_⟩
            | exact rfl
            | exact ⟨Nat.le_of_ble_eq_true rfl, rfl⟩
            | refine ⟨by decide, ?_⟩
      · have tz : (((strL (h ++ t)).size : Int) == 0) = false := beq_false_of_ne (by omega)
        conv => whnf
        refine caseb (fun h => Bool.noConfusion ((tz).symm.trans h)) (fun _ => ?_)
        conv => whnf
        first
          | refine caseb (fun _ => ?_) (fun h => absurd (of_decide_eq_false h) (by omega))
          | refine caseb (fun h => absurd (of_decide_eq_true h) (by omega)) (fun _ => ?_)
          | refine caseb (fun _ => ?_) (fun h => absurd (beq_eq_false_iff_ne.1 h) (by omega))
          | refine caseb (fun h => absurd (eq_of_beq h) (by omega)) (fun _ => ?_)
        repeat
          conv => whnf
          first
            | refine ⟨_, by assumption, ?_⟩
            | refine ⟨(Nat.le_of_ble_eq_true rfl), _, by assumption, ?_⟩
            | refine ⟨by kernel_rfl, ?_⟩
            | exact rfl
            | exact ⟨Nat.le_of_ble_eq_true rfl, rfl⟩
            | refine ⟨by decide, ?_⟩
    have tz : (((strL (h ++ t)).size : Int) == 0) = false := beq_false_of_ne (by omega)
    conv => whnf
    refine caseb (fun h => Bool.noConfusion ((tz).symm.trans h)) (fun _ => ?_)
    conv => whnf
    first
      | refine caseb (fun _ => ?_) (fun h => absurd (of_decide_eq_false h) (by omega))
      | refine caseb (fun h => absurd (of_decide_eq_true h) (by omega)) (fun _ => ?_)
      | refine caseb (fun _ => ?_) (fun h => absurd (beq_eq_false_iff_ne.1 h) (by omega))
      | refine caseb (fun h => absurd (eq_of_beq h) (by omega)) (fun _ => ?_)
    conv => whnf
    refine SW.seqA TTok ?_
    conv => whnf
    refine SW.cutS TTok (fun x : Int × Nat => [(1, .val (.int .i64 (x.2 : Int))), (4, .lp 0 0), (7, .val (.bool ng)), (9, .val (.string (strL (h ++ t)))), (10, .val (.int .i64 ((t.length : Nat) : Int))), (11, .val (.int .i64 x.1))]) (fun _ => [(0, .cells 3 [[.val (.bool false), .val (.string ByteArray.empty), .val (.string ByteArray.empty)]])]) 1288 151 rfl (fun x => expoL L p3 = some x) ?hx (fun x hx => ?hy)
    case hy =>
      obtain ⟨e, q⟩ := x
      have hex : expoL L p3 = some (e, q) := hx
      rw [hex] at hPl
      dsimp only at hPl
      rw [if_neg hc] at hPl
      have hbd := expo_bd hex
      have hne : h ++ t ≠ [] := fun e => by rw [e] at la; simp at la; omega
      have hW := ROfW_any ng (h ++ t) hda hne (by omega)
      have hW2 := SWhole_ok (sgn ng (valL (h ++ t)))
      obtain ⟨i1, i2⟩ := int_num (sgn ng (valL (h ++ t)))
      have hS := Times10_ok ((sgn ng (valL (h ++ t)) : Int) : Rat) (e - (t.length : Int)) 23 (Sz_int (k := 23) (by decide) (by rw [sgn_abs]; exact limbs_dig hda (k := 23) (by omega) (by decide))) (by omega) (by decide)
      rw [i1, i2] at hS
      have eS : IntKind.i64.wrap (e - ((t.length : Nat) : Int)) = e - (t.length : Int) := by rw [IntWalk.i64_in _ (by omega)]
      rw [← eS] at hS hPl
      revert hPl hS
      generalize (((sgn ng (valL (h ++ t)) : Int) : Rat) * (10 : Rat) ^ (_ : Int)) = x
      intro hPl hS
      subst hPl
      generalize sgn ng (valL (h ++ t)) = y at *
      unfold RN WR at *
      refine axp_sound TTok _ _ _ ?_
      repeat
        conv => whnf
        first
          | refine ⟨_, by assumption, ?_⟩
          | refine ⟨(Nat.le_of_ble_eq_true rfl), _, by assumption, ?_⟩
          | refine ⟨by kernel_rfl, ?_⟩
          | exact rfl
          | exact ⟨Nat.le_of_ble_eq_true rfl, rfl⟩
          | refine ⟨by decide, ?_⟩
    refine SW.seqA TTok ?_
    by_cases hE : isAt L p3 (· == 69) = true
    · have h1 : p3 < L.length := by
        rcases Nat.lt_or_ge p3 L.length with h | h
        · exact h
        · rw [isAt_ge h] at hE; cases hE
      have hg := irows_get .i32 L (List.getElem?_eq_getElem h1)
      have tE : (L[p3] == 69) = true := by rw [isAt_lt h1] at hE; exact hE
      have eP : IntKind.i64.wrap ((p3 : Int) + 1) = ((p3 + 1 : Nat) : Int) := by rw [IntWalk.i64_in _ (by omega)]; omega
      have eX : expoL L p3 = (if (dT L (p3 + 1 + (isAt L (p3 + 1) isH).toNat)).length = 0 ∨ 3 < (dT L (p3 + 1 + (isAt L (p3 + 1) isH).toNat)).length then none
        else some (sgn (isAt L (p3 + 1) isH) (valL (dT L (p3 + 1 + (isAt L (p3 + 1) isH).toNat))), p3 + 1 + (isAt L (p3 + 1) isH).toNat + (dT L (p3 + 1 + (isAt L (p3 + 1) isH).toNat)).length)) := by
        conv => lhs; unfold expoL
        rw [if_pos hE]
      obtain ⟨lw, hlw⟩ : ∃ lw, lw = isAt L (p3 + 1) isH := ⟨_, rfl⟩
      rw [← hlw] at eX
      have hp4 : p3 + 1 + lw.toNat ≤ L.length := by
        cases hc : lw with
        | false => exact h1
        | true =>
          rcases Nat.lt_or_ge (p3 + 1) L.length with h | h
          · exact h
          · rw [isAt_ge h] at hlw; rw [hlw] at hc; cases hc
      obtain ⟨p4, hp4e⟩ : ∃ p4, p4 = p3 + 1 + lw.toNat := ⟨_, rfl⟩
      rw [← hp4e] at hp4 eX
      conv => whnf
      first
        | refine caseb (fun _ => ?_) (fun h => absurd (of_decide_eq_false h) (by omega))
        | refine caseb (fun h => absurd (of_decide_eq_true h) (by omega)) (fun _ => ?_)
        | refine caseb (fun _ => ?_) (fun h => absurd (beq_eq_false_iff_ne.1 h) (by omega))
        | refine caseb (fun h => absurd (eq_of_beq h) (by omega)) (fun _ => ?_)
      conv => whnf
      refine ⟨_, ⟨by omega, hg⟩, ?_⟩
      conv => whnf
      refine SW.cond (t := true) (by show AV.val (.bool (L[p3] == 69)) = _; rw [tE]) (fun _ => ?_) (fun h => Bool.noConfusion h)
      refine SW.seqA TTok ?_
      conv => whnf
      rw [eP]
      refine SW.cutM TTok (fun _ : Unit => [(0, .sl 1 (irows .i32 L) false), (1, .val (.int .i64 ((p3 + 1 : Nat) : Int))), (4, .lp 0 0), (7, .val (.bool ng)), (9, .val (.string (strL (h ++ t)))), (10, .val (.int .i64 ((t.length : Nat) : Int))), (11, .val (.int .i64 0)), (12, .val (.bool lw))]) (fun _ => [(0, .cells 3 [[.val (.bool false), .val (.string ByteArray.empty), .val (.string ByteArray.empty)]])]) 928 151 rfl (fun _ => True) ?_ (fun _ _ => ?_)
      · by_cases h2 : p3 + 1 < L.length
        · have hg2 := irows_get .i32 L (List.getElem?_eq_getElem h2)
          conv => whnf
          first
            | refine caseb (fun _ => ?_) (fun h => absurd (of_decide_eq_false h) (by omega))
            | refine caseb (fun h => absurd (of_decide_eq_true h) (by omega)) (fun _ => ?_)
            | refine caseb (fun _ => ?_) (fun h => absurd (beq_eq_false_iff_ne.1 h) (by omega))
            | refine caseb (fun h => absurd (eq_of_beq h) (by omega)) (fun _ => ?_)
          conv => whnf
          refine ⟨_, ⟨by omega, hg2⟩, ?_⟩
          conv => whnf
          exact ⟨(), [], trivial, ⟨⟨rfl, rfl⟩, ⟨rfl, rfl⟩, ⟨rfl, rfl⟩, ⟨rfl, rfl⟩, ⟨rfl, rfl⟩, ⟨rfl, rfl⟩, ⟨rfl, rfl⟩, ⟨valB (by rw [hlw, isAt_lt h2]; rfl), rfl⟩, trivial⟩, ⟨⟨rfl, .inr ⟨rfl, rfl⟩⟩, trivial⟩, rfl⟩
        · conv => whnf
          first
            | refine caseb (fun _ => ?_) (fun h => absurd (of_decide_eq_false h) (by omega))
            | refine caseb (fun h => absurd (of_decide_eq_true h) (by omega)) (fun _ => ?_)
            | refine caseb (fun _ => ?_) (fun h => absurd (beq_eq_false_iff_ne.1 h) (by omega))
            | refine caseb (fun h => absurd (eq_of_beq h) (by omega)) (fun _ => ?_)
          conv => whnf
          exact ⟨(), [], trivial, ⟨⟨rfl, rfl⟩, ⟨rfl, rfl⟩, ⟨rfl, rfl⟩, ⟨rfl, rfl⟩, ⟨rfl, rfl⟩, ⟨rfl, rfl⟩, ⟨rfl, rfl⟩, ⟨valB (by rw [hlw, isAt_ge (by omega)]), rfl⟩, trivial⟩, ⟨⟨rfl, .inr ⟨rfl, rfl⟩⟩, trivial⟩, rfl⟩
      refine SW.cutM TTok (fun _ : Unit => [(0, .sl 1 (irows .i32 L) false), (1, .val (.int .i64 (p4 : Int))), (4, .lp 0 0), (7, .val (.bool ng)), (9, .val (.string (strL (h ++ t)))), (10, .val (.int .i64 ((t.length : Nat) : Int))), (11, .val (.int .i64 0)), (12, .val (.bool lw))]) (fun _ => [(0, .cells 3 [[.val (.bool false), .val (.string ByteArray.empty), .val (.string ByteArray.empty)]])]) 960 151 rfl (fun _ => True) ?_ (fun _ _ => ?_)
      · have eP2 : IntKind.i64.wrap (((p3 + 1 : Nat) : Int) + 1) = ((p3 + 1 + 1 : Nat) : Int) := by rw [IntWalk.i64_in _ (by omega)]; omega
        cases lw with
        | true =>
          conv => whnf
          exact ⟨(), [], trivial, ⟨⟨rfl, rfl⟩, ⟨valI (by rw [eP2, hp4e]; rfl), rfl⟩, ⟨rfl, rfl⟩, ⟨rfl, rfl⟩, ⟨rfl, rfl⟩, ⟨rfl, rfl⟩, ⟨rfl, rfl⟩, ⟨rfl, rfl⟩, trivial⟩, ⟨⟨rfl, .inr ⟨rfl, rfl⟩⟩, trivial⟩, rfl⟩
        | false =>
          conv => whnf
          exact ⟨(), [], trivial, ⟨⟨rfl, rfl⟩, ⟨valI (by rw [hp4e]; rfl), rfl⟩, ⟨rfl, rfl⟩, ⟨rfl, rfl⟩, ⟨rfl, rfl⟩, ⟨rfl, rfl⟩, ⟨rfl, rfl⟩, ⟨rfl, rfl⟩, trivial⟩, ⟨⟨rfl, .inr ⟨rfl, rfl⟩⟩, trivial⟩, rfl⟩
      have hD := run_ok L p4 hp4 (by omega)
      have hdl4 := dT_le L hp4
      have hdd := dT_dig L p4
      have hat : ∀ {k : Nat}, k < (dT L p4).length → ∃ c, L[p4 + k]? = some c ∧ isD c = true ∧ (dT L p4)[k]? = some c := fun hk => dT_at L p4 hk
      generalize dT L p4 = d at *
      refine SW.seqA TTok ?_
      conv => whnf
      refine ⟨_, hD, ?_⟩
      conv => whnf
      refine SW.seqA TTok ?_
      by_cases hk : d.length = 0
      · have tz : (((d.length : Nat) : Int) == 0) = true := by rw [hk]; rfl
        rw [if_pos (.inl hk)] at eX
        rw [eX] at hPl
        obtain rfl : o = none := hPl
        unfold RN at *
        conv => whnf
        refine caseb (fun _ => ?_) (fun h => Bool.noConfusion ((tz).symm.trans h))
        repeat
          conv => whnf
          first
            | refine ⟨_, by assumption, ?_⟩
            | refine ⟨(Nat.le_of_ble_eq_true rfl), _, by assumption, ?_⟩
            | refine ⟨by kernel_rfl, ?_⟩
            | exact rfl
            | exact ⟨Nat.le_of_ble_eq_true rfl, rfl⟩
            | refine ⟨by decide, ?_⟩
      · have tz : (((d.length : Nat) : Int) == 0) = false := beq_false_of_ne (by omega)
        by_cases hk3 : 3 < d.length
        · rw [if_pos (.inr hk3)] at eX
          rw [eX] at hPl
          obtain rfl : o = none := hPl
          unfold RN at *
          conv => whnf
          refine caseb (fun h => Bool.noConfusion ((tz).symm.trans h)) (fun _ => ?_)
          conv => whnf
          first
            | refine caseb (fun _ => ?_) (fun h => absurd (of_decide_eq_false h) (by omega))
            | refine caseb (fun h => absurd (of_decide_eq_true h) (by omega)) (fun _ => ?_)
            | refine caseb (fun _ => ?_) (fun h => absurd (beq_eq_false_iff_ne.1 h) (by omega))
            | refine caseb (fun h => absurd (eq_of_beq h) (by omega)) (fun _ => ?_)
          repeat
            conv => whnf
            first
              | refine ⟨_, by assumption, ?_⟩
              | refine ⟨(Nat.le_of_ble_eq_true rfl), _, by assumption, ?_⟩
              | refine ⟨by kernel_rfl, ?_⟩
              | exact rfl
              | exact ⟨Nat.le_of_ble_eq_true rfl, rfl⟩
              | refine ⟨by decide, ?_⟩
        · rw [if_neg (by omega)] at eX
          have hv3 := dig3 hdd (by omega)
          conv => whnf
          refine caseb (fun h => Bool.noConfusion ((tz).symm.trans h)) (fun _ => ?_)
          conv => whnf
          first
            | refine caseb (fun _ => ?_) (fun h => absurd (of_decide_eq_false h) (by omega))
            | refine caseb (fun h => absurd (of_decide_eq_true h) (by omega)) (fun _ => ?_)
            | refine caseb (fun _ => ?_) (fun h => absurd (beq_eq_false_iff_ne.1 h) (by omega))
            | refine caseb (fun h => absurd (eq_of_beq h) (by omega)) (fun _ => ?_)
          conv => whnf
          refine axp_sound TTok _ _ _ ?_
          conv => whnf
          refine SW.loopM TTok (fun i : Nat => [(0, .sl 1 (irows .i32 L) false), (1, .val (.int .i64 (p4 : Int))), (4, .lp 0 0), (7, .val (.bool ng)), (9, .val (.string (strL (h ++ t)))), (10, .val (.int .i64 ((t.length : Nat) : Int))), (11, .val (.int .i64 ((valL (d.take i) : Nat) : Int))), (12, .val (.bool lw)), (13, .val (.int .i64 ((d.length : Nat) : Int))), (14, .val (.int .i64 (i : Int)))]) (fun i => [(0, .cells 3 [[.val (.bool false), .val (.string ByteArray.empty), .val (.string ByteArray.empty)]])]) 1080 151 rfl (fun i => d.length - i) (fun i => i ≤ d.length) 0 [] (Nat.zero_le _)
            ⟨⟨rfl, rfl⟩, ⟨rfl, rfl⟩, ⟨rfl, rfl⟩, ⟨rfl, rfl⟩, ⟨rfl, rfl⟩, ⟨rfl, rfl⟩, ⟨rfl, rfl⟩, ⟨rfl, rfl⟩, ⟨rfl, rfl⟩, ⟨rfl, rfl⟩, trivial⟩ ⟨⟨rfl, .inr ⟨rfl, rfl⟩⟩, trivial⟩ rfl ?_
          intro i hi
          have hi : i ≤ d.length := hi
          by_cases hi2 : i < d.length
          · obtain ⟨c, hc1, hc2, hc3⟩ := hat hi2
            have hg3 := irows_get .i32 L hc1
            have hs := valL_take_succ hi2
            have hdi := hdd _ (List.getElem_mem hi2)
            rw [List.getElem?_eq_getElem hi2] at hc3
            have hc3 := Option.some.inj hc3
            rw [hc3] at hs hdi
            have hv := dig3 (Dig.take hdd (i + 1)) (by rw [List.length_take]; omega)
            have eI : IntKind.i64.wrap ((i : Int) + 1) = ((i + 1 : Nat) : Int) := by rw [IntWalk.i64_in _ (by omega)]; omega
            have eJ : IntKind.i64.wrap ((p4 : Int) + (i : Int)) = ((p4 + i : Nat) : Int) := by rw [IntWalk.i64_in _ (by omega)]; omega
            have eV : IntKind.i64.wrap (IntKind.i64.wrap (((valL (d.take i) : Nat) : Int) * 10) + IntKind.i64.wrap (IntKind.i32.wrap (c - 48))) = ((valL (d.take (i + 1)) : Nat) : Int) := by
              rw [hs] at hv ⊢
              rw [IntKind.wrap_i32, IntWalk.i64_in (_ * 10) (by omega), IntWalk.i64_in ((c - 48 + 2147483648) % 4294967296 - 2147483648) (by omega), IntWalk.i64_in _ (by omega)]
              omega
            conv => whnf
            first
              | refine caseb (fun _ => ?_) (fun h => absurd (of_decide_eq_false h) (by omega))
              | refine caseb (fun h => absurd (of_decide_eq_true h) (by omega)) (fun _ => ?_)
              | refine caseb (fun _ => ?_) (fun h => absurd (beq_eq_false_iff_ne.1 h) (by omega))
              | refine caseb (fun h => absurd (eq_of_beq h) (by omega)) (fun _ => ?_)
            conv => whnf
            rw [eJ]
            refine ⟨_, ⟨by omega, hg3⟩, ?_⟩
            conv => whnf
            refine ⟨i + 1, [], (by show d.length - (i + 1) < d.length - i; omega), hi2, ⟨⟨rfl, rfl⟩, ⟨rfl, rfl⟩, ⟨rfl, rfl⟩, ⟨rfl, rfl⟩, ⟨rfl, rfl⟩, ⟨rfl, rfl⟩, ⟨valI eV, rfl⟩, ⟨rfl, rfl⟩, ⟨rfl, rfl⟩, ⟨valI eI, rfl⟩, trivial⟩, ⟨⟨rfl, .inr ⟨rfl, rfl⟩⟩, trivial⟩, rfl⟩
          · have hie : i = d.length := by omega
            have hta : d.take i = d := by rw [hie, List.take_length]
            rw [hta]
            have eN : IntKind.i64.wrap (0 - ((valL d : Nat) : Int)) = -((valL d : Nat) : Int) := by rw [IntWalk.i64_in _ (by omega)]; omega
            have eQ : IntKind.i64.wrap ((p4 : Int) + ((d.length : Nat) : Int)) = ((p4 + d.length : Nat) : Int) := by rw [IntWalk.i64_in _ (by omega)]; omega
            cases lw with
            | true =>
              conv => whnf
              first
                | refine caseb (fun _ => ?_) (fun h => absurd (of_decide_eq_false h) (by omega))
                | refine caseb (fun h => absurd (of_decide_eq_true h) (by omega)) (fun _ => ?_)
                | refine caseb (fun _ => ?_) (fun h => absurd (beq_eq_false_iff_ne.1 h) (by omega))
                | refine caseb (fun h => absurd (eq_of_beq h) (by omega)) (fun _ => ?_)
              conv => whnf
              exact ⟨(sgn true (valL d), p4 + d.length), [], eX, ⟨⟨valI eQ, rfl⟩, ⟨rfl, rfl⟩, ⟨rfl, rfl⟩, ⟨rfl, rfl⟩, ⟨rfl, rfl⟩, ⟨valI eN, rfl⟩, trivial⟩, ⟨⟨rfl, .inr ⟨rfl, rfl⟩⟩, trivial⟩, rfl⟩
            | false =>
              conv => whnf
              first
                | refine caseb (fun _ => ?_) (fun h => absurd (of_decide_eq_false h) (by omega))
                | refine caseb (fun h => absurd (of_decide_eq_true h) (by omega)) (fun _ => ?_)
                | refine caseb (fun _ => ?_) (fun h => absurd (beq_eq_false_iff_ne.1 h) (by omega))
                | refine caseb (fun h => absurd (eq_of_beq h) (by omega)) (fun _ => ?_)
              conv => whnf
              exact ⟨(sgn false (valL d), p4 + d.length), [], eX, ⟨⟨valI eQ, rfl⟩, ⟨rfl, rfl⟩, ⟨rfl, rfl⟩, ⟨rfl, rfl⟩, ⟨rfl, rfl⟩, ⟨rfl, rfl⟩, trivial⟩, ⟨⟨rfl, .inr ⟨rfl, rfl⟩⟩, trivial⟩, rfl⟩
    · have hX : expoL L p3 = some (0, p3) := by unfold expoL; rw [if_neg hE]
      by_cases h1 : p3 < L.length
      · have hg := irows_get .i32 L (List.getElem?_eq_getElem h1)
        have tE : (L[p3] == 69) = false := by rw [isAt_lt h1] at hE; simpa using hE
        conv => whnf
        first
          | refine caseb (fun _ => ?_) (fun h => absurd (of_decide_eq_false h) (by omega))
          | refine caseb (fun h => absurd (of_decide_eq_true h) (by omega)) (fun _ => ?_)
          | refine caseb (fun _ => ?_) (fun h => absurd (beq_eq_false_iff_ne.1 h) (by omega))
          | refine caseb (fun h => absurd (eq_of_beq h) (by omega)) (fun _ => ?_)
        conv => whnf
        refine ⟨_, ⟨by omega, hg⟩, ?_⟩
        conv => whnf
        refine SW.cond (t := false) (by show AV.val (.bool (L[p3] == 69)) = _; rw [tE]) (fun h => Bool.noConfusion h) (fun _ => ?_)
        refine axp_sound TTok _ _ _ ?_
        conv => whnf
        exact ⟨(0, p3), [], hX, ⟨⟨rfl, rfl⟩, ⟨rfl, rfl⟩, ⟨rfl, rfl⟩, ⟨rfl, rfl⟩, ⟨rfl, rfl⟩, ⟨rfl, rfl⟩, trivial⟩, ⟨⟨rfl, .inr ⟨rfl, rfl⟩⟩, trivial⟩, rfl⟩
      · conv => whnf
        first
          | refine caseb (fun _ => ?_) (fun h => absurd (of_decide_eq_false h) (by omega))
          | refine caseb (fun h => absurd (of_decide_eq_true h) (by omega)) (fun _ => ?_)
          | refine caseb (fun _ => ?_) (fun h => absurd (beq_eq_false_iff_ne.1 h) (by omega))
          | refine caseb (fun h => absurd (eq_of_beq h) (by omega)) (fun _ => ?_)
        conv => whnf
        refine SW.cond (t := false) rfl (fun h => Bool.noConfusion h) (fun _ => ?_)
        refine axp_sound TTok _ _ _ ?_
        conv => whnf
        exact ⟨(0, p3), [], hX, ⟨⟨rfl, rfl⟩, ⟨rfl, rfl⟩, ⟨rfl, rfl⟩, ⟨rfl, rfl⟩, ⟨rfl, rfl⟩, ⟨rfl, rfl⟩, trivial⟩, ⟨⟨rfl, .inr ⟨rfl, rfl⟩⟩, trivial⟩, rfl⟩
end Go.Proofs.YthodfkfgdoolnaaGreatDoor

/- Numbers as texts: noughts cut off, repeated texts, the point behind the first digit (contracts). -/
set_option linter.unusedVariables false
namespace Go.Proofs.YthodfkfgdoolnaaGreatDoor
open Go Go.AL NM

/-- Digits without the noughts at their end. -/
def trimZ (l : List Int) : List Int := (l.reverse.dropWhile (· == 48)).reverse
theorem trimZ_zero (l : List Int) : trimZ (l ++ [48]) = trimZ l := by
  unfold trimZ; rw [List.reverse_append]; rfl
theorem trimZ_other (l : List Int) {c : Int} (h : c ≠ 48) : trimZ (l ++ [c]) = l ++ [c] := by
  unfold trimZ
  rw [List.reverse_append]
  show (List.dropWhile (· == 48) (c :: l.reverse)).reverse = _
  rw [List.dropWhile_cons_of_neg (by simpa using h), List.reverse_cons, List.reverse_reverse]
theorem take_snoc {l : List Int} {k : Nat} (hk : k < l.length) : l.take (k + 1) = l.take k ++ [l[k]] := by rw [List.take_add_one, List.getElem?_eq_getElem hk]; rfl

theorem trimByte_ok (l : List Int) (hB : Byt l) (hb : l.length < 1000000) : AC Tryz.prog 93 [.val (.string (strL l)), .val (.int .u8 48)] (.pure (.val (.string (strL (trimZ l))))) := by
  refine AC.of_body TTok Tryz.func93 rfl (enter_of Tryz.func93 (by kernel_rfl) (by kernel_rfl)) (noid2 (.val _) (.val _)) (.val _) (Nat.le_of_ble_eq_true rfl) ?_
  conv => whnf
  refine SW.loopM TTok (fun k : Nat => [(0, .val (.string (strL (l.take k)))), (1, .val (.int .u8 48))]) (fun i => []) 8 23 rfl (fun k => k) (fun k => k ≤ l.length ∧ trimZ (l.take k) = trimZ l) l.length [] ⟨Nat.le_refl _, by rw [List.take_length]⟩
    ⟨⟨strE (by rw [List.take_length]), rfl⟩, ⟨rfl, rfl⟩, trivial⟩ trivial rfl ?_
  intro k hJ
  have hk : k ≤ l.length := hJ.1
  have ht : trimZ (l.take k) = trimZ l := hJ.2
  clear hJ
  have hz := strL_size (l.take k)
  rw [List.length_take, Nat.min_eq_left hk] at hz
  cases k with
  | zero =>
    conv => whnf
    exact strE (by rw [← ht]; rfl)
  | succ k =>
    have hk' : k < l.length := hk
    have t1 : decide (((strL (l.take (k + 1))).size : Int) > 0) = true := decide_eq_true (by omega)
    have eS : IntKind.i64.wrap (((strL (l.take (k + 1))).size : Int) - 1) = (k : Int) := by rw [hz, IntWalk.i64_in _ (by omega)]; omega
    have hby : byteAt (strL (l.take (k + 1))) (k : Int) = l[k] := by
      refine byteAt_strL (l := l.take (k + 1)) (fun x hx => hB x (List.mem_of_mem_take hx)) (Int.natCast_nonneg k) ?_
      rw [Int.toNat_natCast, List.getElem?_take_of_lt (Nat.lt_succ_self k), List.getElem?_eq_getElem hk']
    conv => whnf
    refine caseb (fun _ => ?_) (fun h => Bool.noConfusion ((t1).symm.trans h))
    conv => whnf
    rw [eS]
    refine ⟨by omega, ?_⟩
    conv => whnf
    rw [hby]
    by_cases h48 : l[k] = 48
    · have te : (l[k] == 48) = true := by rw [h48]; rfl
      conv => whnf
      refine caseb (fun _ => ?_) (fun h => Bool.noConfusion ((te).symm.trans h))
      conv => whnf
      rw [eS]
      refine ⟨by omega, ?_⟩
      conv => whnf
      refine ⟨k, [], Nat.lt_succ_self k, ⟨Nat.le_of_succ_le hk, ?_⟩, ⟨⟨strE ?_, rfl⟩, ⟨rfl, rfl⟩, trivial⟩, trivial, rfl⟩
      · rw [← ht, take_snoc hk', h48, trimZ_zero]
      · show (strL (l.take (k + 1))).extract 0 k = _
        rw [strL_extract, List.drop_zero, List.take_take, Nat.min_eq_left (Nat.le_succ k)]
    · have te : (l[k] == 48) = false := beq_false_of_ne h48
      conv => whnf
      refine caseb (fun h => Bool.noConfusion ((te).symm.trans h)) (fun _ => ?_)
      conv => whnf
      exact strE (by rw [← ht, take_snoc hk', trimZ_other _ h48])
theorem TrimRight_ok (l : List Int) (hB : Byt l) (hne : l ≠ []) (hb : l.length < 1000000) : AC Tryz.prog 62 [.val (.string (strL l)), .val (.string { data := #[48] })] (.pure (.val (.string (strL (trimZ l))))) := by
  refine AC.of_body TTok Tryz.func62 rfl (enter_of Tryz.func62 (by kernel_rfl) (by kernel_rfl)) (noid2 (.val _) (.val _)) (.val _) (Nat.le_of_ble_eq_true rfl) ?_
  have hT := trimByte_ok l hB hb
  have hse := str_empty l
  rw [decide_eq_false (by have := List.length_pos_iff.2 hne; omega)] at hse
  have h0 : (({ data := #[48] } : ByteArray).toList == ({ data := #[] } : ByteArray).toList) = false := by rw [ByteArray.toList_eq, ByteArray.toList_eq]; rfl
  have hb8 : byteAt ({ data := #[48] } : ByteArray) 0 = 48 := by decide +kernel
  conv => whnf
  refine caseb (fun h => Bool.noConfusion ((hse).symm.trans h)) (fun _ => ?_)
  conv => whnf
  refine caseb (fun h => Bool.noConfusion ((h0).symm.trans h)) (fun _ => ?_)
  conv => whnf
  refine ⟨⟨by decide, by decide⟩, ?_⟩
  conv => whnf
  rw [hb8]
  conv => whnf
  refine ⟨⟨by decide, by decide⟩, ?_⟩
  conv => whnf
  refine ⟨_, hT, ?_⟩
  repeat
    conv => whnf
    first
      | refine ⟨_, by assumption, ?_⟩
      | refine ⟨(Nat.le_of_ble_eq_true rfl), _, by assumption, ?_⟩
      | refine ⟨by kernel_rfl, ?_⟩
      | exact rfl
      | exact ⟨Nat.le_of_ble_eq_true rfl, rfl⟩
      | refine ⟨by decide, ?_⟩

theorem Mul64_one (c : Nat) (hc : c < 65) : AC Tryz.prog 98 [.val (.int .u64 1), .val (.int .u64 (c : Int))] (.pure (.tup [.val (.int .u64 0), .val (.int .u64 (c : Int))])) := by
  refine AC.of_body TTok Tryz.func98 rfl (enter_of Tryz.func98 (by kernel_rfl) (by kernel_rfl)) (noid2 (.val _) (.val _)) (.tup _ (noid2 (.val _) (.val _))) (Nat.le_of_ble_eq_true rfl) ?_
  repeat
    conv => whnf
    first
      | refine ⟨_, by assumption, ?_⟩
      | refine ⟨(Nat.le_of_ble_eq_true rfl), _, by assumption, ?_⟩
      | refine ⟨by kernel_rfl, ?_⟩
      | exact rfl
      | exact ⟨Nat.le_of_ble_eq_true rfl, rfl⟩
      | refine ⟨by decide, ?_⟩
  refine tup2 (valI ?_) (valI ?_)
  · revert hc; revert c; decide +kernel
  · revert hc; revert c; decide +kernel
theorem Mul_one' (c : Nat) (hc : c < 65) : AC Tryz.prog 63 [.val (.int .u64 1), .val (.int .u64 (c : Int))] (.pure (.tup [.val (.int .u64 0), .val (.int .u64 (c : Int))])) := by
  refine AC.of_body TTok Tryz.func63 rfl (enter_of Tryz.func63 (by kernel_rfl) (by kernel_rfl)) (noid2 (.val _) (.val _)) (.tup _ (noid2 (.val _) (.val _))) (Nat.le_of_ble_eq_true rfl) ?_
  have h := Mul64_one c hc
  repeat
    conv => whnf
    first
      | refine ⟨_, by assumption, ?_⟩
      | refine ⟨(Nat.le_of_ble_eq_true rfl), _, by assumption, ?_⟩
      | refine ⟨by kernel_rfl, ?_⟩
      | exact rfl
      | exact ⟨Nat.le_of_ble_eq_true rfl, rfl⟩
      | refine ⟨by decide, ?_⟩
theorem HasPrefix_ok (s t : ByteArray) (h : t.size ≤ s.size) : AC Tryz.prog 64 [.val (.string s), .val (.string t)] (.pure (.val (.bool ((s.extract 0 t.size).toList == t.toList)))) := by
  have h9 : AC Tryz.prog 99 [.val (.string s), .val (.string t)] (.pure (.val (.bool ((s.extract 0 t.size).toList == t.toList)))) := by
    refine AC.of_body TTok Tryz.func99 rfl (enter_of Tryz.func99 (by kernel_rfl) (by kernel_rfl)) (noid2 (.val _) (.val _)) (.val _) (Nat.le_of_ble_eq_true rfl) ?_
    conv => whnf
    first
      | refine caseb (fun _ => ?_) (fun h => absurd (of_decide_eq_false h) (by omega))
      | refine caseb (fun h => absurd (of_decide_eq_true h) (by omega)) (fun _ => ?_)
      | refine caseb (fun _ => ?_) (fun h => absurd (beq_eq_false_iff_ne.1 h) (by omega))
      | refine caseb (fun h => absurd (eq_of_beq h) (by omega)) (fun _ => ?_)
    conv => whnf
    refine ⟨by omega, ?_⟩
    repeat
      conv => whnf
      first
        | refine ⟨_, by assumption, ?_⟩
        | refine ⟨(Nat.le_of_ble_eq_true rfl), _, by assumption, ?_⟩
        | refine ⟨by kernel_rfl, ?_⟩
        | exact rfl
        | exact ⟨Nat.le_of_ble_eq_true rfl, rfl⟩
        | refine ⟨by decide, ?_⟩
  refine AC.of_body TTok Tryz.func64 rfl (enter_of Tryz.func64 (by kernel_rfl) (by kernel_rfl)) (noid2 (.val _) (.val _)) (.val _) (Nat.le_of_ble_eq_true rfl) ?_
  repeat
    conv => whnf
    first
      | refine ⟨_, by assumption, ?_⟩
      | refine ⟨(Nat.le_of_ble_eq_true rfl), _, by assumption, ?_⟩
      | refine ⟨by kernel_rfl, ?_⟩
      | exact rfl
      | exact ⟨Nat.le_of_ble_eq_true rfl, rfl⟩
      | refine ⟨by decide, ?_⟩

theorem lit_zeros : ({ data := #[48, 48, 48, 48, 48, 48, 48, 48, 48, 48, 48, 48, 48, 48, 48, 48, 48, 48, 48, 48, 48, 48, 48, 48, 48, 48, 48, 48, 48, 48, 48, 48, 48, 48, 48, 48, 48, 48, 48, 48, 48, 48, 48, 48, 48, 48, 48, 48, 48, 48, 48, 48, 48, 48, 48, 48, 48, 48, 48, 48, 48, 48, 48, 48] } : ByteArray) = strL (List.replicate 64 48) := rfl
theorem Repeat_ok (n : Int) (h0 : 0 ≤ n) (h1 : n ≤ 64) : AC Tryz.prog 25 [.val (.string { data := #[48] }), .val (.int .i64 n)] (.pure (.val (.string (strL (List.replicate n.toNat 48))))) := by
  refine AC.of_body TTok Tryz.func25 rfl (enter_of Tryz.func25 (by kernel_rfl) (by kernel_rfl)) (noid2 (.val _) (.val _)) (.val _) (Nat.le_of_ble_eq_true rfl) ?_
  obtain ⟨c, rfl⟩ := Int.eq_ofNat_of_zero_le h0
  rw [Int.toNat_natCast]
  by_cases c0 : c = 0
  · subst c0
    repeat
      conv => whnf
      first
        | refine ⟨_, by assumption, ?_⟩
        | refine ⟨(Nat.le_of_ble_eq_true rfl), _, by assumption, ?_⟩
        | refine ⟨by kernel_rfl, ?_⟩
        | exact rfl
        | exact ⟨Nat.le_of_ble_eq_true rfl, rfl⟩
        | refine ⟨by decide, ?_⟩
  by_cases c1 : c = 1
  · subst c1
    repeat
      conv => whnf
      first
        | refine ⟨_, by assumption, ?_⟩
        | refine ⟨(Nat.le_of_ble_eq_true rfl), _, by assumption, ?_⟩
        | refine ⟨by kernel_rfl, ?_⟩
        | exact rfl
        | exact ⟨Nat.le_of_ble_eq_true rfl, rfl⟩
        | refine ⟨by decide, ?_⟩
  have hM := Mul_one' c (by omega)
  have t0 : ((c : Int) == 0) = false := beq_false_of_ne (by omega)
  have t1 : ((c : Int) == 1) = false := beq_false_of_ne (by omega)
  have eC : IntKind.u64.wrap (c : Int) = (c : Int) := by rw [IntKind.wrap_u64]; omega
  have eD : IntKind.i64.wrap (c : Int) = (c : Int) := IntWalk.i64_in _ (by omega)
  have hb8 : byteAt ({ data := #[48] } : ByteArray) 0 = 48 := by decide +kernel
  have hM' : AC Tryz.prog 63 [.val (.int .u64 1), .val (.int .u64 (IntKind.u64.wrap (c : Int)))] (.pure (.tup [.val (.int .u64 0), .val (.int .u64 (c : Int))])) := by rw [eC]; exact hM
  have f1 : decide ((c : Int) > 9223372036854775807) = false := decide_eq_false (by omega)
  conv => whnf
  refine caseb (fun h => Bool.noConfusion ((t0).symm.trans h)) (fun _ => ?_)
  conv => whnf
  refine caseb (fun h => Bool.noConfusion ((t1).symm.trans h)) (fun _ => ?_)
  conv => whnf
  refine ⟨_, hM', ?_⟩
  conv => whnf
  refine caseb (fun h => Bool.noConfusion ((f1).symm.trans h)) (fun _ => ?_)
  conv => whnf
  refine ⟨⟨by decide, by decide⟩, ?_⟩
  conv => whnf
  rw [eD]
  conv => whnf
  first
    | refine caseb (fun _ => ?_) (fun h => absurd (of_decide_eq_false h) (by omega))
    | refine caseb (fun h => absurd (of_decide_eq_true h) (by omega)) (fun _ => ?_)
    | refine caseb (fun _ => ?_) (fun h => absurd (beq_eq_false_iff_ne.1 h) (by omega))
    | refine caseb (fun h => absurd (eq_of_beq h) (by omega)) (fun _ => ?_)
  conv => whnf
  refine ⟨_, HasPrefix_ok _ _ (by decide +kernel), ?_⟩
  conv => whnf
  refine caseb (fun h => Bool.noConfusion (((by kernel_rfl : (_ : Bool) = false)).symm.trans h)) (fun _ => ?_)
  conv => whnf
  conv => whnf
  first
    | refine caseb (fun _ => ?_) (fun h => absurd (of_decide_eq_false h) (by omega))
    | refine caseb (fun h => absurd (of_decide_eq_true h) (by omega)) (fun _ => ?_)
    | refine caseb (fun _ => ?_) (fun h => absurd (beq_eq_false_iff_ne.1 h) (by omega))
    | refine caseb (fun h => absurd (eq_of_beq h) (by omega)) (fun _ => ?_)
  conv => whnf
  refine ⟨_, HasPrefix_ok _ _ (by decide +kernel), ?_⟩
  conv => whnf
  refine caseb (fun h => Bool.noConfusion (((by kernel_rfl : (_ : Bool) = false)).symm.trans h)) (fun _ => ?_)
  conv => whnf
  conv => whnf
  first
    | refine caseb (fun _ => ?_) (fun h => absurd (of_decide_eq_false h) (by omega))
    | refine caseb (fun h => absurd (of_decide_eq_true h) (by omega)) (fun _ => ?_)
    | refine caseb (fun _ => ?_) (fun h => absurd (beq_eq_false_iff_ne.1 h) (by omega))
    | refine caseb (fun h => absurd (eq_of_beq h) (by omega)) (fun _ => ?_)
  conv => whnf
  refine ⟨_, HasPrefix_ok _ _ (by decide +kernel), ?_⟩
  conv => whnf
  refine caseb (fun _ => ?_) (fun h => Bool.noConfusion (((by kernel_rfl : (_ : Bool) = true)).symm.trans h))
  conv => whnf
  refine ⟨⟨by omega, by show (c : Int) ≤ 64; omega⟩, ?_⟩
  conv => whnf
  exact strE (by rw [Int.toNat_natCast, lit_zeros, strL_extract, List.drop_zero, List.take_replicate, Nat.min_eq_left (by omega)])

def mantL (l : List Int) : List Int := if l.length = 1 then l else l.take 1 ++ [46] ++ l.drop 1
theorem mantissa_ok (l : List Int) (hne : l ≠ []) (hb : l.length < 1000000) : AC Tryz.prog 22 [.val (.string (strL l))] (.pure (.val (.string (strL (mantL l))))) := by
  refine AC.of_body TTok Tryz.func22 rfl (enter_of Tryz.func22 (by kernel_rfl) (by kernel_rfl)) (noid1 (.val _)) (.val _) (Nat.le_of_ble_eq_true rfl) ?_
  have hz := strL_size l
  have hl := List.length_pos_iff.2 hne
  unfold mantL
  by_cases h1 : l.length = 1
  · rw [if_pos h1]
    have t1 : (((strL l).size : Int) == 1) = true := by rw [hz, h1]; rfl
    conv => whnf
    refine caseb (fun _ => ?_) (fun h => Bool.noConfusion ((t1).symm.trans h))
    repeat
      conv => whnf
      first
        | refine ⟨_, by assumption, ?_⟩
        | refine ⟨(Nat.le_of_ble_eq_true rfl), _, by assumption, ?_⟩
        | refine ⟨by kernel_rfl, ?_⟩
        | exact rfl
        | exact ⟨Nat.le_of_ble_eq_true rfl, rfl⟩
        | refine ⟨by decide, ?_⟩
  · rw [if_neg h1]
    have t1 : (((strL l).size : Int) == 1) = false := beq_false_of_ne (by omega)
    have e46 : ({ data := #[46] } : ByteArray) = strL [46] := rfl
    have x1 : (strL l).extract 0 (1 : Int).toNat = strL (l.take 1) := by rw [strL_extract, List.drop_zero]; rfl
    have x2 : (strL l).extract (1 : Int).toNat (strL l).size = strL (l.drop 1) := by rw [strL_extract, hz, List.take_length]; rfl
    conv => whnf
    refine caseb (fun h => Bool.noConfusion ((t1).symm.trans h)) (fun _ => ?_)
    conv => whnf
    refine ⟨by omega, ?_⟩
    conv => whnf
    rw [x1]
    refine ⟨by have := strL_size (l.take 1); rw [List.length_take] at this; show _ + 1 ≤ _; omega, ?_⟩
    conv => whnf
    refine ⟨by omega, ?_⟩
    conv => whnf
    rw [x2, e46, strL_append]
    refine ⟨by have h1 := strL_size (l.take 1 ++ [46]); have h2 := strL_size (l.drop 1); rw [List.length_append, List.length_take] at h1; rw [List.length_drop] at h2; rw [h1, h2]; show _ + 1 + _ ≤ _; omega, ?_⟩
    conv => whnf
    rw [strL_append]
    refine ⟨by kernel_rfl, ?_⟩
    conv => whnf
    exact rfl
end Go.Proofs.YthodfkfgdoolnaaGreatDoor

/- Numbers as texts: a number's order and its first digits (contracts of both). -/
set_option linter.unusedVariables false
namespace Go.Proofs.YthodfkfgdoolnaaGreatDoor
open Go Go.AL NM

theorem decS_len (n : Nat) : (decS n).size = (decL n).length := strL_size _
theorem decL_sz {n k : Nat} (h : (limbs n).length ≤ k) : (decL n).length ≤ 10 * k + 1 := by have := decL_limbs n; omega
theorem ord_bd {a : Rat} {k : Nat} (h : Sz a k) : -((10 * k + 1 : Nat) : Int) ≤ ordP a ∧ ordP a ≤ ((10 * k + 1 : Nat) : Int) := ordP_bd a (decL_sz h.1) (decL_sz h.2)
theorem dif_bd {a : Rat} {k : Nat} (h : Sz a k) : -((10 * k + 1 : Nat) : Int) ≤ dif a ∧ dif a ≤ ((10 * k + 1 : Nat) : Int) := by
  have := decL_sz h.1
  have := decL_sz h.2
  unfold dif; omega
theorem order_ok (a : Rat) (i : Nat) (hi : dn i = a.den) (ha : Sz a 50) (h0 : 0 < a) : AC Tryz.prog 55 [RA a.num i] (.pure (.val (.int .i64 (ordP a)))) := by
  refine AC.of_body TTok Tryz.func55 rfl (enter_of Tryz.func55 (by kernel_rfl) (by kernel_rfl)) (noid1 (RA_noid _ _)) (.val _) (Nat.le_of_ble_eq_true rfl) ?_
  have hT := RTop_ok a.num i
  have hB := RBot_ok a.num i
  rw [hi] at hB
  have := ha.1
  have := ha.2
  have hX1 := Text_ok a.num.natAbs (by omega)
  have hX2 := Text_ok a.den (by omega)
  have l1 := decL_sz ha.1
  have l2 := decL_sz ha.2
  have z1 := decS_len a.num.natAbs
  have z2 := decS_len a.den
  have eD : IntKind.i64.wrap (((decS a.num.natAbs).size : Int) - ((decS a.den).size : Int)) = dif a := by rw [z1, z2]; unfold dif; rw [IntWalk.i64_in _ (by omega)]
  have bd := dif_bd ha
  have eN : IntKind.i64.wrap (0 - dif a) = -dif a := by rw [IntWalk.i64_in _ (by omega)]; omega
  have e1 : IntKind.i64.wrap (dif a - 1) = dif a - 1 := by rw [IntWalk.i64_in _ (by omega)]
  have hS := scaled_ok a i (-dif a) hi (ha.mono (by decide)) (by omega)
  have hF := RatFrom_ok 1 (by decide)
  have sS : Sz (a * 10 ^ (-dif a)) 400 := by
    by_cases hn : 0 ≤ -dif a
    · rw [← sc_pos a hn]
      exact (Sz_mul ha (Sz_ten (k := (-dif a).toNat) (by omega))).mono (by decide)
    · rw [← sc_neg a (n := -dif a) (by omega)]
      exact (Sz_div (ten_ne _) ha (Sz_ten (k := (-(-dif a)).toNat) (by omega))).mono (by decide)
  have hC := QCmp_ok (a * 10 ^ (-dif a)) 1 (a * 10 ^ (-dif a)).den 1 (dn_den _) rfl (sS.mono (by decide)) ((Sz_small (q := 1) (by decide) (by decide)).mono (by decide))
  rw [Rat.one_num] at hC
  rw [← eN] at hS
  unfold ordP
  have hlt : (cmpQ (a * 10 ^ (-dif a)) 1 < 0) ↔ a * 10 ^ (-dif a) < 1 := cmpQ_neg
  by_cases h : a * 10 ^ (-dif a) < 1
  · rw [if_pos h, ← e1]
    have tl : decide (cmpQ (a * 10 ^ (-dif a)) 1 < 0) = true := decide_eq_true (hlt.2 h)
    revert hS hC tl
    rw [eN]
    generalize a * 10 ^ (-dif a) = x
    intro hS hC tl
    rw [← eN] at hS
    unfold RA WI natA at *
    conv => whnf
    refine ⟨_, hT, ?_⟩
    conv => whnf
    refine ⟨_, hX1, ?_⟩
    conv => whnf
    refine ⟨_, hB, ?_⟩
    conv => whnf
    refine ⟨_, hX2, ?_⟩
    conv => whnf
    refine ⟨by kernel_rfl, ?_⟩
    conv => whnf
    rw [eD]
    conv => whnf
    refine ⟨_, hS, ?_⟩
    conv => whnf
    refine ⟨_, hF, ?_⟩
    conv => whnf
    refine ⟨_, hC, ?_⟩
    conv => whnf
    refine caseb (fun _ => ?_) (fun h => Bool.noConfusion ((tl).symm.trans h))
    repeat
      conv => whnf
      first
        | refine ⟨_, by assumption, ?_⟩
        | refine ⟨(Nat.le_of_ble_eq_true rfl), _, by assumption, ?_⟩
        | refine ⟨by kernel_rfl, ?_⟩
        | exact rfl
        | exact ⟨Nat.le_of_ble_eq_true rfl, rfl⟩
        | refine ⟨by decide, ?_⟩
  · rw [if_neg h]
    have tl : decide (cmpQ (a * 10 ^ (-dif a)) 1 < 0) = false := decide_eq_false (fun h' => h (hlt.1 h'))
    revert hS hC tl
    rw [eN]
    generalize a * 10 ^ (-dif a) = x
    intro hS hC tl
    rw [← eN] at hS
    unfold RA WI natA at *
    conv => whnf
    refine ⟨_, hT, ?_⟩
    conv => whnf
    refine ⟨_, hX1, ?_⟩
    conv => whnf
    refine ⟨_, hB, ?_⟩
    conv => whnf
    refine ⟨_, hX2, ?_⟩
    conv => whnf
    refine ⟨by kernel_rfl, ?_⟩
    conv => whnf
    rw [eD]
    conv => whnf
    refine ⟨_, hS, ?_⟩
    conv => whnf
    refine ⟨_, hF, ?_⟩
    conv => whnf
    refine ⟨_, hC, ?_⟩
    conv => whnf
    refine caseb (fun h => Bool.noConfusion ((tl).symm.trans h)) (fun _ => ?_)
    repeat
      conv => whnf
      first
        | refine ⟨_, by assumption, ?_⟩
        | refine ⟨(Nat.le_of_ble_eq_true rfl), _, by assumption, ?_⟩
        | refine ⟨by kernel_rfl, ?_⟩
        | exact rfl
        | exact ⟨Nat.le_of_ble_eq_true rfl, rfl⟩
        | refine ⟨by decide, ?_⟩

theorem sc_Sz {a : Rat} {k : Nat} (ha : Sz a k) (n : Int) : Sz (a * 10 ^ n) (k + (n.natAbs / 9 + 1)) := by
  by_cases hn : 0 ≤ n
  · rw [← sc_pos a hn, show n.toNat = n.natAbs by omega]
    exact Sz_mul ha (Sz_tenk _)
  · rw [← sc_neg a (n := n) (by omega), show (-n).toNat = n.natAbs by omega]
    exact Sz_div (ten_ne _) ha (Sz_tenk _)
theorem ROrder_ok (a : Rat) (ha : Sz a 20) (h0 : 0 < a) : AC Tryz.prog 26 [RN a.num a.den] (.pure (.val (.int .i64 (ordP a)))) := by
  refine AC.of_body TTok Tryz.func26 rfl (enter_of Tryz.func26 (by kernel_rfl) (by kernel_rfl)) (noid1 (RN_noid _ _)) (.val _) (Nat.le_of_ble_eq_true rfl) ?_
  have hF := SFloor_ok a (ha.mono (by decide))
  have is := is0W a.floor.natAbs
  have hO := Ord_P h0
  by_cases hf : a.floor = 0
  · have f1 : (!((decS a.floor.natAbs).toList == ({ data := #[48] } : ByteArray).toList)) = false := by rw [is, decide_eq_true (by rw [hf]; rfl)]; rfl
    obtain ⟨z, hz⟩ : ∃ z : Nat → Int, ∀ j, z j = (j : Int) := ⟨_, fun j => rfl⟩
    obtain ⟨f, hfd⟩ : ∃ f : Nat → Rat, ∀ i, f i = a * 10 ^ (i : Int) := ⟨_, fun i => rfl⟩
    have hf0 : f 0 = a := by rw [hfd]; show a * 10 ^ (0 : Int) = a; rw [t_zero, Rat.mul_one]
    have hfs : ∀ i, f (i + 1) = f i * 10 ^ (1 : Int) := fun i => by
      rw [hfd, hfd, Rat.mul_assoc, ← t_add]; rfl
    have hlim : ∀ i, f i < 1 → i < (decL a.den).length := fun i hi => by
      rcases Nat.lt_or_ge i (decL a.den).length with h | h
      · exact h
      · refine absurd ?_ (lo_den h0)
        rw [hfd] at hi
        exact r_le_lt (Rat.mul_le_mul_of_nonneg_left (t_mono (by omega)) (Rat.le_of_lt h0)) hi
    have hden := decL_sz ha.2
    have hfl : f 0 < 1 := by rw [hf0]; exact fl_zero h0 hf
    have hFr := SFrom_ok 1 (by decide)
    unfold RN WR at *
    conv => whnf
    refine ⟨_, hF, ?_⟩
    conv => whnf
    refine caseb (fun h => Bool.noConfusion ((f1).symm.trans h)) (fun _ => ?_)
    conv => whnf
    refine SW.loopM TTok (fun i : Nat => [(1, .lp 0 0), (4, .val (.int .i64 (-(z i)))), (5, .val (.int .i64 (z i)))]) (fun i => [(0, .cells 3 [[.val (.bool (decide ((f i).num < 0))), .val (.string (decS (f i).num.natAbs)), .val (.string (decS (f i).den))]])]) 128 30 rfl (fun i => (decL a.den).length - i) (fun i => i ≤ (decL a.den).length ∧ f i < 10) 0 [] ⟨Nat.zero_le _, r_lt_le hfl (by decide +kernel)⟩
      ⟨⟨rfl, rfl⟩, ⟨valI (by rw [hz]; rfl), rfl⟩, ⟨valI (hz 0).symm, rfl⟩, trivial⟩ ⟨⟨rfl, .inr ⟨(by rw [hf0]; rfl), rfl⟩⟩, trivial⟩ rfl ?_
    intro i hJ
    have hi : i ≤ (decL a.den).length := hJ.1
    have h10 : f i < 10 := hJ.2
    clear hJ
    have hzi := hz i
    have hsz : Sz (f i) 45 := by rw [hfd]; exact (sc_Sz ha _).mono (by omega)
    have hC := SCmp_ok (f i) 1 (hsz.mono (by decide)) ((Sz_small (q := 1) (by decide) (by decide)).mono (by decide))
    have hT := Times10_ok (f i) 1 45 hsz (by decide) (by decide)
    rw [← hfs] at hT
    rw [Rat.one_num, Rat.one_den] at hC
    unfold RN at hC hT
    by_cases hl : f i < 1
    · have tl : decide (cmpQ (f i) 1 < 0) = true := decide_eq_true (cmpQ_neg.2 hl)
      have := hlim i hl
      have e4 : IntKind.i64.wrap (-(z i) - 1) = -(z (i + 1)) := by rw [hz, hz, IntWalk.i64_in _ (by omega)]; omega
      have e5 : IntKind.i64.wrap (z i + 1) = z (i + 1) := by rw [hz, hz, IntWalk.i64_in _ (by omega)]; omega
      have t3 : decide (z i < 3000) = true := decide_eq_true (by omega)
      have h10' : f (i + 1) < 10 := by rw [hfd]; rw [hfd] at hl; exact t_lt hl
      generalize hci : cmpQ (f i) 1 = ci at *
      conv => whnf
      refine caseb (fun _ => ?_) (fun h => Bool.noConfusion ((t3).symm.trans h))
      conv => whnf
      refine ⟨_, hFr, ?_⟩
      conv => whnf
      refine ⟨_, hC, ?_⟩
      conv => whnf
      refine ⟨by kernel_rfl, ?_⟩
      conv => whnf
      refine caseb (fun _ => ?_) (fun h => Bool.noConfusion ((tl).symm.trans h))
      conv => whnf
      refine ⟨_, hT, ?_⟩
      conv => whnf
      refine ⟨i + 1, [], (by show (decL a.den).length - (i + 1) < (decL a.den).length - i; omega), ⟨(by show i + 1 ≤ _; omega), h10'⟩, ⟨⟨rfl, rfl⟩, ⟨valI e4, rfl⟩, ⟨valI e5, rfl⟩, trivial⟩, ⟨⟨rfl, .inr ⟨rfl, rfl⟩⟩, trivial⟩, rfl⟩
    · have tl : decide (cmpQ (f i) 1 < 0) = false := decide_eq_false (fun h => hl (cmpQ_neg.1 h))
      have t3 : decide (z i < 3000) = true := decide_eq_true (by omega)
      have hoi : ordP a = -(i : Int) := by
        rw [hfd] at h10 hl
        exact Ord_uniq hO (Ord_step h10 hl)
      generalize hci : cmpQ (f i) 1 = ci at *
      conv => whnf
      refine caseb (fun _ => ?_) (fun h => Bool.noConfusion ((t3).symm.trans h))
      conv => whnf
      refine ⟨_, hFr, ?_⟩
      conv => whnf
      refine ⟨_, hC, ?_⟩
      conv => whnf
      refine ⟨by kernel_rfl, ?_⟩
      conv => whnf
      refine caseb (fun h => Bool.noConfusion ((tl).symm.trans h)) (fun _ => ?_)
      conv => whnf
      exact valI (by rw [hoi, hz])
  · have f1 : (!((decS a.floor.natAbs).toList == ({ data := #[48] } : ByteArray).toList)) = true := by rw [is, decide_eq_false (by omega)]; rfl
    have hoi : ordP a = ((decL a.floor.natAbs).length : Int) - 1 := Ord_uniq hO (Ord_fl h0 hf)
    have hz := decS_len a.floor.natAbs
    have hl := decL_limbs a.floor.natAbs
    have := limbs_floor ha
    unfold RN WR at *
    conv => whnf
    refine ⟨_, hF, ?_⟩
    conv => whnf
    refine caseb (fun _ => ?_) (fun h => Bool.noConfusion ((f1).symm.trans h))
    conv => whnf
    exact valI (by rw [hoi, hz, IntWalk.i64_in _ (by omega)])
end Go.Proofs.YthodfkfgdoolnaaGreatDoor

/- Numbers as texts: rounded digits; a number is written (the program's contracts). -/
set_option linter.unusedVariables false
namespace Go.Proofs.YthodfkfgdoolnaaGreatDoor
open Go Go.AL NM

/-- A number's first digits, so many, as a number. -/
def fig (a : Rat) (many : Int) : Nat := rnd (a * 10 ^ (many - 1 - ordP a))
theorem fig_bd {a : Rat} {many : Int} (h0 : 0 < a) (hm : 1 ≤ many) : 10 ^ (many - 1).toNat ≤ fig a many ∧ fig a many ≤ 10 ^ ((many - 1).toNat + 1) := by
  have hO := Ord_sc (n := many - 1 - ordP a) (Ord_P h0)
  rw [show ordP a + (many - 1 - ordP a) = many - 1 by omega] at hO
  obtain ⟨h1, h2⟩ := hO
  unfold fig
  refine rnd_bd ?_ ?_
  · rw [← t_nat, Int.toNat_of_nonneg (by omega)]; exact h1
  · rw [← t_nat, show (((many - 1).toNat + 1 : Nat) : Int) = many - 1 + 1 by omega]; exact h2
theorem fig_pos {a : Rat} {many : Int} (h0 : 0 < a) (hm : 1 ≤ many) : 0 < fig a many := Nat.lt_of_lt_of_le (Nat.pow_pos (by decide)) (fig_bd h0 hm).1
theorem fig_len {a : Rat} {many : Int} (h0 : 0 < a) (hm : 1 ≤ many) (h40 : many ≤ 40) : (decL (fig a many)).length ≤ many.toNat + 1 := by
  have h := (fig_bd h0 hm).2
  refine decL_len_le (by omega) (Nat.lt_of_le_of_lt h ?_)
  exact Nat.pow_lt_pow_right (by decide) (by omega)
theorem cmpN_ge {n m : Nat} : cmpN n m ≥ 0 ↔ m ≤ n := by
  unfold cmpN
  split
  · omega
  · split <;> omega
theorem a_pos_sc {a : Rat} (h0 : 0 < a) (n : Int) : 0 < a * 10 ^ n := Rat.mul_pos h0 (t_pos n)

theorem limbs_succ {n k : Nat} (h : (limbs n).length ≤ k) : (limbs (n + 1)).length ≤ k + 1 := by
  refine limbs_len_le ?_
  have h1 := val_lt (limbs_lim n)
  rw [val_limbs] at h1
  have h2 : 4294967296 ^ (limbs n).length < 4294967296 ^ (k + 1) := Nat.pow_lt_pow_right (by decide) (by omega)
  omega
/-- The power of ten of the first of the rounded digits. -/
def figE (a : Rat) (many : Int) : Int := ordP a + ((decL (fig a many)).length : Int) - many
theorem rounded_ok (a : Rat) (i : Nat) (many : Int) (hi : dn i = a.den) (ha : Sz a 20) (h0 : 0 < a) (hm : 1 ≤ many) (h40 : many ≤ 40) :
    AC Tryz.prog 21 [RA a.num i, .val (.int .i64 many)] (.pure (.tup [.val (.string (strL (trimZ (decL (fig a many))))), .val (.int .i64 (figE a many))])) := by
  refine AC.of_body TTok Tryz.func21 rfl (enter_of Tryz.func21 (by kernel_rfl) (by kernel_rfl)) (noid2 (RA_noid _ _) (.val _)) (.tup _ (noid2 (.val _) (.val _))) (Nat.le_of_ble_eq_true rfl) ?_
  have hO := order_ok a i hi (ha.mono (by decide)) h0
  have bd := ord_bd ha
  have eN : IntKind.i64.wrap (IntKind.i64.wrap (many - 1) - ordP a) = many - 1 - ordP a := by rw [IntWalk.i64_in (many - 1) (by omega), IntWalk.i64_in _ (by omega)]
  have hS := scaled_ok a i (many - 1 - ordP a) hi (ha.mono (by decide)) (by omega)
  have sS : Sz (a * 10 ^ (many - 1 - ordP a)) 100 := (sc_Sz ha _).mono (by omega)
  have fl := fig_len h0 hm h40
  have hp := num_pos (a_pos_sc h0 (many - 1 - ordP a))
  have eF : IntKind.i64.wrap (IntKind.i64.wrap (ordP a + ((decS (fig a many)).size : Int)) - many) = figE a many := by
    rw [decS_len]; unfold figE
    rw [IntWalk.i64_in (ordP a + _) (by omega), IntWalk.i64_in _ (by omega)]
  have hR : AC Tryz.prog 62 [.val (.string (decS (fig a many))), .val (.string { data := #[48] })] (.pure (.val (.string (strL (trimZ (decL (fig a many))))))) := TrimRight_ok _ (Dig.byt (decL_byt _)) (decL_ne _) (by omega)
  have hfig : fig a many = rnd (a * 10 ^ (many - 1 - ordP a)) := rfl
  generalize figE a many = E at *
  generalize fig a many = F at *
  revert hS sS hp hfig
  generalize a * 10 ^ (many - 1 - ordP a) = b
  intro hS sS hp hfig
  rw [← eN] at hS
  have := sS.1
  have := sS.2
  have hT := RTop_ok b.num b.den
  have hB := RBot_ok b.num b.den
  rw [dn_den] at hB
  have hD := DivMod_ok b.num.natAbs b.den (Nat.pos_of_ne_zero b.den_nz) (by omega) (by omega)
  have lr : (limbs (b.num.natAbs % b.den)).length ≤ 100 := Nat.le_trans (limbs_len_mono (Nat.le_of_lt (Nat.mod_lt _ (Nat.pos_of_ne_zero b.den_nz)))) (by omega)
  have hSh := Shl_ok (b.num.natAbs % b.den) 1 (by decide) (by omega)
  have lq : (limbs (b.num.natAbs / b.den)).length ≤ 100 := Nat.le_trans (limbs_len_mono (Nat.div_le_self _ _)) (by omega)
  have l1 := limbs_1
  have hOne := Of_ok 1 (by decide)
  have hA := Add_ok (b.num.natAbs / b.den) 1 (by omega)
  have lsh : (limbs (b.num.natAbs % b.den * 2 ^ (1 : Int).toNat)).length ≤ 300 := by
    have := limbs_mul (b.num.natAbs % b.den) (2 ^ (1 : Int).toNat)
    have := limbs_small (n := 2 ^ (1 : Int).toNat) (by decide)
    omega
  have hC := Cmp_ok (b.num.natAbs % b.den * 2 ^ (1 : Int).toNat) b.den (by omega) (by omega)
  have e2 : b.num.natAbs % b.den * 2 ^ (1 : Int).toNat = 2 * (b.num.natAbs % b.den) := by show _ * 2 = _; rw [Nat.mul_comm]
  rw [e2] at hC hSh
  have hX1 := Text_ok (b.num.natAbs / b.den + 1) (by have := limbs_succ lq; omega)
  have hX2 := Text_ok (b.num.natAbs / b.den) (by omega)
  by_cases hc : b.den ≤ 2 * (b.num.natAbs % b.den)
  · have tc : decide (cmpN (2 * (b.num.natAbs % b.den)) b.den ≥ 0) = true := decide_eq_true (cmpN_ge.2 hc)
    have hF : F = b.num.natAbs / b.den + 1 := by rw [hfig]; unfold rnd; rw [if_pos hc]
    rw [← hF] at hX1 hA
    clear hX2
    generalize cmpN (2 * (b.num.natAbs % b.den)) b.den = cc at *
    generalize 2 * (b.num.natAbs % b.den) = rr at *
    generalize b.num.natAbs / b.den = qq at *
    generalize b.num.natAbs % b.den = r0 at *
    unfold RA WI natA at *
    conv => whnf
    refine ⟨_, hO, ?_⟩
    conv => whnf
    refine ⟨_, hS, ?_⟩
    conv => whnf
    refine ⟨_, hT, ?_⟩
    conv => whnf
    refine ⟨_, hB, ?_⟩
    conv => whnf
    refine ⟨_, hD, ?_⟩
    conv => whnf
    refine ⟨by kernel_rfl, ?_⟩
    conv => whnf
    refine ⟨_, hSh, ?_⟩
    conv => whnf
    refine ⟨_, hB, ?_⟩
    conv => whnf
    refine ⟨_, hC, ?_⟩
    conv => whnf
    refine ⟨by kernel_rfl, ?_⟩
    conv => whnf
    refine caseb (fun _ => ?_) (fun h => Bool.noConfusion ((tc).symm.trans h))
    conv => whnf
    refine ⟨_, hOne, ?_⟩
    conv => whnf
    refine ⟨_, hA, ?_⟩
    conv => whnf
    refine ⟨by kernel_rfl, ?_⟩
    conv => whnf
    refine ⟨_, hX1, ?_⟩
    conv => whnf
    refine ⟨_, hR, ?_⟩
    conv => whnf
    exact tup2 rfl (valI eF)
  · have tc : decide (cmpN (2 * (b.num.natAbs % b.den)) b.den ≥ 0) = false := decide_eq_false (fun h => hc (cmpN_ge.1 h))
    have hF : F = b.num.natAbs / b.den := by rw [hfig]; unfold rnd; rw [if_neg hc]; rfl
    rw [← hF] at hX2
    clear hX1
    rw [← hF] at hD
    generalize cmpN (2 * (b.num.natAbs % b.den)) b.den = cc at *
    generalize 2 * (b.num.natAbs % b.den) = rr at *
    generalize b.num.natAbs % b.den = r0 at *
    unfold RA WI natA at *
    conv => whnf
    refine ⟨_, hO, ?_⟩
    conv => whnf
    refine ⟨_, hS, ?_⟩
    conv => whnf
    refine ⟨_, hT, ?_⟩
    conv => whnf
    refine ⟨_, hB, ?_⟩
    conv => whnf
    refine ⟨_, hD, ?_⟩
    conv => whnf
    refine ⟨by kernel_rfl, ?_⟩
    conv => whnf
    refine ⟨_, hSh, ?_⟩
    conv => whnf
    refine ⟨_, hB, ?_⟩
    conv => whnf
    refine ⟨_, hC, ?_⟩
    conv => whnf
    refine ⟨by kernel_rfl, ?_⟩
    conv => whnf
    refine caseb (fun h => Bool.noConfusion ((tc).symm.trans h)) (fun _ => ?_)
    conv => whnf
    refine ⟨_, hX2, ?_⟩
    conv => whnf
    refine ⟨_, hR, ?_⟩
    conv => whnf
    exact tup2 rfl (valI eF)
end Go.Proofs.YthodfkfgdoolnaaGreatDoor

/- Numbers as texts: a number is written (the program's contract). -/
set_option linter.unusedVariables false
namespace Go.Proofs.YthodfkfgdoolnaaGreatDoor
open Go Go.AL NM

theorem decR_last (n : Nat) (hne : decR n ≠ []) : (decR n).getLast hne ≠ 48 := by
  induction n using Nat.strongRecOn with
  | _ n ih =>
    have h0 : 0 < n := Nat.pos_of_ne_zero (fun h => hne ((decR_nil n).2 h))
    by_cases h : decR (n / 10) = []
    · have hz := (decR_nil _).1 h
      have : (decR n).getLast hne = ((48 + n % 10 : Nat) : Int) := by
        simp only [decR_pos h0, h]; rfl
      rw [this]; omega
    · have : (decR n).getLast hne = (decR (n / 10)).getLast h := by
        simp only [decR_pos h0]; exact List.getLast_cons h
      rw [this]
      exact ih (n / 10) (by omega) h
theorem decL_head {n : Nat} (h0 : 0 < n) : (decL n).head (decL_ne n) ≠ 48 := by
  have hne : decR n ≠ [] := fun h => by have := (decR_nil n).1 h; omega
  have h : (decL n).head (decL_ne n) = (decR n).getLast hne := by
    have e : decL n = (decR n).reverse := if_neg (by omega)
    simp only [e, List.head_reverse]
  rw [h]
  exact decR_last n hne
/-- A list of digits is its trimmed one and noughts. -/
theorem trimZ_spec (l : List Int) : ∃ m, l = trimZ l ++ List.replicate m 48 := by
  refine ⟨(l.reverse.takeWhile (· == 48)).length, ?_⟩
  have h := List.takeWhile_append_dropWhile (p := (· == 48)) (l := l.reverse)
  have h2 : l.reverse.takeWhile (· == 48) = List.replicate (l.reverse.takeWhile (· == 48)).length 48 := List.eq_replicate_iff.2 ⟨rfl, fun x hx => by
    have := (List.all_eq_true.1 (List.all_takeWhile (p := (· == (48 : Int))) (l := l.reverse))) x hx
    simpa using this⟩
  have h3 := congrArg List.reverse h
  rw [List.reverse_append, List.reverse_reverse, h2, List.reverse_replicate] at h3
  exact h3.symm
theorem trimZ_ne {l : List Int} (hne : l ≠ []) (h : l.head hne ≠ 48) : trimZ l ≠ [] := by
  intro e
  obtain ⟨m, hm⟩ := trimZ_spec l
  rw [e, List.nil_append] at hm
  apply h
  have hx : l.head hne ∈ l := List.head_mem hne
  generalize l.head hne = x at *
  rw [hm] at hx
  exact (List.mem_replicate.1 hx).2
theorem trimZ_len (l : List Int) : (trimZ l).length ≤ l.length := by
  obtain ⟨m, hm⟩ := trimZ_spec l
  have := congrArg List.length hm
  rw [List.length_append] at this
  omega
theorem trimZ_mem {l : List Int} {x : Int} (h : x ∈ trimZ l) : x ∈ l := by
  obtain ⟨m, hm⟩ := trimZ_spec l
  rw [hm]; exact List.mem_append_left _ h

/-- A number's text: its sign, its digits, its power of ten. -/
def tailT (hi s : List Int) (e many : Int) : List Int :=
  if many ≤ e ∨ e < -6 then mantL s ++ [69] ++ ((if e < 0 then hi else []) ++ decL e.natAbs)
  else if e < 0 then [48, 46] ++ List.replicate (-e - 1).toNat 48 ++ s
  else if (s.length : Int) ≤ e + 1 then s ++ List.replicate (e + 1 - s.length).toNat 48
  else s.take (e + 1).toNat ++ [46] ++ s.drop (e + 1).toNat
def sgT (hi : List Int) (neg : Bool) : List Int := if neg then hi else []
def hiB : List Int := [194, 175]
def absQ (a : Rat) : Rat := if a.num < 0 then -a else a
theorem absQ_pos {a : Rat} (h : a ≠ 0) : 0 < absQ a := by
  have hn := num_ne h
  unfold absQ
  split
  · rw [Rat.lt_iff]; rename_i hh; simp [Rat.neg_num]; omega
  · rw [Rat.lt_iff]; simp; omega
theorem absQ_sz {a : Rat} {k : Nat} (h : Sz a k) : Sz (absQ a) k := by
  unfold absQ; split
  · exact Sz_neg h
  · exact h
/-- What is written of a number. -/
def showL (hi : List Int) (a : Rat) (many : Int) : List Int :=
  if a = 0 then [48] else sgT hi (decide (a.num < 0)) ++ tailT hi (trimZ (decL (fig (absQ a) (max 1 many)))) (figE (absQ a) (max 1 many)) (max 1 many)

theorem digs_is' (e : Int) : digs e (strL hiB) = strL ((if e < 0 then hiB else []) ++ decL e.natAbs) := by
  unfold digs
  split
  · show strL hiB ++ strL (decL e.natAbs) = _
    rw [strL_append]
  · rfl
theorem mantL_len (s : List Int) : (mantL s).length ≤ s.length + 1 := by
  unfold mantL
  split
  · omega
  · rw [List.length_append, List.length_append, List.length_take, List.length_drop]
    show _ + 1 + _ ≤ _
    omega
theorem sgT_len (neg : Bool) : (sgT hiB neg).length ≤ 2 := by cases neg <;> decide

theorem Show_ok (a : Rat) (i : Nat) (many : Int) (hi : dn i = a.den) (ha : Sz a 20) (h40 : many ≤ 40) : AC Tryz.prog 8 [RA a.num i, .val (.int .i64 many)] (.pure (.val (.string (strL (showL hiB a many))))) := by
  refine AC.of_sw TTok Tryz.func8 rfl (enter_of Tryz.func8 (by kernel_rfl) (by kernel_rfl)) (noid2 (RA_noid _ _) (.val _)) (.val _) (Nat.le_of_ble_eq_true rfl) ?_
  have hS := RaSign_ok a.num i
  unfold showL
  by_cases h0 : a = 0
  · rw [if_pos h0]
    have tz : (sigW a.num == 0) = true := by rw [h0]; rfl
    unfold RA at *
    refine axp_sound TTok _ _ _ ?_
    conv => whnf
    refine ⟨_, hS, ?_⟩
    conv => whnf
    refine caseb (fun _ => ?_) (fun h => Bool.noConfusion ((tz).symm.trans h))
    repeat
      conv => whnf
      first
        | refine ⟨_, by assumption, ?_⟩
        | refine ⟨(Nat.le_of_ble_eq_true rfl), _, by assumption, ?_⟩
        | refine ⟨by kernel_rfl, ?_⟩
        | exact rfl
        | exact ⟨Nat.le_of_ble_eq_true rfl, rfl⟩
        | refine ⟨by decide, ?_⟩
  rw [if_neg h0]
  have hn := num_ne h0
  have tz : (sigW a.num == 0) = false := by unfold sigW; rw [if_neg hn]; split <;> rfl
  have hM := QMinus_ok a.num i
  rw [hi] at hM
  have hp := absQ_pos h0
  have hsz := absQ_sz ha
  obtain ⟨m, hm⟩ : ∃ m, m = max 1 many := ⟨_, rfl⟩
  have hm1 : 1 ≤ m := by omega
  have hm40 : m ≤ 40 := by omega
  have eM : (if many > 1 then many else 1) = m := by rw [hm]; split <;> omega
  rw [← hm]
  obtain ⟨j, hj⟩ : ∃ j, j = if a.num < 0 then a.den else i := ⟨_, rfl⟩
  have hjd : dn j = (absQ a).den := by
    rw [hj]; unfold absQ
    split
    · rw [Rat.neg_den, dn_den]
    · exact hi
  have hR := rounded_ok (absQ a) j m hjd hsz hp hm1 hm40
  have hfl := fig_len hp hm1 hm40
  have hfp := fig_pos hp hm1
  have hbd := ord_bd hsz
  have hE : figE (absQ a) m = ordP (absQ a) + ((decL (fig (absQ a) m)).length : Int) - m := rfl
  have hne := trimZ_ne (decL_ne _) (decL_head hfp)
  have hln := trimZ_len (decL (fig (absQ a) m))
  unfold RA at hS
  refine SW.seqA TTok ?_
  conv => whnf
  refine SW.seqA TTok ?_
  conv => whnf
  refine ⟨_, hS, ?_⟩
  conv => whnf
  refine caseb (fun h => Bool.noConfusion ((tz).symm.trans h)) (fun _ => ?_)
  conv => whnf
  refine SW.seqA TTok ?_
  conv => whnf
  rw [eM]
  refine SW.seqA TTok ?_
  conv => whnf
  refine SW.cutM TTok (fun _ : Unit => [(1, .val (.int .i64 m)), (2, .lp 0 0), (5, .val (.string (strL (sgT hiB (decide (a.num < 0))))))]) (fun _ => [(0, .cells 3 [[.sl 1 (irows .u32 (limbs (absQ a).num.natAbs)) false, .val (.bool (decide ((absQ a).num < 0))), .sl 1 (irows .u32 (limbs j)) false]])]) 136 81 rfl (fun _ => True) ?_ (fun _ _ => ?_)
  · by_cases hneg : a.num < 0
    · have tl : decide (sigW a.num < 0) = true := decide_eq_true (by unfold sigW; rw [if_neg hn, if_pos hneg]; decide)
      have ea : absQ a = -a := if_pos hneg
      have ej : j = a.den := by rw [hj, if_pos hneg]
      unfold RA at hM
      rw [decide_eq_true hneg] at hM hS
      rw [ea, ej, decide_eq_true hneg, Rat.neg_num]
      conv => whnf
      refine ⟨_, hS, ?_⟩
      conv => whnf
      refine caseb (fun _ => ?_) (fun h => Bool.noConfusion ((tl).symm.trans h))
      conv => whnf
      refine ⟨_, hM, ?_⟩
      conv => whnf
      exact ⟨(), [], trivial, ⟨⟨rfl, rfl⟩, ⟨rfl, rfl⟩, ⟨rfl, rfl⟩, trivial⟩, ⟨⟨rfl, .inr ⟨rfl, rfl⟩⟩, trivial⟩, rfl⟩
    · have tl : decide (sigW a.num < 0) = false := decide_eq_false (by unfold sigW; rw [if_neg hn, if_neg hneg]; decide)
      have ea : absQ a = a := if_neg hneg
      have ej : j = i := by rw [hj, if_neg hneg]
      rw [decide_eq_false hneg] at hS
      rw [ea, ej, decide_eq_false hneg]
      conv => whnf
      refine ⟨_, hS, ?_⟩
      conv => whnf
      refine caseb (fun h => Bool.noConfusion ((tl).symm.trans h)) (fun _ => ?_)
      conv => whnf
      exact ⟨(), [], trivial, ⟨⟨rfl, rfl⟩, ⟨rfl, rfl⟩, ⟨rfl, rfl⟩, trivial⟩, ⟨⟨rfl, .inr ⟨rfl, rfl⟩⟩, trivial⟩, rfl⟩
  have z5 := strL_size (sgT hiB (decide (a.num < 0)))
  have l5 := sgT_len (decide (a.num < 0))
  generalize sgT hiB (decide (a.num < 0)) = sg at *
  have hW := From_ok (figE (absQ a) m) (by rw [hE]; omega)
  have hdl : (decL (figE (absQ a) m).natAbs).length ≤ 4 := decL_len_le (by decide) (by rw [hE]; omega)
  have hll := limbs_small (n := (figE (absQ a) m).natAbs) (by rw [hE]; omega)
  have hDg := Digits_ok (figE (absQ a) m) (strL hiB) (by decide) (by omega)
  rw [digs_is'] at hDg
  have hEb : -300 ≤ figE (absQ a) m ∧ figE (absQ a) m ≤ 300 := by rw [hE]; omega
  clear hE
  unfold RA at hR
  generalize figE (absQ a) m = e at *
  generalize trimZ (decL (fig (absQ a) m)) = s at *
  have hMn := mantissa_ok s hne (by omega)
  have z6 := strL_size s
  have lm := mantL_len s
  refine axp_sound TTok _ _ _ ?_
  have x69 : ({ data := #[69] } : ByteArray) = strL [69] := rfl
  have x46 : ({ data := #[46] } : ByteArray) = strL [46] := rfl
  have x048 : ({ data := #[48, 46] } : ByteArray) = strL [48, 46] := rfl
  have xhi : ({ data := #[194, 175] } : ByteArray) = strL hiB := rfl
  unfold tailT
  by_cases h1 : m ≤ e ∨ e < -6
  · rw [if_pos h1]
    have zm := strL_size (mantL s)
    have zd := strL_size ((if e < 0 then hiB else []) ++ decL e.natAbs)
    have zdl : ((if e < 0 then hiB else []) ++ decL e.natAbs).length ≤ 10 := by
      rw [List.length_append]; split
      · show 2 + _ ≤ _; omega
      · show 0 + _ ≤ _; omega
    generalize ((if e < 0 then hiB else []) ++ decL e.natAbs) = d at *
    have fin : strL sg ++ strL (mantL s) ++ { data := #[69] } ++ strL d = strL (sg ++ (mantL s ++ [69] ++ d)) := by
      rw [x69, strL_append, strL_append, strL_append]; simp only [List.append_assoc]
    unfold WI at *
    rw [← xhi] at hDg
    have step : (strL sg ++ strL (mantL s)).size ≤ 100 := by rw [ByteArray.size_append]; omega
    have step2 : (strL sg ++ strL (mantL s) ++ { data := #[69] }).size ≤ 101 := by rw [ByteArray.size_append]; show _ + 1 ≤ _; omega
    by_cases h2 : m ≤ e
    · conv => whnf
      refine ⟨_, hR, ?_⟩
      conv => whnf
      first
        | refine caseb (fun _ => ?_) (fun h => absurd (of_decide_eq_false h) (by omega))
        | refine caseb (fun h => absurd (of_decide_eq_true h) (by omega)) (fun _ => ?_)
        | refine caseb (fun _ => ?_) (fun h => absurd (beq_eq_false_iff_ne.1 h) (by omega))
        | refine caseb (fun h => absurd (eq_of_beq h) (by omega)) (fun _ => ?_)
      conv => whnf
      refine ⟨_, hMn, ?_⟩
      conv => whnf
      refine ⟨by omega, ?_⟩
      conv => whnf
      refine ⟨by show _ + 1 ≤ _; omega, ?_⟩
      conv => whnf
      refine ⟨_, hW, ?_⟩
      conv => whnf
      refine ⟨_, hDg, ?_⟩
      conv => whnf
      refine ⟨by omega, ?_⟩
      conv => whnf
      exact strE fin
    · conv => whnf
      refine ⟨_, hR, ?_⟩
      conv => whnf
      first
        | refine caseb (fun _ => ?_) (fun h => absurd (of_decide_eq_false h) (by omega))
        | refine caseb (fun h => absurd (of_decide_eq_true h) (by omega)) (fun _ => ?_)
        | refine caseb (fun _ => ?_) (fun h => absurd (beq_eq_false_iff_ne.1 h) (by omega))
        | refine caseb (fun h => absurd (eq_of_beq h) (by omega)) (fun _ => ?_)
      conv => whnf
      first
        | refine caseb (fun _ => ?_) (fun h => absurd (of_decide_eq_false h) (by omega))
        | refine caseb (fun h => absurd (of_decide_eq_true h) (by omega)) (fun _ => ?_)
        | refine caseb (fun _ => ?_) (fun h => absurd (beq_eq_false_iff_ne.1 h) (by omega))
        | refine caseb (fun h => absurd (eq_of_beq h) (by omega)) (fun _ => ?_)
      conv => whnf
      refine ⟨_, hMn, ?_⟩
      conv => whnf
      refine ⟨by omega, ?_⟩
      conv => whnf
      refine ⟨by show _ + 1 ≤ _; omega, ?_⟩
      conv => whnf
      refine ⟨_, hW, ?_⟩
      conv => whnf
      refine ⟨_, hDg, ?_⟩
      conv => whnf
      refine ⟨by omega, ?_⟩
      conv => whnf
      exact strE fin
  · rw [if_neg h1]
    by_cases h2 : e < 0
    · rw [if_pos h2]
      have eR : IntKind.i64.wrap (IntKind.i64.wrap (0 - e) - 1) = -e - 1 := by rw [IntWalk.i64_in (0 - e) (by omega), IntWalk.i64_in _ (by omega)]; omega
      have hRp := Repeat_ok (-e - 1) (by omega) (by omega)
      have zr := strL_size (List.replicate (-e - 1).toNat 48)
      rw [List.length_replicate] at zr
      have fin : strL sg ++ { data := #[48, 46] } ++ strL (List.replicate (-e - 1).toNat 48) ++ strL s = strL (sg ++ ([48, 46] ++ List.replicate (-e - 1).toNat 48 ++ s)) := by
        rw [x048, strL_append, strL_append, strL_append]; simp only [List.append_assoc]
      have step : (strL sg ++ { data := #[48, 46] }).size ≤ 100 := by rw [ByteArray.size_append]; show _ + 2 ≤ _; omega
      have step2 : (strL sg ++ { data := #[48, 46] } ++ strL (List.replicate (-e - 1).toNat 48)).size ≤ 110 := by rw [ByteArray.size_append]; omega
      rw [← eR] at hRp
      rw [← eR] at fin step2 zr ⊢
      conv => whnf
      refine ⟨_, hR, ?_⟩
      conv => whnf
      first
        | refine caseb (fun _ => ?_) (fun h => absurd (of_decide_eq_false h) (by omega))
        | refine caseb (fun h => absurd (of_decide_eq_true h) (by omega)) (fun _ => ?_)
        | refine caseb (fun _ => ?_) (fun h => absurd (beq_eq_false_iff_ne.1 h) (by omega))
        | refine caseb (fun h => absurd (eq_of_beq h) (by omega)) (fun _ => ?_)
      conv => whnf
      first
        | refine caseb (fun _ => ?_) (fun h => absurd (of_decide_eq_false h) (by omega))
        | refine caseb (fun h => absurd (of_decide_eq_true h) (by omega)) (fun _ => ?_)
        | refine caseb (fun _ => ?_) (fun h => absurd (beq_eq_false_iff_ne.1 h) (by omega))
        | refine caseb (fun h => absurd (eq_of_beq h) (by omega)) (fun _ => ?_)
      conv => whnf
      first
        | refine caseb (fun _ => ?_) (fun h => absurd (of_decide_eq_false h) (by omega))
        | refine caseb (fun h => absurd (of_decide_eq_true h) (by omega)) (fun _ => ?_)
        | refine caseb (fun _ => ?_) (fun h => absurd (beq_eq_false_iff_ne.1 h) (by omega))
        | refine caseb (fun h => absurd (eq_of_beq h) (by omega)) (fun _ => ?_)
      conv => whnf
      refine ⟨by show _ + 2 ≤ _; omega, ?_⟩
      conv => whnf
      refine ⟨_, hRp, ?_⟩
      conv => whnf
      refine ⟨by rw [eR] at zr ⊢; omega, ?_⟩
      conv => whnf
      refine ⟨by omega, ?_⟩
      conv => whnf
      exact strE fin
    · rw [if_neg h2]
      have e1 : IntKind.i64.wrap (e + 1) = e + 1 := by rw [IntWalk.i64_in _ (by omega)]
      by_cases h3 : (s.length : Int) ≤ e + 1
      · rw [if_pos h3]
        have eR : IntKind.i64.wrap (IntKind.i64.wrap (e + 1) - ((strL s).size : Int)) = e + 1 - s.length := by rw [z6, e1, IntWalk.i64_in _ (by omega)]
        have hRp := Repeat_ok (e + 1 - s.length) (by omega) (by omega)
        have zr := strL_size (List.replicate (e + 1 - s.length).toNat 48)
        rw [List.length_replicate] at zr
        have fin : strL sg ++ strL s ++ strL (List.replicate (e + 1 - s.length).toNat 48) = strL (sg ++ (s ++ List.replicate (e + 1 - s.length).toNat 48)) := by
          rw [strL_append, strL_append]; simp only [List.append_assoc]
        have step : (strL sg ++ strL s).size ≤ 100 := by rw [ByteArray.size_append]; omega
        rw [← eR] at hRp
        have t3 : decide (IntKind.i64.wrap (e + 1) ≥ ((strL s).size : Int)) = true := decide_eq_true (by rw [e1, z6]; exact h3)
        conv => whnf
        refine ⟨_, hR, ?_⟩
        conv => whnf
        first
          | refine caseb (fun _ => ?_) (fun h => absurd (of_decide_eq_false h) (by omega))
          | refine caseb (fun h => absurd (of_decide_eq_true h) (by omega)) (fun _ => ?_)
          | refine caseb (fun _ => ?_) (fun h => absurd (beq_eq_false_iff_ne.1 h) (by omega))
          | refine caseb (fun h => absurd (eq_of_beq h) (by omega)) (fun _ => ?_)
        conv => whnf
        first
          | refine caseb (fun _ => ?_) (fun h => absurd (of_decide_eq_false h) (by omega))
          | refine caseb (fun h => absurd (of_decide_eq_true h) (by omega)) (fun _ => ?_)
          | refine caseb (fun _ => ?_) (fun h => absurd (beq_eq_false_iff_ne.1 h) (by omega))
          | refine caseb (fun h => absurd (eq_of_beq h) (by omega)) (fun _ => ?_)
        conv => whnf
        first
          | refine caseb (fun _ => ?_) (fun h => absurd (of_decide_eq_false h) (by omega))
          | refine caseb (fun h => absurd (of_decide_eq_true h) (by omega)) (fun _ => ?_)
          | refine caseb (fun _ => ?_) (fun h => absurd (beq_eq_false_iff_ne.1 h) (by omega))
          | refine caseb (fun h => absurd (eq_of_beq h) (by omega)) (fun _ => ?_)
        conv => whnf
        refine caseb (fun _ => ?_) (fun h => Bool.noConfusion ((t3).symm.trans h))
        conv => whnf
        refine ⟨by omega, ?_⟩
        conv => whnf
        refine ⟨_, hRp, ?_⟩
        conv => whnf
        refine ⟨by rw [eR]; omega, ?_⟩
        conv => whnf
        rw [eR]
        exact strE fin
      · rw [if_neg h3]
        have t3 : decide (IntKind.i64.wrap (e + 1) ≥ ((strL s).size : Int)) = false := decide_eq_false (by rw [e1, z6]; exact h3)
        have x1 : (strL s).extract 0 (e + 1).toNat = strL (s.take (e + 1).toNat) := by rw [strL_extract, List.drop_zero]
        have x2 : (strL s).extract (e + 1).toNat (strL s).size = strL (s.drop (e + 1).toNat) := by rw [strL_extract, z6, List.take_length]
        have zt := strL_size (s.take (e + 1).toNat)
        rw [List.length_take] at zt
        have zu := strL_size (s.drop (e + 1).toNat)
        rw [List.length_drop] at zu
        have fin : strL sg ++ strL (s.take (e + 1).toNat) ++ { data := #[46] } ++ strL (s.drop (e + 1).toNat) = strL (sg ++ (s.take (e + 1).toNat ++ [46] ++ s.drop (e + 1).toNat)) := by
          rw [x46, strL_append, strL_append, strL_append]; simp only [List.append_assoc]
        have step : (strL sg ++ strL (s.take (e + 1).toNat)).size ≤ 100 := by rw [ByteArray.size_append]; omega
        have step2 : (strL sg ++ strL (s.take (e + 1).toNat) ++ { data := #[46] }).size ≤ 110 := by rw [ByteArray.size_append]; show _ + 1 ≤ _; omega
        conv => whnf
        refine ⟨_, hR, ?_⟩
        conv => whnf
        first
          | refine caseb (fun _ => ?_) (fun h => absurd (of_decide_eq_false h) (by omega))
          | refine caseb (fun h => absurd (of_decide_eq_true h) (by omega)) (fun _ => ?_)
          | refine caseb (fun _ => ?_) (fun h => absurd (beq_eq_false_iff_ne.1 h) (by omega))
          | refine caseb (fun h => absurd (eq_of_beq h) (by omega)) (fun _ => ?_)
        conv => whnf
        first
          | refine caseb (fun _ => ?_) (fun h => absurd (of_decide_eq_false h) (by omega))
          | refine caseb (fun h => absurd (of_decide_eq_true h) (by omega)) (fun _ => ?_)
          | refine caseb (fun _ => ?_) (fun h => absurd (beq_eq_false_iff_ne.1 h) (by omega))
          | refine caseb (fun h => absurd (eq_of_beq h) (by omega)) (fun _ => ?_)
        conv => whnf
        first
          | refine caseb (fun _ => ?_) (fun h => absurd (of_decide_eq_false h) (by omega))
          | refine caseb (fun h => absurd (of_decide_eq_true h) (by omega)) (fun _ => ?_)
          | refine caseb (fun _ => ?_) (fun h => absurd (beq_eq_false_iff_ne.1 h) (by omega))
          | refine caseb (fun h => absurd (eq_of_beq h) (by omega)) (fun _ => ?_)
        conv => whnf
        refine caseb (fun h => Bool.noConfusion ((t3).symm.trans h)) (fun _ => ?_)
        conv => whnf
        rw [e1]
        refine ⟨by omega, ?_⟩
        conv => whnf
        rw [x1]
        refine ⟨by omega, ?_⟩
        conv => whnf
        refine ⟨by show _ + 1 ≤ _; omega, ?_⟩
        conv => whnf
        rw [e1]
        refine ⟨by omega, ?_⟩
        conv => whnf
        rw [x2]
        refine ⟨by omega, ?_⟩
        conv => whnf
        refine ⟨by kernel_rfl, ?_⟩
        conv => whnf
        exact strE fin
end Go.Proofs.YthodfkfgdoolnaaGreatDoor
