/- Limbs that change: plain facts, no program in sight. -/
import Derived.Test.YtjpefafkejklaaaNM1
set_option linter.unusedVariables false
namespace NM

theorem val_set : ∀ (l : List Int) (k : Nat) (v : Int) (hk : k < l.length), val (l.set k v) + (l[k]).toNat * 4294967296 ^ k = val l + v.toNat * 4294967296 ^ k
  | [], k, v, hk => absurd hk (Nat.not_lt_zero _)
  | x :: l, 0, v, hk => by simp [val]; omega
  | x :: l, k + 1, v, hk => by
    have := val_set l k v (by simpa using hk)
    simp only [List.set_cons_succ, val, List.getElem_cons_succ, Nat.pow_succ]
    rw [← Nat.mul_assoc, ← Nat.mul_assoc]
    omega

theorem Lim.set {l : List Int} (h : Lim l) {k : Nat} {v : Int} (hv : 0 ≤ v ∧ v < 4294967296) : Lim (l.set k v) := by
  intro x hx
  rcases List.mem_or_eq_of_mem_set hx with hx | rfl
  · exact h x hx
  · exact hv

theorem val_take_succ {l : List Int} {k : Nat} (hk : k < l.length) : val (l.take (k + 1)) = val (l.take k) + (l[k]).toNat * 4294967296 ^ k := by
  rw [List.take_succ_eq_append_getElem hk, val_append]
  simp only [val, List.length_take, Nat.mul_zero, Nat.add_zero]
  rw [Nat.min_eq_left (by omega), Nat.mul_comm]

theorem val_rep (k : Nat) : val (List.replicate k 0) = 0 := by
  induction k with
  | zero => rfl
  | succ k ih => rw [List.replicate_succ, val, ih]; rfl

theorem Lim.rep (k : Nat) : Lim (List.replicate k 0) := by
  intro x hx
  have := List.eq_of_mem_replicate hx
  omega

/-- One step of a row of a product. -/
theorem mul_step {out : List Int} {p c t A : Nat} (hp : p < out.length) (hv : val out + c * 4294967296 ^ p = A) {z : Nat} (ht : t = z + (out[p]).toNat + c) :
    val (out.set p ((t % 4294967296 : Nat) : Int)) + t / 4294967296 * 4294967296 ^ (p + 1) = A + z * 4294967296 ^ p := by
  have hs := val_set out p ((t % 4294967296 : Nat) : Int) hp
  have hd := Nat.mod_add_div t 4294967296
  rw [Int.toNat_natCast] at hs
  generalize val (out.set p ((t % 4294967296 : Nat) : Int)) = V at *
  generalize (out[p]).toNat = o at *
  rw [Nat.pow_succ, ← Nat.mul_assoc]
  generalize 4294967296 ^ p = B at *
  have e1 : t / 4294967296 * B * 4294967296 = 4294967296 * (t / 4294967296) * B := by rw [Nat.mul_comm (t / 4294967296 * B), Nat.mul_assoc]
  have e2 : t * B = t % 4294967296 * B + 4294967296 * (t / 4294967296) * B := by rw [← Nat.add_mul, hd]
  have e3 : t * B = z * B + o * B + c * B := by rw [ht, Nat.add_mul, Nat.add_mul]
  omega

theorem len_lt {n m : Nat} (h : (limbs n).length < (limbs m).length) : n < m := by
  rcases Nat.lt_or_ge n m with h' | h'
  · exact h'
  · exact absurd (limbs_len_mono h') (by omega)

theorem cmp_lt {a b : List Int} (ha : Lim a) (hb : Lim b) {k : Nat} (hk : k < a.length) (hk' : k < b.length) (hd : a.drop (k + 1) = b.drop (k + 1)) (hlt : a[k] < b[k]) : val a < val b := by
  have e1 : val a = val (a.take k) + 4294967296 ^ k * ((a[k]).toNat + 4294967296 * val (a.drop (k + 1))) := by
    conv => lhs; rw [← List.take_append_drop k a, val_append, List.length_take, Nat.min_eq_left (by omega), List.drop_eq_getElem_cons hk]
    rfl
  have e2 : val b = val (b.take k) + 4294967296 ^ k * ((b[k]).toNat + 4294967296 * val (b.drop (k + 1))) := by
    conv => lhs; rw [← List.take_append_drop k b, val_append, List.length_take, Nat.min_eq_left (by omega), List.drop_eq_getElem_cons hk']
    rfl
  have h1 := val_lt (l := a.take k) (fun x hx => ha x (List.mem_of_mem_take hx))
  rw [List.length_take, Nat.min_eq_left (by omega)] at h1
  have hx := ha a[k] (List.getElem_mem _)
  have h2 : 4294967296 ^ k * ((a[k]).toNat + 1 + 4294967296 * val (a.drop (k + 1))) ≤ 4294967296 ^ k * ((b[k]).toNat + 4294967296 * val (b.drop (k + 1))) := by
    rw [hd]
    exact Nat.mul_le_mul_left _ (by omega)
  rw [e1, e2]
  have h3 : 4294967296 ^ k * ((a[k]).toNat + 1 + 4294967296 * val (a.drop (k + 1))) = 4294967296 ^ k * ((a[k]).toNat + 4294967296 * val (a.drop (k + 1))) + 4294967296 ^ k := by
    rw [show (a[k]).toNat + 1 + 4294967296 * val (a.drop (k + 1)) = (a[k]).toNat + 4294967296 * val (a.drop (k + 1)) + 1 by omega, Nat.mul_add, Nat.mul_one]
  omega

end NM
