/- Decimal digits: plain facts, no program in sight. -/
set_option linter.unusedVariables false
namespace NM

/-- The digits as characters, the least one first. -/
def decR (n : Nat) : List Int :=
  if h : n = 0 then [] else ((48 + n % 10 : Nat) : Int) :: decR (n / 10)
termination_by n
decreasing_by omega

theorem decR_zero : decR 0 = [] := by rw [decR]; simp
theorem decR_pos {n : Nat} (h : 0 < n) : decR n = ((48 + n % 10 : Nat) : Int) :: decR (n / 10) := by
  rw [decR, dif_neg (by omega)]

/-- The digits as characters. -/
def decL (n : Nat) : List Int := if n = 0 then [48] else (decR n).reverse

theorem decR_byt (n : Nat) : ∀ x ∈ decR n, 48 ≤ x ∧ x < 58 := by
  induction n using Nat.strongRecOn with
  | _ n ih =>
    by_cases h : n = 0
    · subst h; rw [decR_zero]; intro x hx; cases hx
    · rw [decR_pos (by omega)]
      intro x hx
      rcases List.mem_cons.1 hx with rfl | hx
      · omega
      · exact ih _ (by omega) x hx

theorem decR_nil (n : Nat) : decR n = [] ↔ n = 0 := by
  constructor
  · intro h
    by_cases h0 : n = 0
    · exact h0
    · rw [decR_pos (by omega)] at h; cases h
  · rintro rfl; exact decR_zero

theorem decL_byt (n : Nat) : ∀ x ∈ decL n, 48 ≤ x ∧ x < 58 := by
  intro x hx
  unfold decL at hx
  split at hx
  · simp at hx; omega
  · exact decR_byt n x (by simpa using hx)

/-- The value of digits, the least one first. -/
def valR : List Int → Nat
  | [] => 0
  | x :: l => (x - 48).toNat + 10 * valR l

theorem valR_decR (n : Nat) : valR (decR n) = n := by
  induction n using Nat.strongRecOn with
  | _ n ih =>
    by_cases h : n = 0
    · subst h; rw [decR_zero]; rfl
    · rw [decR_pos (by omega), valR, ih _ (by omega)]
      omega

def Dig (l : List Int) : Prop := ∀ x ∈ l, 48 ≤ x ∧ x < 58

theorem Dig.cons {x : Int} {l : List Int} (h : Dig (x :: l)) : (48 ≤ x ∧ x < 58) ∧ Dig l := ⟨h x (by simp), fun y hy => h y (by simp [hy])⟩

theorem valR_pos {l : List Int} (h : Dig l) (hne : l ≠ []) (hl : l.getLast hne ≠ 48) : 0 < valR l := by
  induction l with
  | nil => exact absurd rfl hne
  | cons x l ih =>
    obtain ⟨hx, hl'⟩ := h.cons
    by_cases e : l = []
    · subst e
      simp at hl
      simp only [valR]
      omega
    · have := ih hl' e (by rwa [List.getLast_cons e] at hl)
      simp only [valR]
      omega

/-- Digits without noughts at the end are the digits of their value. -/
theorem decR_valR {l : List Int} (h : Dig l) (hn : ∀ hne : l ≠ [], l.getLast hne ≠ 48) : decR (valR l) = l := by
  induction l with
  | nil => exact decR_zero
  | cons x l ih =>
    obtain ⟨hx, hl'⟩ := h.cons
    have hp := valR_pos h (by simp) (hn (by simp))
    rw [decR_pos hp]
    have ih' := ih hl' (fun e => by have := hn (by simp); rwa [List.getLast_cons e] at this)
    have h1 : valR (x :: l) % 10 = (x - 48).toNat := by simp only [valR]; omega
    have h2 : valR (x :: l) / 10 = valR l := by simp only [valR]; omega
    rw [h1, h2, ih']
    congr 1
    omega

theorem valR_append (a b : List Int) : valR (a ++ b) = valR a + 10 ^ a.length * valR b := by
  induction a with
  | nil => simp [valR]
  | cons x a ih =>
    simp only [List.cons_append, valR, ih, List.length_cons, Nat.pow_succ, Nat.mul_add]
    rw [Nat.mul_comm (10 ^ a.length) 10, Nat.mul_assoc]
    omega

/-- The value of digits, the greatest one first. -/
def valL (l : List Int) : Nat := valR l.reverse

theorem valL_decL (n : Nat) : valL (decL n) = n := by
  unfold valL decL
  split
  · rename_i h; subst h; rfl
  · rw [List.reverse_reverse, valR_decR]

theorem valL_cons (x : Int) (l : List Int) : valL (x :: l) = (x - 48).toNat * 10 ^ l.length + valL l := by
  unfold valL
  rw [List.reverse_cons, valR_append]
  simp only [valR, List.length_reverse, Nat.mul_zero, Nat.add_zero]
  rw [Nat.mul_comm]
  omega
theorem valL_snoc (x : Int) (l : List Int) : valL (l ++ [x]) = 10 * valL l + (x - 48).toNat := by
  unfold valL
  rw [List.reverse_append]
  simp [valR]
  omega
theorem valL_append (a b : List Int) : valL (a ++ b) = valL a * 10 ^ b.length + valL b := by
  unfold valL
  rw [List.reverse_append, valR_append, List.length_reverse, Nat.mul_comm]
  omega

/-- Digits without noughts ahead, or just one digit, are those of their value. -/
theorem decL_valL {l : List Int} (h : Dig l) (hne : l ≠ []) (hn : l.length = 1 ∨ l.head hne ≠ 48) : decL (valL l) = l := by
  by_cases h48 : l.head hne = 48
  · rcases hn with hn | hn
    · match l, hn with
      | [x], _ =>
        simp at h48
        subst h48
        rfl
    · exact absurd h48 hn
  · have hr : Dig l.reverse := fun x hx => h x (by simpa using hx)
    have hner : l.reverse ≠ [] := by simpa using hne
    have hlast : l.reverse.getLast hner ≠ 48 := by rw [List.getLast_reverse]; exact h48
    have hp : 0 < valL l := valR_pos hr hner hlast
    unfold decL
    rw [if_neg (by omega)]
    unfold valL
    rw [decR_valR hr (fun _ => hlast), List.reverse_reverse]

theorem decL_ne (n : Nat) : decL n ≠ [] := by
  unfold decL
  split
  · simp
  · rename_i h
    rw [decR_pos (by omega)]
    simp

theorem decR_len {n k : Nat} (h : n < 10 ^ k) : (decR n).length ≤ k := by
  induction k generalizing n with
  | zero => simp at h; subst h; rw [decR_zero]; simp
  | succ k ih =>
    by_cases h0 : n = 0
    · subst h0; rw [decR_zero]; simp
    · rw [decR_pos (by omega)]
      simp only [List.length_cons]
      have := ih (n := n / 10) (by rw [Nat.pow_succ] at h; omega)
      omega

/-- One digit off a number whose lowest k digits are r. -/
theorem decR_step {k r q : Nat} (h : 0 < r ∨ 0 < q) : decR (r + 10 ^ (k + 1) * q) = ((48 + r % 10 : Nat) : Int) :: decR (r / 10 + 10 ^ k * q) := by
  have hp : 0 < r + 10 ^ (k + 1) * q := by
    rcases h with h | h
    · omega
    · have : 0 < 10 ^ (k + 1) * q := Nat.mul_pos (Nat.pow_pos (by decide)) h
      omega
  rw [decR_pos hp]
  have e : r + 10 ^ (k + 1) * q = r + 10 * (10 ^ k * q) := by rw [Nat.pow_succ, Nat.mul_comm (10 ^ k) 10, Nat.mul_assoc]
  rw [e, Nat.add_mul_mod_self_left, Nat.add_mul_div_left _ _ (by decide)]

/-- A list whose first i and last i ones have changed their places. -/
def swp (l : List Int) (i : Nat) : List Int := (List.range l.length).map fun k => if k < i ∨ l.length ≤ k + i then l.getD (l.length - 1 - k) 0 else l.getD k 0

theorem swp_len (l : List Int) (i : Nat) : (swp l i).length = l.length := by simp [swp]
theorem swp_zero (l : List Int) : swp l 0 = l := by
  apply List.ext_getElem (by simp [swp])
  intro k h1 h2
  simp only [swp, List.getElem_map, List.getElem_range]
  rw [if_neg (by omega)]
  simp [List.getD, List.getElem?_eq_getElem h2]
theorem swp_done (l : List Int) (i : Nat) (h : l.length ≤ 2 * i + 1) : swp l i = l.reverse := by
  apply List.ext_getElem (by simp [swp])
  intro k h1 h2
  simp only [swp, List.getElem_map, List.getElem_range, List.getElem_reverse]
  simp at h2
  split
  · simp [List.getD, List.getElem?_eq_getElem (show l.length - 1 - k < l.length by omega)]
  · have : l.length - 1 - k = k := by omega
    simp [List.getD, List.getElem?_eq_getElem h2, this]
theorem swp_get {l : List Int} {i k : Nat} (hk : k < l.length) (h : ¬ (k < i ∨ l.length ≤ k + i)) : (swp l i)[k]? = l[k]? := by
  simp only [swp, List.getElem?_map, List.getElem?_range hk, Option.map_some]
  rw [if_neg h]
  simp [List.getD, List.getElem?_eq_getElem hk]
theorem swp_step {l : List Int} {i : Nat} (h : 2 * i + 1 < l.length) : ((swp l i).set i (l.getD (l.length - 1 - i) 0)).set (l.length - 1 - i) (l.getD i 0) = swp l (i + 1) := by
  apply List.ext_getElem (by simp [swp])
  intro k h1 h2
  simp [swp] at h2
  rw [List.getElem_set]
  split
  · rename_i e
    simp only [swp, List.getElem_map, List.getElem_range]
    rw [if_pos (by omega), show l.length - 1 - k = i by omega]
  · rw [List.getElem_set]
    split
    · rename_i e
      subst e
      simp only [swp, List.getElem_map, List.getElem_range]
      rw [if_pos (by omega)]
    · simp only [swp, List.getElem_map, List.getElem_range]
      by_cases hc : k < i ∨ l.length ≤ k + i
      · rw [if_pos hc, if_pos (by omega)]
      · rw [if_neg hc, if_neg (by omega)]

end NM
