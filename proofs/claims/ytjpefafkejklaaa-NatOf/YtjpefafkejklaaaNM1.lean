/- Natural numbers as limbs of 32 bits: plain facts on lists, no program in sight. -/
set_option linter.unusedVariables false
namespace NM

def val : List Int → Nat
  | [] => 0
  | x :: l => x.toNat + 4294967296 * val l

/-- All limbs are limbs. -/
def Lim (l : List Int) : Prop := ∀ x ∈ l, 0 ≤ x ∧ x < 4294967296

def limbs (n : Nat) : List Int :=
  if h : n = 0 then [] else ((n % 4294967296 : Nat) : Int) :: limbs (n / 4294967296)
termination_by n
decreasing_by omega

theorem limbs_zero : limbs 0 = [] := by rw [limbs]; simp
theorem limbs_pos {n : Nat} (h : 0 < n) : limbs n = ((n % 4294967296 : Nat) : Int) :: limbs (n / 4294967296) := by
  rw [limbs, dif_neg (by omega)]

theorem limbs_lim (n : Nat) : Lim (limbs n) := by
  induction n using Nat.strongRecOn with
  | _ n ih =>
    by_cases h : n = 0
    · subst h; rw [limbs_zero]; intro x hx; cases hx
    · rw [limbs_pos (by omega)]
      intro x hx
      rcases List.mem_cons.1 hx with rfl | hx
      · omega
      · exact ih _ (by omega) x hx

theorem val_limbs (n : Nat) : val (limbs n) = n := by
  induction n using Nat.strongRecOn with
  | _ n ih =>
    by_cases h : n = 0
    · subst h; rw [limbs_zero]; rfl
    · rw [limbs_pos (by omega), val, ih _ (by omega)]
      omega

theorem Lim.cons {x : Int} {l : List Int} (h : Lim (x :: l)) : (0 ≤ x ∧ x < 4294967296) ∧ Lim l := ⟨h x (by simp), fun y hy => h y (by simp [hy])⟩

theorem val_append (a b : List Int) : val (a ++ b) = val a + 4294967296 ^ a.length * val b := by
  induction a with
  | nil => simp [val]
  | cons x a ih =>
    simp only [List.cons_append, val, ih, List.length_cons, Nat.pow_succ, Nat.mul_add]
    rw [Nat.mul_comm (4294967296 ^ a.length) 4294967296, Nat.mul_assoc]
    omega

theorem val_pos {l : List Int} (h : Lim l) (hne : l ≠ []) (hl : l.getLast hne ≠ 0) : 0 < val l := by
  induction l with
  | nil => exact absurd rfl hne
  | cons x l ih =>
    obtain ⟨hx, hl'⟩ := h.cons
    by_cases e : l = []
    · subst e
      simp at hl
      simp only [val]
      omega
    · have := ih hl' e (by rwa [List.getLast_cons e] at hl)
      simp only [val]
      omega

theorem limbs_val {l : List Int} (h : Lim l) (hn : ∀ hne : l ≠ [], l.getLast hne ≠ 0) : limbs (val l) = l := by
  induction l with
  | nil => exact limbs_zero
  | cons x l ih =>
    obtain ⟨hx, hl'⟩ := h.cons
    have hp := val_pos h (by simp) (hn (by simp))
    rw [limbs_pos hp]
    have ih' := ih hl' (fun e => by have := hn (by simp); rwa [List.getLast_cons e] at this)
    have h1 : val (x :: l) % 4294967296 = x.toNat := by simp only [val]; omega
    have h2 : val (x :: l) / 4294967296 = val l := by simp only [val]; omega
    rw [h1, h2, ih']
    congr 1
    omega

theorem val_lt {l : List Int} (h : Lim l) : val l < 4294967296 ^ l.length := by
  induction l with
  | nil => simp [val]
  | cons x l ih =>
    obtain ⟨hx, hl'⟩ := h.cons
    have := ih hl'
    simp only [val, List.length_cons, Nat.pow_succ]
    omega

theorem val_dropLast {l : List Int} (hne : l ≠ []) (hz : l.getLast hne = 0) : val l.dropLast = val l := by
  have := List.dropLast_concat_getLast hne
  conv => rhs; rw [← this]
  rw [val_append, hz]
  simp [val]

theorem limbs_len_le {n k : Nat} (h : n < 4294967296 ^ k) : (limbs n).length ≤ k := by
  induction k generalizing n with
  | zero => simp at h; subst h; rw [limbs_zero]; simp
  | succ k ih =>
    by_cases h0 : n = 0
    · subst h0; rw [limbs_zero]; simp
    · rw [limbs_pos (by omega)]
      simp only [List.length_cons]
      have := ih (n := n / 4294967296) (by rw [Nat.pow_succ] at h; omega)
      omega

theorem limbs_last (n : Nat) (hne : limbs n ≠ []) : (limbs n).getLast hne ≠ 0 := by
  induction n using Nat.strongRecOn with
  | _ n ih =>
    by_cases h : n = 0
    · subst h; exact absurd limbs_zero hne
    · have e := limbs_pos (show 0 < n by omega)
      by_cases h2 : n / 4294967296 = 0
      · have e2 : limbs n = [((n % 4294967296 : Nat) : Int)] := by rw [e, h2, limbs_zero]
        simp only [e2, List.getLast_singleton]
        omega
      · have hne2 : limbs (n / 4294967296) ≠ [] := by rw [limbs_pos (by omega)]; simp
        have := ih _ (by omega) hne2
        simp only [e, List.getLast_cons hne2]
        exact this

theorem limbs_nil (n : Nat) : limbs n = [] ↔ n = 0 := by
  constructor
  · intro h
    have := val_limbs n
    rw [h] at this
    exact this.symm
  · rintro rfl; exact limbs_zero

theorem limbs_cases (n : Nat) : (limbs n = [] ∧ n = 0) ∨ ∃ (x : Int) (l : List Int), limbs n = x :: l ∧ n = x.toNat + 4294967296 * val l ∧ 0 ≤ x ∧ x < 4294967296 ∧ Lim l := by
  cases h : limbs n with
  | nil => exact .inl ⟨rfl, (limbs_nil n).1 h⟩
  | cons x l =>
    have hv := val_limbs n
    have hx := limbs_lim n
    rw [h] at hv hx
    simp only [val] at hv
    exact .inr ⟨x, l, rfl, hv.symm, (hx.cons).1.1, (hx.cons).1.2, hx.cons.2⟩

/-- Division by one limb, the greatest limb first. -/
def sdiv (d : Nat) : List Int → List Int × Nat
  | [] => ([], 0)
  | x :: l => (((((sdiv d l).2 * 4294967296 + x.toNat) / d : Nat) : Int) :: (sdiv d l).1, ((sdiv d l).2 * 4294967296 + x.toNat) % d)

theorem sdiv_len (d : Nat) : ∀ l : List Int, (sdiv d l).1.length = l.length
  | [] => rfl
  | x :: l => by simp [sdiv, sdiv_len d l]

theorem sdiv_val (d : Nat) (hd : 0 < d) : ∀ (l : List Int), Lim l → val (sdiv d l).1 = val l / d ∧ (sdiv d l).2 = val l % d ∧ Lim (sdiv d l).1
  | [], _ => ⟨by simp [sdiv, val], by simp [sdiv, val], by intro x hx; cases hx⟩
  | x :: l, h => by
    obtain ⟨hx, hl⟩ := h.cons
    obtain ⟨h1, h2, h3⟩ := sdiv_val d hd l hl
    have hr : (sdiv d l).2 < d := by rw [h2]; exact Nat.mod_lt _ hd
    have e : (sdiv d l).2 * 4294967296 + x.toNat + 4294967296 * (val l / d) * d = val l * 4294967296 + x.toNat := by
      have := Nat.mod_add_div (val l) d
      rw [h2]
      have h4 : 4294967296 * (val l / d) * d = 4294967296 * (d * (val l / d)) := by rw [Nat.mul_assoc, Nat.mul_comm (val l / d) d]
      omega
    have hv : val (x :: l) = (sdiv d l).2 * 4294967296 + x.toNat + 4294967296 * (val l / d) * d := by simp only [val]; omega
    refine ⟨?_, ?_, ?_⟩
    · rw [hv, Nat.add_mul_div_right _ _ hd]
      simp only [sdiv, val, h1, Int.toNat_natCast]
    · rw [hv, Nat.add_mul_mod_self_right]
      simp only [sdiv]
    · intro y hy
      simp only [sdiv, List.mem_cons] at hy
      rcases hy with rfl | hy
      · refine ⟨Int.natCast_nonneg _, ?_⟩
        have : ((sdiv d l).2 * 4294967296 + x.toNat) / d < 4294967296 := by
          clear h1 h2 hv e
          rw [Nat.div_lt_iff_lt_mul hd]
          have h5 : ((sdiv d l).2 + 1) * 4294967296 ≤ d * 4294967296 := Nat.mul_le_mul_right _ hr
          rw [Nat.mul_comm d] at h5
          omega
        exact Int.ofNat_lt.2 this
      · exact h3 y hy

theorem quo_lt {r x d : Nat} (hr : r < d) (hx : x < 4294967296) : (r * 4294967296 + x) / d < 4294967296 := by
  rw [Nat.div_lt_iff_lt_mul (by omega)]
  have h5 : (r + 1) * 4294967296 ≤ d * 4294967296 := Nat.mul_le_mul_right _ hr
  rw [Nat.mul_comm d] at h5
  omega
theorem drop_pred {l : List Int} {k : Nat} (h0 : 0 < k) (hk : k ≤ l.length) : l.drop (k - 1) = l[k - 1]'(by omega) :: l.drop k := by
  have := List.drop_eq_getElem_cons (l := l) (i := k - 1) (by omega)
  rwa [show k - 1 + 1 = k by omega] at this
theorem rep_set {k : Nat} (h0 : 0 < k) (z v : Int) (q : List Int) : (List.replicate k z ++ q).set (k - 1) v = List.replicate (k - 1) z ++ v :: q := by
  obtain ⟨j, rfl⟩ : ∃ j, k = j + 1 := ⟨k - 1, by omega⟩
  rw [Nat.add_sub_cancel, List.replicate_succ', List.append_assoc, List.set_append_right _ _ (by simp)]
  simp

theorem limbs_len_mono {a b : Nat} (h : a ≤ b) : (limbs a).length ≤ (limbs b).length := by
  refine limbs_len_le (Nat.lt_of_le_of_lt h ?_)
  have := val_lt (limbs_lim b)
  rwa [val_limbs] at this

end NM
