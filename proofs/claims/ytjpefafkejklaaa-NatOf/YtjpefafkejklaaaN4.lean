/- Contracts of the document's answer: trimmed digits, written digits. -/
import Derived.Test.YtjpefafkejklaaaN3
set_option linter.unusedVariables false
namespace Go.Proofs.Ytjpefafkejklaaa
open Go Go.AL NM

theorem valL_zero (l : List Int) : valL (48 :: l) = valL l := by rw [valL_cons]; simp

theorem Trim_ok (l : List Int) (hd : Dig l) (hne : l ≠ []) (hb : l.length < 4294967296) : AC Try.prog 39 [.val (.string (strL l))] (.pure (.val (.string (decS (valL l))))) := by
  refine AC.of_body TTok Try.func39 rfl (enter_of Try.func39 (by kernel_rfl) (by kernel_rfl)) (noid1 (.val _)) (.val _) (Nat.le_of_ble_eq_true rfl) ?_
  conv => whnf
  refine SW.loopM TTok (fun x : List Int => [(0, .val (.string (strL x)))]) (fun x => []) 8 14 rfl List.length (fun x => Dig x ∧ x ≠ [] ∧ valL x = valL l ∧ x.length < 4294967296) l [] ⟨hd, hne, rfl, hb⟩ ⟨⟨rfl, rfl⟩, trivial⟩ trivial rfl ?_
  rintro x ⟨hx, hxne, hv, hxb⟩
  have hsz := strL_size x
  have hdone : x.length = 1 ∨ x.head hxne ≠ 48 → strL x = decS (valL l) := fun h => by
    unfold decS
    rw [← hv, decL_valL hx hxne h]
  have hby : byteAt (strL x) 0 = x.head hxne := byteAt_strL (Dig.byt hx) (Int.le_refl 0) (by
    show x[0]? = _
    rw [List.head_eq_getElem]
    exact List.getElem?_eq_getElem _)
  conv => whnf
  refine caseb (fun h1 => ?_) (fun h1 => ?_)
  · have h1' : ((strL x).size : Int) > 1 := of_decide_eq_true h1
    rw [hsz] at h1'
    conv => whnf
    refine ⟨⟨Int.le_refl 0, by rw [hsz]; omega⟩, ?_⟩
    conv => whnf
    refine caseb (fun h2 => ?_) (fun h2 => ?_)
    · have h2' : byteAt (strL x) 0 = 48 := of_decide_eq_true h2
      rw [hby] at h2'
      conv => whnf
      refine ⟨⟨by decide, by rw [hsz]; omega⟩, ?_⟩
      conv => whnf
      have hx1 : x = 48 :: x.tail := by rw [← h2']; exact (List.cons_head_tail hxne).symm
      have hlen : x.tail.length = x.length - 1 := by simp
      refine ⟨x.tail, [], (by show x.tail.length < x.length; omega), ⟨fun y hy => hx y (List.mem_of_mem_tail hy), ?_, ?_, by omega⟩, ⟨⟨strE ?_, rfl⟩, trivial⟩, trivial, rfl⟩
      · intro e; rw [e] at hlen; simp at hlen; omega
      · rw [← hv]; conv => rhs; rw [hx1, valL_zero]
      · rw [strL_extract, hsz, List.take_of_length_le (Nat.le_refl _)]
        show strL (x.drop 1) = _
        rw [List.drop_one]
    · have h2' : ¬ byteAt (strL x) 0 = 48 := of_decide_eq_false h2
      rw [hby] at h2'
      conv => whnf
      exact strE (hdone (.inr h2'))
  · have h1' : ¬ ((strL x).size : Int) > 1 := of_decide_eq_false h1
    rw [hsz] at h1'
    have := List.length_pos_iff.2 hxne
    conv => whnf
    exact strE (hdone (.inl (by omega)))

/-- Digits as characters. -/
def chr (l : List Int) : List Int := l.map (48 + ·)
def Dg (l : List Int) : Prop := ∀ x ∈ l, 0 ≤ x ∧ x ≤ 9
theorem chr_dig {l : List Int} (h : Dg l) : Dig (chr l) := by
  intro x hx
  obtain ⟨y, hy, rfl⟩ := List.mem_map.1 hx
  have := h y hy
  omega
theorem chr_len (l : List Int) : (chr l).length = l.length := by simp [chr]
/-- The value of digits, the least one first. -/
def valD : List Int → Nat
  | [] => 0
  | x :: l => x.toNat + 10 * valD l
theorem valR_chr (l : List Int) : valR (chr l) = valD l := by
  induction l with
  | nil => rfl
  | cons x l ih =>
    show (48 + x - 48).toNat + 10 * valR (chr l) = _
    rw [ih, valD]
    congr 2
    omega
theorem chr_rev_drop {l : List Int} {k : Nat} (h0 : 0 < k) (hk : k ≤ l.length) : chr (l.drop (k - 1)).reverse = chr (l.drop k).reverse ++ [48 + l[k - 1]'(by omega)] := by
  rw [drop_pred h0 hk, List.reverse_cons]
  simp [chr]

theorem written_ok (l : List Int) (hd : Dg l) (hb : l.length < 4000000000) : AC Try.prog 66 [.sl 1 (irows .i64 l) false] (.pure (.val (.string (decS (valD l))))) := by
  refine AC.of_body TTok Try.func66 rfl (enter_of Try.func66 (by kernel_rfl) (by kernel_rfl)) (noid1 (noid_sl _ _ _)) (.val _) (Nat.le_of_ble_eq_true rfl) ?_
  have e1 : IntKind.i64.wrap (((irows .i64 l).length : Int) + 1) = ((l.length + 1 : Nat) : Int) := by rw [irows_len, IntWalk.i64_in _ (by omega)]; omega
  conv => whnf
  refine ⟨⟨by decide, by rw [e1]; omega, ?_⟩, ?_⟩
  · rw [e1]; show ((l.length + 1 : Nat) : Int) * 1 ≤ _; omega
  conv => whnf
  refine SW.loopM TTok (fun k : Nat => [(0, .sl 1 (irows .i64 l) false), (3, .own 32 0 (l.length - k)), (4, .val (.int .i64 ((k : Int) - 1)))])
    (fun k => [(32, .cells 1 (irows .u8 (chr (l.drop k).reverse)))]) 80 31 rfl id
    (fun k => k ≤ l.length) l.length [] (Nat.le_refl _) ⟨⟨rfl, rfl⟩, ⟨ownE rfl ?_, rfl⟩, ⟨valI ?_, rfl⟩, trivial⟩
    ⟨⟨rfl, .inl ⟨celE ?_, irows_noid _ _⟩⟩, trivial⟩ rfl ?_
  · show 0 = l.length - l.length
    omega
  · rw [irows_len, IntWalk.i64_in _ (by omega)]
  · rw [List.drop_length]; rfl
  intro k hk
  have hk : k ≤ l.length := hk
  have hcl : (irows .u8 (chr (l.drop k).reverse)).length = l.length - k := by rw [irows_len, chr_len]; simp
  conv => whnf
  refine caseb (fun h1 => ?_) (fun h1 => ?_)
  · have h1' : (k : Int) - 1 ≥ 0 := of_decide_eq_true h1
    have hx := hd (l[k - 1]'(by omega)) (List.getElem_mem _)
    conv => whnf
    refine ⟨[.val (.int .i64 (l[k - 1]'(by omega)))], ⟨h1', ?_⟩, ?_⟩
    · rw [show ((k : Int) - 1).toNat = k - 1 by omega]
      exact irows_get _ _ (List.getElem?_eq_getElem (by omega))
    conv => whnf
    refine ⟨⟨by rw [hcl]; omega, by show ((l.length - k) + 1) * 1 ≤ 140737488355328; omega, Nat.le_of_ble_eq_true rfl⟩, ?_⟩
    conv => whnf
    refine ⟨k - 1, [(32, 160)], (by show k - 1 < k; omega), (by show k - 1 ≤ l.length; omega), ⟨⟨rfl, rfl⟩, ⟨ownE rfl ?_, rfl⟩, ⟨valI ?_, rfl⟩, trivial⟩,
      ⟨⟨rfl, .inl ⟨celE ?_, irows_noid _ _⟩⟩, trivial⟩, rfl⟩
    · show l.length - k + 1 = l.length - (k - 1)
      omega
    · rw [IntWalk.i64_in _ (by omega)]; omega
    · show List.take (l.length - k) (List.drop 0 (irows .u8 (chr (l.drop k).reverse))) ++ [[AV.val (.int .u8 (IntKind.u8.wrap (IntKind.i64.wrap (48 + l[k - 1]'(by omega)))))]] = _
      have e : IntKind.u8.wrap (IntKind.i64.wrap (48 + l[k - 1]'(by omega))) = 48 + l[k - 1]'(by omega) := by
        rw [IntWalk.i64_in _ (by omega), IntKind.wrap_u8]; omega
      rw [e, List.drop_zero, List.take_of_length_le (by rw [hcl]; exact Nat.le_refl _), chr_rev_drop (by omega) hk, ← irows_append]
      rfl
  · have h1' : ¬ (k : Int) - 1 ≥ 0 := of_decide_eq_false h1
    have hk0 : k = 0 := by omega
    subst hk0
    conv => whnf
    refine caseb (fun h2 => ?_) (fun h2 => ?_)
    · have h2' : ((l.length - 0 : Nat) : Int) = 0 := of_decide_eq_true h2
      have hl : l = [] := List.eq_nil_of_length_eq_zero (by omega)
      subst hl
      conv => whnf
      exact rfl
    · have h2' : ¬ ((l.length - 0 : Nat) : Int) = 0 := of_decide_eq_false h2
      have hrev : chr (l.drop 0).reverse = (chr l).reverse := by simp [chr]
      have hne : (chr l).reverse ≠ [] := by
        intro e
        have := congrArg List.length e
        simp [chr] at this
        rw [this] at h2'
        exact h2' rfl
      conv => whnf
      refine ⟨(chr l).reverse, ⟨?_, ?_⟩, ?_⟩
      · rw [hcl]; omega
      · rw [List.drop_zero, List.take_of_length_le (by rw [hcl]; exact Nat.le_refl _), hrev]
      have ht := Trim_ok (chr l).reverse (fun x hx => chr_dig hd x (by simpa using hx)) hne (by rw [List.length_reverse, chr_len]; omega)
      have hv : valL (chr l).reverse = valD l := by unfold valL; rw [List.reverse_reverse, valR_chr]
      rw [hv] at ht
      conv => whnf
      refine ⟨_, ht, ?_⟩
      conv => whnf
      exact rfl

theorem valD_snoc (l : List Int) (x : Nat) : valD (l ++ [(x : Int)]) = valD l + 10 ^ l.length * x := by
  induction l with
  | nil => simp [valD]
  | cons y l ih =>
    simp only [List.cons_append, valD, ih, List.length_cons, Nat.pow_succ]
    rw [Nat.mul_add, Nat.mul_comm (10 ^ l.length) 10, Nat.mul_assoc]
    omega

theorem ROf_ok (n : Nat) (hn : n < 18446744073709551616) : AC Try.prog 36 [.val (.int .u64 n)] (.pure (.val (.string (decS n)))) := by
  refine AC.of_body TTok Try.func36 rfl (enter_of Try.func36 (by kernel_rfl) (by kernel_rfl)) (noid1 (.val _)) (.val _) (Nat.le_of_ble_eq_true rfl) ?_
  conv => whnf
  refine caseb (fun h1 => ?_) (fun h1 => ?_)
  · have h1' : (n : Int) = 0 := of_decide_eq_true h1
    have h0 : n = 0 := by omega
    subst h0
    conv => whnf
    exact rfl
  · have h1' : ¬ (n : Int) = 0 := of_decide_eq_false h1
    conv => whnf
    refine SW.nil 3 1 rfl ?_
    refine SW.loopM TTok (fun x : Nat × Nat × List Int => [(0, .val (.int .u64 x.2.1)), (3, .own 40 0 x.2.2.length), (4, .val (.int .i64 x.1))])
      (fun x => [(40, .cells 1 (irows .i64 x.2.2))]) 48 25 rfl (fun x => 20 - x.1)
      (fun x => x.1 ≤ 20 ∧ x.2.1 < 10 ^ (20 - x.1) ∧ Dg x.2.2 ∧ x.2.2.length = x.1 ∧ valD x.2.2 + 10 ^ x.1 * x.2.1 = n) (0, n, []) [] ⟨Nat.zero_le _, Nat.lt_of_lt_of_le hn (by show 18446744073709551616 ≤ 10 ^ 20; exact Nat.le_of_ble_eq_true rfl), (fun x hx => (nomatch hx)), rfl, by simp [valD]⟩
      ⟨⟨rfl, rfl⟩, ⟨rfl, rfl⟩, ⟨rfl, rfl⟩, trivial⟩ ⟨⟨rfl, .inr ⟨rfl, rfl⟩⟩, trivial⟩ rfl ?_
    rintro ⟨i, m, out⟩ ⟨hi, hm, hD, hl, hv⟩
    have hi : i ≤ 20 := hi
    have hm : m < 10 ^ (20 - i) := hm
    have hD : Dg out := hD
    have hl : out.length = i := hl
    have hv : valD out + 10 ^ i * m = n := hv
    have hmn : m ≤ n := by
      have : m ≤ 10 ^ i * m := Nat.le_mul_of_pos_left _ (Nat.pow_pos (by decide))
      omega
    have fin : m = 0 → ∃ r, AC Try.prog 66 [.sl 1 ((irows .i64 out).take out.length) false] (.pure r) ∧ r = .val (.string (decS n)) := fun h0 => by
      refine ⟨_, ?_, rfl⟩
      have := written_ok out hD (by omega)
      rw [show valD out = n by rw [← hv, h0]; simp] at this
      rw [List.take_of_length_le (by rw [irows_len]; exact Nat.le_refl _)]
      exact this
    have hle : 0 + out.length ≤ (irows .i64 out).length := by rw [irows_len]; omega
    conv => whnf
    refine caseb (fun h2 => ?_) (fun h2 => ?_)
    · have h2' : (i : Int) < 20 := of_decide_eq_true h2
      conv => whnf
      refine caseb (fun h3 => ?_) (fun h3 => ?_)
      · have h3' : (m : Int) > 0 := of_decide_eq_true h3
        conv => whnf
        refine ⟨by decide, ?_⟩
        conv => whnf
        refine ⟨⟨hle, by show (out.length + 1) * 8 ≤ 140737488355328; omega, Nat.le_of_ble_eq_true rfl⟩, ?_⟩
        conv => whnf
        refine ⟨by decide, ?_⟩
        conv => whnf
        have e : IntKind.i64.wrap ((m : Int).tmod 10) = ((m % 10 : Nat) : Int) := by
          rw [Int.tmod_eq_emod_of_nonneg (Int.natCast_nonneg _), IntWalk.i64_in _ (by omega)]; omega
        refine ⟨(i + 1, m / 10, out ++ [((m % 10 : Nat) : Int)]), [(40, 136)], (by show 20 - (i + 1) < 20 - i; omega), ⟨(by show i + 1 ≤ 20; omega), ?_, ?_, ?_, ?_⟩,
          ⟨⟨valI ?_, rfl⟩, ⟨ownE rfl ?_, rfl⟩, ⟨valI ?_, rfl⟩, trivial⟩, ⟨⟨rfl, .inl ⟨celE ?_, irows_noid _ _⟩⟩, trivial⟩, rfl⟩
        · show m / 10 < 10 ^ (20 - (i + 1))
          rw [show 20 - i = 20 - (i + 1) + 1 by omega, Nat.pow_succ] at hm
          exact Nat.div_lt_of_lt_mul (by rw [Nat.mul_comm]; exact hm)
        · intro x hx
          rcases List.mem_append.1 hx with hx | hx
          · exact hD x hx
          · simp at hx; omega
        · show (out ++ [((m % 10 : Nat) : Int)]).length = i + 1
          simp [hl]
        · show valD (out ++ [((m % 10 : Nat) : Int)]) + 10 ^ (i + 1) * (m / 10) = n
          rw [valD_snoc, hl, ← hv, Nat.pow_succ, Nat.mul_assoc, Nat.add_assoc, ← Nat.mul_add]
          congr 2
          omega
        · show IntKind.u64.wrap ((m : Int).tdiv 10) = ((m / 10 : Nat) : Int)
          rw [Int.tdiv_eq_ediv_of_nonneg (Int.natCast_nonneg _), IntKind.wrap_u64]
          omega
        · show out.length + 1 = (out ++ [((m % 10 : Nat) : Int)]).length
          simp
        · show IntKind.i64.wrap ((i : Int) + 1) = ((i + 1 : Nat) : Int)
          rw [IntWalk.i64_in _ (by omega)]; omega
        · show List.take out.length (List.drop 0 (irows .i64 out)) ++ [[AV.val (.int .i64 (IntKind.i64.wrap ((m : Int).tmod 10)))]] = _
          rw [e, List.drop_zero, List.take_of_length_le (by rw [irows_len]; exact Nat.le_refl _), ← irows_append]
          rfl
      · have h3' : ¬ (m : Int) > 0 := of_decide_eq_false h3
        obtain ⟨r, hr, rfl⟩ := fin (by omega)
        conv => whnf
        refine ⟨hle, _, hr, ?_⟩
        conv => whnf
        exact rfl
    · have h2' : ¬ (i : Int) < 20 := of_decide_eq_false h2
      have hi20 : i = 20 := by omega
      obtain ⟨r, hr, rfl⟩ := fin (by rw [hi20] at hm; simpa using hm)
      conv => whnf
      refine ⟨hle, _, hr, ?_⟩
      conv => whnf
      exact rfl

end Go.Proofs.Ytjpefafkejklaaa
