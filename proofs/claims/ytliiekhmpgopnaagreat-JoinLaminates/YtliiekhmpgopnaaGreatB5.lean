/- Arrays: two made of one kind (contracts). -/
import Derived.Test.YtliiekhmpgopnaaGreatB4
set_option linter.unusedVariables false
namespace Go.Proofs.YtliiekhmpgopnaaGreat
open Go Go.AL NM

/-- The kind of two arrays, if they can be of one kind. -/
def alikeC (ca cb : Bool) (la lb : Nat) : Option Bool := if ca = cb then some ca else if lb = 0 then some ca else if la = 0 then some cb else none
theorem pick_none (c : Bool) (s : List Int) (hv : vS s) (hc : cntI s = 0) : AC Tryz.prog 72 [AA [0] c [] [] true, .sl 1 (irows .i64 s) false, .sl 0 [] true] (.pure (.tup [AA s c [] [] true, .val (.bool true)])) := by
  have h : AC Tryz.prog 72 [AA [0] c [] [] true, .sl 1 (irows .i64 s) false, .sl 1 (irows .i64 []) false] (.pure (.tup [AA s c [] [] true, .val (.bool true)])) := by
    cases c
    · exact PickN_ok [0] [] [] s [] hv hc (by decide)
    · exact PickT_ok [0] [] [] s [] hv hc (by decide)
  exact AC.le_args h rfl (fun i x y hx hy => by
    rcases i with _ | _ | _ | i
    · simp at hx hy; subst hx; subst hy; exact .refl _
    · simp at hx hy; subst hx; subst hy; exact .refl _
    · simp at hx hy; subst hx; subst hy; exact le_nil 1
    · simp at hx) (noid3 (AA_noid _ _ _ _ _) (noid_sl _ _ _) (.sl _ _ _ (fun r hr => nomatch hr)))
section
variable (sa sb : List Int) (ta tb : List Int) (na nb : List (Option (Rat × Nat)))
theorem alike_same (c : Bool) : AC Tryz.prog 32 [AA sa c ta na true, AA sb c tb nb true] (.pure (.tup [AA sa c ta na true, AA sb c tb nb true, .val (.bool true)])) := by
  have h1 := IsChar_ok sa c ta na true
  have h2 := IsChar_ok sb c tb nb true
  refine AC.of_body TTok Tryz.func32 rfl (enter_of Tryz.func32 (by kernel_rfl) (by kernel_rfl)) (noid2 (AA_noid _ _ _ _ _) (AA_noid _ _ _ _ _)) (.tup _ (noid3 (AA_noid _ _ _ _ _) (AA_noid _ _ _ _ _) (.val _))) (Nat.le_of_ble_eq_true rfl) ?_
  unfold AA at *
  cases c
  · repeat
      conv => whnf
      first
        | refine ⟨_, by assumption, ?_⟩
        | refine ⟨(Nat.le_of_ble_eq_true rfl), _, by assumption, ?_⟩
        | refine ⟨by kernel_rfl, ?_⟩
        | exact rfl
        | exact ⟨Nat.le_of_ble_eq_true rfl, rfl⟩
        | refine ⟨by decide, ?_⟩
  · repeat
      conv => whnf
      first
        | refine ⟨_, by assumption, ?_⟩
        | refine ⟨(Nat.le_of_ble_eq_true rfl), _, by assumption, ?_⟩
        | refine ⟨by kernel_rfl, ?_⟩
        | exact rfl
        | exact ⟨Nat.le_of_ble_eq_true rfl, rfl⟩
        | refine ⟨by decide, ?_⟩
theorem alike_b (ca cb : Bool) (hne : ca ≠ cb) (hv : vS sb) (hc : cntI sb = 0) : AC Tryz.prog 32 [AA sa ca ta na true, AA sb cb [] [] true] (.pure (.tup [AA sa ca ta na true, AA sb ca [] [] true, .val (.bool true)])) := by
  have h1 := IsChar_ok sa ca ta na true
  have h2 := IsChar_ok sb cb [] [] true
  have h3 := ALen_ok sb cb [] [] true (by decide) (by decide)
  have h4 := None_ok ca
  have h5 := Shape_ok sb cb [] [] (by have := hv.1; omega)
  have h6 := pick_none ca sb hv hc
  refine AC.of_body TTok Tryz.func32 rfl (enter_of Tryz.func32 (by kernel_rfl) (by kernel_rfl)) (noid2 (AA_noid _ _ _ _ _) (AA_noid _ _ _ _ _)) (.tup _ (noid3 (AA_noid _ _ _ _ _) (AA_noid _ _ _ _ _) (.val _))) (Nat.le_of_ble_eq_true rfl) ?_
  unfold AA at *
  cases ca
  · cases cb
    · exact absurd rfl hne
    · repeat
        conv => whnf
        first
          | refine ⟨_, by assumption, ?_⟩
          | refine ⟨(Nat.le_of_ble_eq_true rfl), _, by assumption, ?_⟩
          | refine ⟨by kernel_rfl, ?_⟩
          | exact rfl
          | exact ⟨Nat.le_of_ble_eq_true rfl, rfl⟩
          | refine ⟨by decide, ?_⟩
  · cases cb
    · repeat
        conv => whnf
        first
          | refine ⟨_, by assumption, ?_⟩
          | refine ⟨(Nat.le_of_ble_eq_true rfl), _, by assumption, ?_⟩
          | refine ⟨by kernel_rfl, ?_⟩
          | exact rfl
          | exact ⟨Nat.le_of_ble_eq_true rfl, rfl⟩
          | refine ⟨by decide, ?_⟩
    · exact absurd rfl hne
theorem alike_a (ca cb : Bool) (hne : ca ≠ cb) (hv : vS sa) (hc : cntI sa = 0) (hb : 0 < tb.length + nb.length) (h7 : tb.length ≤ 100000) (h8 : nb.length ≤ 100000) : AC Tryz.prog 32 [AA sa ca [] [] true, AA sb cb tb nb true] (.pure (.tup [AA sa cb [] [] true, AA sb cb tb nb true, .val (.bool true)])) := by
  have h1 := IsChar_ok sa ca [] [] true
  have h2 := IsChar_ok sb cb tb nb true
  have h3 := ALen_ok sb cb tb nb true (by omega) (by omega)
  have h3' := ALen_ok sa ca [] [] true (by decide) (by decide)
  have h4 := None_ok cb
  have h5 := Shape_ok sa ca [] [] (by have := hv.1; omega)
  have h6 := pick_none cb sa hv hc
  refine AC.of_body TTok Tryz.func32 rfl (enter_of Tryz.func32 (by kernel_rfl) (by kernel_rfl)) (noid2 (AA_noid _ _ _ _ _) (AA_noid _ _ _ _ _)) (.tup _ (noid3 (AA_noid _ _ _ _ _) (AA_noid _ _ _ _ _) (.val _))) (Nat.le_of_ble_eq_true rfl) ?_
  unfold AA at *
  cases ca
  · cases cb
    · exact absurd rfl hne
    · repeat
        conv => whnf
        first
          | refine ⟨_, by assumption, ?_⟩
          | refine ⟨(Nat.le_of_ble_eq_true rfl), _, by assumption, ?_⟩
          | refine ⟨by kernel_rfl, ?_⟩
          | exact rfl
          | exact ⟨Nat.le_of_ble_eq_true rfl, rfl⟩
          | refine ⟨by decide, ?_⟩
          | refine caseb (fun _ => ?_) (fun h => absurd (of_decide_eq_false h) (by omega))
          | refine caseb (fun h => absurd (of_decide_eq_true h) (by omega)) (fun _ => ?_)
          | refine caseb (fun _ => ?_) (fun h => absurd (beq_eq_false_iff_ne.1 h) (by omega))
          | refine caseb (fun h => absurd (eq_of_beq h) (by omega)) (fun _ => ?_)
          | refine caseb (fun h => absurd (bne_iff_ne.1 h) (by omega)) (fun _ => ?_)
          | refine caseb (fun _ => ?_) (fun h => absurd (bne_eq_false_iff_eq.1 h) (by omega))
  · cases cb
    · repeat
        conv => whnf
        first
          | refine ⟨_, by assumption, ?_⟩
          | refine ⟨(Nat.le_of_ble_eq_true rfl), _, by assumption, ?_⟩
          | refine ⟨by kernel_rfl, ?_⟩
          | exact rfl
          | exact ⟨Nat.le_of_ble_eq_true rfl, rfl⟩
          | refine ⟨by decide, ?_⟩
          | refine caseb (fun _ => ?_) (fun h => absurd (of_decide_eq_false h) (by omega))
          | refine caseb (fun h => absurd (of_decide_eq_true h) (by omega)) (fun _ => ?_)
          | refine caseb (fun _ => ?_) (fun h => absurd (beq_eq_false_iff_ne.1 h) (by omega))
          | refine caseb (fun h => absurd (eq_of_beq h) (by omega)) (fun _ => ?_)
          | refine caseb (fun h => absurd (bne_iff_ne.1 h) (by omega)) (fun _ => ?_)
          | refine caseb (fun _ => ?_) (fun h => absurd (bne_eq_false_iff_eq.1 h) (by omega))
    · exact absurd rfl hne
theorem alike_not (ca cb : Bool) (hne : ca ≠ cb) (ha : 0 < ta.length + na.length) (hb : 0 < tb.length + nb.length) (h5 : ta.length ≤ 100000) (h6 : na.length ≤ 100000) (h7 : tb.length ≤ 100000) (h8 : nb.length ≤ 100000) :
    AC Tryz.prog 32 [AA sa ca ta na true, AA sb cb tb nb true] (.pure (.tup [AA sa ca ta na true, AA sb cb tb nb true, .val (.bool false)])) := by
  have h1 := IsChar_ok sa ca ta na true
  have h2 := IsChar_ok sb cb tb nb true
  have h3 := ALen_ok sb cb tb nb true (by omega) (by omega)
  have h4 := ALen_ok sa ca ta na true (by omega) (by omega)
  refine AC.of_body TTok Tryz.func32 rfl (enter_of Tryz.func32 (by kernel_rfl) (by kernel_rfl)) (noid2 (AA_noid _ _ _ _ _) (AA_noid _ _ _ _ _)) (.tup _ (noid3 (AA_noid _ _ _ _ _) (AA_noid _ _ _ _ _) (.val _))) (Nat.le_of_ble_eq_true rfl) ?_
  unfold AA at *
  cases ca
  · cases cb
    · exact absurd rfl hne
    · repeat
        conv => whnf
        first
          | refine ⟨_, by assumption, ?_⟩
          | refine ⟨(Nat.le_of_ble_eq_true rfl), _, by assumption, ?_⟩
          | refine ⟨by kernel_rfl, ?_⟩
          | exact rfl
          | exact ⟨Nat.le_of_ble_eq_true rfl, rfl⟩
          | refine ⟨by decide, ?_⟩
          | refine caseb (fun _ => ?_) (fun h => absurd (of_decide_eq_false h) (by omega))
          | refine caseb (fun h => absurd (of_decide_eq_true h) (by omega)) (fun _ => ?_)
          | refine caseb (fun _ => ?_) (fun h => absurd (beq_eq_false_iff_ne.1 h) (by omega))
          | refine caseb (fun h => absurd (eq_of_beq h) (by omega)) (fun _ => ?_)
          | refine caseb (fun h => absurd (bne_iff_ne.1 h) (by omega)) (fun _ => ?_)
          | refine caseb (fun _ => ?_) (fun h => absurd (bne_eq_false_iff_eq.1 h) (by omega))
  · cases cb
    · repeat
        conv => whnf
        first
          | refine ⟨_, by assumption, ?_⟩
          | refine ⟨(Nat.le_of_ble_eq_true rfl), _, by assumption, ?_⟩
          | refine ⟨by kernel_rfl, ?_⟩
          | exact rfl
          | exact ⟨Nat.le_of_ble_eq_true rfl, rfl⟩
          | refine ⟨by decide, ?_⟩
          | refine caseb (fun _ => ?_) (fun h => absurd (of_decide_eq_false h) (by omega))
          | refine caseb (fun h => absurd (of_decide_eq_true h) (by omega)) (fun _ => ?_)
          | refine caseb (fun _ => ?_) (fun h => absurd (beq_eq_false_iff_ne.1 h) (by omega))
          | refine caseb (fun h => absurd (eq_of_beq h) (by omega)) (fun _ => ?_)
          | refine caseb (fun h => absurd (bne_iff_ne.1 h) (by omega)) (fun _ => ?_)
          | refine caseb (fun _ => ?_) (fun h => absurd (bne_eq_false_iff_eq.1 h) (by omega))
    · exact absurd rfl hne
theorem kinds_zero {s : List Int} {c : Bool} {a b : Nat} (h : kinds s c a b) (h0 : a + b = 0) : cntI s = 0 := by
  have := (kinds_len h).1
  omega
/-- What comes of two arrays' kinds (the program). -/
theorem alike_ok (ca cb : Bool) (va : vS sa) (vb : vS sb) (ka : kinds sa ca ta.length na.length) (kb : kinds sb cb tb.length nb.length) (h5 : ta.length ≤ 100000) (h6 : na.length ≤ 100000) (h7 : tb.length ≤ 100000) (h8 : nb.length ≤ 100000) :
    (∀ c, alikeC ca cb (ta.length + na.length) (tb.length + nb.length) = some c → AC Tryz.prog 32 [AA sa ca ta na true, AA sb cb tb nb true] (.pure (.tup [AA sa c ta na true, AA sb c tb nb true, .val (.bool true)]))) ∧
    (alikeC ca cb (ta.length + na.length) (tb.length + nb.length) = none → AC Tryz.prog 32 [AA sa ca ta na true, AA sb cb tb nb true] (.pure (.tup [AA sa ca ta na true, AA sb cb tb nb true, .val (.bool false)]))) := by
  unfold alikeC
  by_cases h1 : ca = cb
  · subst h1
    rw [if_pos rfl]
    exact ⟨fun c hc => by injection hc with hc; subst hc; exact alike_same sa sb ta tb na nb _, fun h => nomatch h⟩
  · rw [if_neg h1]
    by_cases h2 : tb.length + nb.length = 0
    · rw [if_pos h2]
      have e1 : tb = [] := List.length_eq_zero_iff.1 (by omega)
      have e2 : nb = [] := List.length_eq_zero_iff.1 (by omega)
      have hc0 := kinds_zero kb h2
      subst e1 e2
      exact ⟨fun c hc => by injection hc with hc; subst hc; exact alike_b sa sb ta na _ _ h1 vb hc0, fun h => nomatch h⟩
    · rw [if_neg h2]
      by_cases h3 : ta.length + na.length = 0
      · rw [if_pos h3]
        have e1 : ta = [] := List.length_eq_zero_iff.1 (by omega)
        have e2 : na = [] := List.length_eq_zero_iff.1 (by omega)
        have hc0 := kinds_zero ka h3
        subst e1 e2
        exact ⟨fun c hc => by injection hc with hc; subst hc; exact alike_a sa sb tb nb _ _ h1 va hc0 (by omega) h7 h8, fun h => nomatch h⟩
      · rw [if_neg h3]
        exact ⟨fun c hc => (nomatch hc), fun _ => alike_not sa sb ta tb na nb _ _ h1 (by omega) (by omega) h5 h6 h7 h8⟩
end
section
variable (sa sb : List Int) (ta tb : List Int) (qa qb : List Rat)
theorem PAt_noid (a b : AV) (z : Bool) (h1 : NoId a) (h2 : NoId b) : NoId (.tup [a, b, .val (.bool z)]) := .tup _ (noid3 h1 h2 (.val _))
theorem Rkinds_ok (ca cb : Bool) (ka : kinds sa ca ta.length qa.length) (kb : kinds sb cb tb.length qb.length) (h5 : ta.length ≤ 100000) (h6 : qa.length ≤ 100000) (h7 : tb.length ≤ 100000) (h8 : qb.length ≤ 100000) :
    (∀ c, alikeC ca cb (ta.length + qa.length) (tb.length + qb.length) = some c → AC Tryz.prog 37 [PA sa ca ta qa, PA sb cb tb qb] (.pure (.tup [PA sa c ta qa, PA sb c tb qb, .val (.bool true)]))) ∧
    (alikeC ca cb (ta.length + qa.length) (tb.length + qb.length) = none → AC Tryz.prog 37 [PA sa ca ta qa, PA sb cb tb qb] (.pure (.tup [PA sa ca ta qa, PA sb cb tb qb, .val (.bool false)]))) := by
  have nd := noid2 (PA_noid sa ca ta qa) (PA_noid sb cb tb qb)
  unfold alikeC
  by_cases h1 : ca = cb
  · subst h1
    rw [if_pos rfl]
    refine ⟨fun c hc => ?_, fun h => nomatch h⟩
    injection hc with hc
    subst hc
    refine AC.of_body TTok Tryz.func37 rfl (enter_of Tryz.func37 (by kernel_rfl) (by kernel_rfl)) nd (PAt_noid _ _ _ (PA_noid _ _ _ _) (PA_noid _ _ _ _)) (Nat.le_of_ble_eq_true rfl) ?_
    unfold PA
    cases ca
    · repeat
        conv => whnf
        first
          | refine ⟨_, by assumption, ?_⟩
          | refine ⟨(Nat.le_of_ble_eq_true rfl), _, by assumption, ?_⟩
          | refine ⟨by kernel_rfl, ?_⟩
          | exact rfl
          | exact ⟨Nat.le_of_ble_eq_true rfl, rfl⟩
          | refine ⟨by decide, ?_⟩
    · repeat
        conv => whnf
        first
          | refine ⟨_, by assumption, ?_⟩
          | refine ⟨(Nat.le_of_ble_eq_true rfl), _, by assumption, ?_⟩
          | refine ⟨by kernel_rfl, ?_⟩
          | exact rfl
          | exact ⟨Nat.le_of_ble_eq_true rfl, rfl⟩
          | refine ⟨by decide, ?_⟩
  · rw [if_neg h1]
    have hLb := RLen_ok sb cb tb qb (by omega) (by omega)
    have hLa := RLen_ok sa ca ta qa (by omega) (by omega)
    by_cases h2 : tb.length + qb.length = 0
    · rw [if_pos h2]
      have e1 : tb = [] := List.length_eq_zero_iff.1 (by omega)
      have e2 : qb = [] := List.length_eq_zero_iff.1 (by omega)
      subst e1 e2
      refine ⟨fun c hc => ?_, fun h => nomatch h⟩
      injection hc with hc
      subst hc
      refine AC.le_res (?_ : AC Tryz.prog 37 _ (.pure (.tup [PA sa ca ta qa, .agg [.sl 1 (irows .i64 sb) false, .val (.bool ca), .sl 0 [] true, .sl 0 [] true], .val (.bool true)]))) (.tup3 (.refl _) (le_agg4 (.refl _) (.refl _) (le_nil 1) (le_nil 3)) (.refl _)) (PAt_noid _ _ _ (PA_noid _ _ _ _) (PA_noid _ _ _ _))
      refine AC.of_body TTok Tryz.func37 rfl (enter_of Tryz.func37 (by kernel_rfl) (by kernel_rfl)) nd (PAt_noid _ _ _ (PA_noid _ _ _ _) (.agg _ (noidF (noid_sl _ _ _) (.val _) (.sl _ _ _ (fun r hr => nomatch hr)) (.sl _ _ _ (fun r hr => nomatch hr))))) (Nat.le_of_ble_eq_true rfl) ?_
      unfold PA at *
      cases ca
      · cases cb
        · exact absurd rfl h1
        · repeat
            conv => whnf
            first
              | refine ⟨_, by assumption, ?_⟩
              | refine ⟨(Nat.le_of_ble_eq_true rfl), _, by assumption, ?_⟩
              | refine ⟨by kernel_rfl, ?_⟩
              | exact rfl
              | exact ⟨Nat.le_of_ble_eq_true rfl, rfl⟩
              | refine ⟨by decide, ?_⟩
              | refine caseb (fun _ => ?_) (fun h => absurd (of_decide_eq_false h) (by omega))
              | refine caseb (fun h => absurd (of_decide_eq_true h) (by omega)) (fun _ => ?_)
              | refine caseb (fun _ => ?_) (fun h => absurd (beq_eq_false_iff_ne.1 h) (by omega))
              | refine caseb (fun h => absurd (eq_of_beq h) (by omega)) (fun _ => ?_)
              | refine caseb (fun h => absurd (bne_iff_ne.1 h) (by omega)) (fun _ => ?_)
              | refine caseb (fun _ => ?_) (fun h => absurd (bne_eq_false_iff_eq.1 h) (by omega))
      · cases cb
        · repeat
            conv => whnf
            first
              | refine ⟨_, by assumption, ?_⟩
              | refine ⟨(Nat.le_of_ble_eq_true rfl), _, by assumption, ?_⟩
              | refine ⟨by kernel_rfl, ?_⟩
              | exact rfl
              | exact ⟨Nat.le_of_ble_eq_true rfl, rfl⟩
              | refine ⟨by decide, ?_⟩
              | refine caseb (fun _ => ?_) (fun h => absurd (of_decide_eq_false h) (by omega))
              | refine caseb (fun h => absurd (of_decide_eq_true h) (by omega)) (fun _ => ?_)
              | refine caseb (fun _ => ?_) (fun h => absurd (beq_eq_false_iff_ne.1 h) (by omega))
              | refine caseb (fun h => absurd (eq_of_beq h) (by omega)) (fun _ => ?_)
              | refine caseb (fun h => absurd (bne_iff_ne.1 h) (by omega)) (fun _ => ?_)
              | refine caseb (fun _ => ?_) (fun h => absurd (bne_eq_false_iff_eq.1 h) (by omega))
        · exact absurd rfl h1
    · rw [if_neg h2]
      by_cases h3 : ta.length + qa.length = 0
      · rw [if_pos h3]
        have e1 : ta = [] := List.length_eq_zero_iff.1 (by omega)
        have e2 : qa = [] := List.length_eq_zero_iff.1 (by omega)
        subst e1 e2
        refine ⟨fun c hc => ?_, fun h => nomatch h⟩
        injection hc with hc
        subst hc
        refine AC.le_res (?_ : AC Tryz.prog 37 _ (.pure (.tup [.agg [.sl 1 (irows .i64 sa) false, .val (.bool cb), .sl 0 [] true, .sl 0 [] true], PA sb cb tb qb, .val (.bool true)]))) (.tup3 (le_agg4 (.refl _) (.refl _) (le_nil 1) (le_nil 3)) (.refl _) (.refl _)) (PAt_noid _ _ _ (PA_noid _ _ _ _) (PA_noid _ _ _ _))
        refine AC.of_body TTok Tryz.func37 rfl (enter_of Tryz.func37 (by kernel_rfl) (by kernel_rfl)) nd (PAt_noid _ _ _ (.agg _ (noidF (noid_sl _ _ _) (.val _) (.sl _ _ _ (fun r hr => nomatch hr)) (.sl _ _ _ (fun r hr => nomatch hr)))) (PA_noid _ _ _ _)) (Nat.le_of_ble_eq_true rfl) ?_
        unfold PA at *
        cases ca
        · cases cb
          · exact absurd rfl h1
          · repeat
              conv => whnf
              first
                | refine ⟨_, by assumption, ?_⟩
                | refine ⟨(Nat.le_of_ble_eq_true rfl), _, by assumption, ?_⟩
                | refine ⟨by kernel_rfl, ?_⟩
                | exact rfl
                | exact ⟨Nat.le_of_ble_eq_true rfl, rfl⟩
                | refine ⟨by decide, ?_⟩
                | refine caseb (fun _ => ?_) (fun h => absurd (of_decide_eq_false h) (by omega))
                | refine caseb (fun h => absurd (of_decide_eq_true h) (by omega)) (fun _ => ?_)
                | refine caseb (fun _ => ?_) (fun h => absurd (beq_eq_false_iff_ne.1 h) (by omega))
                | refine caseb (fun h => absurd (eq_of_beq h) (by omega)) (fun _ => ?_)
                | refine caseb (fun h => absurd (bne_iff_ne.1 h) (by omega)) (fun _ => ?_)
                | refine caseb (fun _ => ?_) (fun h => absurd (bne_eq_false_iff_eq.1 h) (by omega))
        · cases cb
          · repeat
              conv => whnf
              first
                | refine ⟨_, by assumption, ?_⟩
                | refine ⟨(Nat.le_of_ble_eq_true rfl), _, by assumption, ?_⟩
                | refine ⟨by kernel_rfl, ?_⟩
                | exact rfl
                | exact ⟨Nat.le_of_ble_eq_true rfl, rfl⟩
                | refine ⟨by decide, ?_⟩
                | refine caseb (fun _ => ?_) (fun h => absurd (of_decide_eq_false h) (by omega))
                | refine caseb (fun h => absurd (of_decide_eq_true h) (by omega)) (fun _ => ?_)
                | refine caseb (fun _ => ?_) (fun h => absurd (beq_eq_false_iff_ne.1 h) (by omega))
                | refine caseb (fun h => absurd (eq_of_beq h) (by omega)) (fun _ => ?_)
                | refine caseb (fun h => absurd (bne_iff_ne.1 h) (by omega)) (fun _ => ?_)
                | refine caseb (fun _ => ?_) (fun h => absurd (bne_eq_false_iff_eq.1 h) (by omega))
          · exact absurd rfl h1
      · rw [if_neg h3]
        refine ⟨fun c hc => (nomatch hc), fun _ => ?_⟩
        refine AC.of_body TTok Tryz.func37 rfl (enter_of Tryz.func37 (by kernel_rfl) (by kernel_rfl)) nd (PAt_noid _ _ _ (PA_noid _ _ _ _) (PA_noid _ _ _ _)) (Nat.le_of_ble_eq_true rfl) ?_
        unfold PA at *
        cases ca
        · cases cb
          · exact absurd rfl h1
          · repeat
              conv => whnf
              first
                | refine ⟨_, by assumption, ?_⟩
                | refine ⟨(Nat.le_of_ble_eq_true rfl), _, by assumption, ?_⟩
                | refine ⟨by kernel_rfl, ?_⟩
                | exact rfl
                | exact ⟨Nat.le_of_ble_eq_true rfl, rfl⟩
                | refine ⟨by decide, ?_⟩
                | refine caseb (fun _ => ?_) (fun h => absurd (of_decide_eq_false h) (by omega))
                | refine caseb (fun h => absurd (of_decide_eq_true h) (by omega)) (fun _ => ?_)
                | refine caseb (fun _ => ?_) (fun h => absurd (beq_eq_false_iff_ne.1 h) (by omega))
                | refine caseb (fun h => absurd (eq_of_beq h) (by omega)) (fun _ => ?_)
                | refine caseb (fun h => absurd (bne_iff_ne.1 h) (by omega)) (fun _ => ?_)
                | refine caseb (fun _ => ?_) (fun h => absurd (bne_eq_false_iff_eq.1 h) (by omega))
        · cases cb
          · repeat
              conv => whnf
              first
                | refine ⟨_, by assumption, ?_⟩
                | refine ⟨(Nat.le_of_ble_eq_true rfl), _, by assumption, ?_⟩
                | refine ⟨by kernel_rfl, ?_⟩
                | exact rfl
                | exact ⟨Nat.le_of_ble_eq_true rfl, rfl⟩
                | refine ⟨by decide, ?_⟩
                | refine caseb (fun _ => ?_) (fun h => absurd (of_decide_eq_false h) (by omega))
                | refine caseb (fun h => absurd (of_decide_eq_true h) (by omega)) (fun _ => ?_)
                | refine caseb (fun _ => ?_) (fun h => absurd (beq_eq_false_iff_ne.1 h) (by omega))
                | refine caseb (fun h => absurd (eq_of_beq h) (by omega)) (fun _ => ?_)
                | refine caseb (fun h => absurd (bne_iff_ne.1 h) (by omega)) (fun _ => ?_)
                | refine caseb (fun _ => ?_) (fun h => absurd (bne_eq_false_iff_eq.1 h) (by omega))
          · exact absurd rfl h1
/-- The elements of two arrays (the document). -/
theorem Rboth_ok (c : Bool) (h5 : ta.length ≤ 100000) (h6 : qa.length ≤ 100000) (h7 : tb.length ≤ 100000) (h8 : qb.length ≤ 100000) : AC Tryz.prog 84 [PA sa c ta qa, PA sb c tb qb] (.pure (PA [] c (ta ++ tb) (qa ++ qb))) := by
  have l1 := irows_len .i32 ta
  have l2 := irows_len .i32 tb
  have l3 : (qa.map rowN).length = qa.length := List.length_map _
  have l4 : (qb.map rowN).length = qb.length := List.length_map _
  refine AC.le_res (?_ : AC Tryz.prog 84 _ (.pure (.agg [.sl 0 [] true, .val (.bool c), .sl 1 (irows .i32 (ta ++ tb)) false, .sl 3 ((qa ++ qb).map rowN) false]))) (le_agg4 (le_nil 1) (.refl _) (.refl _) (.refl _)) (PA_noid _ _ _ _)
  refine AC.of_body TTok Tryz.func84 rfl (enter_of Tryz.func84 (by kernel_rfl) (by kernel_rfl)) (noid2 (PA_noid _ _ _ _) (PA_noid _ _ _ _)) (.agg _ (noidF (.sl _ _ _ (fun r hr => nomatch hr)) (.val _) (noid_sl _ _ _) (slN_noid _))) (Nat.le_of_ble_eq_true rfl) ?_
  unfold PA
  conv => whnf
  refine ⟨⟨Nat.le_refl _, by show (0 + (irows .i32 ta).length) * 4 ≤ 140737488355328; omega⟩, ?_⟩
  conv => whnf
  refine ⟨⟨by show 0 + (0 + (irows .i32 ta).length) ≤ (List.take 0 (List.drop 0 ([] : List (List AV))) ++ irows .i32 ta).length; simp, by show (0 + (irows .i32 ta).length + (irows .i32 tb).length) * 4 ≤ 140737488355328; omega⟩, ?_⟩
  conv => whnf
  refine ⟨⟨Nat.le_refl _, by show (0 + (qa.map rowN).length) * 40 ≤ 140737488355328; omega⟩, ?_⟩
  conv => whnf
  refine ⟨⟨by show 0 + (0 + (qa.map rowN).length) ≤ (List.take 0 (List.drop 0 ([] : List (List AV))) ++ qa.map rowN).length; simp, by show (0 + (qa.map rowN).length + (qb.map rowN).length) * 40 ≤ 140737488355328; omega⟩, ?_⟩
  conv => whnf
  refine ⟨by kernel_rfl, ?_⟩
  conv => whnf
  refine ⟨⟨by show 0 + (0 + (irows .i32 ta).length + (irows .i32 tb).length) ≤ (List.take (0 + (irows .i32 ta).length) (List.drop 0 (List.take 0 (List.drop 0 ([] : List (List AV))) ++ irows .i32 ta)) ++ irows .i32 tb).length; simp, by show 0 + (0 + (qa.map rowN).length + (qb.map rowN).length) ≤ (List.take (0 + (qa.map rowN).length) (List.drop 0 (List.take 0 (List.drop 0 ([] : List (List AV))) ++ qa.map rowN)) ++ qb.map rowN).length; simp⟩, ?_⟩
  show AV.agg [_, _, AV.sl 1 (List.take (0 + (irows .i32 ta).length + (irows .i32 tb).length) (List.drop 0 (List.take (0 + (irows .i32 ta).length) (List.drop 0 (List.take 0 (List.drop 0 ([] : List (List AV))) ++ irows .i32 ta)) ++ irows .i32 tb))) false, AV.sl 3 (List.take (0 + (qa.map rowN).length + (qb.map rowN).length) (List.drop 0 (List.take (0 + (qa.map rowN).length) (List.drop 0 (List.take 0 (List.drop 0 ([] : List (List AV))) ++ qa.map rowN)) ++ qb.map rowN))) false] = _
  have two : ∀ (X Y : List (List AV)), List.take (0 + X.length + Y.length) (List.drop 0 (List.take (0 + X.length) (List.drop 0 (List.take 0 (List.drop 0 ([] : List (List AV))) ++ X)) ++ Y)) = X ++ Y := fun X Y => by
    simp only [List.drop_zero, List.take_zero, List.nil_append, Nat.zero_add, List.take_length]
    rw [List.take_of_length_le (by simp)]
  rw [two, two, irows_append, ← List.map_append]
  rfl
end
end Go.Proofs.YtliiekhmpgopnaaGreat

/- Arrays side by side: what comes of it (plain laws). -/
set_option linter.unusedVariables false
namespace Go.Proofs.YtliiekhmpgopnaaGreat
open Go Go.AL NM

/-- What comes of laying arrays side by side: the error, the kind, the shape, the places. -/
abbrev JR := Int × Bool × List Int × List Int
def laidJ (c : Bool) (x y : List Int) (k la : Nat) (one two : Bool) : JR :=
  if vS (x.set k (x.getD k 0 + y.getD k 0)) then (0, c, x.set k (x.getD k 0 + y.getD k 0), (List.range (pr (x.set k (x.getD k 0 + y.getD k 0)))).map (atJ (x.getD k 0).toNat (y.getD k 0).toNat (pr (x.drop (k + 1))) la one two))
  else (26, false, [], [])
/-- The shape that both are made ready for. -/
def catS (sa sb : List Int) : List Int := if (if sa.length < sb.length then sb else sa) = [] then [1] else (if sa.length < sb.length then sb else sa)
def catK (s : List Int) (axis : Int) : Int := if axis < 0 then (s.length : Int) - 1 else axis
def catJ (ca cb : Bool) (la lb : Nat) (sa sb : List Int) (axis : Int) : JR :=
  match alikeC ca cb la lb with
  | none => (22, false, [], [])
  | some c =>
    if ((catS sa sb).length : Int) ≤ catK (catS sa sb) axis then (23, false, [], [])
    else if (fitJ sa (catS sa sb) (catK (catS sa sb) axis).toNat).2.2 ≠ 0 then ((fitJ sa (catS sa sb) (catK (catS sa sb) axis).toNat).2.2, false, [], [])
    else if (fitJ sb (catS sa sb) (catK (catS sa sb) axis).toNat).2.2 ≠ 0 then ((fitJ sb (catS sa sb) (catK (catS sa sb) axis).toNat).2.2, false, [], [])
    else laidJ c (fitJ sa (catS sa sb) (catK (catS sa sb) axis).toNat).1 (fitJ sb (catS sa sb) (catK (catS sa sb) axis).toNat).1 (catK (catS sa sb) axis).toNat la (decide (sa = [])) (decide (sb = []))
def lamS (sa sb : List Int) : List Int := if sa = [] then sb else sa
def lamJ (ca cb : Bool) (la lb : Nat) (sa sb : List Int) (axis : Int) : JR :=
  match alikeC ca cb la lb with
  | none => (22, false, [], [])
  | some c =>
    if axis < 0 ∨ ((lamS sa sb).length : Int) < axis ∨ (lamS sa sb).length = 8 then (23, false, [], [])
    else if sb ≠ [] ∧ sb.length ≠ (lamS sa sb).length then (23, false, [], [])
    else if sb ≠ [] ∧ sb ≠ lamS sa sb then (24, false, [], [])
    else laidJ c ((lamS sa sb).take axis.toNat ++ 1 :: (lamS sa sb).drop axis.toNat) ((lamS sa sb).take axis.toNat ++ 1 :: (lamS sa sb).drop axis.toNat) axis.toNat la (decide (sa = [])) (decide (sb = []))
/-- The program's array of it. -/
def resJ (r : JR) (ta tb : List Int) (na nb : List (Option (Rat × Nat))) : AV :=
  if r.1 = 0 then .tup [AA r.2.2.1 r.2.1 (if r.2.1 then r.2.2.2.map (getT (ta ++ tb)) else []) (if r.2.1 then [] else r.2.2.2.map (getX (na ++ nb))) true, .val (.int .i64 0)]
  else .tup [AA [] false [] [] false, .val (.int .i64 r.1)]
/-- The document's array of it. -/
def docR (r : JR) (ta tb : List Int) (qa qb : List Rat) : AV :=
  if r.1 = 0 then .tup [PA r.2.2.1 r.2.1 (if r.2.1 then r.2.2.2.map (getT (ta ++ tb)) else []) (if r.2.1 then [] else r.2.2.2.map (getQ (qa ++ qb))), .val (.int .i64 0)]
  else .tup [PA [] false [] [], .val (.int .i64 r.1)]
theorem resJ_noid (r : JR) (ta tb : List Int) (na nb : List (Option (Rat × Nat))) : NoId (resJ r ta tb na nb) := by
  unfold resJ
  split
  · exact .tup _ (noid2 (AA_noid _ _ _ _ _) (.val _))
  · exact .tup _ (noid2 (AA_noid _ _ _ _ _) (.val _))
theorem docR_noid (r : JR) (ta tb : List Int) (qa qb : List Rat) : NoId (docR r ta tb qa qb) := by
  unfold docR
  split
  · exact .tup _ (noid2 (PA_noid _ _ _ _) (.val _))
  · exact .tup _ (noid2 (PA_noid _ _ _ _) (.val _))
theorem alike_kinds {ca cb c : Bool} {sa sb : List Int} {ta na tb nb : Nat} (h : alikeC ca cb (ta + na) (tb + nb) = some c) (ka : kinds sa ca ta na) (kb : kinds sb cb tb nb) : kinds sa c ta na ∧ kinds sb c tb nb := by
  unfold alikeC at h
  have za : ta + na = 0 → kinds sa c ta na := fun h0 => by
    have h1 := kinds_zero ka h0
    have e1 : ta = 0 := by omega
    have e2 : na = 0 := by omega
    subst e1 e2
    unfold kinds
    rw [h1]
    cases c <;> simp
  have zb : tb + nb = 0 → kinds sb c tb nb := fun h0 => by
    have h1 := kinds_zero kb h0
    have e1 : tb = 0 := by omega
    have e2 : nb = 0 := by omega
    subst e1 e2
    unfold kinds
    rw [h1]
    cases c <;> simp
  by_cases h1 : ca = cb
  · rw [if_pos h1] at h
    injection h with h
    subst h1; subst h
    exact ⟨ka, kb⟩
  · rw [if_neg h1] at h
    by_cases h2 : tb + nb = 0
    · rw [if_pos h2] at h
      injection h with h
      subst h
      exact ⟨ka, zb h2⟩
    · rw [if_neg h2] at h
      by_cases h3 : ta + na = 0
      · rw [if_pos h3] at h
        injection h with h
        subst h
        exact ⟨za h3, kb⟩
      · rw [if_neg h3] at h
        exact nomatch h
theorem catS_ok {sa sb : List Int} (va : vS sa) (vb : vS sb) : vS (catS sa sb) ∧ 0 < (catS sa sb).length := by
  have h1 : vS (if sa.length < sb.length then sb else sa) := by split <;> assumption
  unfold catS
  generalize (if sa.length < sb.length then sb else sa) = s at *
  by_cases h0 : s = []
  · rw [if_pos h0]; exact ⟨by decide, by decide⟩
  · rw [if_neg h0]; exact ⟨h1, List.length_pos_iff.2 h0⟩
theorem getD_at {s : List Int} {k : Nat} (h : k < s.length) : s.getD k 0 = s[k] := by rw [List.getD_eq_getElem?_getD, List.getElem?_eq_getElem h]; rfl
end Go.Proofs.YtliiekhmpgopnaaGreat

/- Arrays: one made ready to be laid along an axis (contracts). -/
set_option linter.unusedVariables false
namespace Go.Proofs.YtliiekhmpgopnaaGreat
open Go Go.AL NM

/-- The program's. -/
theorem fits_ok (sh s : List Int) (k : Nat) (c : Bool) (tx : List Int) (ns : List (Option (Rat × Nat))) (hk : k < s.length) (hs : vS s) (hv : vS sh) :
    AC Tryz.prog 34 [AA sh c tx ns true, .sl 1 (irows .i64 s) false, .val (.int .i64 (k : Int))] (.pure (.tup [.sl 1 (irows .i64 (fitJ sh s k).1) false, .val (.bool (fitJ sh s k).2.1), .val (.int .i64 (fitJ sh s k).2.2)])) := by
  have h8 := hs.1
  have h8' := hv.1
  have ls := irows_len .i64 s
  have lsh := irows_len .i64 sh
  have hS := Shape_ok sh c tx ns (by omega)
  have hW := With_ok s k 1 hk (by omega)
  have nd := noid3 (AA_noid sh c tx ns true) (noid_sl .i64 s false) (NoId.val (.int .i64 (k : Int)))
  have nT : ∀ (l : List Int) (b : Bool) (e : Int), NoId (.tup [.sl 1 (irows .i64 l) false, .val (.bool b), .val (.int .i64 e)]) := fun l b e => .tup _ (noid3 (noid_sl _ _ _) (.val _) (.val _))
  have nZ : ∀ (b : Bool) (e : Int), NoId (.tup [.sl 0 [] true, .val (.bool b), .val (.int .i64 e)]) := fun b e => .tup _ (noid3 (.sl _ _ _ (fun r hr => nomatch hr)) (.val _) (.val _))
  have eS : IntKind.i64.wrap (((irows .i64 s).length : Int) - 1) = (s.length : Int) - 1 := by rw [IntWalk.i64_in _ (by omega)]; omega
  by_cases h0 : sh = []
  · have e : fitJ sh s k = (s.set k 1, true, 0) := if_pos h0
    rw [e]
    have : sh.length = 0 := by rw [h0]; rfl
    refine AC.of_body TTok Tryz.func34 rfl (enter_of Tryz.func34 (by kernel_rfl) (by kernel_rfl)) nd (nT _ _ _) (Nat.le_of_ble_eq_true rfl) ?_
    unfold AA at *
    conv => whnf
    refine ⟨_, hS, ?_⟩
    conv => whnf
    first
      | refine caseb (fun _ => ?_) (fun h => absurd (of_decide_eq_false h) (by omega))
      | refine caseb (fun h => absurd (of_decide_eq_true h) (by omega)) (fun _ => ?_)
      | refine caseb (fun _ => ?_) (fun h => absurd (beq_eq_false_iff_ne.1 h) (by omega))
      | refine caseb (fun h => absurd (eq_of_beq h) (by omega)) (fun _ => ?_)
    conv => whnf
    refine ⟨_, hW, ?_⟩
    repeat
      conv => whnf
      first
        | refine ⟨_, by assumption, ?_⟩
        | refine ⟨(Nat.le_of_ble_eq_true rfl), _, by assumption, ?_⟩
        | refine ⟨by kernel_rfl, ?_⟩
        | exact rfl
        | exact ⟨Nat.le_of_ble_eq_true rfl, rfl⟩
        | refine ⟨by decide, ?_⟩
  · have hne : sh.length ≠ 0 := fun h => h0 (List.length_eq_zero_iff.1 h)
    obtain ⟨own, ho⟩ : ∃ own, own = if sh.length + 1 = s.length then sh.take k ++ 1 :: sh.drop k else sh := ⟨_, rfl⟩
    have e : fitJ sh s k = if own.length ≠ s.length then ([], false, 23) else if own.take k ++ own.drop (k + 1) ≠ s.take k ++ s.drop (k + 1) then ([], false, 24) else (own, false, 0) := by
      rw [ho]; exact if_neg h0
    by_cases h1 : own.length ≠ s.length
    · rw [if_pos h1] at e
      rw [e]
      have hsh : sh.length + 1 ≠ s.length := fun h => by
        rw [if_pos h] at ho
        rw [ho, ins_len (by omega)] at h1
        exact h1 h
      rw [if_neg hsh] at ho
      subst ho
      refine AC.le_res (?_ : AC Tryz.prog 34 _ (.pure (.tup [.sl 0 [] true, .val (.bool false), .val (.int .i64 23)]))) (.tup3 (le_nil 1) (.refl _) (.refl _)) (nT _ _ _)
      refine AC.of_body TTok Tryz.func34 rfl (enter_of Tryz.func34 (by kernel_rfl) (by kernel_rfl)) nd (nZ _ _) (Nat.le_of_ble_eq_true rfl) ?_
      unfold AA at *
      conv => whnf
      refine ⟨_, hS, ?_⟩
      conv => whnf
      first
        | refine caseb (fun _ => ?_) (fun h => absurd (of_decide_eq_false h) (by omega))
        | refine caseb (fun h => absurd (of_decide_eq_true h) (by omega)) (fun _ => ?_)
        | refine caseb (fun _ => ?_) (fun h => absurd (beq_eq_false_iff_ne.1 h) (by omega))
        | refine caseb (fun h => absurd (eq_of_beq h) (by omega)) (fun _ => ?_)
      conv => whnf
      first
        | refine caseb (fun _ => ?_) (fun h => absurd (of_decide_eq_false h) (by omega))
        | refine caseb (fun h => absurd (of_decide_eq_true h) (by omega)) (fun _ => ?_)
        | refine caseb (fun _ => ?_) (fun h => absurd (beq_eq_false_iff_ne.1 h) (by omega))
        | refine caseb (fun h => absurd (eq_of_beq h) (by omega)) (fun _ => ?_)
      conv => whnf
      first
        | refine caseb (fun h => absurd (bne_iff_ne.1 h) (by omega)) (fun _ => ?_)
        | refine caseb (fun _ => ?_) (fun h => absurd (bne_eq_false_iff_eq.1 h) (by omega))
      repeat
        conv => whnf
        first
          | refine ⟨_, by assumption, ?_⟩
          | refine ⟨(Nat.le_of_ble_eq_true rfl), _, by assumption, ?_⟩
          | refine ⟨by kernel_rfl, ?_⟩
          | exact rfl
          | exact ⟨Nat.le_of_ble_eq_true rfl, rfl⟩
          | refine ⟨by decide, ?_⟩
    · have h1' : own.length = s.length := Decidable.byContradiction h1
      rw [if_neg h1] at e
      have w1 := Without_ok own k (by omega) (by omega)
      have w2 := Without_ok s k hk (by omega)
      have hE := ShSame_ok (own.take k ++ own.drop (k + 1)) (s.take k ++ s.drop (k + 1)) (by simp; omega) (by simp; omega)
      have n1 : NoId (.sl 1 (List.drop 0 (List.take (k : Int).toNat (irows .i64 sh))) false) := by rw [Int.toNat_natCast, List.drop_zero, irows_take]; exact noid_sl _ _ _
      have n3 : NoId (.sl 1 (List.drop (k : Int).toNat (List.take (irows .i64 sh).length (irows .i64 sh))) false) := by rw [Int.toNat_natCast, List.take_length, irows_drop]; exact noid_sl _ _ _
      have hJ : sh.length + 1 = s.length → AC Tryz.prog 44 [.sl 1 [[.sl 1 (List.drop 0 (List.take (k : Int).toNat (irows .i64 sh))) false], [.sl 1 [[.val (.int .i64 1)]] false], [.sl 1 (List.drop (k : Int).toNat (List.take (irows .i64 sh).length (irows .i64 sh))) false]] false] (.pure (.sl 1 (irows .i64 own) false)) := fun h3 => by
        rw [if_pos h3] at ho
        have hc := ShJoin_ok [sh.take k, [1], sh.drop k] (by show 3 ≤ 1000; omega) (by simp; omega)
        rw [show [sh.take k, [1], sh.drop k].flatten = own by rw [ho]; simp] at hc
        rw [Int.toNat_natCast, List.drop_zero, irows_take, List.take_length, irows_drop]
        exact hc
      by_cases h2 : own.take k ++ own.drop (k + 1) = s.take k ++ s.drop (k + 1)
      · rw [if_neg (fun h => h h2)] at e
        rw [decide_eq_true h2] at hE
        rw [e]
        refine AC.of_body TTok Tryz.func34 rfl (enter_of Tryz.func34 (by kernel_rfl) (by kernel_rfl)) nd (nT _ _ _) (Nat.le_of_ble_eq_true rfl) ?_
        by_cases h3 : sh.length + 1 = s.length
        · rw [if_pos h3] at ho
          unfold AA at *
          conv => whnf
          refine ⟨_, hS, ?_⟩
          conv => whnf
          first
            | refine caseb (fun _ => ?_) (fun h => absurd (of_decide_eq_false h) (by omega))
            | refine caseb (fun h => absurd (of_decide_eq_true h) (by omega)) (fun _ => ?_)
            | refine caseb (fun _ => ?_) (fun h => absurd (beq_eq_false_iff_ne.1 h) (by omega))
            | refine caseb (fun h => absurd (eq_of_beq h) (by omega)) (fun _ => ?_)
          conv => whnf
          first
            | refine caseb (fun _ => ?_) (fun h => absurd (of_decide_eq_false h) (by omega))
            | refine caseb (fun h => absurd (of_decide_eq_true h) (by omega)) (fun _ => ?_)
            | refine caseb (fun _ => ?_) (fun h => absurd (beq_eq_false_iff_ne.1 h) (by omega))
            | refine caseb (fun h => absurd (eq_of_beq h) (by omega)) (fun _ => ?_)
          conv => whnf
          refine ⟨by omega, ?_⟩
          conv => whnf
          refine ⟨by omega, ?_⟩
          conv => whnf
          refine ⟨⟨Nat.le_refl _, noid3 n1 (noid_sl .i64 [1] false) n3⟩, ?_⟩
          conv => whnf
          refine ⟨(Nat.le_of_ble_eq_true rfl), _, (hJ h3), ?_⟩
          conv => whnf
          refine ⟨by kernel_rfl, ?_⟩
          conv => whnf
          refine ⟨_, w1, ?_⟩
          conv => whnf
          refine ⟨_, w2, ?_⟩
          conv => whnf
          refine ⟨_, hE, ?_⟩
          repeat
            conv => whnf
            first
              | refine ⟨_, by assumption, ?_⟩
              | refine ⟨(Nat.le_of_ble_eq_true rfl), _, by assumption, ?_⟩
              | refine ⟨by kernel_rfl, ?_⟩
              | exact rfl
              | exact ⟨Nat.le_of_ble_eq_true rfl, rfl⟩
              | refine ⟨by decide, ?_⟩
        · rw [if_neg h3] at ho
          subst ho
          unfold AA at *
          conv => whnf
          refine ⟨_, hS, ?_⟩
          conv => whnf
          first
            | refine caseb (fun _ => ?_) (fun h => absurd (of_decide_eq_false h) (by omega))
            | refine caseb (fun h => absurd (of_decide_eq_true h) (by omega)) (fun _ => ?_)
            | refine caseb (fun _ => ?_) (fun h => absurd (beq_eq_false_iff_ne.1 h) (by omega))
            | refine caseb (fun h => absurd (eq_of_beq h) (by omega)) (fun _ => ?_)
          conv => whnf
          first
            | refine caseb (fun _ => ?_) (fun h => absurd (of_decide_eq_false h) (by omega))
            | refine caseb (fun h => absurd (of_decide_eq_true h) (by omega)) (fun _ => ?_)
            | refine caseb (fun _ => ?_) (fun h => absurd (beq_eq_false_iff_ne.1 h) (by omega))
            | refine caseb (fun h => absurd (eq_of_beq h) (by omega)) (fun _ => ?_)
          conv => whnf
          first
            | refine caseb (fun h => absurd (bne_iff_ne.1 h) (by omega)) (fun _ => ?_)
            | refine caseb (fun _ => ?_) (fun h => absurd (bne_eq_false_iff_eq.1 h) (by omega))
          conv => whnf
          refine ⟨_, w1, ?_⟩
          conv => whnf
          refine ⟨_, w2, ?_⟩
          conv => whnf
          refine ⟨_, hE, ?_⟩
          repeat
            conv => whnf
            first
              | refine ⟨_, by assumption, ?_⟩
              | refine ⟨(Nat.le_of_ble_eq_true rfl), _, by assumption, ?_⟩
              | refine ⟨by kernel_rfl, ?_⟩
              | exact rfl
              | exact ⟨Nat.le_of_ble_eq_true rfl, rfl⟩
              | refine ⟨by decide, ?_⟩
      · rw [if_pos h2] at e
        rw [decide_eq_false h2] at hE
        rw [e]
        refine AC.le_res (?_ : AC Tryz.prog 34 _ (.pure (.tup [.sl 0 [] true, .val (.bool false), .val (.int .i64 24)]))) (.tup3 (le_nil 1) (.refl _) (.refl _)) (nT _ _ _)
        refine AC.of_body TTok Tryz.func34 rfl (enter_of Tryz.func34 (by kernel_rfl) (by kernel_rfl)) nd (nZ _ _) (Nat.le_of_ble_eq_true rfl) ?_
        by_cases h3 : sh.length + 1 = s.length
        · rw [if_pos h3] at ho
          unfold AA at *
          conv => whnf
          refine ⟨_, hS, ?_⟩
          conv => whnf
          first
            | refine caseb (fun _ => ?_) (fun h => absurd (of_decide_eq_false h) (by omega))
            | refine caseb (fun h => absurd (of_decide_eq_true h) (by omega)) (fun _ => ?_)
            | refine caseb (fun _ => ?_) (fun h => absurd (beq_eq_false_iff_ne.1 h) (by omega))
            | refine caseb (fun h => absurd (eq_of_beq h) (by omega)) (fun _ => ?_)
          conv => whnf
          first
            | refine caseb (fun _ => ?_) (fun h => absurd (of_decide_eq_false h) (by omega))
            | refine caseb (fun h => absurd (of_decide_eq_true h) (by omega)) (fun _ => ?_)
            | refine caseb (fun _ => ?_) (fun h => absurd (beq_eq_false_iff_ne.1 h) (by omega))
            | refine caseb (fun h => absurd (eq_of_beq h) (by omega)) (fun _ => ?_)
          conv => whnf
          refine ⟨by omega, ?_⟩
          conv => whnf
          refine ⟨by omega, ?_⟩
          conv => whnf
          refine ⟨⟨Nat.le_refl _, noid3 n1 (noid_sl .i64 [1] false) n3⟩, ?_⟩
          conv => whnf
          refine ⟨(Nat.le_of_ble_eq_true rfl), _, (hJ h3), ?_⟩
          conv => whnf
          refine ⟨by kernel_rfl, ?_⟩
          conv => whnf
          refine ⟨_, w1, ?_⟩
          conv => whnf
          refine ⟨_, w2, ?_⟩
          conv => whnf
          refine ⟨_, hE, ?_⟩
          repeat
            conv => whnf
            first
              | refine ⟨_, by assumption, ?_⟩
              | refine ⟨(Nat.le_of_ble_eq_true rfl), _, by assumption, ?_⟩
              | refine ⟨by kernel_rfl, ?_⟩
              | exact rfl
              | exact ⟨Nat.le_of_ble_eq_true rfl, rfl⟩
              | refine ⟨by decide, ?_⟩
        · rw [if_neg h3] at ho
          subst ho
          unfold AA at *
          conv => whnf
          refine ⟨_, hS, ?_⟩
          conv => whnf
          first
            | refine caseb (fun _ => ?_) (fun h => absurd (of_decide_eq_false h) (by omega))
            | refine caseb (fun h => absurd (of_decide_eq_true h) (by omega)) (fun _ => ?_)
            | refine caseb (fun _ => ?_) (fun h => absurd (beq_eq_false_iff_ne.1 h) (by omega))
            | refine caseb (fun h => absurd (eq_of_beq h) (by omega)) (fun _ => ?_)
          conv => whnf
          first
            | refine caseb (fun _ => ?_) (fun h => absurd (of_decide_eq_false h) (by omega))
            | refine caseb (fun h => absurd (of_decide_eq_true h) (by omega)) (fun _ => ?_)
            | refine caseb (fun _ => ?_) (fun h => absurd (beq_eq_false_iff_ne.1 h) (by omega))
            | refine caseb (fun h => absurd (eq_of_beq h) (by omega)) (fun _ => ?_)
          conv => whnf
          first
            | refine caseb (fun h => absurd (bne_iff_ne.1 h) (by omega)) (fun _ => ?_)
            | refine caseb (fun _ => ?_) (fun h => absurd (bne_eq_false_iff_eq.1 h) (by omega))
          conv => whnf
          refine ⟨_, w1, ?_⟩
          conv => whnf
          refine ⟨_, w2, ?_⟩
          conv => whnf
          refine ⟨_, hE, ?_⟩
          repeat
            conv => whnf
            first
              | refine ⟨_, by assumption, ?_⟩
              | refine ⟨(Nat.le_of_ble_eq_true rfl), _, by assumption, ?_⟩
              | refine ⟨by kernel_rfl, ?_⟩
              | exact rfl
              | exact ⟨Nat.le_of_ble_eq_true rfl, rfl⟩
              | refine ⟨by decide, ?_⟩
end Go.Proofs.YtliiekhmpgopnaaGreat

/- Arrays laid side by side (the program's contract). -/
set_option linter.unusedVariables false
namespace Go.Proofs.YtliiekhmpgopnaaGreat
open Go Go.AL NM

theorem tmod_nat (a b : Nat) : ((a : Int)).tmod (b : Int) = ((a % b : Nat) : Int) := by rw [Int.tmod_eq_emod_of_nonneg (Int.natCast_nonneg _), ← Int.natCast_emod]
theorem tdiv_nat (a b : Nat) : ((a : Int)).tdiv (b : Int) = ((a / b : Nat) : Int) := by rw [Int.tdiv_eq_ediv_of_nonneg (Int.natCast_nonneg _), ← Int.natCast_ediv]
theorem wrap_nat (a : Nat) (h : a < 9223372036854775808) : IntKind.i64.wrap (a : Int) = (a : Int) := IntWalk.i64_in _ (by omega)
/-- The steps of a place. -/
theorem place_first (o n K I j q : Nat) (h1 : o * n + K ≤ q) (h2 : q * I + j ≤ 5000) (hI : 0 < I) :
    IntKind.i64.wrap (IntKind.i64.wrap (IntKind.i64.wrap (IntKind.i64.wrap ((o : Int) * (n : Int)) + (K : Int)) * (I : Int)) + (j : Int)) = (((o * n + K) * I + j : Nat) : Int) := by
  have a1 : (o * n + K) * I ≤ q * I := Nat.mul_le_mul_right _ h1
  have a2 : q ≤ q * I := Nat.le_mul_of_pos_right _ hI
  rw [← Int.natCast_mul, wrap_nat _ (by omega), ← Int.natCast_add, wrap_nat _ (by omega), ← Int.natCast_mul, wrap_nat _ (by omega), ← Int.natCast_add, wrap_nat _ (by omega)]
theorem place_second (la o m n K I j q : Nat) (hn : n ≤ K) (h1 : o * m + K ≤ q + n) (h2 : q * I + j ≤ 5000) (hI : 0 < I) (hla : la ≤ 100000) (hb : o * m + K ≤ 100000) :
    IntKind.i64.wrap (IntKind.i64.wrap ((la : Int) + IntKind.i64.wrap (IntKind.i64.wrap (IntKind.i64.wrap (IntKind.i64.wrap ((o : Int) * (m : Int)) + (K : Int)) - (n : Int)) * (I : Int))) + (j : Int)) = ((la + (o * m + (K - n)) * I + j : Nat) : Int) := by
  have a1 : (o * m + (K - n)) * I ≤ q * I := Nat.mul_le_mul_right _ (by omega)
  have a2 : q ≤ q * I := Nat.le_mul_of_pos_right _ hI
  rw [← Int.natCast_mul, wrap_nat _ (by omega), ← Int.natCast_add, wrap_nat _ (by omega), show ((o * m + K : Nat) : Int) - (n : Int) = ((o * m + (K - n) : Nat) : Int) by omega, wrap_nat _ (by omega), ← Int.natCast_mul, wrap_nat _ (by omega), ← Int.natCast_add, wrap_nat _ (by omega), ← Int.natCast_add, wrap_nat _ (by omega)]
section
variable (c : Bool) (sa sb ta tb : List Int) (na nb : List (Option (Rat × Nat))) (u v : List Int) (n m : Nat)
theorem irows_mid (u v : List Int) (d : Int) : (irows .i64 (u ++ d :: v))[u.length]? = some [.val (.int .i64 d)] := by
  rw [← irows_append]
  exact (List.getElem?_append_right (by rw [irows_len]; exact Nat.le_refl _)).trans (by rw [irows_len, Nat.sub_self]; rfl)
theorem laid_bad (one two : Bool) (hn : vS (u ++ (n : Int) :: v)) (hm : vS (u ++ (m : Int) :: v)) (hs : ¬ vS (u ++ ((n + m : Nat) : Int) :: v)) :
    AC Tryz.prog 35 [AA sa c ta na true, AA sb c tb nb true, .sl 1 (irows .i64 (u ++ (n : Int) :: v)) false, .sl 1 (irows .i64 (u ++ (m : Int) :: v)) false, .val (.bool one), .val (.bool two), .val (.int .i64 (u.length : Int))] (.pure (.tup [AA [] false [] [] false, .val (.int .i64 26)])) := by
  have l8 := hn.1
  rw [List.length_append, List.length_cons] at l8
  have d1 := vS_dim hn (List.mem_append_right _ List.mem_cons_self)
  have d2 := vS_dim hm (List.mem_append_right _ List.mem_cons_self)
  have eS : IntKind.i64.wrap ((n : Int) + (m : Int)) = ((n + m : Nat) : Int) := by rw [← Int.natCast_add, wrap_nat _ (by omega)]
  have hW := With_ok (u ++ (n : Int) :: v) u.length (IntKind.i64.wrap ((n : Int) + (m : Int))) (by rw [List.length_append, List.length_cons]; omega) (by rw [List.length_append, List.length_cons]; omega)
  rw [set_mid', eS, ← eS] at hW
  have hC := Count_ok (u ++ ((n + m : Nat) : Int) :: v) (by rw [List.length_append, List.length_cons]; omega)
  rw [CNT_bad hs] at hC
  rw [← eS] at hC
  have g1 := irows_mid u v (n : Int)
  have g2 := irows_mid u v (m : Int)
  have lx := irows_len .i64 (u ++ (n : Int) :: v)
  have ly := irows_len .i64 (u ++ (m : Int) :: v)
  rw [List.length_append, List.length_cons] at lx ly
  have nd : ∀ x ∈ [AA sa c ta na true, AA sb c tb nb true, .sl 1 (irows .i64 (u ++ (n : Int) :: v)) false, .sl 1 (irows .i64 (u ++ (m : Int) :: v)) false, .val (.bool one), .val (.bool two), .val (.int .i64 (u.length : Int))], NoId x := by
    intro x hx
    simp only [List.mem_cons, List.not_mem_nil, or_false] at hx
    rcases hx with rfl | rfl | rfl | rfl | rfl | rfl | rfl
    · exact AA_noid _ _ _ _ _
    · exact AA_noid _ _ _ _ _
    · exact noid_sl _ _ _
    · exact noid_sl _ _ _
    · exact .val _
    · exact .val _
    · exact .val _
  refine AC.le_res (?_ : AC Tryz.prog 35 _ (.pure (.tup [AZ, .val (.int .i64 26)]))) (.tup2 AZ_le (.refl _)) (.tup _ (noid2 (AA_noid _ _ _ _ _) (.val _)))
  refine AC.of_body TTok Tryz.func35 rfl (enter_of Tryz.func35 (by kernel_rfl) (by kernel_rfl)) nd (.tup _ (noid2 AZ_noid (.val _))) (Nat.le_of_ble_eq_true rfl) ?_
  unfold AA AZ
  conv => whnf
  refine ⟨_, ⟨by omega, by rw [Int.toNat_natCast]; exact g1⟩, ?_⟩
  conv => whnf
  refine ⟨_, ⟨by omega, by rw [Int.toNat_natCast]; exact g2⟩, ?_⟩
  conv => whnf
  refine ⟨by kernel_rfl, ?_⟩
  conv => whnf
  refine ⟨_, hW, ?_⟩
  conv => whnf
  refine ⟨_, hC, ?_⟩
  repeat
    conv => whnf
    first
      | refine ⟨_, by assumption, ?_⟩
      | refine ⟨(Nat.le_of_ble_eq_true rfl), _, by assumption, ?_⟩
      | refine ⟨by kernel_rfl, ?_⟩
      | exact rfl
      | exact ⟨Nat.le_of_ble_eq_true rfl, rfl⟩
      | refine ⟨by decide, ?_⟩
theorem laid_good (one two : Bool) (sB : List Int) (tB : List Int) (nB : List (Option (Rat × Nat))) (T : List Int) (N : List (Option (Rat × Nat))) (hn : vS (u ++ (n : Int) :: v)) (hm : vS (u ++ (m : Int) :: v)) (hs : vS (u ++ ((n + m : Nat) : Int) :: v))
    (h1 : ta.length + na.length ≤ 100000)
    (hB : AC Tryz.prog 77 [AA sa c ta na true, AA sb c tb nb true] (.pure (AA sB c tB nB true)))
    (hP : AC Tryz.prog 72 [AA sB c tB nB true, .sl 1 (irows .i64 (u ++ ((n + m : Nat) : Int) :: v)) false, .sl 1 (irows .i64 ((List.range (pr (u ++ ((n + m : Nat) : Int) :: v))).map (atJ n m (pr v) (ta.length + na.length) one two))) false] (.pure (.tup [AA (u ++ ((n + m : Nat) : Int) :: v) c T N true, .val (.bool true)]))) :
    AC Tryz.prog 35 [AA sa c ta na true, AA sb c tb nb true, .sl 1 (irows .i64 (u ++ (n : Int) :: v)) false, .sl 1 (irows .i64 (u ++ (m : Int) :: v)) false, .val (.bool one), .val (.bool two), .val (.int .i64 (u.length : Int))] (.pure (.tup [AA (u ++ ((n + m : Nat) : Int) :: v) c T N true, .val (.int .i64 0)])) := by
  have l8 := hn.1
  rw [List.length_append, List.length_cons] at l8
  have d1 := vS_dim hn (List.mem_append_right _ List.mem_cons_self)
  have d2 := vS_dim hm (List.mem_append_right _ List.mem_cons_self)
  have eS : IntKind.i64.wrap ((n : Int) + (m : Int)) = ((n + m : Nat) : Int) := by rw [← Int.natCast_add, wrap_nat _ (by omega)]
  obtain ⟨s, hsd⟩ : ∃ s, s = u ++ ((n + m : Nat) : Int) :: v := ⟨_, rfl⟩
  have hpr : pr s = pr u * ((n + m) * pr v) := by rw [hsd, pr_append]; show pr u * ((((n + m : Nat) : Int)).toNat * pr v) = _; rw [Int.toNat_natCast]
  have lsl : s.length = u.length + (v.length + 1) := by rw [hsd, List.length_append, List.length_cons]
  have hW := With_ok (u ++ (n : Int) :: v) u.length (IntKind.i64.wrap ((n : Int) + (m : Int))) (by rw [List.length_append, List.length_cons]; omega) (by rw [List.length_append, List.length_cons]; omega)
  rw [set_mid', eS, ← hsd, ← eS] at hW
  rw [← hsd] at hs hP ⊢
  have hC := Count_ok s (by omega)
  rw [CNT_good hs, (vS_pr hs).1] at hC
  have p4 := (vS_pr hs).2
  have hSp := Split_ok s u.length (by omega) hs
  have e3 : pr (s.drop (u.length + 1)) = pr v := by rw [hsd, List.drop_append, List.drop_of_length_le (by omega), Nat.add_sub_cancel_left]; rfl
  rw [e3] at hSp
  have g1 := irows_mid u v (n : Int)
  have g2 := irows_mid u v (m : Int)
  have lx := irows_len .i64 (u ++ (n : Int) :: v)
  have ly := irows_len .i64 (u ++ (m : Int) :: v)
  rw [List.length_append, List.length_cons] at lx ly
  have nd : ∀ x ∈ [AA sa c ta na true, AA sb c tb nb true, .sl 1 (irows .i64 (u ++ (n : Int) :: v)) false, .sl 1 (irows .i64 (u ++ (m : Int) :: v)) false, .val (.bool one), .val (.bool two), .val (.int .i64 (u.length : Int))], NoId x := by
    intro x hx
    simp only [List.mem_cons, List.not_mem_nil, or_false] at hx
    rcases hx with rfl | rfl | rfl | rfl | rfl | rfl | rfl
    · exact AA_noid _ _ _ _ _
    · exact AA_noid _ _ _ _ _
    · exact noid_sl _ _ _
    · exact noid_sl _ _ _
    · exact .val _
    · exact .val _
    · exact .val _
  obtain ⟨Y, hY⟩ : ∃ Y, Y = (List.range (pr s)).map (atJ n m (pr v) (ta.length + na.length) one two) := ⟨_, rfl⟩
  have lY : Y.length = pr s := by rw [hY, List.length_map, List.length_range]
  have hYi : ∀ i (h : i < pr s), Y[i]'(by omega) = atJ n m (pr v) (ta.length + na.length) one two i := fun i h => by subst hY; rw [List.getElem_map, List.getElem_range]
  rw [← hY] at hP
  have lYr := irows_len .i64 Y
  have eP : irows .i64 Y = List.take (pr s) (List.drop 0 (irows .i64 Y)) := by rw [List.drop_zero, List.take_of_length_le (by omega)]
  rw [eP] at hP
  have hA := ALen_ok sa c ta na true (by omega) (by omega)
  refine AC.of_body TTok Tryz.func35 rfl (enter_of Tryz.func35 (by kernel_rfl) (by kernel_rfl)) nd (.tup _ (noid2 (AA_noid _ _ _ _ _) (.val _))) (Nat.le_of_ble_eq_true rfl) ?_
  unfold AA at *
  conv => whnf
  refine ⟨_, ⟨by omega, by rw [Int.toNat_natCast]; exact g1⟩, ?_⟩
  conv => whnf
  refine ⟨_, ⟨by omega, by rw [Int.toNat_natCast]; exact g2⟩, ?_⟩
  conv => whnf
  refine ⟨by kernel_rfl, ?_⟩
  conv => whnf
  refine ⟨_, hW, ?_⟩
  conv => whnf
  refine ⟨_, hC, ?_⟩
  conv => whnf
  refine ⟨_, hSp, ?_⟩
  conv => whnf
  refine ⟨⟨by decide, by omega, by show ((pr s : Nat) : Int) * ((8 : Nat) : Int) ≤ 140737488355328; omega⟩, ?_⟩
  conv => whnf
  refine SW.loopM TTok (fun i : Nat => [(4, .val (.bool one)), (5, .val (.bool two)), (7, .lp 0 0), (8, .lp 8 0), (14, .lp 16 0), (15, .val (.int .i64 0)), (16, .val (.int .i64 (n : Int))), (17, .val (.int .i64 (m : Int))), (18, .sl 1 (irows .i64 s) false), (23, .val (.int .i64 (pr v : Int))), (25, .own 344 0 i), (64, .val (.int .i64 (pr s : Int))), (65, .val (.int .i64 (i : Int)))])
    (fun i => [(0, .cells 5 [[.sl 1 (irows .i64 sa) false, .val (.bool c), .sl 1 (irows .i32 ta) false, .sl 3 (na.map rowX) false, .val (.bool true)]]), (8, .cells 5 [[.sl 1 (irows .i64 sb) false, .val (.bool c), .sl 1 (irows .i32 tb) false, .sl 3 (nb.map rowX) false, .val (.bool true)]]), (16, .cells 5 [[.sl 0 [] true, .val (.bool false), .sl 0 [] true, .sl 0 [] true, .val (.bool false)]]), (344, .cells 1 (irows .i64 (Y.take i)))]) 376 146 rfl (fun i => pr s - i) (fun i => i ≤ pr s) 0 [] (Nat.zero_le _)
    ⟨⟨rfl, rfl⟩, ⟨rfl, rfl⟩, ⟨rfl, rfl⟩, ⟨rfl, rfl⟩, ⟨rfl, rfl⟩, ⟨rfl, rfl⟩, ⟨rfl, rfl⟩, ⟨rfl, rfl⟩, ⟨rfl, rfl⟩, ⟨rfl, rfl⟩, ⟨rfl, rfl⟩, ⟨rfl, rfl⟩, ⟨rfl, rfl⟩, trivial⟩ ⟨⟨rfl, .inr ⟨rfl, rfl⟩⟩, ⟨rfl, .inr ⟨rfl, rfl⟩⟩, ⟨rfl, .inr ⟨rfl, rfl⟩⟩, ⟨rfl, .inr ⟨rfl, rfl⟩⟩, trivial⟩ rfl ?_
  intro i hJ
  have hi : i ≤ pr s := hJ
  clear hJ
  have lr : (irows .i64 (Y.take i)).length = i := by rw [irows_len, List.length_take]; omega
  by_cases hlt : i < pr s
  · have eI : IntKind.i64.wrap ((i : Int) + 1) = ((i + 1 : Nat) : Int) := by rw [IntWalk.i64_in _ (by omega)]; omega
    have hv0 : 0 < pr v := Nat.pos_of_ne_zero fun e => by rw [hpr, e] at hlt; omega
    have hL0 : 0 < n + m := Nat.pos_of_ne_zero fun e => by rw [hpr, e] at hlt; omega
    have hsn : irows .i64 (Y.take i) ++ [[.val (.int .i64 (atJ n m (pr v) (ta.length + na.length) one two i))]] = irows .i64 (Y.take (i + 1)) := by
      rw [take_snoc (show i < Y.length by omega), hYi i hlt, ← irows_append]; rfl
    have htk : List.take i (List.drop 0 (irows .i64 (Y.take i))) = irows .i64 (Y.take i) := by rw [List.drop_zero, List.take_of_length_le (by omega)]
    obtain ⟨q, hq⟩ : ∃ q, q = i / pr v := ⟨_, rfl⟩
    obtain ⟨K, hK⟩ : ∃ K, K = q % (n + m) := ⟨_, rfl⟩
    obtain ⟨o, ho⟩ : ∃ o, o = q / (n + m) := ⟨_, rfl⟩
    obtain ⟨j, hj⟩ : ∃ j, j = i % pr v := ⟨_, rfl⟩
    have q1 : q * pr v + j = i := by rw [hq, hj, Nat.mul_comm]; exact Nat.div_add_mod i (pr v)
    have q2 : o * (n + m) + K = q := by rw [ho, hK, Nat.mul_comm]; exact Nat.div_add_mod q (n + m)
    have q3 : q ≤ i := by rw [hq]; exact Nat.div_le_self _ _
    have o1 : o ≤ q := by rw [ho]; exact Nat.div_le_self _ _
    rw [Nat.mul_add] at q2
    have vJ : ((i : Int)).tmod (pr v : Int) = (j : Int) := by rw [tmod_nat, hj]
    have vQ : IntKind.i64.wrap (((i : Int)).tdiv (pr v : Int)) = (q : Int) := by rw [tdiv_nat, ← hq, wrap_nat _ (by omega)]
    have vK : (IntKind.i64.wrap (((i : Int)).tdiv (pr v : Int))).tmod (IntKind.i64.wrap ((n : Int) + (m : Int))) = (K : Int) := by rw [vQ, eS, tmod_nat, ← hK]
    have vO : IntKind.i64.wrap ((IntKind.i64.wrap (((i : Int)).tdiv (pr v : Int))).tdiv (IntKind.i64.wrap ((n : Int) + (m : Int)))) = (o : Int) := by rw [vQ, eS, tdiv_nat, ← ho, wrap_nat _ (by omega)]
    have aJ : atJ n m (pr v) (ta.length + na.length) one two i = if K < n then (if one then 0 else (((o * n + K) * pr v + j : Nat) : Int)) else (if two then ((ta.length + na.length : Nat) : Int) else ((ta.length + na.length + (o * m + (K - n)) * pr v + j : Nat) : Int)) := by
      unfold atJ; rw [← hq, ← hK, ← ho, ← hj]
    rw [aJ] at hsn
    by_cases hKn : K < n
    · rw [if_pos hKn] at hsn
      cases one
      · rw [if_neg Bool.false_ne_true] at hsn
        have P1 : IntKind.i64.wrap (IntKind.i64.wrap (IntKind.i64.wrap (IntKind.i64.wrap (IntKind.i64.wrap ((IntKind.i64.wrap (((i : Int)).tdiv (pr v : Int))).tdiv (IntKind.i64.wrap ((n : Int) + (m : Int)))) * (n : Int)) + (IntKind.i64.wrap (((i : Int)).tdiv (pr v : Int))).tmod (IntKind.i64.wrap ((n : Int) + (m : Int)))) * (pr v : Int)) + ((i : Int)).tmod (pr v : Int)) = (((o * n + K) * pr v + j : Nat) : Int) := by
          rw [vO, vK, vJ]; exact place_first o n K (pr v) j q (by omega) (by omega) hv0
        conv => whnf
        first
          | refine caseb (fun _ => ?_) (fun h => absurd (of_decide_eq_false h) (by omega))
          | refine caseb (fun h => absurd (of_decide_eq_true h) (by omega)) (fun _ => ?_)
          | refine caseb (fun _ => ?_) (fun h => absurd (beq_eq_false_iff_ne.1 h) (by omega))
          | refine caseb (fun h => absurd (eq_of_beq h) (by omega)) (fun _ => ?_)
        conv => whnf
        refine ⟨by omega, ?_⟩
        conv => whnf
        refine ⟨by omega, ?_⟩
        conv => whnf
        refine ⟨by rw [eS]; omega, ?_⟩
        conv => whnf
        refine ⟨by omega, ?_⟩
        conv => whnf
        refine ⟨by rw [eS]; omega, ?_⟩
        conv => whnf
        first
          | refine caseb (fun _ => ?_) (fun h => absurd (of_decide_eq_false h) (by omega))
          | refine caseb (fun h => absurd (of_decide_eq_true h) (by omega)) (fun _ => ?_)
          | refine caseb (fun _ => ?_) (fun h => absurd (beq_eq_false_iff_ne.1 h) (by omega))
          | refine caseb (fun h => absurd (eq_of_beq h) (by omega)) (fun _ => ?_)
        conv => whnf
        first
          | refine caseb (fun _ => ?_) (fun h => absurd (of_decide_eq_false h) (by omega))
          | refine caseb (fun h => absurd (of_decide_eq_true h) (by omega)) (fun _ => ?_)
          | refine caseb (fun _ => ?_) (fun h => absurd (beq_eq_false_iff_ne.1 h) (by omega))
          | refine caseb (fun h => absurd (eq_of_beq h) (by omega)) (fun _ => ?_)
        conv => whnf
        refine ⟨⟨by show 0 + i ≤ _; omega, by show (i + 1) * 8 ≤ 140737488355328; omega, Nat.le_of_ble_eq_true rfl⟩, ?_⟩
        conv => whnf
        refine ⟨i + 1, [(344, 736)], (by show pr s - (i + 1) < pr s - i; omega), hlt, ⟨⟨rfl, rfl⟩, ⟨rfl, rfl⟩, ⟨rfl, rfl⟩, ⟨rfl, rfl⟩, ⟨rfl, rfl⟩, ⟨rfl, rfl⟩, ⟨rfl, rfl⟩, ⟨rfl, rfl⟩, ⟨rfl, rfl⟩, ⟨rfl, rfl⟩, ⟨rfl, rfl⟩, ⟨rfl, rfl⟩, ⟨valI eI, rfl⟩, trivial⟩, ⟨⟨rfl, .inr ⟨rfl, rfl⟩⟩, ⟨rfl, .inr ⟨rfl, rfl⟩⟩, ⟨rfl, .inr ⟨rfl, rfl⟩⟩, ⟨rfl, .inl ⟨celE ?_, irows_noid _ _⟩⟩, trivial⟩, rfl⟩
        rw [← hsn]
        show List.take i (List.drop 0 (irows .i64 (Y.take i))) ++ [[.val (.int .i64 (IntKind.i64.wrap (IntKind.i64.wrap (IntKind.i64.wrap (IntKind.i64.wrap (IntKind.i64.wrap ((IntKind.i64.wrap (((i : Int)).tdiv (pr v : Int))).tdiv (IntKind.i64.wrap ((n : Int) + (m : Int)))) * (n : Int)) + (IntKind.i64.wrap (((i : Int)).tdiv (pr v : Int))).tmod (IntKind.i64.wrap ((n : Int) + (m : Int)))) * (pr v : Int)) + ((i : Int)).tmod (pr v : Int))))]] = _
        rw [htk, P1]
      · rw [if_pos rfl] at hsn
        conv => whnf
        first
          | refine caseb (fun _ => ?_) (fun h => absurd (of_decide_eq_false h) (by omega))
          | refine caseb (fun h => absurd (of_decide_eq_true h) (by omega)) (fun _ => ?_)
          | refine caseb (fun _ => ?_) (fun h => absurd (beq_eq_false_iff_ne.1 h) (by omega))
          | refine caseb (fun h => absurd (eq_of_beq h) (by omega)) (fun _ => ?_)
        conv => whnf
        refine ⟨by omega, ?_⟩
        conv => whnf
        refine ⟨by omega, ?_⟩
        conv => whnf
        refine ⟨by rw [eS]; omega, ?_⟩
        conv => whnf
        refine ⟨by omega, ?_⟩
        conv => whnf
        refine ⟨by rw [eS]; omega, ?_⟩
        conv => whnf
        first
          | refine caseb (fun _ => ?_) (fun h => absurd (of_decide_eq_false h) (by omega))
          | refine caseb (fun h => absurd (of_decide_eq_true h) (by omega)) (fun _ => ?_)
          | refine caseb (fun _ => ?_) (fun h => absurd (beq_eq_false_iff_ne.1 h) (by omega))
          | refine caseb (fun h => absurd (eq_of_beq h) (by omega)) (fun _ => ?_)
        conv => whnf
        refine ⟨⟨by show 0 + i ≤ _; omega, by show (i + 1) * 8 ≤ 140737488355328; omega, Nat.le_of_ble_eq_true rfl⟩, ?_⟩
        conv => whnf
        refine ⟨i + 1, [(344, 632)], (by show pr s - (i + 1) < pr s - i; omega), hlt, ⟨⟨rfl, rfl⟩, ⟨rfl, rfl⟩, ⟨rfl, rfl⟩, ⟨rfl, rfl⟩, ⟨rfl, rfl⟩, ⟨rfl, rfl⟩, ⟨rfl, rfl⟩, ⟨rfl, rfl⟩, ⟨rfl, rfl⟩, ⟨rfl, rfl⟩, ⟨rfl, rfl⟩, ⟨rfl, rfl⟩, ⟨valI eI, rfl⟩, trivial⟩, ⟨⟨rfl, .inr ⟨rfl, rfl⟩⟩, ⟨rfl, .inr ⟨rfl, rfl⟩⟩, ⟨rfl, .inr ⟨rfl, rfl⟩⟩, ⟨rfl, .inl ⟨celE ?_, irows_noid _ _⟩⟩, trivial⟩, rfl⟩
        rw [← hsn]
        show List.take i (List.drop 0 (irows .i64 (Y.take i))) ++ [[.val (.int .i64 (0))]] = _
        rw [htk]
    · rw [if_neg hKn] at hsn
      cases two
      · rw [if_neg Bool.false_ne_true] at hsn
        have P2 : IntKind.i64.wrap (IntKind.i64.wrap (((ta.length + na.length : Nat) : Int) + IntKind.i64.wrap (IntKind.i64.wrap (IntKind.i64.wrap (IntKind.i64.wrap (IntKind.i64.wrap ((IntKind.i64.wrap (((i : Int)).tdiv (pr v : Int))).tdiv (IntKind.i64.wrap ((n : Int) + (m : Int)))) * (m : Int)) + (IntKind.i64.wrap (((i : Int)).tdiv (pr v : Int))).tmod (IntKind.i64.wrap ((n : Int) + (m : Int)))) - (n : Int)) * (pr v : Int))) + ((i : Int)).tmod (pr v : Int)) = ((ta.length + na.length + (o * m + (K - n)) * pr v + j : Nat) : Int) := by
          rw [vO, vK, vJ]; exact place_second _ o m n K (pr v) j q (by omega) (by omega) (by omega) hv0 h1 (by omega)
        conv => whnf
        first
          | refine caseb (fun _ => ?_) (fun h => absurd (of_decide_eq_false h) (by omega))
          | refine caseb (fun h => absurd (of_decide_eq_true h) (by omega)) (fun _ => ?_)
          | refine caseb (fun _ => ?_) (fun h => absurd (beq_eq_false_iff_ne.1 h) (by omega))
          | refine caseb (fun h => absurd (eq_of_beq h) (by omega)) (fun _ => ?_)
        conv => whnf
        refine ⟨by omega, ?_⟩
        conv => whnf
        refine ⟨by omega, ?_⟩
        conv => whnf
        refine ⟨by rw [eS]; omega, ?_⟩
        conv => whnf
        refine ⟨by omega, ?_⟩
        conv => whnf
        refine ⟨by rw [eS]; omega, ?_⟩
        conv => whnf
        first
          | refine caseb (fun _ => ?_) (fun h => absurd (of_decide_eq_false h) (by omega))
          | refine caseb (fun h => absurd (of_decide_eq_true h) (by omega)) (fun _ => ?_)
          | refine caseb (fun _ => ?_) (fun h => absurd (beq_eq_false_iff_ne.1 h) (by omega))
          | refine caseb (fun h => absurd (eq_of_beq h) (by omega)) (fun _ => ?_)
        conv => whnf
        first
          | refine caseb (fun _ => ?_) (fun h => absurd (of_decide_eq_false h) (by omega))
          | refine caseb (fun h => absurd (of_decide_eq_true h) (by omega)) (fun _ => ?_)
          | refine caseb (fun _ => ?_) (fun h => absurd (beq_eq_false_iff_ne.1 h) (by omega))
          | refine caseb (fun h => absurd (eq_of_beq h) (by omega)) (fun _ => ?_)
        conv => whnf
        refine ⟨_, hA, ?_⟩
        conv => whnf
        refine ⟨⟨by show 0 + i ≤ _; omega, by show (i + 1) * 8 ≤ 140737488355328; omega, Nat.le_of_ble_eq_true rfl⟩, ?_⟩
        conv => whnf
        refine ⟨i + 1, [(344, 792)], (by show pr s - (i + 1) < pr s - i; omega), hlt, ⟨⟨rfl, rfl⟩, ⟨rfl, rfl⟩, ⟨rfl, rfl⟩, ⟨rfl, rfl⟩, ⟨rfl, rfl⟩, ⟨rfl, rfl⟩, ⟨rfl, rfl⟩, ⟨rfl, rfl⟩, ⟨rfl, rfl⟩, ⟨rfl, rfl⟩, ⟨rfl, rfl⟩, ⟨rfl, rfl⟩, ⟨valI eI, rfl⟩, trivial⟩, ⟨⟨rfl, .inr ⟨rfl, rfl⟩⟩, ⟨rfl, .inr ⟨rfl, rfl⟩⟩, ⟨rfl, .inr ⟨rfl, rfl⟩⟩, ⟨rfl, .inl ⟨celE ?_, irows_noid _ _⟩⟩, trivial⟩, rfl⟩
        rw [← hsn]
        show List.take i (List.drop 0 (irows .i64 (Y.take i))) ++ [[.val (.int .i64 (IntKind.i64.wrap (IntKind.i64.wrap (((ta.length + na.length : Nat) : Int) + IntKind.i64.wrap (IntKind.i64.wrap (IntKind.i64.wrap (IntKind.i64.wrap (IntKind.i64.wrap ((IntKind.i64.wrap (((i : Int)).tdiv (pr v : Int))).tdiv (IntKind.i64.wrap ((n : Int) + (m : Int)))) * (m : Int)) + (IntKind.i64.wrap (((i : Int)).tdiv (pr v : Int))).tmod (IntKind.i64.wrap ((n : Int) + (m : Int)))) - (n : Int)) * (pr v : Int))) + ((i : Int)).tmod (pr v : Int))))]] = _
        rw [htk, P2]
      · rw [if_pos rfl] at hsn
        conv => whnf
        first
          | refine caseb (fun _ => ?_) (fun h => absurd (of_decide_eq_false h) (by omega))
          | refine caseb (fun h => absurd (of_decide_eq_true h) (by omega)) (fun _ => ?_)
          | refine caseb (fun _ => ?_) (fun h => absurd (beq_eq_false_iff_ne.1 h) (by omega))
          | refine caseb (fun h => absurd (eq_of_beq h) (by omega)) (fun _ => ?_)
        conv => whnf
        refine ⟨by omega, ?_⟩
        conv => whnf
        refine ⟨by omega, ?_⟩
        conv => whnf
        refine ⟨by rw [eS]; omega, ?_⟩
        conv => whnf
        refine ⟨by omega, ?_⟩
        conv => whnf
        refine ⟨by rw [eS]; omega, ?_⟩
        conv => whnf
        first
          | refine caseb (fun _ => ?_) (fun h => absurd (of_decide_eq_false h) (by omega))
          | refine caseb (fun h => absurd (of_decide_eq_true h) (by omega)) (fun _ => ?_)
          | refine caseb (fun _ => ?_) (fun h => absurd (beq_eq_false_iff_ne.1 h) (by omega))
          | refine caseb (fun h => absurd (eq_of_beq h) (by omega)) (fun _ => ?_)
        conv => whnf
        first
          | refine caseb (fun _ => ?_) (fun h => absurd (of_decide_eq_false h) (by omega))
          | refine caseb (fun h => absurd (of_decide_eq_true h) (by omega)) (fun _ => ?_)
          | refine caseb (fun _ => ?_) (fun h => absurd (beq_eq_false_iff_ne.1 h) (by omega))
          | refine caseb (fun h => absurd (eq_of_beq h) (by omega)) (fun _ => ?_)
        conv => whnf
        refine ⟨_, hA, ?_⟩
        conv => whnf
        refine ⟨⟨by show 0 + i ≤ _; omega, by show (i + 1) * 8 ≤ 140737488355328; omega, Nat.le_of_ble_eq_true rfl⟩, ?_⟩
        conv => whnf
        refine ⟨i + 1, [(344, 696)], (by show pr s - (i + 1) < pr s - i; omega), hlt, ⟨⟨rfl, rfl⟩, ⟨rfl, rfl⟩, ⟨rfl, rfl⟩, ⟨rfl, rfl⟩, ⟨rfl, rfl⟩, ⟨rfl, rfl⟩, ⟨rfl, rfl⟩, ⟨rfl, rfl⟩, ⟨rfl, rfl⟩, ⟨rfl, rfl⟩, ⟨rfl, rfl⟩, ⟨rfl, rfl⟩, ⟨valI eI, rfl⟩, trivial⟩, ⟨⟨rfl, .inr ⟨rfl, rfl⟩⟩, ⟨rfl, .inr ⟨rfl, rfl⟩⟩, ⟨rfl, .inr ⟨rfl, rfl⟩⟩, ⟨rfl, .inl ⟨celE ?_, irows_noid _ _⟩⟩, trivial⟩, rfl⟩
        rw [← hsn]
        show List.take i (List.drop 0 (irows .i64 (Y.take i))) ++ [[.val (.int .i64 (((ta.length + na.length : Nat) : Int)))]] = _
        rw [htk]
  · have hie : i = pr s := by omega
    have e1 : Y.take i = Y := List.take_of_length_le (by omega)
    rw [e1] at lr ⊢
    subst hie
    conv => whnf
    first
      | refine caseb (fun _ => ?_) (fun h => absurd (of_decide_eq_false h) (by omega))
      | refine caseb (fun h => absurd (of_decide_eq_true h) (by omega)) (fun _ => ?_)
      | refine caseb (fun _ => ?_) (fun h => absurd (beq_eq_false_iff_ne.1 h) (by omega))
      | refine caseb (fun h => absurd (eq_of_beq h) (by omega)) (fun _ => ?_)
    conv => whnf
    refine ⟨_, hB, ?_⟩
    conv => whnf
    refine ⟨by show 0 + pr s ≤ _; omega, _, hP, ?_⟩
    repeat
      conv => whnf
      first
        | refine ⟨_, by assumption, ?_⟩
        | refine ⟨(Nat.le_of_ble_eq_true rfl), _, by assumption, ?_⟩
        | refine ⟨by kernel_rfl, ?_⟩
        | exact rfl
        | exact ⟨Nat.le_of_ble_eq_true rfl, rfl⟩
        | refine ⟨by decide, ?_⟩
end
end Go.Proofs.YtliiekhmpgopnaaGreat

/- Arrays: one made ready to be laid along an axis (the document's contract). -/
set_option linter.unusedVariables false
namespace Go.Proofs.YtliiekhmpgopnaaGreat
open Go Go.AL NM

end Go.Proofs.YtliiekhmpgopnaaGreat

/- Arrays laid side by side (the document's contract). -/
set_option linter.unusedVariables false
namespace Go.Proofs.YtliiekhmpgopnaaGreat
open Go Go.AL NM

theorem atJ_small (n m I la : Nat) (one two : Bool) (i : Nat) (hI : 0 < I) (hL : 0 < n + m) : 0 ≤ atJ n m I la one two i ∧ atJ n m I la one two i ≤ (la : Int) + (i : Int) := by
  unfold atJ
  obtain ⟨q, hq⟩ : ∃ q, q = i / I := ⟨_, rfl⟩
  obtain ⟨K, hK⟩ : ∃ K, K = q % (n + m) := ⟨_, rfl⟩
  obtain ⟨o, ho⟩ : ∃ o, o = q / (n + m) := ⟨_, rfl⟩
  obtain ⟨j, hj⟩ : ∃ j, j = i % I := ⟨_, rfl⟩
  have q1 : q * I + j = i := by rw [hq, hj, Nat.mul_comm]; exact Nat.div_add_mod i I
  have q2 : o * (n + m) + K = q := by rw [ho, hK, Nat.mul_comm]; exact Nat.div_add_mod q (n + m)
  rw [Nat.mul_add] at q2
  rw [← hq, ← hK, ← ho, ← hj]
  by_cases hKn : K < n
  · rw [if_pos hKn]
    cases one
    · rw [if_neg Bool.false_ne_true]
      have : (o * n + K) * I ≤ q * I := Nat.mul_le_mul_right _ (by omega)
      omega
    · rw [if_pos rfl]; omega
  · rw [if_neg hKn]
    cases two
    · rw [if_neg Bool.false_ne_true]
      have : (o * m + (K - n)) * I ≤ q * I := Nat.mul_le_mul_right _ (by omega)
      omega
    · rw [if_pos rfl]; omega
section
variable (c : Bool) (sa sb ta tb : List Int) (qa qb : List Rat) (u v : List Int) (n m : Nat)
theorem Rlaid_bad (hn : vS (u ++ (n : Int) :: v)) (hm : vS (u ++ (m : Int) :: v)) (hs : ¬ vS (u ++ ((n + m : Nat) : Int) :: v)) :
    AC Tryz.prog 39 [PA sa c ta qa, PA sb c tb qb, .sl 1 (irows .i64 (u ++ (n : Int) :: v)) false, .sl 1 (irows .i64 (u ++ (m : Int) :: v)) false, .val (.int .i64 (u.length : Int))] (.pure (.tup [PA [] false [] [], .val (.int .i64 26)])) := by
  have l8 := hn.1
  rw [List.length_append, List.length_cons] at l8
  have d1 := vS_dim hn (List.mem_append_right _ List.mem_cons_self)
  have d2 := vS_dim hm (List.mem_append_right _ List.mem_cons_self)
  have eS : IntKind.i64.wrap ((n : Int) + (m : Int)) = ((n + m : Nat) : Int) := by rw [← Int.natCast_add, wrap_nat _ (by omega)]
  have hW := RWith_ok (u ++ (n : Int) :: v) u.length (IntKind.i64.wrap ((n : Int) + (m : Int))) (by rw [List.length_append, List.length_cons]; omega) (by rw [List.length_append, List.length_cons]; omega)
  rw [set_mid', eS, ← eS] at hW
  have hC := RCount_ok (u ++ ((n + m : Nat) : Int) :: v) (by rw [List.length_append, List.length_cons]; omega)
  rw [CNT_bad hs] at hC
  rw [← eS] at hC
  have g1 := irows_mid u v (n : Int)
  have g2 := irows_mid u v (m : Int)
  have lx := irows_len .i64 (u ++ (n : Int) :: v)
  have ly := irows_len .i64 (u ++ (m : Int) :: v)
  rw [List.length_append, List.length_cons] at lx ly
  refine AC.le_res (?_ : AC Tryz.prog 39 _ (.pure (.tup [PZ, .val (.int .i64 26)]))) (.tup2 PZ_le (.refl _)) (.tup _ (noid2 (PA_noid _ _ _ _) (.val _)))
  refine AC.of_body TTok Tryz.func39 rfl (enter_of Tryz.func39 (by kernel_rfl) (by kernel_rfl)) (noid5 (PA_noid _ _ _ _) (PA_noid _ _ _ _) (noid_sl _ _ _) (noid_sl _ _ _) (.val _)) (.tup _ (noid2 PZ_noid (.val _))) (Nat.le_of_ble_eq_true rfl) ?_
  unfold PA PZ
  conv => whnf
  refine ⟨_, ⟨by omega, by rw [Int.toNat_natCast]; exact g1⟩, ?_⟩
  conv => whnf
  refine ⟨_, ⟨by omega, by rw [Int.toNat_natCast]; exact g2⟩, ?_⟩
  conv => whnf
  refine ⟨_, hW, ?_⟩
  conv => whnf
  refine ⟨by kernel_rfl, ?_⟩
  conv => whnf
  refine ⟨_, hC, ?_⟩
  repeat
    conv => whnf
    first
      | refine ⟨_, by assumption, ?_⟩
      | refine ⟨(Nat.le_of_ble_eq_true rfl), _, by assumption, ?_⟩
      | refine ⟨by kernel_rfl, ?_⟩
      | exact rfl
      | exact ⟨Nat.le_of_ble_eq_true rfl, rfl⟩
      | refine ⟨by decide, ?_⟩
theorem Rlaid_good (T : List Int) (N : List Rat) (hn : vS (u ++ (n : Int) :: v)) (hm : vS (u ++ (m : Int) :: v)) (hs : vS (u ++ ((n + m : Nat) : Int) :: v)) (la8 : sa.length ≤ 8) (lb8 : sb.length ≤ 8)
    (h1 : ta.length + qa.length ≤ 100000)
    (hB : AC Tryz.prog 84 [PA sa c ta qa, PA sb c tb qb] (.pure (PA [] c (ta ++ tb) (qa ++ qb))))
    (hP : AC Tryz.prog 83 [PA [] c (ta ++ tb) (qa ++ qb), .sl 1 (irows .i64 (u ++ ((n + m : Nat) : Int) :: v)) false, .sl 1 (irows .i64 ((List.range (pr (u ++ ((n + m : Nat) : Int) :: v))).map (atJ n m (pr v) (ta.length + qa.length) (decide (sa = [])) (decide (sb = []))))) false] (.pure (PA (u ++ ((n + m : Nat) : Int) :: v) c T N))) :
    AC Tryz.prog 39 [PA sa c ta qa, PA sb c tb qb, .sl 1 (irows .i64 (u ++ (n : Int) :: v)) false, .sl 1 (irows .i64 (u ++ (m : Int) :: v)) false, .val (.int .i64 (u.length : Int))] (.pure (.tup [PA (u ++ ((n + m : Nat) : Int) :: v) c T N, .val (.int .i64 0)])) := by
  have l8 := hn.1
  rw [List.length_append, List.length_cons] at l8
  have d1 := vS_dim hn (List.mem_append_right _ List.mem_cons_self)
  have d2 := vS_dim hm (List.mem_append_right _ List.mem_cons_self)
  have eS : IntKind.i64.wrap ((n : Int) + (m : Int)) = ((n + m : Nat) : Int) := by rw [← Int.natCast_add, wrap_nat _ (by omega)]
  have hdoc := doc_at u v n m (ta.length + qa.length) (decide (sa = [])) (decide (sb = []))
  obtain ⟨x, hx⟩ : ∃ x, x = u ++ (n : Int) :: v := ⟨_, rfl⟩
  obtain ⟨y, hy⟩ : ∃ y, y = u ++ (m : Int) :: v := ⟨_, rfl⟩
  obtain ⟨s, hsd⟩ : ∃ s, s = u ++ ((n + m : Nat) : Int) :: v := ⟨_, rfl⟩
  have hpr : pr s = pr u * ((n + m) * pr v) := by rw [hsd, pr_append]; show pr u * ((((n + m : Nat) : Int)).toNat * pr v) = _; rw [Int.toNat_natCast]
  have lsl : s.length = u.length + (v.length + 1) := by rw [hsd, List.length_append, List.length_cons]
  have lxl : x.length = u.length + (v.length + 1) := by rw [hx, List.length_append, List.length_cons]
  have lyl : y.length = u.length + (v.length + 1) := by rw [hy, List.length_append, List.length_cons]
  have hW := RWith_ok (u ++ (n : Int) :: v) u.length (IntKind.i64.wrap ((n : Int) + (m : Int))) (by rw [List.length_append, List.length_cons]; omega) (by rw [List.length_append, List.length_cons]; omega)
  rw [set_mid', eS, ← hsd, ← eS] at hW
  have g1 := irows_mid u v (n : Int)
  have g2 := irows_mid u v (m : Int)
  rw [← hx] at hn hdoc hW g1 ⊢
  rw [← hy] at hm hdoc g2 ⊢
  rw [← hsd] at hs hP hdoc ⊢
  have hC := RCount_ok s (by omega)
  rw [CNT_good hs, (vS_pr hs).1] at hC
  have p4 := (vS_pr hs).2
  have hAl := All_ok s hs
  have lx := irows_len .i64 x
  have ly := irows_len .i64 y
  have lW : (lrows (allS s)).length = pr s := by rw [lrows_len, allS_len]
  obtain ⟨Y, hY⟩ : ∃ Y, Y = (List.range (pr s)).map (atJ n m (pr v) (ta.length + qa.length) (decide (sa = [])) (decide (sb = []))) := ⟨_, rfl⟩
  have lY : Y.length = pr s := by rw [hY, List.length_map, List.length_range]
  have hYi : ∀ i (h : i < pr s), Y[i]'(by omega) = atJ n m (pr v) (ta.length + qa.length) (decide (sa = [])) (decide (sb = [])) i := fun i h => by subst hY; rw [List.getElem_map, List.getElem_range]
  rw [← hY] at hP
  have lYr := irows_len .i64 Y
  have eP : irows .i64 Y = List.take (pr s) (List.drop 0 (irows .i64 Y)) := by rw [List.drop_zero, List.take_of_length_le (by omega)]
  rw [eP] at hP
  have hL := RLen_ok sa c ta qa (by omega) (by omega)
  have hPa := fun (D : List Int) (hD : D.length = s.length) => place_ok sa c ta qa x D hn (by omega) (by omega)
  have hPb := fun (D : List Int) (hD : D.length = s.length) => place_ok sb c tb qb y D hm (by omega) (by omega)
  refine AC.of_body TTok Tryz.func39 rfl (enter_of Tryz.func39 (by kernel_rfl) (by kernel_rfl)) (noid5 (PA_noid _ _ _ _) (PA_noid _ _ _ _) (noid_sl _ _ _) (noid_sl _ _ _) (.val _)) (.tup _ (noid2 (PA_noid _ _ _ _) (.val _))) (Nat.le_of_ble_eq_true rfl) ?_
  unfold PA at *
  conv => whnf
  refine ⟨_, ⟨by omega, by rw [Int.toNat_natCast]; exact g1⟩, ?_⟩
  conv => whnf
  refine ⟨_, ⟨by omega, by rw [Int.toNat_natCast]; exact g2⟩, ?_⟩
  conv => whnf
  refine ⟨_, hW, ?_⟩
  conv => whnf
  refine ⟨by kernel_rfl, ?_⟩
  conv => whnf
  refine ⟨_, hC, ?_⟩
  conv => whnf
  refine ⟨_, hAl, ?_⟩
  conv => whnf
  refine SW.nil 16 1 rfl ?_
  refine SW.loopM TTok (fun i : Nat => [(2, .sl 1 (irows .i64 x) false), (3, .sl 1 (irows .i64 y) false), (4, .val (.int .i64 (u.length : Int))), (5, .lp 0 0), (6, .lp 8 0), (10, .lp 16 0), (11, .val (.int .i64 0)), (12, .sl 1 (irows .i64 s) false), (15, .sl 1 (lrows (allS s)) false), (16, .own 248 0 i), (17, .val (.int .i64 (i : Int)))])
    (fun i => [(0, .cells 4 [[.sl 1 (irows .i64 sa) false, .val (.bool c), .sl 1 (irows .i32 ta) false, .sl 3 (qa.map rowN) false]]), (8, .cells 4 [[.sl 1 (irows .i64 sb) false, .val (.bool c), .sl 1 (irows .i32 tb) false, .sl 3 (qb.map rowN) false]]), (16, .cells 4 [[.sl 0 [] true, .val (.bool false), .sl 0 [] true, .sl 0 [] true]]), (248, .cells 1 (irows .i64 (Y.take i)))]) 256 97 rfl (fun i => pr s - i) (fun i => i ≤ pr s) 0 [] (Nat.zero_le _)
    ⟨⟨rfl, rfl⟩, ⟨rfl, rfl⟩, ⟨rfl, rfl⟩, ⟨rfl, rfl⟩, ⟨rfl, rfl⟩, ⟨rfl, rfl⟩, ⟨rfl, rfl⟩, ⟨rfl, rfl⟩, ⟨rfl, rfl⟩, ⟨rfl, rfl⟩, ⟨rfl, rfl⟩, trivial⟩ ⟨⟨rfl, .inr ⟨rfl, rfl⟩⟩, ⟨rfl, .inr ⟨rfl, rfl⟩⟩, ⟨rfl, .inr ⟨rfl, rfl⟩⟩, ⟨rfl, .inr ⟨rfl, rfl⟩⟩, trivial⟩ rfl ?_
  intro i hJ
  have hi : i ≤ pr s := hJ
  clear hJ
  have lr : (irows .i64 (Y.take i)).length = i := by rw [irows_len, List.length_take]; omega
  by_cases hlt : i < pr s
  · have eI : IntKind.i64.wrap ((i : Int) + 1) = ((i + 1 : Nat) : Int) := by rw [IntWalk.i64_in _ (by omega)]; omega
    have hv0 : 0 < pr v := Nat.pos_of_ne_zero fun e => by rw [hpr, e] at hlt; omega
    have hL0 : 0 < n + m := Nat.pos_of_ne_zero fun e => by rw [hpr, e] at hlt; omega
    have hsn : irows .i64 (Y.take i) ++ [[.val (.int .i64 (atJ n m (pr v) (ta.length + qa.length) (decide (sa = [])) (decide (sb = [])) i))]] = irows .i64 (Y.take (i + 1)) := by
      rw [take_snoc (show i < Y.length by omega), hYi i hlt, ← irows_append]; rfl
    have htk : List.take i (List.drop 0 (irows .i64 (Y.take i))) = irows .i64 (Y.take i) := by rw [List.drop_zero, List.take_of_length_le (by omega)]
    obtain ⟨z1, z2⟩ := atJ_small n m (pr v) (ta.length + qa.length) (decide (sa = [])) (decide (sb = [])) i hv0 hL0
    have hd := hdoc i hlt
    have hgW : (lrows (allS s))[i]? = some [.sl 1 (irows .i64 (dig s i)) false] := by unfold lrows; rw [List.getElem?_map, allS_get s i hlt]; rfl
    have lD := dig_len s i
    obtain ⟨a, ha⟩ : ∃ a, a = atJ n m (pr v) (ta.length + qa.length) (decide (sa = [])) (decide (sb = [])) i := ⟨_, rfl⟩
    rw [← ha] at hd z1 z2 hsn
    obtain ⟨D, hD⟩ : ∃ D, D = dig s i := ⟨_, rfl⟩
    rw [← hD] at hd hgW lD
    have hPa := hPa D lD
    have hkD : u.length < D.length := by omega
    have hgD : (irows .i64 D)[u.length]? = some [.val (.int .i64 D[u.length])] := irows_get .i64 D (List.getElem?_eq_getElem hkD)
    unfold docJ at hd
    rw [getD_at hkD] at hd
    obtain ⟨kk, hkk⟩ : ∃ kk, kk = D[u.length] := ⟨_, rfl⟩
    rw [← hkk] at hd hgD
    have lnD := irows_len .i64 D
    have eD : List.take (0 + (irows .i64 D).length) (List.drop 0 (List.take 0 (List.drop 0 ([] : List (List AV))) ++ irows .i64 D)) = irows .i64 D := by simp
    simp only [decide_eq_true_eq] at hd
    have hkn : kk = ((i / pr v % (n + m) : Nat) : Int) := by
      obtain ⟨e1, _⟩ := pl_axis u v ((n + m : Nat) : Int) ((i / pr v % (n + m) : Nat) + 1 : Int) (i / pr v % (n + m)) (by omega) i (by rw [← hsd]; exact hlt)
      rw [Int.toNat_natCast, ← hsd, ← hD] at e1
      have lu : (dig u (i / pr v / (n + m))).length = u.length := dig_len _ _
      rw [hkk, ← getD_at hkD, e1, ← lu, getD_mid]
    have hk0 : i / pr v % (n + m) < n + m := Nat.mod_lt _ hL0
    by_cases hlt2 : kk < (n : Int)
    · rw [if_pos hlt2] at hd
      rw [hd, ← eD] at hPa
      conv => whnf
      first
        | refine caseb (fun _ => ?_) (fun h => absurd (of_decide_eq_false h) (by omega))
        | refine caseb (fun h => absurd (of_decide_eq_true h) (by omega)) (fun _ => ?_)
        | refine caseb (fun _ => ?_) (fun h => absurd (beq_eq_false_iff_ne.1 h) (by omega))
        | refine caseb (fun h => absurd (eq_of_beq h) (by omega)) (fun _ => ?_)
      conv => whnf
      refine ⟨_, ⟨by omega, by rw [Int.toNat_natCast]; exact hgW⟩, ?_⟩
      conv => whnf
      refine ⟨⟨Nat.le_refl _, by show (0 + (irows .i64 D).length) * 8 ≤ 140737488355328; omega⟩, ?_⟩
      conv => whnf
      refine ⟨by omega, ?_⟩
      conv => whnf
      refine ⟨_, by rw [Nat.zero_add, Int.toNat_natCast]; exact hgD, ?_⟩
      conv => whnf
      refine ⟨_, ⟨by omega, by rw [Int.toNat_natCast]; exact g1⟩, ?_⟩
      conv => whnf
      refine ⟨by kernel_rfl, ?_⟩
      conv => whnf
      first
        | refine caseb (fun _ => ?_) (fun h => absurd (of_decide_eq_false h) (by omega))
        | refine caseb (fun h => absurd (of_decide_eq_true h) (by omega)) (fun _ => ?_)
        | refine caseb (fun _ => ?_) (fun h => absurd (beq_eq_false_iff_ne.1 h) (by omega))
        | refine caseb (fun h => absurd (eq_of_beq h) (by omega)) (fun _ => ?_)
      conv => whnf
      refine ⟨by show 0 + (0 + (irows .i64 D).length) ≤ (List.take 0 (List.drop 0 ([] : List (List AV))) ++ irows .i64 D).length; simp, _, hPa, ?_⟩
      conv => whnf
      refine ⟨⟨by show 0 + i ≤ _; omega, by show (i + 1) * 8 ≤ 140737488355328; omega, Nat.le_of_ble_eq_true rfl⟩, ?_⟩
      conv => whnf
      refine ⟨i + 1, [(248, 464)], (by show pr s - (i + 1) < pr s - i; omega), hlt, ⟨⟨rfl, rfl⟩, ⟨rfl, rfl⟩, ⟨rfl, rfl⟩, ⟨rfl, rfl⟩, ⟨rfl, rfl⟩, ⟨rfl, rfl⟩, ⟨rfl, rfl⟩, ⟨rfl, rfl⟩, ⟨rfl, rfl⟩, ⟨rfl, rfl⟩, ⟨valI eI, rfl⟩, trivial⟩, ⟨⟨rfl, .inr ⟨rfl, rfl⟩⟩, ⟨rfl, .inr ⟨rfl, rfl⟩⟩, ⟨rfl, .inr ⟨rfl, rfl⟩⟩, ⟨rfl, .inl ⟨celE ?_, irows_noid _ _⟩⟩, trivial⟩, rfl⟩
      rw [← hsn]
      show List.take i (List.drop 0 (irows .i64 (Y.take i))) ++ [[.val (.int .i64 (a))]] = _
      rw [htk]
    · rw [if_neg hlt2] at hd
      have eK : IntKind.i64.wrap (kk - (n : Int)) = kk - (n : Int) := IntWalk.i64_in _ (by omega)
      have eD2 : List.take (0 + (irows .i64 D).length) (List.drop 0 ((List.take 0 (List.drop 0 ([] : List (List AV))) ++ irows .i64 D).set (0 + ((u.length : Nat) : Int).toNat) [.val (.int .i64 (IntKind.i64.wrap (kk - (n : Int))))])) = irows .i64 (D.set u.length (kk - (n : Int))) := by
        rw [eK, Nat.zero_add, Nat.zero_add, Int.toNat_natCast, List.drop_zero, List.take_zero, List.nil_append, irows_set, List.take_of_length_le (by rw [irows_len, irows_len, List.length_set]; exact Nat.le_refl _)]
      have hPb := hPb (D.set u.length (kk - (n : Int))) (by rw [List.length_set]; omega)
      obtain ⟨P, hPd⟩ : ∃ P, P = if sb = [] then 0 else plS 0 y (D.set u.length (kk - (n : Int))) := ⟨_, rfl⟩
      rw [← hPd, ← eD2] at hPb
      rw [← hPd] at hd
      have eW : IntKind.i64.wrap (((ta.length + qa.length : Nat) : Int) + P) = a := by rw [hd]; exact IntWalk.i64_in _ (by omega)
      conv => whnf
      first
        | refine caseb (fun _ => ?_) (fun h => absurd (of_decide_eq_false h) (by omega))
        | refine caseb (fun h => absurd (of_decide_eq_true h) (by omega)) (fun _ => ?_)
        | refine caseb (fun _ => ?_) (fun h => absurd (beq_eq_false_iff_ne.1 h) (by omega))
        | refine caseb (fun h => absurd (eq_of_beq h) (by omega)) (fun _ => ?_)
      conv => whnf
      refine ⟨_, ⟨by omega, by rw [Int.toNat_natCast]; exact hgW⟩, ?_⟩
      conv => whnf
      refine ⟨⟨Nat.le_refl _, by show (0 + (irows .i64 D).length) * 8 ≤ 140737488355328; omega⟩, ?_⟩
      conv => whnf
      refine ⟨by omega, ?_⟩
      conv => whnf
      refine ⟨_, by rw [Nat.zero_add, Int.toNat_natCast]; exact hgD, ?_⟩
      conv => whnf
      refine ⟨_, ⟨by omega, by rw [Int.toNat_natCast]; exact g1⟩, ?_⟩
      conv => whnf
      refine ⟨by kernel_rfl, ?_⟩
      conv => whnf
      first
        | refine caseb (fun _ => ?_) (fun h => absurd (of_decide_eq_false h) (by omega))
        | refine caseb (fun h => absurd (of_decide_eq_true h) (by omega)) (fun _ => ?_)
        | refine caseb (fun _ => ?_) (fun h => absurd (beq_eq_false_iff_ne.1 h) (by omega))
        | refine caseb (fun h => absurd (eq_of_beq h) (by omega)) (fun _ => ?_)
      conv => whnf
      refine ⟨by omega, ?_⟩
      conv => whnf
      refine ⟨_, by rw [Nat.zero_add, Int.toNat_natCast]; exact hgD, ?_⟩
      conv => whnf
      refine ⟨_, ⟨by omega, by rw [Int.toNat_natCast]; exact g1⟩, ?_⟩
      conv => whnf
      refine ⟨by omega, ?_⟩
      conv => whnf
      refine ⟨by rw [Nat.zero_add, Int.toNat_natCast]; show _ < (List.take 0 (List.drop 0 ([] : List (List AV))) ++ irows .i64 D).length; simp; omega, ?_⟩
      conv => whnf
      refine ⟨by kernel_rfl, ?_⟩
      conv => whnf
      refine ⟨_, hL, ?_⟩
      conv => whnf
      refine ⟨by show 0 + (0 + (irows .i64 D).length) ≤ ((List.take 0 (List.drop 0 ([] : List (List AV))) ++ irows .i64 D).set _ _).length; rw [List.length_set]; simp, _, hPb, ?_⟩
      conv => whnf
      refine ⟨⟨by show 0 + i ≤ _; omega, by show (i + 1) * 8 ≤ 140737488355328; omega, Nat.le_of_ble_eq_true rfl⟩, ?_⟩
      conv => whnf
      refine ⟨by kernel_rfl, ?_⟩
      conv => whnf
      refine ⟨i + 1, [(248, 592)], (by show pr s - (i + 1) < pr s - i; omega), hlt, ⟨⟨rfl, rfl⟩, ⟨rfl, rfl⟩, ⟨rfl, rfl⟩, ⟨rfl, rfl⟩, ⟨rfl, rfl⟩, ⟨rfl, rfl⟩, ⟨rfl, rfl⟩, ⟨rfl, rfl⟩, ⟨rfl, rfl⟩, ⟨rfl, rfl⟩, ⟨valI eI, rfl⟩, trivial⟩, ⟨⟨rfl, .inr ⟨rfl, rfl⟩⟩, ⟨rfl, .inr ⟨rfl, rfl⟩⟩, ⟨rfl, .inr ⟨rfl, rfl⟩⟩, ⟨rfl, .inl ⟨celE ?_, irows_noid _ _⟩⟩, trivial⟩, rfl⟩
      rw [← hsn]
      show List.take i (List.drop 0 (irows .i64 (Y.take i))) ++ [[.val (.int .i64 (IntKind.i64.wrap (((ta.length + qa.length : Nat) : Int) + P)))]] = _
      rw [htk, eW]
  · have hie : i = pr s := by omega
    have e1 : Y.take i = Y := List.take_of_length_le (by omega)
    rw [e1] at lr ⊢
    subst hie
    conv => whnf
    first
      | refine caseb (fun _ => ?_) (fun h => absurd (of_decide_eq_false h) (by omega))
      | refine caseb (fun h => absurd (of_decide_eq_true h) (by omega)) (fun _ => ?_)
      | refine caseb (fun _ => ?_) (fun h => absurd (beq_eq_false_iff_ne.1 h) (by omega))
      | refine caseb (fun h => absurd (eq_of_beq h) (by omega)) (fun _ => ?_)
    conv => whnf
    refine ⟨_, hB, ?_⟩
    conv => whnf
    refine ⟨by show 0 + pr s ≤ _; omega, _, hP, ?_⟩
    repeat
      conv => whnf
      first
        | refine ⟨_, by assumption, ?_⟩
        | refine ⟨(Nat.le_of_ble_eq_true rfl), _, by assumption, ?_⟩
        | refine ⟨by kernel_rfl, ?_⟩
        | exact rfl
        | exact ⟨Nat.le_of_ble_eq_true rfl, rfl⟩
        | refine ⟨by decide, ?_⟩
end
end Go.Proofs.YtliiekhmpgopnaaGreat

/- Arrays laid side by side: program and document alike (contracts). -/
set_option linter.unusedVariables false
namespace Go.Proofs.YtliiekhmpgopnaaGreat
open Go Go.AL NM

theorem two_mid {x y : List Int} {k : Nat} (hk : k < x.length) (hxy : y.length = x.length) (ht : y.take k = x.take k) (hd : y.drop (k + 1) = x.drop (k + 1)) (hx : vS x) (hy : vS y) :
    ∃ (u v : List Int) (n m : Nat), u.length = k ∧ x = u ++ (n : Int) :: v ∧ y = u ++ (m : Int) :: v := by
  refine ⟨x.take k, x.drop (k + 1), x[k].toNat, (y[k]'(by omega)).toNat, by rw [List.length_take]; omega, ?_, ?_⟩
  · rw [Int.toNat_of_nonneg (hx.2.1 _ (List.getElem_mem _))]; exact mid_split hk
  · rw [Int.toNat_of_nonneg (hy.2.1 _ (List.getElem_mem _)), ← ht, ← hd]; exact mid_split (by omega)
theorem laidJ_mid (c : Bool) (u v : List Int) (n m la : Nat) (one two : Bool) : laidJ c (u ++ (n : Int) :: v) (u ++ (m : Int) :: v) u.length la one two =
    if vS (u ++ ((n + m : Nat) : Int) :: v) then (0, c, u ++ ((n + m : Nat) : Int) :: v, (List.range (pr (u ++ ((n + m : Nat) : Int) :: v))).map (atJ n m (pr v) la one two)) else (26, false, [], []) := by
  have e1 : (u ++ (n : Int) :: v).drop (u.length + 1) = v := by rw [List.drop_append, List.drop_of_length_le (by omega), Nat.add_sub_cancel_left]; rfl
  unfold laidJ
  rw [getD_mid, getD_mid, set_mid', e1, Int.toNat_natCast, Int.toNat_natCast, ← Int.natCast_add]
theorem kinds_text {s : List Int} {a b : Nat} (h : kinds s true a b) : b = 0 := h.2
theorem kinds_nums {s : List Int} {a b : Nat} (h : kinds s false a b) : a = 0 := h.2
section
variable (c : Bool) (sa sb ta tb : List Int) (x y : List Int) (k : Nat)
theorem laidP_ok (na nb : List (Option (Rat × Nat))) (one two : Bool) (hk : k < x.length) (hxy : y.length = x.length) (ht : y.take k = x.take k) (hd : y.drop (k + 1) = x.drop (k + 1)) (hx : vS x) (hy : vS y)
    (ka : kinds sa c ta.length na.length) (kb : kinds sb c tb.length nb.length) (h1 : ta.length ≤ 1000) (h2 : tb.length ≤ 1000) (h3 : na.length ≤ 1000) (h4 : nb.length ≤ 1000) :
    AC Tryz.prog 35 [AA sa c ta na true, AA sb c tb nb true, .sl 1 (irows .i64 x) false, .sl 1 (irows .i64 y) false, .val (.bool one), .val (.bool two), .val (.int .i64 (k : Int))] (.pure (resJ (laidJ c x y k (ta.length + na.length) one two) ta tb na nb)) := by
  obtain ⟨u, v, n, m, rfl, rfl, rfl⟩ := two_mid hk hxy ht hd hx hy
  rw [laidJ_mid]
  by_cases hs : vS (u ++ ((n + m : Nat) : Int) :: v)
  · rw [if_pos hs]
    have hc : ∀ l : List Int, l.length = pr (u ++ ((n + m : Nat) : Int) :: v) → cntI (u ++ ((n + m : Nat) : Int) :: v) = (l.length : Int) := fun l hl => by rw [hl]; exact (vS_pr hs).1
    unfold resJ
    rw [if_pos rfl]
    cases c
    · have e1 : ta = [] := List.length_eq_zero_iff.1 (kinds_nums ka)
      have e2 : tb = [] := List.length_eq_zero_iff.1 (kinds_nums kb)
      subst e1 e2
      exact laid_good false sa sb [] [] na nb u v n m one two _ _ _ [] _ hx hy hs (by show 0 + _ ≤ _; omega) (both_nums sa sb na nb (by omega)) (PickN_ok _ _ _ _ _ hs (hc _ (by rw [List.length_map, List.length_range])) (by rw [List.length_append]; omega))
    · have e1 : na = [] := List.length_eq_zero_iff.1 (kinds_text ka)
      have e2 : nb = [] := List.length_eq_zero_iff.1 (kinds_text kb)
      subst e1 e2
      exact laid_good true sa sb ta tb [] [] u v n m one two _ _ _ _ [] hx hy hs (by show _ + 0 ≤ _; omega) (both_text sa sb ta tb [] [] (by omega) (by omega)) (PickT_ok _ _ _ _ _ hs (hc _ (by rw [List.length_map, List.length_range])) (by rw [List.length_append]; omega))
  · rw [if_neg hs]
    exact laid_bad c sa sb ta tb na nb u v n m one two hx hy hs
theorem laidR_ok (qa qb : List Rat) (hk : k < x.length) (hxy : y.length = x.length) (ht : y.take k = x.take k) (hd : y.drop (k + 1) = x.drop (k + 1)) (hx : vS x) (hy : vS y) (la8 : sa.length ≤ 8) (lb8 : sb.length ≤ 8)
    (ka : kinds sa c ta.length qa.length) (kb : kinds sb c tb.length qb.length) (h1 : ta.length ≤ 1000) (h2 : tb.length ≤ 1000) (h3 : qa.length ≤ 1000) (h4 : qb.length ≤ 1000) :
    AC Tryz.prog 39 [PA sa c ta qa, PA sb c tb qb, .sl 1 (irows .i64 x) false, .sl 1 (irows .i64 y) false, .val (.int .i64 (k : Int))] (.pure (docR (laidJ c x y k (ta.length + qa.length) (decide (sa = [])) (decide (sb = []))) ta tb qa qb)) := by
  obtain ⟨u, v, n, m, rfl, rfl, rfl⟩ := two_mid hk hxy ht hd hx hy
  rw [laidJ_mid]
  by_cases hs : vS (u ++ ((n + m : Nat) : Int) :: v)
  · rw [if_pos hs]
    have p4 := (vS_pr hs).2
    have hB := Rboth_ok sa sb ta tb qa qb c (by omega) (by omega) (by omega) (by omega)
    have hs8 := hs.1
    unfold docR
    rw [if_pos rfl]
    cases c
    · have e1 : ta = [] := List.length_eq_zero_iff.1 (kinds_nums ka)
      have e2 : tb = [] := List.length_eq_zero_iff.1 (kinds_nums kb)
      subst e1 e2
      exact Rlaid_good false sa sb [] [] qa qb u v n m [] _ hx hy hs la8 lb8 (by show 0 + _ ≤ _; omega) hB (RPickN_ok _ _ _ _ (by omega) (by rw [List.length_map, List.length_range]; omega) (by rw [List.length_append]; omega))
    · have e1 : qa = [] := List.length_eq_zero_iff.1 (kinds_text ka)
      have e2 : qb = [] := List.length_eq_zero_iff.1 (kinds_text kb)
      subst e1 e2
      exact Rlaid_good true sa sb ta tb [] [] u v n m _ [] hx hy hs la8 lb8 (by show _ + 0 ≤ _; omega) hB (RPickT_ok _ _ _ _ (by omega) (by rw [List.length_map, List.length_range]; omega) (by rw [List.length_append]; omega))
  · rw [if_neg hs]
    exact Rlaid_bad c sa sb ta tb qa qb u v n m hx hy hs
end
end Go.Proofs.YtliiekhmpgopnaaGreat

/- Arrays: one behind the other (the program's contract). -/
set_option linter.unusedVariables false
namespace Go.Proofs.YtliiekhmpgopnaaGreat
open Go Go.AL NM

theorem resJ_form (r : JR) (ta tb : List Int) (na nb : List (Option (Rat × Nat))) : ∃ s c t n z e, resJ r ta tb na nb = .tup [.agg [.sl 1 (irows .i64 s) false, .val (.bool c), .sl 1 (irows .i32 t) false, .sl 3 (List.map rowX n) false, .val (.bool z)], .val (.int .i64 e)] := by
  unfold resJ
  split
  · exact ⟨_, _, _, _, _, _, rfl⟩
  · exact ⟨_, _, _, _, _, _, rfl⟩
theorem docR_form (r : JR) (ta tb : List Int) (qa qb : List Rat) : ∃ s c t n e, docR r ta tb qa qb = .tup [.agg [.sl 1 (irows .i64 s) false, .val (.bool c), .sl 1 (irows .i32 t) false, .sl 3 (List.map rowN n) false], .val (.int .i64 e)] := by
  unfold docR
  split
  · exact ⟨_, _, _, _, _, rfl⟩
  · exact ⟨_, _, _, _, _, rfl⟩
theorem resJ_err {r : JR} {e : Int} (he : e ≠ 0) (hr : r = (e, false, [], [])) (ta tb : List Int) (na nb : List (Option (Rat × Nat))) : AVle (.tup [AZ, .val (.int .i64 e)]) (resJ r ta tb na nb) := by
  subst hr
  unfold resJ
  rw [if_neg he]
  exact .tup2 AZ_le (.refl _)
theorem docR_err {r : JR} {e : Int} (he : e ≠ 0) (hr : r = (e, false, [], [])) (ta tb : List Int) (qa qb : List Rat) : AVle (.tup [PZ, .val (.int .i64 e)]) (docR r ta tb qa qb) := by
  subst hr
  unfold docR
  rw [if_neg he]
  exact .tup2 PZ_le (.refl _)
theorem AZe_noid (e : Int) : NoId (.tup [AZ, .val (.int .i64 e)]) := .tup _ (noid2 AZ_noid (.val _))
theorem PZe_noid (e : Int) : NoId (.tup [PZ, .val (.int .i64 e)]) := .tup _ (noid2 PZ_noid (.val _))
theorem catS_cases (sa sb : List Int) : ∃ s1, (sa.length < sb.length → s1 = sb) ∧ (¬ sa.length < sb.length → s1 = sa) ∧ (s1 = [] → catS sa sb = [1]) ∧ (s1 ≠ [] → catS sa sb = s1) :=
  ⟨if sa.length < sb.length then sb else sa, fun h => if_pos h, fun h => if_neg h, fun h => if_pos h, fun h => if_neg h⟩
section
variable (ca cb : Bool) (sa sb ta tb : List Int) (axis : Int)
theorem Cat_ok (na nb : List (Option (Rat × Nat))) (va : vS sa) (vb : vS sb) (ka : kinds sa ca ta.length na.length) (kb : kinds sb cb tb.length nb.length) (h1 : ta.length ≤ 1000) (h2 : tb.length ≤ 1000) (h3 : na.length ≤ 1000) (h4 : nb.length ≤ 1000) :
    AC Tryz.prog 10 [AA sa ca ta na true, AA sb cb tb nb true, .val (.int .i64 axis)] (.pure (resJ (catJ ca cb (ta.length + na.length) (tb.length + nb.length) sa sb axis) ta tb na nb)) := by
  obtain ⟨q1, q2⟩ := alike_ok sa sb ta tb na nb ca cb va vb ka kb (by omega) (by omega) (by omega) (by omega)
  have nd := noid3 (AA_noid sa ca ta na true) (AA_noid sb cb tb nb true) (NoId.val (.int .i64 axis))
  cases hal : alikeC ca cb (ta.length + na.length) (tb.length + nb.length) with
  | none =>
    have q2 := q2 hal
    have e : catJ ca cb (ta.length + na.length) (tb.length + nb.length) sa sb axis = (22, false, [], []) := by unfold catJ; rw [hal]
    refine AC.le_res (?_ : AC Tryz.prog 10 _ (.pure (.tup [AZ, .val (.int .i64 22)]))) (resJ_err (by decide) e _ _ _ _) (resJ_noid _ _ _ _ _)
    refine AC.of_body TTok Tryz.func10 rfl (enter_of Tryz.func10 (by kernel_rfl) (by kernel_rfl)) nd (AZe_noid _) (Nat.le_of_ble_eq_true rfl) ?_
    unfold AA AZ at *
    repeat
      conv => whnf
      first
        | refine ⟨_, by assumption, ?_⟩
        | refine ⟨(Nat.le_of_ble_eq_true rfl), _, by assumption, ?_⟩
        | refine ⟨by kernel_rfl, ?_⟩
        | exact rfl
        | exact ⟨Nat.le_of_ble_eq_true rfl, rfl⟩
        | refine ⟨by decide, ?_⟩
  | some c =>
    have q1 := q1 c hal
    obtain ⟨kc, kd⟩ := alike_kinds hal ka kb
    obtain ⟨s1, y1, y2, y3, y4⟩ := catS_cases sa sb
    obtain ⟨vs, ls0⟩ := catS_ok va vb
    have ec : catJ ca cb (ta.length + na.length) (tb.length + nb.length) sa sb axis =
      if ((catS sa sb).length : Int) ≤ catK (catS sa sb) axis then (23, false, [], [])
      else if (fitJ sa (catS sa sb) (catK (catS sa sb) axis).toNat).2.2 ≠ 0 then ((fitJ sa (catS sa sb) (catK (catS sa sb) axis).toNat).2.2, false, [], [])
      else if (fitJ sb (catS sa sb) (catK (catS sa sb) axis).toNat).2.2 ≠ 0 then ((fitJ sb (catS sa sb) (catK (catS sa sb) axis).toNat).2.2, false, [], [])
      else laidJ c (fitJ sa (catS sa sb) (catK (catS sa sb) axis).toNat).1 (fitJ sb (catS sa sb) (catK (catS sa sb) axis).toNat).1 (catK (catS sa sb) axis).toNat (ta.length + na.length) (decide (sa = [])) (decide (sb = [])) := by unfold catJ; rw [hal]
    have hR := resJ_noid (catJ ca cb (ta.length + na.length) (tb.length + nb.length) sa sb axis) ta tb na nb
    generalize catJ ca cb (ta.length + na.length) (tb.length + nb.length) sa sb axis = R at *
    generalize catS sa sb = s at *
    have l8 := vs.1
    have ls := irows_len .i64 s
    obtain ⟨K, hK⟩ : ∃ K, K = catK s axis := ⟨_, rfl⟩
    have K0 : 0 ≤ K := by rw [hK]; unfold catK; split <;> omega
    obtain ⟨k, hk⟩ := Int.eq_ofNat_of_zero_le K0
    rw [← hK, hk, Int.toNat_natCast] at ec
    have hfa := fun h => fits_ok sa s k c ta na h vs va
    have hfb := fun h => fits_ok sb s k c tb nb h vs vb
    have gfa := fun h => fitJ_good (sh := sa) (s := s) (k := k) h vs va
    have gfb := fun h => fitJ_good (sh := sb) (s := s) (k := k) h vs vb
    generalize fitJ sa s k = fa at *
    generalize fitJ sb s k = fb at *
    obtain ⟨x, one, ex⟩ := fa
    obtain ⟨y, two, ey⟩ := fb
    have ec : R = if (s.length : Int) ≤ (k : Int) then (23, false, [], []) else if ex ≠ 0 then (ex, false, [], []) else if ey ≠ 0 then (ey, false, [], []) else laidJ c x y k (ta.length + na.length) (decide (sa = [])) (decide (sb = [])) := ec
    obtain ⟨r', hle, hno, r1, r2, r3, r4⟩ : ∃ r', AVle r' (resJ R ta tb na nb) ∧ NoId r' ∧ (s.length ≤ k → r' = .tup [AZ, .val (.int .i64 23)]) ∧ (k < s.length → ex ≠ 0 → r' = .tup [AZ, .val (.int .i64 ex)]) ∧ (k < s.length → ex = 0 → ey ≠ 0 → r' = .tup [AZ, .val (.int .i64 ey)]) ∧
        (k < s.length → ex = 0 → ey = 0 → r' = resJ (laidJ c x y k (ta.length + na.length) (decide (sa = [])) (decide (sb = []))) ta tb na nb) := by
      by_cases b1 : s.length ≤ k
      · rw [if_pos (by omega)] at ec
        exact ⟨_, resJ_err (by decide) ec _ _ _ _, AZe_noid _, fun _ => rfl, fun h => absurd h (by omega), fun h => absurd h (by omega), fun h => absurd h (by omega)⟩
      · rw [if_neg (by omega)] at ec
        by_cases b2 : ex ≠ 0
        · rw [if_pos b2] at ec
          exact ⟨_, resJ_err b2 ec _ _ _ _, AZe_noid _, fun h => absurd h b1, fun _ _ => rfl, fun _ h => absurd h b2, fun _ h => absurd h b2⟩
        · rw [if_neg b2] at ec
          by_cases b3 : ey ≠ 0
          · rw [if_pos b3] at ec
            exact ⟨_, resJ_err b3 ec _ _ _ _, AZe_noid _, fun h => absurd h b1, fun _ h => absurd h b2, fun _ _ _ => rfl, fun _ _ h => absurd h b3⟩
          · rw [if_neg b3] at ec
            subst ec
            exact ⟨_, .refl _, hR, fun h => absurd h b1, fun _ h => absurd h b2, fun _ _ h => absurd h b3, fun _ _ _ => rfl⟩
    refine AC.le_res (?_ : AC Tryz.prog 10 _ (.pure r')) hle hR
    have hS := Shape_ok sa c ta na (by have := va.1; omega)
    have hSb := Shape_ok sb c tb nb (by have := vb.1; omega)
    have hRb := Rank_ok sb c tb nb (by have := vb.1; omega)
    have lsa := irows_len .i64 sa
    have lsb := irows_len .i64 sb
    have ls1 := irows_len .i64 s1
    refine AC.of_sw TTok Tryz.func10 rfl (enter_of Tryz.func10 (by kernel_rfl) (by kernel_rfl)) nd hno (Nat.le_of_ble_eq_true rfl) ?_
    unfold AA AZ at *
    refine SW.seqA TTok ?_
    conv => whnf
    refine SW.seqA TTok ?_
    conv => whnf
    refine ⟨_, q1, ?_⟩
    conv => whnf
    refine SW.seqA TTok ?_
    conv => whnf
    refine SW.seqA TTok ?_
    conv => whnf
    refine ⟨_, hS, ?_⟩
    conv => whnf
    refine SW.cutM TTok (fun _ : Unit => [(2, .val (.int .i64 axis)), (3, .lp 0 0), (4, .lp 8 0), (6, .lp 16 0), (7, .val (.int .i64 0)), (9, .sl 1 (irows .i64 s1) false)]) (fun _ => [(0, .cells 5 [[.sl 1 (irows .i64 sa) false, .val (.bool c), .sl 1 (irows .i32 ta) false, .sl 3 (na.map rowX) false, .val (.bool true)]]), (8, .cells 5 [[.sl 1 (irows .i64 sb) false, .val (.bool c), .sl 1 (irows .i32 tb) false, .sl 3 (nb.map rowX) false, .val (.bool true)]]), (16, .cells 5 [[.sl 0 [] true, .val (.bool false), .sl 0 [] true, .sl 0 [] true, .val (.bool false)]])]) 24 82 rfl (fun _ => True) ?_ (fun _ _ => ?_)
    · by_cases h5 : sa.length < sb.length
      · rw [y1 h5]
        conv => whnf
        refine ⟨_, hRb, ?_⟩
        conv => whnf
        first
          | refine caseb (fun _ => ?_) (fun h => absurd (of_decide_eq_false h) (by omega))
          | refine caseb (fun h => absurd (of_decide_eq_true h) (by omega)) (fun _ => ?_)
          | refine caseb (fun _ => ?_) (fun h => absurd (beq_eq_false_iff_ne.1 h) (by omega))
          | refine caseb (fun h => absurd (eq_of_beq h) (by omega)) (fun _ => ?_)
        conv => whnf
        refine ⟨_, hSb, ?_⟩
        conv => whnf
        exact ⟨(), [], trivial, ⟨⟨rfl, rfl⟩, ⟨rfl, rfl⟩, ⟨rfl, rfl⟩, ⟨rfl, rfl⟩, ⟨rfl, rfl⟩, ⟨rfl, rfl⟩, trivial⟩, ⟨⟨rfl, .inr ⟨rfl, rfl⟩⟩, ⟨rfl, .inr ⟨rfl, rfl⟩⟩, ⟨rfl, .inr ⟨rfl, rfl⟩⟩, trivial⟩, rfl⟩
      · rw [y2 h5]
        conv => whnf
        refine ⟨_, hRb, ?_⟩
        conv => whnf
        first
          | refine caseb (fun _ => ?_) (fun h => absurd (of_decide_eq_false h) (by omega))
          | refine caseb (fun h => absurd (of_decide_eq_true h) (by omega)) (fun _ => ?_)
          | refine caseb (fun _ => ?_) (fun h => absurd (beq_eq_false_iff_ne.1 h) (by omega))
          | refine caseb (fun h => absurd (eq_of_beq h) (by omega)) (fun _ => ?_)
        conv => whnf
        exact ⟨(), [], trivial, ⟨⟨rfl, rfl⟩, ⟨rfl, rfl⟩, ⟨rfl, rfl⟩, ⟨rfl, rfl⟩, ⟨rfl, rfl⟩, ⟨rfl, rfl⟩, trivial⟩, ⟨⟨rfl, .inr ⟨rfl, rfl⟩⟩, ⟨rfl, .inr ⟨rfl, rfl⟩⟩, ⟨rfl, .inr ⟨rfl, rfl⟩⟩, trivial⟩, rfl⟩
    refine SW.cutW TTok (fun _ : Unit => [(2, .val (.int .i64 axis)), (3, .lp 0 0), (4, .lp 8 0), (6, .lp 16 0), (7, .val (.int .i64 0)), (9, .sl 1 (irows .i64 s) false)]) (fun _ => [(0, .cells 5 [[.sl 1 (irows .i64 sa) false, .val (.bool c), .sl 1 (irows .i32 ta) false, .sl 3 (na.map rowX) false, .val (.bool true)]]), (8, .cells 5 [[.sl 1 (irows .i64 sb) false, .val (.bool c), .sl 1 (irows .i32 tb) false, .sl 3 (nb.map rowX) false, .val (.bool true)]]), (16, .cells 5 [[.sl 0 [] true, .val (.bool false), .sl 0 [] true, .sl 0 [] true, .val (.bool false)]])]) 24 82 rfl (fun _ => True) ?_ (fun _ _ => ?_)
    · by_cases h5 : s1 = []
      · rw [y3 h5]
        have : s1.length = 0 := by rw [h5]; rfl
        conv => whnf
        first
          | refine caseb (fun _ => ?_) (fun h => absurd (of_decide_eq_false h) (by omega))
          | refine caseb (fun h => absurd (of_decide_eq_true h) (by omega)) (fun _ => ?_)
          | refine caseb (fun _ => ?_) (fun h => absurd (beq_eq_false_iff_ne.1 h) (by omega))
          | refine caseb (fun h => absurd (eq_of_beq h) (by omega)) (fun _ => ?_)
        conv => whnf
        exact ⟨_, (), [], Wk.frz 9 48 0 1 1 rfl rfl (by decide) (Nat.le_refl _) (noid_sl .i64 [1] false), rfl, trivial, ⟨⟨rfl, rfl⟩, ⟨rfl, rfl⟩, ⟨rfl, rfl⟩, ⟨rfl, rfl⟩, ⟨rfl, rfl⟩, ⟨rfl, rfl⟩, trivial⟩, ⟨⟨rfl, .inr ⟨rfl, rfl⟩⟩, ⟨rfl, .inr ⟨rfl, rfl⟩⟩, ⟨rfl, .inr ⟨rfl, rfl⟩⟩, trivial⟩, rfl⟩
      · rw [y4 h5]
        have : s1.length ≠ 0 := fun h => h5 (List.length_eq_zero_iff.1 h)
        conv => whnf
        first
          | refine caseb (fun _ => ?_) (fun h => absurd (of_decide_eq_false h) (by omega))
          | refine caseb (fun h => absurd (of_decide_eq_true h) (by omega)) (fun _ => ?_)
          | refine caseb (fun _ => ?_) (fun h => absurd (beq_eq_false_iff_ne.1 h) (by omega))
          | refine caseb (fun h => absurd (eq_of_beq h) (by omega)) (fun _ => ?_)
        conv => whnf
        exact ⟨_, (), [], Wk.refl _, rfl, trivial, ⟨⟨rfl, rfl⟩, ⟨rfl, rfl⟩, ⟨rfl, rfl⟩, ⟨rfl, rfl⟩, ⟨rfl, rfl⟩, ⟨rfl, rfl⟩, trivial⟩, ⟨⟨rfl, .inr ⟨rfl, rfl⟩⟩, ⟨rfl, .inr ⟨rfl, rfl⟩⟩, ⟨rfl, .inr ⟨rfl, rfl⟩⟩, trivial⟩, rfl⟩
    refine SW.cutM TTok (fun _ : Unit => [(2, .val (.int .i64 (k : Int))), (3, .lp 0 0), (4, .lp 8 0), (6, .lp 16 0), (7, .val (.int .i64 0)), (9, .sl 1 (irows .i64 s) false)]) (fun _ => [(0, .cells 5 [[.sl 1 (irows .i64 sa) false, .val (.bool c), .sl 1 (irows .i32 ta) false, .sl 3 (na.map rowX) false, .val (.bool true)]]), (8, .cells 5 [[.sl 1 (irows .i64 sb) false, .val (.bool c), .sl 1 (irows .i32 tb) false, .sl 3 (nb.map rowX) false, .val (.bool true)]]), (16, .cells 5 [[.sl 0 [] true, .val (.bool false), .sl 0 [] true, .sl 0 [] true, .val (.bool false)]])]) 24 82 rfl (fun _ => True) ?_ (fun _ _ => ?_)
    · unfold catK at hK
      by_cases h5 : axis < 0
      · rw [if_pos h5] at hK
        have eK : IntKind.i64.wrap (((irows .i64 s).length : Int) - 1) = (k : Int) := by rw [IntWalk.i64_in _ (by omega)]; omega
        conv => whnf
        first
          | refine caseb (fun _ => ?_) (fun h => absurd (of_decide_eq_false h) (by omega))
          | refine caseb (fun h => absurd (of_decide_eq_true h) (by omega)) (fun _ => ?_)
          | refine caseb (fun _ => ?_) (fun h => absurd (beq_eq_false_iff_ne.1 h) (by omega))
          | refine caseb (fun h => absurd (eq_of_beq h) (by omega)) (fun _ => ?_)
        conv => whnf
        exact ⟨(), [], trivial, ⟨⟨valI eK, rfl⟩, ⟨rfl, rfl⟩, ⟨rfl, rfl⟩, ⟨rfl, rfl⟩, ⟨rfl, rfl⟩, ⟨rfl, rfl⟩, trivial⟩, ⟨⟨rfl, .inr ⟨rfl, rfl⟩⟩, ⟨rfl, .inr ⟨rfl, rfl⟩⟩, ⟨rfl, .inr ⟨rfl, rfl⟩⟩, trivial⟩, rfl⟩
      · rw [if_neg h5] at hK
        conv => whnf
        first
          | refine caseb (fun _ => ?_) (fun h => absurd (of_decide_eq_false h) (by omega))
          | refine caseb (fun h => absurd (of_decide_eq_true h) (by omega)) (fun _ => ?_)
          | refine caseb (fun _ => ?_) (fun h => absurd (beq_eq_false_iff_ne.1 h) (by omega))
          | refine caseb (fun h => absurd (eq_of_beq h) (by omega)) (fun _ => ?_)
        conv => whnf
        exact ⟨(), [], trivial, ⟨⟨valI (by omega), rfl⟩, ⟨rfl, rfl⟩, ⟨rfl, rfl⟩, ⟨rfl, rfl⟩, ⟨rfl, rfl⟩, ⟨rfl, rfl⟩, trivial⟩, ⟨⟨rfl, .inr ⟨rfl, rfl⟩⟩, ⟨rfl, .inr ⟨rfl, rfl⟩⟩, ⟨rfl, .inr ⟨rfl, rfl⟩⟩, trivial⟩, rfl⟩
    refine axp_sound TTok _ _ _ ?_
    by_cases b1 : s.length ≤ k
    · rw [r1 b1]
      conv => whnf
      first
        | refine caseb (fun _ => ?_) (fun h => absurd (of_decide_eq_false h) (by omega))
        | refine caseb (fun h => absurd (of_decide_eq_true h) (by omega)) (fun _ => ?_)
        | refine caseb (fun _ => ?_) (fun h => absurd (beq_eq_false_iff_ne.1 h) (by omega))
        | refine caseb (fun h => absurd (eq_of_beq h) (by omega)) (fun _ => ?_)
      repeat
        conv => whnf
        first
          | refine ⟨_, by assumption, ?_⟩
          | refine ⟨(Nat.le_of_ble_eq_true rfl), _, by assumption, ?_⟩
          | refine ⟨by kernel_rfl, ?_⟩
          | exact rfl
          | exact ⟨Nat.le_of_ble_eq_true rfl, rfl⟩
          | refine ⟨by decide, ?_⟩
    · have b1' : k < s.length := by omega
      have hfa := hfa b1'
      have hfb := hfb b1'
      by_cases b2 : ex = 0
      · by_cases b3 : ey = 0
        · have gfa := gfa b1' b2
          have gfb := gfb b1' b3
          subst b2 b3
          rw [r4 b1' rfl rfl]
          obtain ⟨g1, g2, g3, g4, g5⟩ := gfa
          obtain ⟨g6, g7, g8, g9, g10⟩ := gfb
          have g1 : x.length = s.length := g1
          have g2 : x.take k = s.take k := g2
          have g3 : x.drop (k + 1) = s.drop (k + 1) := g3
          have g4 : vS x := g4
          have g5 : one = decide (sa = []) := g5
          have g6 : y.length = s.length := g6
          have g7 : y.take k = s.take k := g7
          have g8 : y.drop (k + 1) = s.drop (k + 1) := g8
          have g9 : vS y := g9
          have g10 : two = decide (sb = []) := g10
          have hl := laidP_ok c sa sb ta tb x y k na nb one two (by omega) (by omega) (by rw [g2, g7]) (by rw [g3, g8]) g4 g9 kc kd h1 h2 h3 h4
          rw [g5, g10] at hl
          rw [g5] at hfa
          rw [g10] at hfb
          obtain ⟨fs, fc, ft, fn, fz, fe, hF⟩ := resJ_form (laidJ c x y k (ta.length + na.length) (decide (sa = [])) (decide (sb = []))) ta tb na nb
          rw [hF] at hl ⊢
          unfold AA at hl
          conv => whnf
          first
            | refine caseb (fun _ => ?_) (fun h => absurd (of_decide_eq_false h) (by omega))
            | refine caseb (fun h => absurd (of_decide_eq_true h) (by omega)) (fun _ => ?_)
            | refine caseb (fun _ => ?_) (fun h => absurd (beq_eq_false_iff_ne.1 h) (by omega))
            | refine caseb (fun h => absurd (eq_of_beq h) (by omega)) (fun _ => ?_)
          conv => whnf
          refine ⟨_, hfa, ?_⟩
          conv => whnf
          refine ⟨_, hfb, ?_⟩
          conv => whnf
          refine ⟨_, hl, ?_⟩
          repeat
            conv => whnf
            first
              | refine ⟨_, by assumption, ?_⟩
              | refine ⟨(Nat.le_of_ble_eq_true rfl), _, by assumption, ?_⟩
              | refine ⟨by kernel_rfl, ?_⟩
              | exact rfl
              | exact ⟨Nat.le_of_ble_eq_true rfl, rfl⟩
              | refine ⟨by decide, ?_⟩
        · rw [r3 b1' b2 b3]
          subst b2
          conv => whnf
          first
            | refine caseb (fun _ => ?_) (fun h => absurd (of_decide_eq_false h) (by omega))
            | refine caseb (fun h => absurd (of_decide_eq_true h) (by omega)) (fun _ => ?_)
            | refine caseb (fun _ => ?_) (fun h => absurd (beq_eq_false_iff_ne.1 h) (by omega))
            | refine caseb (fun h => absurd (eq_of_beq h) (by omega)) (fun _ => ?_)
          conv => whnf
          refine ⟨_, hfa, ?_⟩
          conv => whnf
          refine ⟨_, hfb, ?_⟩
          conv => whnf
          first
            | refine caseb (fun h => absurd (bne_iff_ne.1 h) (by omega)) (fun _ => ?_)
            | refine caseb (fun _ => ?_) (fun h => absurd (bne_eq_false_iff_eq.1 h) (by omega))
          repeat
            conv => whnf
            first
              | refine ⟨_, by assumption, ?_⟩
              | refine ⟨(Nat.le_of_ble_eq_true rfl), _, by assumption, ?_⟩
              | refine ⟨by kernel_rfl, ?_⟩
              | exact rfl
              | exact ⟨Nat.le_of_ble_eq_true rfl, rfl⟩
              | refine ⟨by decide, ?_⟩
      · rw [r2 b1' b2]
        conv => whnf
        first
          | refine caseb (fun _ => ?_) (fun h => absurd (of_decide_eq_false h) (by omega))
          | refine caseb (fun h => absurd (of_decide_eq_true h) (by omega)) (fun _ => ?_)
          | refine caseb (fun _ => ?_) (fun h => absurd (beq_eq_false_iff_ne.1 h) (by omega))
          | refine caseb (fun h => absurd (eq_of_beq h) (by omega)) (fun _ => ?_)
        conv => whnf
        refine ⟨_, hfa, ?_⟩
        conv => whnf
        first
          | refine caseb (fun h => absurd (bne_iff_ne.1 h) (by omega)) (fun _ => ?_)
          | refine caseb (fun _ => ?_) (fun h => absurd (bne_eq_false_iff_eq.1 h) (by omega))
        repeat
          conv => whnf
          first
            | refine ⟨_, by assumption, ?_⟩
            | refine ⟨(Nat.le_of_ble_eq_true rfl), _, by assumption, ?_⟩
            | refine ⟨by kernel_rfl, ?_⟩
            | exact rfl
            | exact ⟨Nat.le_of_ble_eq_true rfl, rfl⟩
            | refine ⟨by decide, ?_⟩
end
end Go.Proofs.YtliiekhmpgopnaaGreat

/- Arrays: one behind the other (the document's contract). -/
set_option linter.unusedVariables false
namespace Go.Proofs.YtliiekhmpgopnaaGreat
open Go Go.AL NM

section
variable (ca cb : Bool) (sa sb ta tb : List Int) (axis : Int)
end
end Go.Proofs.YtliiekhmpgopnaaGreat

/- Arrays: side by side along a new axis (the program's contract). -/
set_option linter.unusedVariables false
namespace Go.Proofs.YtliiekhmpgopnaaGreat
open Go Go.AL NM

theorem lamS_ok {sa sb : List Int} (va : vS sa) (vb : vS sb) : vS (lamS sa sb) := by unfold lamS; split <;> assumption
/-- The error of a lamination, ahead of the limit. -/
def lamE (s sb : List Int) (axis : Int) : Int :=
  if axis < 0 ∨ (s.length : Int) < axis ∨ s.length = 8 then 23 else if sb ≠ [] ∧ sb.length ≠ s.length then 23 else if sb ≠ [] ∧ sb ≠ s then 24 else 0
theorem lamJ_eq (ca cb c : Bool) (la lb : Nat) (sa sb : List Int) (axis : Int) (h : alikeC ca cb la lb = some c) : (lamE (lamS sa sb) sb axis ≠ 0 → lamJ ca cb la lb sa sb axis = (lamE (lamS sa sb) sb axis, false, [], [])) ∧
    (lamE (lamS sa sb) sb axis = 0 → lamJ ca cb la lb sa sb axis = laidJ c ((lamS sa sb).take axis.toNat ++ 1 :: (lamS sa sb).drop axis.toNat) ((lamS sa sb).take axis.toNat ++ 1 :: (lamS sa sb).drop axis.toNat) axis.toNat la (decide (sa = [])) (decide (sb = []))) := by
  unfold lamJ lamE
  rw [h]
  dsimp only
  generalize lamS sa sb = s
  by_cases a1 : axis < 0 ∨ (s.length : Int) < axis ∨ s.length = 8
  · rw [if_pos a1, if_pos a1]
    exact ⟨fun _ => rfl, fun h => absurd h (by decide)⟩
  · rw [if_neg a1, if_neg a1]
    by_cases a2 : sb ≠ [] ∧ sb.length ≠ s.length
    · rw [if_pos a2, if_pos a2]
      exact ⟨fun _ => rfl, fun h => absurd h (by decide)⟩
    · rw [if_neg a2, if_neg a2]
      by_cases a3 : sb ≠ [] ∧ sb ≠ s
      · rw [if_pos a3, if_pos a3]
        exact ⟨fun _ => rfl, fun h => absurd h (by decide)⟩
      · rw [if_neg a3, if_neg a3]
        exact ⟨fun h => absurd rfl h, fun _ => rfl⟩
theorem len_nil (s : List Int) : (((s.length : Nat) : Int) == 0) = decide (s = []) := by
  cases s with
  | nil => rfl
  | cons d s => rw [decide_eq_false (fun h => nomatch h)]; exact beq_eq_false_iff_ne.2 (by rw [List.length_cons]; omega)
section
variable (ca cb : Bool) (sa sb ta tb : List Int) (axis : Int)
theorem Lam_ok (na nb : List (Option (Rat × Nat))) (va : vS sa) (vb : vS sb) (ka : kinds sa ca ta.length na.length) (kb : kinds sb cb tb.length nb.length) (h1 : ta.length ≤ 1000) (h2 : tb.length ≤ 1000) (h3 : na.length ≤ 1000) (h4 : nb.length ≤ 1000) :
    AC Tryz.prog 14 [AA sa ca ta na true, AA sb cb tb nb true, .val (.int .i64 axis)] (.pure (resJ (lamJ ca cb (ta.length + na.length) (tb.length + nb.length) sa sb axis) ta tb na nb)) := by
  obtain ⟨q1, q2⟩ := alike_ok sa sb ta tb na nb ca cb va vb ka kb (by omega) (by omega) (by omega) (by omega)
  have nd := noid3 (AA_noid sa ca ta na true) (AA_noid sb cb tb nb true) (NoId.val (.int .i64 axis))
  cases hal : alikeC ca cb (ta.length + na.length) (tb.length + nb.length) with
  | none =>
    have q2 := q2 hal
    have e : lamJ ca cb (ta.length + na.length) (tb.length + nb.length) sa sb axis = (22, false, [], []) := by unfold lamJ; rw [hal]
    refine AC.le_res (?_ : AC Tryz.prog 14 _ (.pure (.tup [AZ, .val (.int .i64 22)]))) (resJ_err (by decide) e _ _ _ _) (resJ_noid _ _ _ _ _)
    refine AC.of_body TTok Tryz.func14 rfl (enter_of Tryz.func14 (by kernel_rfl) (by kernel_rfl)) nd (AZe_noid _) (Nat.le_of_ble_eq_true rfl) ?_
    unfold AA AZ at *
    repeat
      conv => whnf
      first
        | refine ⟨_, by assumption, ?_⟩
        | refine ⟨(Nat.le_of_ble_eq_true rfl), _, by assumption, ?_⟩
        | refine ⟨by kernel_rfl, ?_⟩
        | exact rfl
        | exact ⟨Nat.le_of_ble_eq_true rfl, rfl⟩
        | refine ⟨by decide, ?_⟩
  | some c =>
    have q1 := q1 c hal
    obtain ⟨kc, kd⟩ := alike_kinds hal ka kb
    obtain ⟨ec1, ec2⟩ := lamJ_eq ca cb c (ta.length + na.length) (tb.length + nb.length) sa sb axis hal
    have vs := lamS_ok va vb
    have hR := resJ_noid (lamJ ca cb (ta.length + na.length) (tb.length + nb.length) sa sb axis) ta tb na nb
    generalize lamJ ca cb (ta.length + na.length) (tb.length + nb.length) sa sb axis = R at *
    obtain ⟨s, hs⟩ : ∃ s, s = lamS sa sb := ⟨_, rfl⟩
    rw [← hs] at vs ec1 ec2
    have l8 := vs.1
    have ls := irows_len .i64 s
    have lsa := irows_len .i64 sa
    have lsb := irows_len .i64 sb
    obtain ⟨r', hle, hno, r1, r2⟩ : ∃ r', AVle r' (resJ R ta tb na nb) ∧ NoId r' ∧ (lamE s sb axis ≠ 0 → r' = .tup [AZ, .val (.int .i64 (lamE s sb axis))]) ∧
        (lamE s sb axis = 0 → r' = resJ (laidJ c (s.take axis.toNat ++ 1 :: s.drop axis.toNat) (s.take axis.toNat ++ 1 :: s.drop axis.toNat) axis.toNat (ta.length + na.length) (decide (sa = [])) (decide (sb = []))) ta tb na nb) := by
      by_cases b1 : lamE s sb axis = 0
      · have ec := ec2 b1
        subst ec
        exact ⟨_, .refl _, hR, fun h => absurd b1 h, fun _ => rfl⟩
      · exact ⟨_, resJ_err b1 (ec1 b1) _ _ _ _, AZe_noid _, fun _ => rfl, fun h => absurd h b1⟩
    refine AC.le_res (?_ : AC Tryz.prog 14 _ (.pure r')) hle hR
    have hS := Shape_ok sa c ta na (by have := va.1; omega)
    have hSb := Shape_ok sb c tb nb (by have := vb.1; omega)
    have hRa := Rank_ok sa c ta na (by have := va.1; omega)
    have hRb := Rank_ok sb c tb nb (by have := vb.1; omega)
    have hE := ShSame_ok sb s (by have := vb.1; omega) (by omega)
    refine AC.of_sw TTok Tryz.func14 rfl (enter_of Tryz.func14 (by kernel_rfl) (by kernel_rfl)) nd hno (Nat.le_of_ble_eq_true rfl) ?_
    unfold AA AZ at *
    refine SW.seqA TTok ?_
    conv => whnf
    refine SW.seqA TTok ?_
    conv => whnf
    refine ⟨_, q1, ?_⟩
    conv => whnf
    refine SW.seqA TTok ?_
    conv => whnf
    refine SW.seqA TTok ?_
    conv => whnf
    refine ⟨_, hS, ?_⟩
    conv => whnf
    refine SW.cutM TTok (fun _ : Unit => [(2, .val (.int .i64 axis)), (3, .lp 0 0), (4, .lp 8 0), (6, .lp 16 0), (7, .val (.int .i64 0)), (9, .sl 1 (irows .i64 s) false)]) (fun _ => [(0, .cells 5 [[.sl 1 (irows .i64 sa) false, .val (.bool c), .sl 1 (irows .i32 ta) false, .sl 3 (na.map rowX) false, .val (.bool true)]]), (8, .cells 5 [[.sl 1 (irows .i64 sb) false, .val (.bool c), .sl 1 (irows .i32 tb) false, .sl 3 (nb.map rowX) false, .val (.bool true)]]), (16, .cells 5 [[.sl 0 [] true, .val (.bool false), .sl 0 [] true, .sl 0 [] true, .val (.bool false)]])]) 24 90 rfl (fun _ => True) ?_ (fun _ _ => ?_)
    · by_cases h5 : sa = []
      · rw [hs, show lamS sa sb = sb from if_pos h5]
        have : sa.length = 0 := by rw [h5]; rfl
        conv => whnf
        first
          | refine caseb (fun _ => ?_) (fun h => absurd (of_decide_eq_false h) (by omega))
          | refine caseb (fun h => absurd (of_decide_eq_true h) (by omega)) (fun _ => ?_)
          | refine caseb (fun _ => ?_) (fun h => absurd (beq_eq_false_iff_ne.1 h) (by omega))
          | refine caseb (fun h => absurd (eq_of_beq h) (by omega)) (fun _ => ?_)
        conv => whnf
        refine ⟨_, hSb, ?_⟩
        conv => whnf
        exact ⟨(), [], trivial, ⟨⟨rfl, rfl⟩, ⟨rfl, rfl⟩, ⟨rfl, rfl⟩, ⟨rfl, rfl⟩, ⟨rfl, rfl⟩, ⟨rfl, rfl⟩, trivial⟩, ⟨⟨rfl, .inr ⟨rfl, rfl⟩⟩, ⟨rfl, .inr ⟨rfl, rfl⟩⟩, ⟨rfl, .inr ⟨rfl, rfl⟩⟩, trivial⟩, rfl⟩
      · rw [hs, show lamS sa sb = sa from if_neg h5]
        have : sa.length ≠ 0 := fun h => h5 (List.length_eq_zero_iff.1 h)
        conv => whnf
        first
          | refine caseb (fun _ => ?_) (fun h => absurd (of_decide_eq_false h) (by omega))
          | refine caseb (fun h => absurd (of_decide_eq_true h) (by omega)) (fun _ => ?_)
          | refine caseb (fun _ => ?_) (fun h => absurd (beq_eq_false_iff_ne.1 h) (by omega))
          | refine caseb (fun h => absurd (eq_of_beq h) (by omega)) (fun _ => ?_)
        conv => whnf
        exact ⟨(), [], trivial, ⟨⟨rfl, rfl⟩, ⟨rfl, rfl⟩, ⟨rfl, rfl⟩, ⟨rfl, rfl⟩, ⟨rfl, rfl⟩, ⟨rfl, rfl⟩, trivial⟩, ⟨⟨rfl, .inr ⟨rfl, rfl⟩⟩, ⟨rfl, .inr ⟨rfl, rfl⟩⟩, ⟨rfl, .inr ⟨rfl, rfl⟩⟩, trivial⟩, rfl⟩
    refine axp_sound TTok _ _ _ ?_
    by_cases a1 : axis < 0
    · have eE : lamE s sb axis = 23 := if_pos (.inl a1)
      rw [eE] at r1
      rw [r1 (by decide)]
      conv => whnf
      first
        | refine caseb (fun _ => ?_) (fun h => absurd (of_decide_eq_false h) (by omega))
        | refine caseb (fun h => absurd (of_decide_eq_true h) (by omega)) (fun _ => ?_)
        | refine caseb (fun _ => ?_) (fun h => absurd (beq_eq_false_iff_ne.1 h) (by omega))
        | refine caseb (fun h => absurd (eq_of_beq h) (by omega)) (fun _ => ?_)
      repeat
        conv => whnf
        first
          | refine ⟨_, by assumption, ?_⟩
          | refine ⟨(Nat.le_of_ble_eq_true rfl), _, by assumption, ?_⟩
          | refine ⟨by kernel_rfl, ?_⟩
          | exact rfl
          | exact ⟨Nat.le_of_ble_eq_true rfl, rfl⟩
          | refine ⟨by decide, ?_⟩
    · by_cases a2 : (s.length : Int) < axis
      · have eE : lamE s sb axis = 23 := if_pos (.inr (.inl a2))
        rw [eE] at r1
        rw [r1 (by decide)]
        conv => whnf
        first
          | refine caseb (fun _ => ?_) (fun h => absurd (of_decide_eq_false h) (by omega))
          | refine caseb (fun h => absurd (of_decide_eq_true h) (by omega)) (fun _ => ?_)
          | refine caseb (fun _ => ?_) (fun h => absurd (beq_eq_false_iff_ne.1 h) (by omega))
          | refine caseb (fun h => absurd (eq_of_beq h) (by omega)) (fun _ => ?_)
        conv => whnf
        first
          | refine caseb (fun _ => ?_) (fun h => absurd (of_decide_eq_false h) (by omega))
          | refine caseb (fun h => absurd (of_decide_eq_true h) (by omega)) (fun _ => ?_)
          | refine caseb (fun _ => ?_) (fun h => absurd (beq_eq_false_iff_ne.1 h) (by omega))
          | refine caseb (fun h => absurd (eq_of_beq h) (by omega)) (fun _ => ?_)
        repeat
          conv => whnf
          first
            | refine ⟨_, by assumption, ?_⟩
            | refine ⟨(Nat.le_of_ble_eq_true rfl), _, by assumption, ?_⟩
            | refine ⟨by kernel_rfl, ?_⟩
            | exact rfl
            | exact ⟨Nat.le_of_ble_eq_true rfl, rfl⟩
            | refine ⟨by decide, ?_⟩
      · by_cases a3 : s.length = 8
        · have eE : lamE s sb axis = 23 := if_pos (.inr (.inr a3))
          rw [eE] at r1
          rw [r1 (by decide)]
          conv => whnf
          first
            | refine caseb (fun _ => ?_) (fun h => absurd (of_decide_eq_false h) (by omega))
            | refine caseb (fun h => absurd (of_decide_eq_true h) (by omega)) (fun _ => ?_)
            | refine caseb (fun _ => ?_) (fun h => absurd (beq_eq_false_iff_ne.1 h) (by omega))
            | refine caseb (fun h => absurd (eq_of_beq h) (by omega)) (fun _ => ?_)
          conv => whnf
          first
            | refine caseb (fun _ => ?_) (fun h => absurd (of_decide_eq_false h) (by omega))
            | refine caseb (fun h => absurd (of_decide_eq_true h) (by omega)) (fun _ => ?_)
            | refine caseb (fun _ => ?_) (fun h => absurd (beq_eq_false_iff_ne.1 h) (by omega))
            | refine caseb (fun h => absurd (eq_of_beq h) (by omega)) (fun _ => ?_)
          conv => whnf
          first
            | refine caseb (fun _ => ?_) (fun h => absurd (of_decide_eq_false h) (by omega))
            | refine caseb (fun h => absurd (of_decide_eq_true h) (by omega)) (fun _ => ?_)
            | refine caseb (fun _ => ?_) (fun h => absurd (beq_eq_false_iff_ne.1 h) (by omega))
            | refine caseb (fun h => absurd (eq_of_beq h) (by omega)) (fun _ => ?_)
          repeat
            conv => whnf
            first
              | refine ⟨_, by assumption, ?_⟩
              | refine ⟨(Nat.le_of_ble_eq_true rfl), _, by assumption, ?_⟩
              | refine ⟨by kernel_rfl, ?_⟩
              | exact rfl
              | exact ⟨Nat.le_of_ble_eq_true rfl, rfl⟩
              | refine ⟨by decide, ?_⟩
        · have eE : lamE s sb axis = if sb ≠ [] ∧ sb.length ≠ s.length then 23 else if sb ≠ [] ∧ sb ≠ s then 24 else 0 := if_neg (by omega)
          obtain ⟨k, rfl⟩ := Int.eq_ofNat_of_zero_le (show 0 ≤ axis by omega)
          have e1 : List.drop 0 (List.take (k : Int).toNat (irows .i64 s)) = irows .i64 (s.take k) := by rw [Int.toNat_natCast, List.drop_zero, irows_take]
          have e2 : List.drop (k : Int).toNat (List.take (irows .i64 s).length (irows .i64 s)) = irows .i64 (s.drop k) := by rw [Int.toNat_natCast, List.take_length, irows_drop]
          have hJ := ShJoin_ok [s.take k, [1], s.drop k] (by show 3 ≤ 1000; omega) (by simp; omega)
          rw [show [s.take k, [1], s.drop k].flatten = s.take k ++ 1 :: s.drop k by simp, show lrows [s.take k, [1], s.drop k] = [[.sl 1 (irows .i64 (s.take k)) false], [.sl 1 [[.val (.int .i64 1)]] false], [.sl 1 (irows .i64 (s.drop k)) false]] from rfl, ← e1, ← e2] at hJ
          have n1 : NoId (.sl 1 (List.drop 0 (List.take (k : Int).toNat (irows .i64 s))) false) := by rw [e1]; exact noid_sl _ _ _
          have n3 : NoId (.sl 1 (List.drop (k : Int).toNat (List.take (irows .i64 s).length (irows .i64 s))) false) := by rw [e2]; exact noid_sl _ _ _
          have vx : vS (s.take k ++ 1 :: s.drop k) := vS_ins (by rw [List.take_append_drop]; exact vs) (by rw [List.length_take, List.length_drop]; omega)
          have hl := laidP_ok c sa sb ta tb (s.take k ++ 1 :: s.drop k) (s.take k ++ 1 :: s.drop k) k na nb (decide (sa = [])) (decide (sb = [])) (by rw [ins_len (by omega)]; omega) rfl rfl rfl vx vx kc kd h1 h2 h3 h4
          have eT : ((k : Nat) : Int).toNat = k := Int.toNat_natCast k
          by_cases b0 : sb = []
          · have eE0 : lamE s sb (k : Int) = 0 := by rw [eE, if_neg (fun h => h.1 b0), if_neg (fun h => h.1 b0)]
            rw [r2 eE0, eT]
            have : sb.length = 0 := by rw [b0]; rfl
            obtain ⟨fs, fc, ft, fn, fz, fe, hF⟩ := resJ_form (laidJ c (s.take k ++ 1 :: s.drop k) (s.take k ++ 1 :: s.drop k) k (ta.length + na.length) (decide (sa = [])) (decide (sb = []))) ta tb na nb
            rw [hF] at hl ⊢
            rw [← len_nil, ← len_nil] at hl
            unfold AA at hl
            conv => whnf
            first
              | refine caseb (fun _ => ?_) (fun h => absurd (of_decide_eq_false h) (by omega))
              | refine caseb (fun h => absurd (of_decide_eq_true h) (by omega)) (fun _ => ?_)
              | refine caseb (fun _ => ?_) (fun h => absurd (beq_eq_false_iff_ne.1 h) (by omega))
              | refine caseb (fun h => absurd (eq_of_beq h) (by omega)) (fun _ => ?_)
            conv => whnf
            first
              | refine caseb (fun _ => ?_) (fun h => absurd (of_decide_eq_false h) (by omega))
              | refine caseb (fun h => absurd (of_decide_eq_true h) (by omega)) (fun _ => ?_)
              | refine caseb (fun _ => ?_) (fun h => absurd (beq_eq_false_iff_ne.1 h) (by omega))
              | refine caseb (fun h => absurd (eq_of_beq h) (by omega)) (fun _ => ?_)
            conv => whnf
            refine ⟨_, hRb, ?_⟩
            conv => whnf
            first
              | refine caseb (fun h => absurd (bne_iff_ne.1 h) (by omega)) (fun _ => ?_)
              | refine caseb (fun _ => ?_) (fun h => absurd (bne_eq_false_iff_eq.1 h) (by omega))
            conv => whnf
            refine ⟨_, hRb, ?_⟩
            conv => whnf
            first
              | refine caseb (fun h => absurd (bne_iff_ne.1 h) (by omega)) (fun _ => ?_)
              | refine caseb (fun _ => ?_) (fun h => absurd (bne_eq_false_iff_eq.1 h) (by omega))
            conv => whnf
            refine ⟨by omega, ?_⟩
            conv => whnf
            refine ⟨by omega, ?_⟩
            conv => whnf
            refine ⟨⟨Nat.le_refl _, noid3 n1 (noid_sl .i64 [1] false) n3⟩, ?_⟩
            conv => whnf
            refine ⟨(Nat.le_of_ble_eq_true rfl), _, hJ, ?_⟩
            conv => whnf
            refine ⟨by kernel_rfl, ?_⟩
            conv => whnf
            refine ⟨_, hRa, ?_⟩
            conv => whnf
            refine ⟨_, hRb, ?_⟩
            conv => whnf
            refine ⟨_, hl, ?_⟩
            conv => whnf
            refine ⟨by kernel_rfl, ?_⟩
            repeat
              conv => whnf
              first
                | refine ⟨_, by assumption, ?_⟩
                | refine ⟨(Nat.le_of_ble_eq_true rfl), _, by assumption, ?_⟩
                | refine ⟨by kernel_rfl, ?_⟩
                | exact rfl
                | exact ⟨Nat.le_of_ble_eq_true rfl, rfl⟩
                | refine ⟨by decide, ?_⟩
          · have b0' : sb.length ≠ 0 := fun h => b0 (List.length_eq_zero_iff.1 h)
            by_cases b1 : sb.length ≠ s.length
            · have eE1 : lamE s sb (k : Int) = 23 := by rw [eE, if_pos ⟨b0, b1⟩]
              rw [eE1] at r1
              rw [r1 (by decide)]
              conv => whnf
              first
                | refine caseb (fun _ => ?_) (fun h => absurd (of_decide_eq_false h) (by omega))
                | refine caseb (fun h => absurd (of_decide_eq_true h) (by omega)) (fun _ => ?_)
                | refine caseb (fun _ => ?_) (fun h => absurd (beq_eq_false_iff_ne.1 h) (by omega))
                | refine caseb (fun h => absurd (eq_of_beq h) (by omega)) (fun _ => ?_)
              conv => whnf
              first
                | refine caseb (fun _ => ?_) (fun h => absurd (of_decide_eq_false h) (by omega))
                | refine caseb (fun h => absurd (of_decide_eq_true h) (by omega)) (fun _ => ?_)
                | refine caseb (fun _ => ?_) (fun h => absurd (beq_eq_false_iff_ne.1 h) (by omega))
                | refine caseb (fun h => absurd (eq_of_beq h) (by omega)) (fun _ => ?_)
              conv => whnf
              refine ⟨_, hRb, ?_⟩
              conv => whnf
              first
                | refine caseb (fun h => absurd (bne_iff_ne.1 h) (by omega)) (fun _ => ?_)
                | refine caseb (fun _ => ?_) (fun h => absurd (bne_eq_false_iff_eq.1 h) (by omega))
              conv => whnf
              refine ⟨_, hRb, ?_⟩
              conv => whnf
              first
                | refine caseb (fun h => absurd (bne_iff_ne.1 h) (by omega)) (fun _ => ?_)
                | refine caseb (fun _ => ?_) (fun h => absurd (bne_eq_false_iff_eq.1 h) (by omega))
              repeat
                conv => whnf
                first
                  | refine ⟨_, by assumption, ?_⟩
                  | refine ⟨(Nat.le_of_ble_eq_true rfl), _, by assumption, ?_⟩
                  | refine ⟨by kernel_rfl, ?_⟩
                  | exact rfl
                  | exact ⟨Nat.le_of_ble_eq_true rfl, rfl⟩
                  | refine ⟨by decide, ?_⟩
            · have b1' : sb.length = s.length := Decidable.byContradiction b1
              by_cases b2 : sb = s
              · have eE0 : lamE s sb (k : Int) = 0 := by rw [eE, if_neg (fun h => b1 h.2), if_neg (fun h => h.2 b2)]
                rw [r2 eE0, eT]
                rw [decide_eq_true b2] at hE
                obtain ⟨fs, fc, ft, fn, fz, fe, hF⟩ := resJ_form (laidJ c (s.take k ++ 1 :: s.drop k) (s.take k ++ 1 :: s.drop k) k (ta.length + na.length) (decide (sa = [])) (decide (sb = []))) ta tb na nb
                rw [hF] at hl ⊢
                rw [← len_nil, ← len_nil] at hl
                unfold AA at hl
                conv => whnf
                first
                  | refine caseb (fun _ => ?_) (fun h => absurd (of_decide_eq_false h) (by omega))
                  | refine caseb (fun h => absurd (of_decide_eq_true h) (by omega)) (fun _ => ?_)
                  | refine caseb (fun _ => ?_) (fun h => absurd (beq_eq_false_iff_ne.1 h) (by omega))
                  | refine caseb (fun h => absurd (eq_of_beq h) (by omega)) (fun _ => ?_)
                conv => whnf
                first
                  | refine caseb (fun _ => ?_) (fun h => absurd (of_decide_eq_false h) (by omega))
                  | refine caseb (fun h => absurd (of_decide_eq_true h) (by omega)) (fun _ => ?_)
                  | refine caseb (fun _ => ?_) (fun h => absurd (beq_eq_false_iff_ne.1 h) (by omega))
                  | refine caseb (fun h => absurd (eq_of_beq h) (by omega)) (fun _ => ?_)
                conv => whnf
                refine ⟨_, hRb, ?_⟩
                conv => whnf
                first
                  | refine caseb (fun h => absurd (bne_iff_ne.1 h) (by omega)) (fun _ => ?_)
                  | refine caseb (fun _ => ?_) (fun h => absurd (bne_eq_false_iff_eq.1 h) (by omega))
                conv => whnf
                refine ⟨_, hRb, ?_⟩
                conv => whnf
                first
                  | refine caseb (fun h => absurd (bne_iff_ne.1 h) (by omega)) (fun _ => ?_)
                  | refine caseb (fun _ => ?_) (fun h => absurd (bne_eq_false_iff_eq.1 h) (by omega))
                conv => whnf
                refine ⟨_, hRb, ?_⟩
                conv => whnf
                first
                  | refine caseb (fun h => absurd (bne_iff_ne.1 h) (by omega)) (fun _ => ?_)
                  | refine caseb (fun _ => ?_) (fun h => absurd (bne_eq_false_iff_eq.1 h) (by omega))
                conv => whnf
                refine ⟨_, hSb, ?_⟩
                conv => whnf
                refine ⟨_, hE, ?_⟩
                conv => whnf
                refine ⟨by omega, ?_⟩
                conv => whnf
                refine ⟨by omega, ?_⟩
                conv => whnf
                refine ⟨⟨Nat.le_refl _, noid3 n1 (noid_sl .i64 [1] false) n3⟩, ?_⟩
                conv => whnf
                refine ⟨(Nat.le_of_ble_eq_true rfl), _, hJ, ?_⟩
                conv => whnf
                refine ⟨by kernel_rfl, ?_⟩
                conv => whnf
                refine ⟨_, hRa, ?_⟩
                conv => whnf
                refine ⟨_, hRb, ?_⟩
                conv => whnf
                refine ⟨_, hl, ?_⟩
                conv => whnf
                refine ⟨by kernel_rfl, ?_⟩
                repeat
                  conv => whnf
                  first
                    | refine ⟨_, by assumption, ?_⟩
                    | refine ⟨(Nat.le_of_ble_eq_true rfl), _, by assumption, ?_⟩
                    | refine ⟨by kernel_rfl, ?_⟩
                    | exact rfl
                    | exact ⟨Nat.le_of_ble_eq_true rfl, rfl⟩
                    | refine ⟨by decide, ?_⟩
              · have eE1 : lamE s sb (k : Int) = 24 := by rw [eE, if_neg (fun h => b1 h.2), if_pos ⟨b0, b2⟩]
                rw [eE1] at r1
                rw [r1 (by decide)]
                rw [decide_eq_false b2] at hE
                conv => whnf
                first
                  | refine caseb (fun _ => ?_) (fun h => absurd (of_decide_eq_false h) (by omega))
                  | refine caseb (fun h => absurd (of_decide_eq_true h) (by omega)) (fun _ => ?_)
                  | refine caseb (fun _ => ?_) (fun h => absurd (beq_eq_false_iff_ne.1 h) (by omega))
                  | refine caseb (fun h => absurd (eq_of_beq h) (by omega)) (fun _ => ?_)
                conv => whnf
                first
                  | refine caseb (fun _ => ?_) (fun h => absurd (of_decide_eq_false h) (by omega))
                  | refine caseb (fun h => absurd (of_decide_eq_true h) (by omega)) (fun _ => ?_)
                  | refine caseb (fun _ => ?_) (fun h => absurd (beq_eq_false_iff_ne.1 h) (by omega))
                  | refine caseb (fun h => absurd (eq_of_beq h) (by omega)) (fun _ => ?_)
                conv => whnf
                refine ⟨_, hRb, ?_⟩
                conv => whnf
                first
                  | refine caseb (fun h => absurd (bne_iff_ne.1 h) (by omega)) (fun _ => ?_)
                  | refine caseb (fun _ => ?_) (fun h => absurd (bne_eq_false_iff_eq.1 h) (by omega))
                conv => whnf
                refine ⟨_, hRb, ?_⟩
                conv => whnf
                first
                  | refine caseb (fun h => absurd (bne_iff_ne.1 h) (by omega)) (fun _ => ?_)
                  | refine caseb (fun _ => ?_) (fun h => absurd (bne_eq_false_iff_eq.1 h) (by omega))
                conv => whnf
                refine ⟨_, hRb, ?_⟩
                conv => whnf
                first
                  | refine caseb (fun h => absurd (bne_iff_ne.1 h) (by omega)) (fun _ => ?_)
                  | refine caseb (fun _ => ?_) (fun h => absurd (bne_eq_false_iff_eq.1 h) (by omega))
                conv => whnf
                refine ⟨_, hSb, ?_⟩
                conv => whnf
                refine ⟨_, hE, ?_⟩
                repeat
                  conv => whnf
                  first
                    | refine ⟨_, by assumption, ?_⟩
                    | refine ⟨(Nat.le_of_ble_eq_true rfl), _, by assumption, ?_⟩
                    | refine ⟨by kernel_rfl, ?_⟩
                    | exact rfl
                    | exact ⟨Nat.le_of_ble_eq_true rfl, rfl⟩
                    | refine ⟨by decide, ?_⟩
end
end Go.Proofs.YtliiekhmpgopnaaGreat

/- Arrays: side by side along a new axis (the document's contract). -/
set_option linter.unusedVariables false
namespace Go.Proofs.YtliiekhmpgopnaaGreat
open Go Go.AL NM

section
variable (ca cb : Bool) (sa sb ta tb : List Int) (axis : Int)
theorem RLam_ok (qa qb : List Rat) (va : vS sa) (vb : vS sb) (ka : kinds sa ca ta.length qa.length) (kb : kinds sb cb tb.length qb.length) (h1 : ta.length ≤ 1000) (h2 : tb.length ≤ 1000) (h3 : qa.length ≤ 1000) (h4 : qb.length ≤ 1000) :
    AC Tryz.prog 15 [PA sa ca ta qa, PA sb cb tb qb, .val (.int .i64 axis)] (.pure (docR (lamJ ca cb (ta.length + qa.length) (tb.length + qb.length) sa sb axis) ta tb qa qb)) := by
  obtain ⟨q1, q2⟩ := Rkinds_ok sa sb ta tb qa qb ca cb ka kb (by omega) (by omega) (by omega) (by omega)
  have nd := noid3 (PA_noid sa ca ta qa) (PA_noid sb cb tb qb) (NoId.val (.int .i64 axis))
  cases hal : alikeC ca cb (ta.length + qa.length) (tb.length + qb.length) with
  | none =>
    have q2 := q2 hal
    have e : lamJ ca cb (ta.length + qa.length) (tb.length + qb.length) sa sb axis = (22, false, [], []) := by unfold lamJ; rw [hal]
    refine AC.le_res (?_ : AC Tryz.prog 15 _ (.pure (.tup [PZ, .val (.int .i64 22)]))) (docR_err (by decide) e _ _ _ _) (docR_noid _ _ _ _ _)
    refine AC.of_body TTok Tryz.func15 rfl (enter_of Tryz.func15 (by kernel_rfl) (by kernel_rfl)) nd (PZe_noid _) (Nat.le_of_ble_eq_true rfl) ?_
    unfold PA PZ at *
    repeat
      conv => whnf
      first
        | refine ⟨_, by assumption, ?_⟩
        | refine ⟨(Nat.le_of_ble_eq_true rfl), _, by assumption, ?_⟩
        | refine ⟨by kernel_rfl, ?_⟩
        | exact rfl
        | exact ⟨Nat.le_of_ble_eq_true rfl, rfl⟩
        | refine ⟨by decide, ?_⟩
  | some c =>
    have q1 := q1 c hal
    obtain ⟨kc, kd⟩ := alike_kinds hal ka kb
    obtain ⟨ec1, ec2⟩ := lamJ_eq ca cb c (ta.length + qa.length) (tb.length + qb.length) sa sb axis hal
    have vs := lamS_ok va vb
    have hR := docR_noid (lamJ ca cb (ta.length + qa.length) (tb.length + qb.length) sa sb axis) ta tb qa qb
    generalize lamJ ca cb (ta.length + qa.length) (tb.length + qb.length) sa sb axis = R at *
    obtain ⟨s, hs⟩ : ∃ s, s = lamS sa sb := ⟨_, rfl⟩
    rw [← hs] at vs ec1 ec2
    have l8 := vs.1
    have ls := irows_len .i64 s
    have lsa := irows_len .i64 sa
    have lsb := irows_len .i64 sb
    obtain ⟨r', hle, hno, r1, r2⟩ : ∃ r', AVle r' (docR R ta tb qa qb) ∧ NoId r' ∧ (lamE s sb axis ≠ 0 → r' = .tup [PZ, .val (.int .i64 (lamE s sb axis))]) ∧
        (lamE s sb axis = 0 → r' = docR (laidJ c (s.take axis.toNat ++ 1 :: s.drop axis.toNat) (s.take axis.toNat ++ 1 :: s.drop axis.toNat) axis.toNat (ta.length + qa.length) (decide (sa = [])) (decide (sb = []))) ta tb qa qb) := by
      by_cases b1 : lamE s sb axis = 0
      · have ec := ec2 b1
        subst ec
        exact ⟨_, .refl _, hR, fun h => absurd b1 h, fun _ => rfl⟩
      · exact ⟨_, docR_err b1 (ec1 b1) _ _ _ _, PZe_noid _, fun _ => rfl, fun h => absurd h b1⟩
    refine AC.le_res (?_ : AC Tryz.prog 15 _ (.pure r')) hle hR
    have hE := IntsSame_ok sb s (by have := vb.1; omega) (by omega)
    refine AC.of_sw TTok Tryz.func15 rfl (enter_of Tryz.func15 (by kernel_rfl) (by kernel_rfl)) nd hno (Nat.le_of_ble_eq_true rfl) ?_
    unfold PA PZ at *
    refine SW.seqA TTok ?_
    conv => whnf
    refine SW.seqA TTok ?_
    conv => whnf
    refine ⟨_, q1, ?_⟩
    conv => whnf
    refine SW.seqA TTok ?_
    conv => whnf
    refine SW.seqA TTok ?_
    conv => whnf
    refine SW.cutM TTok (fun _ : Unit => [(2, .val (.int .i64 axis)), (3, .lp 0 0), (4, .lp 8 0), (6, .lp 16 0), (7, .val (.int .i64 0)), (9, .sl 1 (irows .i64 s) false)]) (fun _ => [(0, .cells 4 [[.sl 1 (irows .i64 sa) false, .val (.bool c), .sl 1 (irows .i32 ta) false, .sl 3 (qa.map rowN) false]]), (8, .cells 4 [[.sl 1 (irows .i64 sb) false, .val (.bool c), .sl 1 (irows .i32 tb) false, .sl 3 (qb.map rowN) false]]), (16, .cells 4 [[.sl 0 [] true, .val (.bool false), .sl 0 [] true, .sl 0 [] true]])]) 24 78 rfl (fun _ => True) ?_ (fun _ _ => ?_)
    · by_cases h5 : sa = []
      · rw [hs, show lamS sa sb = sb from if_pos h5]
        have : sa.length = 0 := by rw [h5]; rfl
        conv => whnf
        first
          | refine caseb (fun _ => ?_) (fun h => absurd (of_decide_eq_false h) (by omega))
          | refine caseb (fun h => absurd (of_decide_eq_true h) (by omega)) (fun _ => ?_)
          | refine caseb (fun _ => ?_) (fun h => absurd (beq_eq_false_iff_ne.1 h) (by omega))
          | refine caseb (fun h => absurd (eq_of_beq h) (by omega)) (fun _ => ?_)
        conv => whnf
        exact ⟨(), [], trivial, ⟨⟨rfl, rfl⟩, ⟨rfl, rfl⟩, ⟨rfl, rfl⟩, ⟨rfl, rfl⟩, ⟨rfl, rfl⟩, ⟨rfl, rfl⟩, trivial⟩, ⟨⟨rfl, .inr ⟨rfl, rfl⟩⟩, ⟨rfl, .inr ⟨rfl, rfl⟩⟩, ⟨rfl, .inr ⟨rfl, rfl⟩⟩, trivial⟩, rfl⟩
      · rw [hs, show lamS sa sb = sa from if_neg h5]
        have : sa.length ≠ 0 := fun h => h5 (List.length_eq_zero_iff.1 h)
        conv => whnf
        first
          | refine caseb (fun _ => ?_) (fun h => absurd (of_decide_eq_false h) (by omega))
          | refine caseb (fun h => absurd (of_decide_eq_true h) (by omega)) (fun _ => ?_)
          | refine caseb (fun _ => ?_) (fun h => absurd (beq_eq_false_iff_ne.1 h) (by omega))
          | refine caseb (fun h => absurd (eq_of_beq h) (by omega)) (fun _ => ?_)
        conv => whnf
        exact ⟨(), [], trivial, ⟨⟨rfl, rfl⟩, ⟨rfl, rfl⟩, ⟨rfl, rfl⟩, ⟨rfl, rfl⟩, ⟨rfl, rfl⟩, ⟨rfl, rfl⟩, trivial⟩, ⟨⟨rfl, .inr ⟨rfl, rfl⟩⟩, ⟨rfl, .inr ⟨rfl, rfl⟩⟩, ⟨rfl, .inr ⟨rfl, rfl⟩⟩, trivial⟩, rfl⟩
    refine axp_sound TTok _ _ _ ?_
    by_cases a1 : axis < 0
    · have eE : lamE s sb axis = 23 := if_pos (.inl a1)
      rw [eE] at r1
      rw [r1 (by decide)]
      conv => whnf
      first
        | refine caseb (fun _ => ?_) (fun h => absurd (of_decide_eq_false h) (by omega))
        | refine caseb (fun h => absurd (of_decide_eq_true h) (by omega)) (fun _ => ?_)
        | refine caseb (fun _ => ?_) (fun h => absurd (beq_eq_false_iff_ne.1 h) (by omega))
        | refine caseb (fun h => absurd (eq_of_beq h) (by omega)) (fun _ => ?_)
      repeat
        conv => whnf
        first
          | refine ⟨_, by assumption, ?_⟩
          | refine ⟨(Nat.le_of_ble_eq_true rfl), _, by assumption, ?_⟩
          | refine ⟨by kernel_rfl, ?_⟩
          | exact rfl
          | exact ⟨Nat.le_of_ble_eq_true rfl, rfl⟩
          | refine ⟨by decide, ?_⟩
    · by_cases a2 : (s.length : Int) < axis
      · have eE : lamE s sb axis = 23 := if_pos (.inr (.inl a2))
        rw [eE] at r1
        rw [r1 (by decide)]
        conv => whnf
        first
          | refine caseb (fun _ => ?_) (fun h => absurd (of_decide_eq_false h) (by omega))
          | refine caseb (fun h => absurd (of_decide_eq_true h) (by omega)) (fun _ => ?_)
          | refine caseb (fun _ => ?_) (fun h => absurd (beq_eq_false_iff_ne.1 h) (by omega))
          | refine caseb (fun h => absurd (eq_of_beq h) (by omega)) (fun _ => ?_)
        conv => whnf
        first
          | refine caseb (fun _ => ?_) (fun h => absurd (of_decide_eq_false h) (by omega))
          | refine caseb (fun h => absurd (of_decide_eq_true h) (by omega)) (fun _ => ?_)
          | refine caseb (fun _ => ?_) (fun h => absurd (beq_eq_false_iff_ne.1 h) (by omega))
          | refine caseb (fun h => absurd (eq_of_beq h) (by omega)) (fun _ => ?_)
        repeat
          conv => whnf
          first
            | refine ⟨_, by assumption, ?_⟩
            | refine ⟨(Nat.le_of_ble_eq_true rfl), _, by assumption, ?_⟩
            | refine ⟨by kernel_rfl, ?_⟩
            | exact rfl
            | exact ⟨Nat.le_of_ble_eq_true rfl, rfl⟩
            | refine ⟨by decide, ?_⟩
      · by_cases a3 : s.length = 8
        · have eE : lamE s sb axis = 23 := if_pos (.inr (.inr a3))
          rw [eE] at r1
          rw [r1 (by decide)]
          conv => whnf
          first
            | refine caseb (fun _ => ?_) (fun h => absurd (of_decide_eq_false h) (by omega))
            | refine caseb (fun h => absurd (of_decide_eq_true h) (by omega)) (fun _ => ?_)
            | refine caseb (fun _ => ?_) (fun h => absurd (beq_eq_false_iff_ne.1 h) (by omega))
            | refine caseb (fun h => absurd (eq_of_beq h) (by omega)) (fun _ => ?_)
          conv => whnf
          first
            | refine caseb (fun _ => ?_) (fun h => absurd (of_decide_eq_false h) (by omega))
            | refine caseb (fun h => absurd (of_decide_eq_true h) (by omega)) (fun _ => ?_)
            | refine caseb (fun _ => ?_) (fun h => absurd (beq_eq_false_iff_ne.1 h) (by omega))
            | refine caseb (fun h => absurd (eq_of_beq h) (by omega)) (fun _ => ?_)
          conv => whnf
          first
            | refine caseb (fun _ => ?_) (fun h => absurd (of_decide_eq_false h) (by omega))
            | refine caseb (fun h => absurd (of_decide_eq_true h) (by omega)) (fun _ => ?_)
            | refine caseb (fun _ => ?_) (fun h => absurd (beq_eq_false_iff_ne.1 h) (by omega))
            | refine caseb (fun h => absurd (eq_of_beq h) (by omega)) (fun _ => ?_)
          repeat
            conv => whnf
            first
              | refine ⟨_, by assumption, ?_⟩
              | refine ⟨(Nat.le_of_ble_eq_true rfl), _, by assumption, ?_⟩
              | refine ⟨by kernel_rfl, ?_⟩
              | exact rfl
              | exact ⟨Nat.le_of_ble_eq_true rfl, rfl⟩
              | refine ⟨by decide, ?_⟩
        · have eE : lamE s sb axis = if sb ≠ [] ∧ sb.length ≠ s.length then 23 else if sb ≠ [] ∧ sb ≠ s then 24 else 0 := if_neg (by omega)
          obtain ⟨k, rfl⟩ := Int.eq_ofNat_of_zero_le (show 0 ≤ axis by omega)
          have hPt := part_ok s k (by omega) (by omega)
          have vx : vS (s.take k ++ 1 :: s.drop k) := vS_ins (by rw [List.take_append_drop]; exact vs) (by rw [List.length_take, List.length_drop]; omega)
          have hl := laidR_ok c sa sb ta tb (s.take k ++ 1 :: s.drop k) (s.take k ++ 1 :: s.drop k) k qa qb (by rw [ins_len (by omega)]; omega) rfl rfl rfl vx vx va.1 vb.1 kc kd h1 h2 h3 h4
          have eT : ((k : Nat) : Int).toNat = k := Int.toNat_natCast k
          by_cases b0 : sb = []
          · have eE0 : lamE s sb (k : Int) = 0 := by rw [eE, if_neg (fun h => h.1 b0), if_neg (fun h => h.1 b0)]
            rw [r2 eE0, eT]
            have : sb.length = 0 := by rw [b0]; rfl
            obtain ⟨fs, fc, ft, fn, fe, hF⟩ := docR_form (laidJ c (s.take k ++ 1 :: s.drop k) (s.take k ++ 1 :: s.drop k) k (ta.length + qa.length) (decide (sa = [])) (decide (sb = []))) ta tb qa qb
            rw [hF] at hl ⊢
            unfold PA at hl
            conv => whnf
            first
              | refine caseb (fun _ => ?_) (fun h => absurd (of_decide_eq_false h) (by omega))
              | refine caseb (fun h => absurd (of_decide_eq_true h) (by omega)) (fun _ => ?_)
              | refine caseb (fun _ => ?_) (fun h => absurd (beq_eq_false_iff_ne.1 h) (by omega))
              | refine caseb (fun h => absurd (eq_of_beq h) (by omega)) (fun _ => ?_)
            conv => whnf
            first
              | refine caseb (fun _ => ?_) (fun h => absurd (of_decide_eq_false h) (by omega))
              | refine caseb (fun h => absurd (of_decide_eq_true h) (by omega)) (fun _ => ?_)
              | refine caseb (fun _ => ?_) (fun h => absurd (beq_eq_false_iff_ne.1 h) (by omega))
              | refine caseb (fun h => absurd (eq_of_beq h) (by omega)) (fun _ => ?_)
            conv => whnf
            first
              | refine caseb (fun h => absurd (bne_iff_ne.1 h) (by omega)) (fun _ => ?_)
              | refine caseb (fun _ => ?_) (fun h => absurd (bne_eq_false_iff_eq.1 h) (by omega))
            conv => whnf
            first
              | refine caseb (fun h => absurd (bne_iff_ne.1 h) (by omega)) (fun _ => ?_)
              | refine caseb (fun _ => ?_) (fun h => absurd (bne_eq_false_iff_eq.1 h) (by omega))
            conv => whnf
            refine ⟨_, hPt, ?_⟩
            conv => whnf
            refine ⟨_, hPt, ?_⟩
            conv => whnf
            refine ⟨_, hl, ?_⟩
            conv => whnf
            refine ⟨by kernel_rfl, ?_⟩
            repeat
              conv => whnf
              first
                | refine ⟨_, by assumption, ?_⟩
                | refine ⟨(Nat.le_of_ble_eq_true rfl), _, by assumption, ?_⟩
                | refine ⟨by kernel_rfl, ?_⟩
                | exact rfl
                | exact ⟨Nat.le_of_ble_eq_true rfl, rfl⟩
                | refine ⟨by decide, ?_⟩
          · have b0' : sb.length ≠ 0 := fun h => b0 (List.length_eq_zero_iff.1 h)
            by_cases b1 : sb.length ≠ s.length
            · have eE1 : lamE s sb (k : Int) = 23 := by rw [eE, if_pos ⟨b0, b1⟩]
              rw [eE1] at r1
              rw [r1 (by decide)]
              conv => whnf
              first
                | refine caseb (fun _ => ?_) (fun h => absurd (of_decide_eq_false h) (by omega))
                | refine caseb (fun h => absurd (of_decide_eq_true h) (by omega)) (fun _ => ?_)
                | refine caseb (fun _ => ?_) (fun h => absurd (beq_eq_false_iff_ne.1 h) (by omega))
                | refine caseb (fun h => absurd (eq_of_beq h) (by omega)) (fun _ => ?_)
              conv => whnf
              first
                | refine caseb (fun _ => ?_) (fun h => absurd (of_decide_eq_false h) (by omega))
                | refine caseb (fun h => absurd (of_decide_eq_true h) (by omega)) (fun _ => ?_)
                | refine caseb (fun _ => ?_) (fun h => absurd (beq_eq_false_iff_ne.1 h) (by omega))
                | refine caseb (fun h => absurd (eq_of_beq h) (by omega)) (fun _ => ?_)
              conv => whnf
              first
                | refine caseb (fun h => absurd (bne_iff_ne.1 h) (by omega)) (fun _ => ?_)
                | refine caseb (fun _ => ?_) (fun h => absurd (bne_eq_false_iff_eq.1 h) (by omega))
              conv => whnf
              first
                | refine caseb (fun h => absurd (bne_iff_ne.1 h) (by omega)) (fun _ => ?_)
                | refine caseb (fun _ => ?_) (fun h => absurd (bne_eq_false_iff_eq.1 h) (by omega))
              repeat
                conv => whnf
                first
                  | refine ⟨_, by assumption, ?_⟩
                  | refine ⟨(Nat.le_of_ble_eq_true rfl), _, by assumption, ?_⟩
                  | refine ⟨by kernel_rfl, ?_⟩
                  | exact rfl
                  | exact ⟨Nat.le_of_ble_eq_true rfl, rfl⟩
                  | refine ⟨by decide, ?_⟩
            · have b1' : sb.length = s.length := Decidable.byContradiction b1
              by_cases b2 : sb = s
              · have eE0 : lamE s sb (k : Int) = 0 := by rw [eE, if_neg (fun h => b1 h.2), if_neg (fun h => h.2 b2)]
                rw [r2 eE0, eT]
                rw [decide_eq_true b2] at hE
                obtain ⟨fs, fc, ft, fn, fe, hF⟩ := docR_form (laidJ c (s.take k ++ 1 :: s.drop k) (s.take k ++ 1 :: s.drop k) k (ta.length + qa.length) (decide (sa = [])) (decide (sb = []))) ta tb qa qb
                rw [hF] at hl ⊢
                unfold PA at hl
                conv => whnf
                first
                  | refine caseb (fun _ => ?_) (fun h => absurd (of_decide_eq_false h) (by omega))
                  | refine caseb (fun h => absurd (of_decide_eq_true h) (by omega)) (fun _ => ?_)
                  | refine caseb (fun _ => ?_) (fun h => absurd (beq_eq_false_iff_ne.1 h) (by omega))
                  | refine caseb (fun h => absurd (eq_of_beq h) (by omega)) (fun _ => ?_)
                conv => whnf
                first
                  | refine caseb (fun _ => ?_) (fun h => absurd (of_decide_eq_false h) (by omega))
                  | refine caseb (fun h => absurd (of_decide_eq_true h) (by omega)) (fun _ => ?_)
                  | refine caseb (fun _ => ?_) (fun h => absurd (beq_eq_false_iff_ne.1 h) (by omega))
                  | refine caseb (fun h => absurd (eq_of_beq h) (by omega)) (fun _ => ?_)
                conv => whnf
                first
                  | refine caseb (fun h => absurd (bne_iff_ne.1 h) (by omega)) (fun _ => ?_)
                  | refine caseb (fun _ => ?_) (fun h => absurd (bne_eq_false_iff_eq.1 h) (by omega))
                conv => whnf
                first
                  | refine caseb (fun h => absurd (bne_iff_ne.1 h) (by omega)) (fun _ => ?_)
                  | refine caseb (fun _ => ?_) (fun h => absurd (bne_eq_false_iff_eq.1 h) (by omega))
                conv => whnf
                first
                  | refine caseb (fun h => absurd (bne_iff_ne.1 h) (by omega)) (fun _ => ?_)
                  | refine caseb (fun _ => ?_) (fun h => absurd (bne_eq_false_iff_eq.1 h) (by omega))
                conv => whnf
                refine ⟨_, hE, ?_⟩
                conv => whnf
                refine ⟨_, hPt, ?_⟩
                conv => whnf
                refine ⟨_, hPt, ?_⟩
                conv => whnf
                refine ⟨_, hl, ?_⟩
                conv => whnf
                refine ⟨by kernel_rfl, ?_⟩
                repeat
                  conv => whnf
                  first
                    | refine ⟨_, by assumption, ?_⟩
                    | refine ⟨(Nat.le_of_ble_eq_true rfl), _, by assumption, ?_⟩
                    | refine ⟨by kernel_rfl, ?_⟩
                    | exact rfl
                    | exact ⟨Nat.le_of_ble_eq_true rfl, rfl⟩
                    | refine ⟨by decide, ?_⟩
              · have eE1 : lamE s sb (k : Int) = 24 := by rw [eE, if_neg (fun h => b1 h.2), if_pos ⟨b0, b2⟩]
                rw [eE1] at r1
                rw [r1 (by decide)]
                rw [decide_eq_false b2] at hE
                conv => whnf
                first
                  | refine caseb (fun _ => ?_) (fun h => absurd (of_decide_eq_false h) (by omega))
                  | refine caseb (fun h => absurd (of_decide_eq_true h) (by omega)) (fun _ => ?_)
                  | refine caseb (fun _ => ?_) (fun h => absurd (beq_eq_false_iff_ne.1 h) (by omega))
                  | refine caseb (fun h => absurd (eq_of_beq h) (by omega)) (fun _ => ?_)
                conv => whnf
                first
                  | refine caseb (fun _ => ?_) (fun h => absurd (of_decide_eq_false h) (by omega))
                  | refine caseb (fun h => absurd (of_decide_eq_true h) (by omega)) (fun _ => ?_)
                  | refine caseb (fun _ => ?_) (fun h => absurd (beq_eq_false_iff_ne.1 h) (by omega))
                  | refine caseb (fun h => absurd (eq_of_beq h) (by omega)) (fun _ => ?_)
                conv => whnf
                first
                  | refine caseb (fun h => absurd (bne_iff_ne.1 h) (by omega)) (fun _ => ?_)
                  | refine caseb (fun _ => ?_) (fun h => absurd (bne_eq_false_iff_eq.1 h) (by omega))
                conv => whnf
                first
                  | refine caseb (fun h => absurd (bne_iff_ne.1 h) (by omega)) (fun _ => ?_)
                  | refine caseb (fun _ => ?_) (fun h => absurd (bne_eq_false_iff_eq.1 h) (by omega))
                conv => whnf
                first
                  | refine caseb (fun h => absurd (bne_iff_ne.1 h) (by omega)) (fun _ => ?_)
                  | refine caseb (fun _ => ?_) (fun h => absurd (bne_eq_false_iff_eq.1 h) (by omega))
                conv => whnf
                refine ⟨_, hE, ?_⟩
                repeat
                  conv => whnf
                  first
                    | refine ⟨_, by assumption, ?_⟩
                    | refine ⟨(Nat.le_of_ble_eq_true rfl), _, by assumption, ?_⟩
                    | refine ⟨by kernel_rfl, ?_⟩
                    | exact rfl
                    | exact ⟨Nat.le_of_ble_eq_true rfl, rfl⟩
                    | refine ⟨by decide, ?_⟩
end
end Go.Proofs.YtliiekhmpgopnaaGreat

/- Arrays side by side: what is shown; lists of whole numbers (contracts). -/
set_option linter.unusedVariables false
namespace Go.Proofs.YtliiekhmpgopnaaGreat
open Go Go.AL NM

theorem light10_ok (sh : List Int) (ch : Bool) (tx : List Int) (L : List TX) (r : Bool) (h : AC Tryz.prog 26 [PB sh ch tx L, .val (.int .i64 250)] (.pure (.val (.bool r)))) : AC Tryz.prog 8 [PB sh ch tx L] (.pure (.val (.bool r))) := by
  refine AC.of_body TTok Tryz.func8 rfl (enter_of Tryz.func8 (by kernel_rfl) (by kernel_rfl)) (noid1 (PB_noid _ _ _ _)) (.val _) (Nat.le_of_ble_eq_true rfl) ?_
  unfold PB at *
  repeat
    conv => whnf
    first
      | refine ⟨_, by assumption, ?_⟩
      | refine ⟨(Nat.le_of_ble_eq_true rfl), _, by assumption, ?_⟩
      | refine ⟨by kernel_rfl, ?_⟩
      | exact rfl
      | exact ⟨Nat.le_of_ble_eq_true rfl, rfl⟩
      | refine ⟨by decide, ?_⟩
theorem lite10 (sh : List Int) (ch : Bool) (tx : List Int) (L : List TX) (z : sh.length < 9223372036854775808 ∧ tx.length < 9223372036854775808 ∧ L.length < 9223372036854775808 ∧ GN L) :
    ∃ r : Bool, AC Tryz.prog 8 [PB sh ch tx L] (.pure (.val (.bool r))) ∧ (r = true → ∃ qs, Lite sh ch tx L 250 qs) := by
  obtain ⟨r, h, hr⟩ := lite_ok sh ch tx L 250 (by decide) z
  exact ⟨r, light10_ok sh ch tx L r h, hr⟩
theorem shows10_ok (sh : List Int) (ch : Bool) (tx : List Int) (ns : List (Option (Rat × Nat))) (h1 : sh.length ≤ 1000) (h2 : tx.length ≤ 100000) (h3 : ns.length ≤ 100000) (ho : ∀ o ∈ ns, okX o ∧ Sz (valX o) 100000) :
    AC Tryz.prog 13 [AA sh ch tx ns true, .val (.int .i64 0), PA sh ch tx (ns.map valX), .val (.int .i64 0)] (.pure (.val (.bool true))) := by
  refine AC.of_body TTok Tryz.func13 rfl (enter_of Tryz.func13 (by kernel_rfl) (by kernel_rfl)) (noidF (AA_noid _ _ _ _ _) (.val _) (PA_noid _ _ _ _) (.val _)) (.val _) (Nat.le_of_ble_eq_true rfl) ?_
  have hP := Plain_ok sh ch tx ns h1 h2 h3 ho
  have hS := PSame_ok sh ch tx (ns.map valX) h1 h2 (by rw [List.length_map]; exact h3)
  unfold AA PA at *
  repeat
    conv => whnf
    first
      | refine ⟨_, by assumption, ?_⟩
      | refine ⟨(Nat.le_of_ble_eq_true rfl), _, by assumption, ?_⟩
      | refine ⟨by kernel_rfl, ?_⟩
      | exact rfl
      | exact ⟨Nat.le_of_ble_eq_true rfl, rfl⟩
      | refine ⟨by decide, ?_⟩
theorem shows10_err (e : Int) (he : e ≠ 0) (sh : List Int) (ch : Bool) (tx : List Int) (qs : List Rat) :
    AC Tryz.prog 13 [AA [] false [] [] false, .val (.int .i64 e), PA sh ch tx qs, .val (.int .i64 e)] (.pure (.val (.bool true))) := by
  refine AC.of_body TTok Tryz.func13 rfl (enter_of Tryz.func13 (by kernel_rfl) (by kernel_rfl)) (noidF (AA_noid _ _ _ _ _) (.val _) (PA_noid _ _ _ _) (.val _)) (.val _) (Nat.le_of_ble_eq_true rfl) ?_
  have hL := ALen_ok [] false [] [] false (by decide) (by decide)
  have t1 : (e != e) = false := by simp
  unfold AA PA at *
  conv => whnf
  refine caseb (fun h => Bool.noConfusion ((t1).symm.trans h)) (fun _ => ?_)
  conv => whnf
  first
    | refine caseb (fun h => absurd (bne_iff_ne.1 h) (by omega)) (fun _ => ?_)
    | refine caseb (fun _ => ?_) (fun h => absurd (bne_eq_false_iff_eq.1 h) (by omega))
  repeat
    conv => whnf
    first
      | refine ⟨_, by assumption, ?_⟩
      | refine ⟨(Nat.le_of_ble_eq_true rfl), _, by assumption, ?_⟩
      | refine ⟨by kernel_rfl, ?_⟩
      | exact rfl
      | exact ⟨Nat.le_of_ble_eq_true rfl, rfl⟩
      | refine ⟨by decide, ?_⟩
/-- What comes of it is an array of few elements, or there is an error. -/
def goodR (r : JR) : Prop := r.1 = 0 → vS r.2.2.1 ∧ r.2.2.2.length ≤ 4096
theorem laidJ_good (c : Bool) (x y : List Int) (k la : Nat) (one two : Bool) : goodR (laidJ c x y k la one two) := by
  unfold laidJ goodR
  by_cases h : vS (x.set k (x.getD k 0 + y.getD k 0))
  · rw [if_pos h]
    intro _
    have := (vS_pr h).2
    exact ⟨h, by rw [List.length_map, List.length_range]; exact this⟩
  · rw [if_neg h]
    intro h0
    exact absurd h0 (by decide)
theorem err_good {e : Int} (h : e ≠ 0) : goodR (e, false, [], []) := fun h0 => absurd h0 h
theorem lamJ_good (ca cb : Bool) (la lb : Nat) (sa sb : List Int) (axis : Int) : goodR (lamJ ca cb la lb sa sb axis) := by
  unfold lamJ
  split
  · exact err_good (by decide)
  · split
    · exact err_good (by decide)
    · split
      · exact err_good (by decide)
      · split
        · exact err_good (by decide)
        · exact laidJ_good _ _ _ _ _ _ _
theorem map_valX_of (qs : List Rat) : (qs.map ofX).map valX = qs := by rw [List.map_map]; exact List.map_id qs
theorem dn_denJ (q : Rat) : dn q.den = q.den := if_neg q.den_nz
/-- The numbers that both come to. -/
theorem nums_of (at_ : List Int) (qa qb : List Rat) (Sa : ∀ q ∈ qa, Sz q 5) (Sb : ∀ q ∈ qb, Sz q 5) :
    (at_.map (getX (qa.map ofX ++ qb.map ofX))).map valX = at_.map (getQ (qa ++ qb)) ∧ ∀ o ∈ at_.map (getX (qa.map ofX ++ qb.map ofX)), okX o ∧ Sz (valX o) 100000 := by
  have e : (qa.map ofX ++ qb.map ofX).map valX = qa ++ qb := by rw [List.map_append, map_valX_of, map_valX_of]
  refine ⟨?_, fun o ho => ?_⟩
  · rw [List.map_map]
    refine List.map_congr_left fun k _ => ?_
    show valX (getX _ k) = _
    rw [getX_val, e]
  · obtain ⟨k, _, rfl⟩ := List.mem_map.1 ho
    refine ⟨getX_ok (fun o ho => ?_) k, ?_⟩
    · rcases List.mem_append.1 ho with h | h
      · obtain ⟨q, _, rfl⟩ := List.mem_map.1 h
        exact dn_denJ q
      · obtain ⟨q, _, rfl⟩ := List.mem_map.1 h
        exact dn_denJ q
    · rw [getX_val, e]
      have hS : ∀ q ∈ qa ++ qb, Sz q 5 := fun q hq => by
        rcases List.mem_append.1 hq with h | h
        · exact Sa q h
        · exact Sb q h
      unfold getQ
      split
      · exact (getD_sz hS _).mono (by decide)
      · exact Sz_zero.mono (by decide)
/-- What is shown of both. -/
theorem showsJ (r : JR) (hg : goodR r) (ta tb : List Int) (qa qb : List Rat) (Sa : ∀ q ∈ qa, Sz q 5) (Sb : ∀ q ∈ qb, Sz q 5) :
    ∃ s c t n z e s' c' t' n', resJ r ta tb (qa.map ofX) (qb.map ofX) = .tup [AA s c t n z, .val (.int .i64 e)] ∧ docR r ta tb qa qb = .tup [PA s' c' t' n', .val (.int .i64 e)] ∧
      AC Tryz.prog 13 [AA s c t n z, .val (.int .i64 e), PA s' c' t' n', .val (.int .i64 e)] (.pure (.val (.bool true))) := by
  by_cases h0 : r.1 = 0
  · obtain ⟨v, hl⟩ := hg h0
    obtain ⟨e1, e2⟩ := nums_of r.2.2.2 qa qb Sa Sb
    have hv := v.1
    unfold resJ docR
    rw [if_pos h0, if_pos h0]
    refine ⟨_, _, _, _, _, _, _, _, _, _, rfl, rfl, ?_⟩
    cases r.2.1
    · rw [if_neg Bool.false_ne_true, if_neg Bool.false_ne_true, if_neg Bool.false_ne_true, ← e1]
      exact shows10_ok _ _ _ _ (by omega) (by decide) (by rw [List.length_map]; omega) e2
    · rw [if_pos rfl, if_pos rfl, if_pos rfl]
      exact shows10_ok _ _ _ [] (by omega) (by rw [List.length_map]; omega) (by decide) (fun o ho => nomatch ho)
  · unfold resJ docR
    rw [if_neg h0, if_neg h0]
    exact ⟨_, _, _, _, _, _, _, _, _, _, rfl, rfl, shows10_err _ h0 _ _ _ _⟩
/-- The whole numbers of a list. -/
theorem AWhole_ok (sh : List Int) (l : List Int) (hl : l.length ≤ 1000) (hI : ∀ n ∈ l, i64b n) : AC Tryz.prog 29 [AA sh false [] (l.map intX) true] (.pure (.tup [.sl 1 (irows .i64 l) false, .val (.bool true)])) := by
  refine AC.of_body TTok Tryz.func29 rfl (enter_of Tryz.func29 (by kernel_rfl) (by kernel_rfl)) (noid1 (AA_noid _ _ _ _ _)) (.tup _ (noid2 (noid_sl _ _ _) (.val _))) (Nat.le_of_ble_eq_true rfl) ?_
  unfold AA
  have lm : ((l.map intX).map rowX).length = l.length := by rw [List.length_map, List.length_map]
  conv => whnf
  refine SW.nil 4 1 rfl ?_
  refine SW.loopM TTok (fun i : Nat => [(1, .lp 0 0), (4, .own 120 0 i), (17, .sl 3 ((l.map intX).map rowX) false), (18, .val (.int .i64 (((l.map intX).map rowX).length : Nat))), (19, .val (.int .i64 (i : Int)))])
    (fun i => [(0, .cells 5 [[.sl 1 (irows .i64 sh) false, .val (.bool false), .sl 1 (irows .i32 []) false, .sl 3 ((l.map intX).map rowX) false, .val (.bool true)]]), (120, .cells 1 (irows .i64 (l.take i)))]) 128 36 rfl (fun i => l.length - i) (fun i => i ≤ l.length) 0 [] (Nat.zero_le _)
    ⟨⟨rfl, rfl⟩, ⟨rfl, rfl⟩, ⟨rfl, rfl⟩, ⟨rfl, rfl⟩, ⟨rfl, rfl⟩, trivial⟩ ⟨⟨rfl, .inr ⟨rfl, rfl⟩⟩, ⟨rfl, .inr ⟨rfl, rfl⟩⟩, trivial⟩ rfl ?_
  intro i hJ
  have hi : i ≤ l.length := hJ
  clear hJ
  have lr : (irows .i64 (l.take i)).length = i := by rw [irows_len, List.length_take]; omega
  by_cases hlt : i < l.length
  · have eI : IntKind.i64.wrap ((i : Int) + 1) = ((i + 1 : Nat) : Int) := by rw [IntWalk.i64_in _ (by omega)]; omega
    have hsn : irows .i64 (l.take i) ++ [[.val (.int .i64 l[i])]] = irows .i64 (l.take (i + 1)) := by
      rw [take_snoc hlt, ← irows_append]; rfl
    have htk : List.take i (List.drop 0 (irows .i64 (l.take i))) = irows .i64 (l.take i) := by rw [List.drop_zero, List.take_of_length_le (by omega)]
    obtain ⟨b1, b2⟩ := hI l[i] (List.getElem_mem hlt)
    have hg : ((l.map intX).map rowX)[i]? = some (rowX (intX l[i])) := by rw [List.getElem?_map, List.getElem?_map, List.getElem?_eq_getElem hlt]; rfl
    rw [intX_row] at hg
    obtain ⟨n, hn⟩ : ∃ n, n = l[i] := ⟨_, rfl⟩
    rw [← hn] at hg hsn b1 b2
    have hR := RInt_ok n 1
    have hf : fitQ n (dn 1) := ⟨rfl, by unfold fit; omega⟩
    rw [if_pos hf, decide_eq_true hf] at hR
    unfold RA at hR
    conv => whnf
    first
      | refine caseb (fun _ => ?_) (fun h => absurd (of_decide_eq_false h) (by omega))
      | refine caseb (fun h => absurd (of_decide_eq_true h) (by omega)) (fun _ => ?_)
      | refine caseb (fun _ => ?_) (fun h => absurd (beq_eq_false_iff_ne.1 h) (by omega))
      | refine caseb (fun h => absurd (eq_of_beq h) (by omega)) (fun _ => ?_)
    conv => whnf
    refine ⟨_, ⟨by omega, by rw [Int.toNat_natCast]; exact hg⟩, ?_⟩
    conv => whnf
    refine ⟨_, hR, ?_⟩
    conv => whnf
    refine ⟨⟨by show 0 + i ≤ _; omega, by show (i + 1) * 8 ≤ 140737488355328; omega, Nat.le_of_ble_eq_true rfl⟩, ?_⟩
    conv => whnf
    refine ⟨i + 1, [(120, 264)], (by show l.length - (i + 1) < l.length - i; omega), hlt, ⟨⟨rfl, rfl⟩, ⟨rfl, rfl⟩, ⟨rfl, rfl⟩, ⟨rfl, rfl⟩, ⟨valI eI, rfl⟩, trivial⟩, ⟨⟨rfl, .inr ⟨rfl, rfl⟩⟩, ⟨rfl, .inl ⟨celE ?_, irows_noid _ _⟩⟩, trivial⟩, rfl⟩
    rw [← hsn]
    show List.take i (List.drop 0 (irows .i64 (l.take i))) ++ [_] = _
    rw [htk]
    rfl
  · have hie : i = l.length := by omega
    have e1 : l.take i = l := List.take_of_length_le (by omega)
    rw [e1] at lr ⊢
    subst hie
    conv => whnf
    first
      | refine caseb (fun _ => ?_) (fun h => absurd (of_decide_eq_false h) (by omega))
      | refine caseb (fun h => absurd (of_decide_eq_true h) (by omega)) (fun _ => ?_)
      | refine caseb (fun _ => ?_) (fun h => absurd (beq_eq_false_iff_ne.1 h) (by omega))
      | refine caseb (fun h => absurd (eq_of_beq h) (by omega)) (fun _ => ?_)
    conv => whnf
    refine ⟨by show 0 + l.length ≤ _; omega, ?_⟩
    show AV.tup [AV.sl 1 (List.take l.length (List.drop 0 (irows .i64 l))) false, _] = _
    rw [List.drop_zero, List.take_of_length_le (by omega)]
    rfl
end Go.Proofs.YtliiekhmpgopnaaGreat

/- Arrays side by side: the chapter's examples (contract). -/
set_option linter.unusedVariables false
namespace Go.Proofs.YtliiekhmpgopnaaGreat
open Go Go.AL NM

theorem wc1 : catJ false false 2 1 [2] [] (-1) = (0, false, [3], [0, 1, 2]) := by decide +kernel
theorem wl1 : lamJ false false 2 2 [2] [2] 1 = (0, false, [2, 2], [0, 2, 1, 3]) := by decide +kernel
theorem i64_small {n : Int} (h : -1000 ≤ n ∧ n ≤ 1000) : i64b n := ⟨by omega, by omega⟩
theorem awake10_ok : AC Tryz.prog 9 [] (.pure (.val (.bool true))) := by
  have C1 := Cat_ok false false [2] [] [] [] (-1) ([1, 2].map intX) [some (((3 : Int) : Rat), 1)] (by decide) (by decide) (by unfold kinds; decide) (by unfold kinds; decide) (by decide) (by decide) (by decide) (by decide)
  have C2 := Lam_ok false false [2] [2] [] [] 1 ([1, 2].map intX) ([3, 4].map intX) (by decide) (by decide) (by unfold kinds; decide) (by unfold kinds; decide) (by decide) (by decide) (by decide) (by decide)
  have C1 : AC Tryz.prog 10 [AA [2] false [] ([1, 2].map intX) true, AA [] false [] [some (((3 : Int) : Rat), 1)] true, .val (.int .i64 (-1))] (.pure (resJ (catJ false false 2 1 [2] [] (-1)) [] [] ([1, 2].map intX) [some (((3 : Int) : Rat), 1)])) := C1
  have C2 : AC Tryz.prog 14 [AA [2] false [] ([1, 2].map intX) true, AA [2] false [] ([3, 4].map intX) true, .val (.int .i64 1)] (.pure (resJ (lamJ false false 2 2 [2] [2] 1) [] [] ([1, 2].map intX) ([3, 4].map intX))) := C2
  rw [wc1] at C1
  rw [wl1] at C2
  have C1 : AC Tryz.prog 10 [AA [2] false [] ([1, 2].map intX) true, AA [] false [] [some (((3 : Int) : Rat), 1)] true, .val (.int .i64 (-1))] (.pure (.tup [AA [3] false [] ([1, 2, 3].map intX) true, .val (.int .i64 0)])) := C1
  have C2 : AC Tryz.prog 14 [AA [2] false [] ([1, 2].map intX) true, AA [2] false [] ([3, 4].map intX) true, .val (.int .i64 1)] (.pure (.tup [AA [2, 2] false [] ([1, 3, 2, 4].map intX) true, .val (.int .i64 0)])) := C2
  have I1 := AInts_ok [1, 2] (by decide) (fun n hn => by simp at hn; rcases hn with rfl | rfl <;> exact i64_small (by decide))
  have I2 := AInts_ok [3, 4] (by decide) (fun n hn => by simp at hn; rcases hn with rfl | rfl <;> exact i64_small (by decide))
  have I3 := AInt_ok 3 (by decide)
  have R1 := RInts_ok [1, 2, 3] (by decide) (fun n hn => by simp at hn; rcases hn with rfl | rfl | rfl <;> exact i64_small (by decide))
  have V : ([1, 2, 3].map intX).map valX = [1, 2, 3].map (fun n : Int => (n : Rat)) := rfl
  have H1 := shows10_ok [3] false [] ([1, 2, 3].map intX) (by decide) (by decide) (by decide) (fun o ho => by
    obtain ⟨n, hn, rfl⟩ := List.mem_map.1 ho
    refine ⟨?_, ?_⟩
    · simp only [List.mem_cons, List.not_mem_nil, or_false] at hn
      rcases hn with rfl | rfl | rfl <;> exact rfl
    · simp only [List.mem_cons, List.not_mem_nil, or_false] at hn
      rcases hn with rfl | rfl | rfl
      · exact (sz_nat 1 (by decide)).mono (by decide)
      · exact (sz_nat 2 (by decide)).mono (by decide)
      · exact (sz_nat 3 (by decide)).mono (by decide))
  rw [V] at H1
  have W := AWhole_ok [2, 2] [1, 3, 2, 4] (by decide) (fun n hn => by simp at hn; rcases hn with rfl | rfl | rfl | rfl <;> exact i64_small (by decide))
  have K := Rank_ok [2, 2] false [] ([1, 3, 2, 4].map intX) (by decide)
  have E := IntsSame_ok [1, 3, 2, 4] [1, 3, 2, 4] (by decide) (by decide)
  rw [decide_eq_true rfl] at E
  have I1 : AC Tryz.prog 27 [.sl 1 (irows .i64 [1, 2]) false] (.pure (AA [2] false [] ([1, 2].map intX) true)) := I1
  have I2 : AC Tryz.prog 27 [.sl 1 (irows .i64 [3, 4]) false] (.pure (AA [2] false [] ([3, 4].map intX) true)) := I2
  have R1 : AC Tryz.prog 30 [.sl 1 (irows .i64 [1, 2, 3]) false] (.pure (PA [3] false [] ([1, 2, 3].map (fun n : Int => (n : Rat))))) := R1
  generalize ([1, 2] : List Int).map intX = z1 at *
  generalize ([3, 4] : List Int).map intX = z2 at *
  generalize ([1, 2, 3] : List Int).map intX = z3 at *
  generalize ([1, 3, 2, 4] : List Int).map intX = z4 at *
  generalize ([1, 2, 3] : List Int).map (fun n : Int => (n : Rat)) = z5 at *
  generalize [some (((3 : Int) : Rat), 1)] = z6 at *
  refine AC.of_body TTok Tryz.func9 rfl (enter_of Tryz.func9 (by kernel_rfl) (by kernel_rfl)) (fun x hx => nomatch hx) (.val _) (Nat.le_of_ble_eq_true rfl) ?_
  unfold AA PA at *
  conv => whnf
  refine ⟨(Nat.le_of_ble_eq_true rfl), _, I1, ?_⟩
  conv => whnf
  refine ⟨_, I3, ?_⟩
  conv => whnf
  refine ⟨_, C1, ?_⟩
  conv => whnf
  refine ⟨(Nat.le_of_ble_eq_true rfl), _, I1, ?_⟩
  conv => whnf
  refine ⟨(Nat.le_of_ble_eq_true rfl), _, I2, ?_⟩
  conv => whnf
  refine ⟨_, C2, ?_⟩
  conv => whnf
  refine ⟨_, W, ?_⟩
  conv => whnf
  refine ⟨(Nat.le_of_ble_eq_true rfl), _, R1, ?_⟩
  conv => whnf
  refine ⟨_, H1, ?_⟩
  repeat
    conv => whnf
    first
      | refine ⟨_, by assumption, ?_⟩
      | refine ⟨(Nat.le_of_ble_eq_true rfl), _, by assumption, ?_⟩
      | refine ⟨by kernel_rfl, ?_⟩
      | exact rfl
      | exact ⟨Nat.le_of_ble_eq_true rfl, rfl⟩
      | refine ⟨by decide, ?_⟩
end Go.Proofs.YtliiekhmpgopnaaGreat

/- The statement JoinLaminates: the walk through the law. -/
set_option linter.unusedVariables false
namespace Go.Proofs.YtliiekhmpgopnaaGreat.joinLaminates
open Go Go.AL NM

section
variable (sa sb : List Int) (ca cb : Bool) (ta tb : List Int) (axis : Int)
theorem bad1 (La Lb : List TX) (h1 : AC Tryz.prog 8 [PB sa ca ta La] (.pure (.val (.bool false)))) : AC Tryz.prog 4 [PB sa ca ta La, PB sb cb tb Lb, .val (.int .i64 axis)] (.pure (.val (.bool true))) := by
  refine AC.of_body TTok Tryz.func4 rfl (enter_of Tryz.func4 (by kernel_rfl) (by kernel_rfl)) (noid3 (PB_noid _ _ _ _) (PB_noid _ _ _ _) (.val _)) (.val _) (Nat.le_of_ble_eq_true rfl) ?_
  have hA := awake10_ok
  unfold PB at *
  repeat
    conv => whnf
    first
      | refine ⟨_, by assumption, ?_⟩
      | refine ⟨(Nat.le_of_ble_eq_true rfl), _, by assumption, ?_⟩
      | refine ⟨by kernel_rfl, ?_⟩
      | exact rfl
      | exact ⟨Nat.le_of_ble_eq_true rfl, rfl⟩
      | refine ⟨by decide, ?_⟩
theorem bad2 (La Lb : List TX) (h1 : AC Tryz.prog 8 [PB sa ca ta La] (.pure (.val (.bool true)))) (h2 : AC Tryz.prog 8 [PB sb cb tb Lb] (.pure (.val (.bool false)))) : AC Tryz.prog 4 [PB sa ca ta La, PB sb cb tb Lb, .val (.int .i64 axis)] (.pure (.val (.bool true))) := by
  refine AC.of_body TTok Tryz.func4 rfl (enter_of Tryz.func4 (by kernel_rfl) (by kernel_rfl)) (noid3 (PB_noid _ _ _ _) (PB_noid _ _ _ _) (.val _)) (.val _) (Nat.le_of_ble_eq_true rfl) ?_
  have hA := awake10_ok
  unfold PB at *
  conv => whnf
  refine ⟨_, h1, ?_⟩
  conv => whnf
  refine ⟨_, h2, ?_⟩
  repeat
    conv => whnf
    first
      | refine ⟨_, by assumption, ?_⟩
      | refine ⟨(Nat.le_of_ble_eq_true rfl), _, by assumption, ?_⟩
      | refine ⟨by kernel_rfl, ?_⟩
      | exact rfl
      | exact ⟨Nat.le_of_ble_eq_true rfl, rfl⟩
      | refine ⟨by decide, ?_⟩
theorem good (qa qb : List Rat) (h1 : AC Tryz.prog 8 [PA sa ca ta qa] (.pure (.val (.bool true)))) (h2 : AC Tryz.prog 8 [PA sb cb tb qb] (.pure (.val (.bool true))))
    (va : vS sa) (vb : vS sb) (ka : kinds sa ca ta.length qa.length) (kb : kinds sb cb tb.length qb.length) (ta1 : ta.length ≤ 250) (tb1 : tb.length ≤ 250) (qa1 : qa.length ≤ 250) (qb1 : qb.length ≤ 250) (Qa : ∀ q ∈ qa, QR q) (Qb : ∀ q ∈ qb, QR q) :
    AC Tryz.prog 4 [PA sa ca ta qa, PA sb cb tb qb, .val (.int .i64 axis)] (.pure (.val (.bool true))) := by
  refine AC.of_body TTok Tryz.func4 rfl (enter_of Tryz.func4 (by kernel_rfl) (by kernel_rfl)) (noid3 (PA_noid _ _ _ _) (PA_noid _ _ _ _) (.val _)) (.val _) (Nat.le_of_ble_eq_true rfl) ?_
  have hA := awake10_ok
  have o1 := LOf_ok sa ca ta qa va ka Qa (by omega) (by omega)
  have o2 := LOf_ok sb cb tb qb vb kb Qb (by omega) (by omega)
  have la : (qa.map ofX).length = qa.length := List.length_map _
  have lb : (qb.map ofX).length = qb.length := List.length_map _
  have f1 := Lam_ok ca cb sa sb ta tb axis (qa.map ofX) (qb.map ofX) va vb (by rw [la]; exact ka) (by rw [lb]; exact kb) (by omega) (by omega) (by omega) (by omega)
  have f2 := RLam_ok ca cb sa sb ta tb axis qa qb va vb ka kb (by omega) (by omega) (by omega) (by omega)
  rw [la, lb] at f1
  obtain ⟨s, c, t, n, z, e, s', c', t', n', e1, e2, hS⟩ := showsJ _ (lamJ_good ca cb (ta.length + qa.length) (tb.length + qb.length) sa sb axis) ta tb qa qb (fun q h => (Qa q h).sz) (fun q h => (Qb q h).sz)
  rw [e1] at f1
  rw [e2] at f2
  unfold PA AA at *
  conv => whnf
  refine ⟨_, h1, ?_⟩
  conv => whnf
  refine ⟨_, h2, ?_⟩
  conv => whnf
  refine ⟨_, o1, ?_⟩
  conv => whnf
  refine ⟨_, o2, ?_⟩
  conv => whnf
  refine ⟨_, f1, ?_⟩
  conv => whnf
  refine ⟨by kernel_rfl, ?_⟩
  conv => whnf
  refine ⟨_, f2, ?_⟩
  conv => whnf
  refine ⟨_, hS, ?_⟩
  repeat
    conv => whnf
    first
      | refine ⟨_, by assumption, ?_⟩
      | refine ⟨(Nat.le_of_ble_eq_true rfl), _, by assumption, ?_⟩
      | refine ⟨by kernel_rfl, ?_⟩
      | exact rfl
      | exact ⟨Nat.le_of_ble_eq_true rfl, rfl⟩
      | refine ⟨by decide, ?_⟩
end
theorem holds (sa : List Int) (ca : Bool) (ta : List Int) (La : List TX) (sb : List Int) (cb : Bool) (tb : List Int) (Lb : List TX) (axis : Int)
    (za : sa.length < 9223372036854775808 ∧ ta.length < 9223372036854775808 ∧ La.length < 9223372036854775808 ∧ GN La) (zb : sb.length < 9223372036854775808 ∧ tb.length < 9223372036854775808 ∧ Lb.length < 9223372036854775808 ∧ GN Lb) (_wa : -9223372036854775808 ≤ axis ∧ axis < 9223372036854775808) :
    AC Tryz.prog 4 [PB sa ca ta La, PB sb cb tb Lb, .val (.int .i64 axis)] (.pure (.val (.bool true))) := by
  obtain ⟨r, h1, ha⟩ := lite10 sa ca ta La za
  obtain ⟨u, h2, hb⟩ := lite10 sb cb tb Lb zb
  cases r
  · exact bad1 sa sb ca cb ta tb axis La Lb h1
  cases u
  · exact bad2 sa sb ca cb ta tb axis La Lb h1 h2
  obtain ⟨qa, ea, va, ka, ta1, qa1, Qa⟩ := ha rfl
  obtain ⟨qb, eb, vb, kb, tb1, qb1, Qb⟩ := hb rfl
  rw [ea] at h1 ⊢
  rw [eb] at h2 ⊢
  exact good sa sb ca cb ta tb axis qa qb h1 h2 va vb ka kb ta1 tb1 qa1 qb1 Qa Qb
end Go.Proofs.YtliiekhmpgopnaaGreat.joinLaminates
