/- Functions of two numbers: their signs. -/
import Derived.Test.YtbdklokfijjifaaGreatB4
import Derived.Test.YtbdklokfijjifaaGreatB2
set_option linter.unusedVariables false
namespace Go.Proofs.YtbdklokfijjifaaGreat
open Go Go.AL NM

def isCmp (c : Int) : Prop := c = 60 ∨ c = 8804 ∨ c = 61 ∨ c = 8805 ∨ c = 62 ∨ c = 8800
instance (c : Int) : Decidable (isCmp c) := inferInstanceAs (Decidable (_ ∨ _ ∨ _ ∨ _ ∨ _ ∨ _))
def isJdg (c : Int) : Prop := c = 8743 ∨ c = 8744 ∨ c = 9074 ∨ c = 9073
instance (c : Int) : Decidable (isJdg c) := inferInstanceAs (Decidable (_ ∨ _ ∨ _ ∨ _))
def isRec (c : Int) : Prop := c = 43 ∨ c = 45 ∨ c = 215 ∨ c = 247 ∨ c = 8968 ∨ c = 8970 ∨ c = 124 ∨ c = 42 ∨ c = 33 ∨ c = 9055 ∨ c = 9675
instance (c : Int) : Decidable (isRec c) := inferInstanceAs (Decidable (_ ∨ _ ∨ _ ∨ _ ∨ _ ∨ _ ∨ _ ∨ _ ∨ _ ∨ _ ∨ _))
def isTwo (c : Int) : Prop := isRec c ∨ isCmp c ∨ isJdg c
instance (c : Int) : Decidable (isTwo c) := inferInstanceAs (Decidable (_ ∨ _))
theorem compares_ok (c : Int) : AC Tryz.prog 88 [.val (.int .i32 c)] (.pure (.val (.bool (decide (isCmp c))))) := by
  refine AC.of_body TTok Tryz.func88 rfl (enter_of Tryz.func88 (by kernel_rfl) (by kernel_rfl)) (noid1 (.val _)) (.val _) (Nat.le_of_ble_eq_true rfl) ?_
  by_cases h0 : c = 60
  · subst h0
    rw [decide_eq_true (show isCmp 60 by decide)]
    repeat
      conv => whnf
      first
        | refine ⟨_, by assumption, ?_⟩
        | refine ⟨(Nat.le_of_ble_eq_true rfl), _, by assumption, ?_⟩
        | refine ⟨by kernel_rfl, ?_⟩
        | exact rfl
        | exact ⟨Nat.le_of_ble_eq_true rfl, rfl⟩
        | refine ⟨by decide, ?_⟩
  by_cases h1 : c = 8804
  · subst h1
    rw [decide_eq_true (show isCmp 8804 by decide)]
    repeat
      conv => whnf
      first
        | refine ⟨_, by assumption, ?_⟩
        | refine ⟨(Nat.le_of_ble_eq_true rfl), _, by assumption, ?_⟩
        | refine ⟨by kernel_rfl, ?_⟩
        | exact rfl
        | exact ⟨Nat.le_of_ble_eq_true rfl, rfl⟩
        | refine ⟨by decide, ?_⟩
  by_cases h2 : c = 61
  · subst h2
    rw [decide_eq_true (show isCmp 61 by decide)]
    repeat
      conv => whnf
      first
        | refine ⟨_, by assumption, ?_⟩
        | refine ⟨(Nat.le_of_ble_eq_true rfl), _, by assumption, ?_⟩
        | refine ⟨by kernel_rfl, ?_⟩
        | exact rfl
        | exact ⟨Nat.le_of_ble_eq_true rfl, rfl⟩
        | refine ⟨by decide, ?_⟩
  by_cases h3 : c = 8805
  · subst h3
    rw [decide_eq_true (show isCmp 8805 by decide)]
    repeat
      conv => whnf
      first
        | refine ⟨_, by assumption, ?_⟩
        | refine ⟨(Nat.le_of_ble_eq_true rfl), _, by assumption, ?_⟩
        | refine ⟨by kernel_rfl, ?_⟩
        | exact rfl
        | exact ⟨Nat.le_of_ble_eq_true rfl, rfl⟩
        | refine ⟨by decide, ?_⟩
  by_cases h4 : c = 62
  · subst h4
    rw [decide_eq_true (show isCmp 62 by decide)]
    repeat
      conv => whnf
      first
        | refine ⟨_, by assumption, ?_⟩
        | refine ⟨(Nat.le_of_ble_eq_true rfl), _, by assumption, ?_⟩
        | refine ⟨by kernel_rfl, ?_⟩
        | exact rfl
        | exact ⟨Nat.le_of_ble_eq_true rfl, rfl⟩
        | refine ⟨by decide, ?_⟩
  by_cases h5 : c = 8800
  · subst h5
    rw [decide_eq_true (show isCmp 8800 by decide)]
    repeat
      conv => whnf
      first
        | refine ⟨_, by assumption, ?_⟩
        | refine ⟨(Nat.le_of_ble_eq_true rfl), _, by assumption, ?_⟩
        | refine ⟨by kernel_rfl, ?_⟩
        | exact rfl
        | exact ⟨Nat.le_of_ble_eq_true rfl, rfl⟩
        | refine ⟨by decide, ?_⟩
  have e0 : (c == 60) = false := beq_false_of_ne h0
  have e1 : (c == 8804) = false := beq_false_of_ne h1
  have e2 : (c == 61) = false := beq_false_of_ne h2
  have e3 : (c == 8805) = false := beq_false_of_ne h3
  have e4 : (c == 62) = false := beq_false_of_ne h4
  have e5 : (c == 8800) = false := beq_false_of_ne h5
  rw [decide_eq_false (show ¬ isCmp c by unfold isCmp; omega)]
  conv => whnf
  refine caseb (fun h => Bool.noConfusion ((e0).symm.trans h)) (fun _ => ?_)
  conv => whnf
  refine caseb (fun h => Bool.noConfusion ((e1).symm.trans h)) (fun _ => ?_)
  conv => whnf
  refine caseb (fun h => Bool.noConfusion ((e2).symm.trans h)) (fun _ => ?_)
  conv => whnf
  refine caseb (fun h => Bool.noConfusion ((e3).symm.trans h)) (fun _ => ?_)
  conv => whnf
  refine caseb (fun h => Bool.noConfusion ((e4).symm.trans h)) (fun _ => ?_)
  conv => whnf
  refine caseb (fun h => Bool.noConfusion ((e5).symm.trans h)) (fun _ => ?_)
  repeat
    conv => whnf
    first
      | refine ⟨_, by assumption, ?_⟩
      | refine ⟨(Nat.le_of_ble_eq_true rfl), _, by assumption, ?_⟩
      | refine ⟨by kernel_rfl, ?_⟩
      | exact rfl
      | exact ⟨Nat.le_of_ble_eq_true rfl, rfl⟩
      | refine ⟨by decide, ?_⟩
theorem judges_ok (c : Int) : AC Tryz.prog 89 [.val (.int .i32 c)] (.pure (.val (.bool (decide (isJdg c))))) := by
  refine AC.of_body TTok Tryz.func89 rfl (enter_of Tryz.func89 (by kernel_rfl) (by kernel_rfl)) (noid1 (.val _)) (.val _) (Nat.le_of_ble_eq_true rfl) ?_
  by_cases h0 : c = 8743
  · subst h0
    rw [decide_eq_true (show isJdg 8743 by decide)]
    repeat
      conv => whnf
      first
        | refine ⟨_, by assumption, ?_⟩
        | refine ⟨(Nat.le_of_ble_eq_true rfl), _, by assumption, ?_⟩
        | refine ⟨by kernel_rfl, ?_⟩
        | exact rfl
        | exact ⟨Nat.le_of_ble_eq_true rfl, rfl⟩
        | refine ⟨by decide, ?_⟩
  by_cases h1 : c = 8744
  · subst h1
    rw [decide_eq_true (show isJdg 8744 by decide)]
    repeat
      conv => whnf
      first
        | refine ⟨_, by assumption, ?_⟩
        | refine ⟨(Nat.le_of_ble_eq_true rfl), _, by assumption, ?_⟩
        | refine ⟨by kernel_rfl, ?_⟩
        | exact rfl
        | exact ⟨Nat.le_of_ble_eq_true rfl, rfl⟩
        | refine ⟨by decide, ?_⟩
  by_cases h2 : c = 9074
  · subst h2
    rw [decide_eq_true (show isJdg 9074 by decide)]
    repeat
      conv => whnf
      first
        | refine ⟨_, by assumption, ?_⟩
        | refine ⟨(Nat.le_of_ble_eq_true rfl), _, by assumption, ?_⟩
        | refine ⟨by kernel_rfl, ?_⟩
        | exact rfl
        | exact ⟨Nat.le_of_ble_eq_true rfl, rfl⟩
        | refine ⟨by decide, ?_⟩
  by_cases h3 : c = 9073
  · subst h3
    rw [decide_eq_true (show isJdg 9073 by decide)]
    repeat
      conv => whnf
      first
        | refine ⟨_, by assumption, ?_⟩
        | refine ⟨(Nat.le_of_ble_eq_true rfl), _, by assumption, ?_⟩
        | refine ⟨by kernel_rfl, ?_⟩
        | exact rfl
        | exact ⟨Nat.le_of_ble_eq_true rfl, rfl⟩
        | refine ⟨by decide, ?_⟩
  have e0 : (c == 8743) = false := beq_false_of_ne h0
  have e1 : (c == 8744) = false := beq_false_of_ne h1
  have e2 : (c == 9074) = false := beq_false_of_ne h2
  have e3 : (c == 9073) = false := beq_false_of_ne h3
  rw [decide_eq_false (show ¬ isJdg c by unfold isJdg; omega)]
  conv => whnf
  refine caseb (fun h => Bool.noConfusion ((e0).symm.trans h)) (fun _ => ?_)
  conv => whnf
  refine caseb (fun h => Bool.noConfusion ((e1).symm.trans h)) (fun _ => ?_)
  conv => whnf
  refine caseb (fun h => Bool.noConfusion ((e2).symm.trans h)) (fun _ => ?_)
  conv => whnf
  refine caseb (fun h => Bool.noConfusion ((e3).symm.trans h)) (fun _ => ?_)
  repeat
    conv => whnf
    first
      | refine ⟨_, by assumption, ?_⟩
      | refine ⟨(Nat.le_of_ble_eq_true rfl), _, by assumption, ?_⟩
      | refine ⟨by kernel_rfl, ?_⟩
      | exact rfl
      | exact ⟨Nat.le_of_ble_eq_true rfl, rfl⟩
      | refine ⟨by decide, ?_⟩
theorem reckons_ok (c : Int) : AC Tryz.prog 87 [.val (.int .i32 c)] (.pure (.val (.bool (decide (isRec c))))) := by
  refine AC.of_body TTok Tryz.func87 rfl (enter_of Tryz.func87 (by kernel_rfl) (by kernel_rfl)) (noid1 (.val _)) (.val _) (Nat.le_of_ble_eq_true rfl) ?_
  by_cases h0 : c = 43
  · subst h0
    rw [decide_eq_true (show isRec 43 by decide)]
    repeat
      conv => whnf
      first
        | refine ⟨_, by assumption, ?_⟩
        | refine ⟨(Nat.le_of_ble_eq_true rfl), _, by assumption, ?_⟩
        | refine ⟨by kernel_rfl, ?_⟩
        | exact rfl
        | exact ⟨Nat.le_of_ble_eq_true rfl, rfl⟩
        | refine ⟨by decide, ?_⟩
  by_cases h1 : c = 45
  · subst h1
    rw [decide_eq_true (show isRec 45 by decide)]
    repeat
      conv => whnf
      first
        | refine ⟨_, by assumption, ?_⟩
        | refine ⟨(Nat.le_of_ble_eq_true rfl), _, by assumption, ?_⟩
        | refine ⟨by kernel_rfl, ?_⟩
        | exact rfl
        | exact ⟨Nat.le_of_ble_eq_true rfl, rfl⟩
        | refine ⟨by decide, ?_⟩
  by_cases h2 : c = 215
  · subst h2
    rw [decide_eq_true (show isRec 215 by decide)]
    repeat
      conv => whnf
      first
        | refine ⟨_, by assumption, ?_⟩
        | refine ⟨(Nat.le_of_ble_eq_true rfl), _, by assumption, ?_⟩
        | refine ⟨by kernel_rfl, ?_⟩
        | exact rfl
        | exact ⟨Nat.le_of_ble_eq_true rfl, rfl⟩
        | refine ⟨by decide, ?_⟩
  by_cases h3 : c = 247
  · subst h3
    rw [decide_eq_true (show isRec 247 by decide)]
    repeat
      conv => whnf
      first
        | refine ⟨_, by assumption, ?_⟩
        | refine ⟨(Nat.le_of_ble_eq_true rfl), _, by assumption, ?_⟩
        | refine ⟨by kernel_rfl, ?_⟩
        | exact rfl
        | exact ⟨Nat.le_of_ble_eq_true rfl, rfl⟩
        | refine ⟨by decide, ?_⟩
  by_cases h4 : c = 8968
  · subst h4
    rw [decide_eq_true (show isRec 8968 by decide)]
    repeat
      conv => whnf
      first
        | refine ⟨_, by assumption, ?_⟩
        | refine ⟨(Nat.le_of_ble_eq_true rfl), _, by assumption, ?_⟩
        | refine ⟨by kernel_rfl, ?_⟩
        | exact rfl
        | exact ⟨Nat.le_of_ble_eq_true rfl, rfl⟩
        | refine ⟨by decide, ?_⟩
  by_cases h5 : c = 8970
  · subst h5
    rw [decide_eq_true (show isRec 8970 by decide)]
    repeat
      conv => whnf
      first
        | refine ⟨_, by assumption, ?_⟩
        | refine ⟨(Nat.le_of_ble_eq_true rfl), _, by assumption, ?_⟩
        | refine ⟨by kernel_rfl, ?_⟩
        | exact rfl
        | exact ⟨Nat.le_of_ble_eq_true rfl, rfl⟩
        | refine ⟨by decide, ?_⟩
  by_cases h6 : c = 124
  · subst h6
    rw [decide_eq_true (show isRec 124 by decide)]
    repeat
      conv => whnf
      first
        | refine ⟨_, by assumption, ?_⟩
        | refine ⟨(Nat.le_of_ble_eq_true rfl), _, by assumption, ?_⟩
        | refine ⟨by kernel_rfl, ?_⟩
        | exact rfl
        | exact ⟨Nat.le_of_ble_eq_true rfl, rfl⟩
        | refine ⟨by decide, ?_⟩
  by_cases h7 : c = 42
  · subst h7
    rw [decide_eq_true (show isRec 42 by decide)]
    repeat
      conv => whnf
      first
        | refine ⟨_, by assumption, ?_⟩
        | refine ⟨(Nat.le_of_ble_eq_true rfl), _, by assumption, ?_⟩
        | refine ⟨by kernel_rfl, ?_⟩
        | exact rfl
        | exact ⟨Nat.le_of_ble_eq_true rfl, rfl⟩
        | refine ⟨by decide, ?_⟩
  by_cases h8 : c = 33
  · subst h8
    rw [decide_eq_true (show isRec 33 by decide)]
    repeat
      conv => whnf
      first
        | refine ⟨_, by assumption, ?_⟩
        | refine ⟨(Nat.le_of_ble_eq_true rfl), _, by assumption, ?_⟩
        | refine ⟨by kernel_rfl, ?_⟩
        | exact rfl
        | exact ⟨Nat.le_of_ble_eq_true rfl, rfl⟩
        | refine ⟨by decide, ?_⟩
  by_cases h9 : c = 9055
  · subst h9
    rw [decide_eq_true (show isRec 9055 by decide)]
    repeat
      conv => whnf
      first
        | refine ⟨_, by assumption, ?_⟩
        | refine ⟨(Nat.le_of_ble_eq_true rfl), _, by assumption, ?_⟩
        | refine ⟨by kernel_rfl, ?_⟩
        | exact rfl
        | exact ⟨Nat.le_of_ble_eq_true rfl, rfl⟩
        | refine ⟨by decide, ?_⟩
  by_cases h10 : c = 9675
  · subst h10
    rw [decide_eq_true (show isRec 9675 by decide)]
    repeat
      conv => whnf
      first
        | refine ⟨_, by assumption, ?_⟩
        | refine ⟨(Nat.le_of_ble_eq_true rfl), _, by assumption, ?_⟩
        | refine ⟨by kernel_rfl, ?_⟩
        | exact rfl
        | exact ⟨Nat.le_of_ble_eq_true rfl, rfl⟩
        | refine ⟨by decide, ?_⟩
  have e0 : (c == 43) = false := beq_false_of_ne h0
  have e1 : (c == 45) = false := beq_false_of_ne h1
  have e2 : (c == 215) = false := beq_false_of_ne h2
  have e3 : (c == 247) = false := beq_false_of_ne h3
  have e4 : (c == 8968) = false := beq_false_of_ne h4
  have e5 : (c == 8970) = false := beq_false_of_ne h5
  have e6 : (c == 124) = false := beq_false_of_ne h6
  have e7 : (c == 42) = false := beq_false_of_ne h7
  have e8 : (c == 33) = false := beq_false_of_ne h8
  have e9 : (c == 9055) = false := beq_false_of_ne h9
  have e10 : (c == 9675) = false := beq_false_of_ne h10
  rw [decide_eq_false (show ¬ isRec c by unfold isRec; omega)]
  conv => whnf
  refine caseb (fun h => Bool.noConfusion ((e0).symm.trans h)) (fun _ => ?_)
  conv => whnf
  refine caseb (fun h => Bool.noConfusion ((e1).symm.trans h)) (fun _ => ?_)
  conv => whnf
  refine caseb (fun h => Bool.noConfusion ((e2).symm.trans h)) (fun _ => ?_)
  conv => whnf
  refine caseb (fun h => Bool.noConfusion ((e3).symm.trans h)) (fun _ => ?_)
  conv => whnf
  refine caseb (fun h => Bool.noConfusion ((e4).symm.trans h)) (fun _ => ?_)
  conv => whnf
  refine caseb (fun h => Bool.noConfusion ((e5).symm.trans h)) (fun _ => ?_)
  conv => whnf
  refine caseb (fun h => Bool.noConfusion ((e6).symm.trans h)) (fun _ => ?_)
  conv => whnf
  refine caseb (fun h => Bool.noConfusion ((e7).symm.trans h)) (fun _ => ?_)
  conv => whnf
  refine caseb (fun h => Bool.noConfusion ((e8).symm.trans h)) (fun _ => ?_)
  conv => whnf
  refine caseb (fun h => Bool.noConfusion ((e9).symm.trans h)) (fun _ => ?_)
  conv => whnf
  refine caseb (fun h => Bool.noConfusion ((e10).symm.trans h)) (fun _ => ?_)
  repeat
    conv => whnf
    first
      | refine ⟨_, by assumption, ?_⟩
      | refine ⟨(Nat.le_of_ble_eq_true rfl), _, by assumption, ?_⟩
      | refine ⟨by kernel_rfl, ?_⟩
      | exact rfl
      | exact ⟨Nat.le_of_ble_eq_true rfl, rfl⟩
      | refine ⟨by decide, ?_⟩
theorem Has_ok (c : Int) : AC Tryz.prog 35 [.val (.int .i32 c)] (.pure (.val (.bool (decide (isTwo c))))) := by
  refine AC.of_body TTok Tryz.func35 rfl (enter_of Tryz.func35 (by kernel_rfl) (by kernel_rfl)) (noid1 (.val _)) (.val _) (Nat.le_of_ble_eq_true rfl) ?_
  have hR := reckons_ok c
  have hC := compares_ok c
  have hJ := judges_ok c
  rw [show decide (isTwo c) = (decide (isRec c) || (decide (isCmp c) || decide (isJdg c))) by
    by_cases h1 : isRec c
    · rw [decide_eq_true h1, decide_eq_true (show isTwo c from .inl h1)]; rfl
    · by_cases h2 : isCmp c
      · rw [decide_eq_true h2, decide_eq_true (show isTwo c from .inr (.inl h2)), Bool.true_or, Bool.or_true]
      · by_cases h3 : isJdg c
        · rw [decide_eq_true h3, decide_eq_true (show isTwo c from .inr (.inr h3)), Bool.or_true, Bool.or_true]
        · rw [decide_eq_false h1, decide_eq_false h2, decide_eq_false h3, decide_eq_false (show ¬ isTwo c from fun h => h.elim h1 (fun h => h.elim h2 h3))]; rfl]
  generalize decide (isRec c) = r at *
  generalize decide (isCmp c) = s at *
  generalize decide (isJdg c) = t at *
  cases r
  · cases s
    · repeat
        conv => whnf
        first
          | refine ⟨_, by assumption, ?_⟩
          | refine ⟨(Nat.le_of_ble_eq_true rfl), _, by assumption, ?_⟩
          | refine ⟨by kernel_rfl, ?_⟩
          | exact rfl
          | exact ⟨Nat.le_of_ble_eq_true rfl, rfl⟩
          | refine ⟨by decide, ?_⟩
    · repeat
        conv => whnf
        first
          | refine ⟨_, by assumption, ?_⟩
          | refine ⟨(Nat.le_of_ble_eq_true rfl), _, by assumption, ?_⟩
          | refine ⟨by kernel_rfl, ?_⟩
          | exact rfl
          | exact ⟨Nat.le_of_ble_eq_true rfl, rfl⟩
          | refine ⟨by decide, ?_⟩
  · repeat
      conv => whnf
      first
        | refine ⟨_, by assumption, ?_⟩
        | refine ⟨(Nat.le_of_ble_eq_true rfl), _, by assumption, ?_⟩
        | refine ⟨by kernel_rfl, ?_⟩
        | exact rfl
        | exact ⟨Nat.le_of_ble_eq_true rfl, rfl⟩
        | refine ⟨by decide, ?_⟩
def signs : List Int := [43, 45, 215, 247, 8968, 8970, 124, 42, 33, 9055, 9675, 60, 8804, 61, 8805, 62, 8800, 8743, 8744, 9074, 9073]
end Go.Proofs.YtbdklokfijjifaaGreat

/- Functions of two numbers: orders and truths. -/
set_option linter.unusedVariables false
namespace Go.Proofs.YtbdklokfijjifaaGreat
open Go Go.AL NM

/-- What a sign tells of an order. -/
def cmpS (c n : Int) : Bool :=
  if c = 60 then decide (n < 0) else if c = 8804 then decide (n ≤ 0) else if c = 61 then n == 0 else if c = 8805 then decide (n ≥ 0) else if c = 62 then decide (n > 0) else n != 0

theorem Compare_ok (c n : Int) : AC Tryz.prog 136 [.val (.int .i32 c), .val (.int .i64 n)] (.pure (.val (.bool (cmpS c n)))) := by
  refine AC.of_body TTok Tryz.func136 rfl (enter_of Tryz.func136 (by kernel_rfl) (by kernel_rfl)) (noid2 (.val _) (.val _)) (.val _) (Nat.le_of_ble_eq_true rfl) ?_
  by_cases h0 : c = 60
  · subst h0
    rw [show cmpS 60 n = decide (n < 0) from rfl]
    repeat
      conv => whnf
      first
        | refine ⟨_, by assumption, ?_⟩
        | refine ⟨(Nat.le_of_ble_eq_true rfl), _, by assumption, ?_⟩
        | refine ⟨by kernel_rfl, ?_⟩
        | exact rfl
        | exact ⟨Nat.le_of_ble_eq_true rfl, rfl⟩
        | refine ⟨by decide, ?_⟩
  by_cases h1 : c = 8804
  · subst h1
    rw [show cmpS 8804 n = decide (n ≤ 0) from rfl]
    repeat
      conv => whnf
      first
        | refine ⟨_, by assumption, ?_⟩
        | refine ⟨(Nat.le_of_ble_eq_true rfl), _, by assumption, ?_⟩
        | refine ⟨by kernel_rfl, ?_⟩
        | exact rfl
        | exact ⟨Nat.le_of_ble_eq_true rfl, rfl⟩
        | refine ⟨by decide, ?_⟩
  by_cases h2 : c = 61
  · subst h2
    rw [show cmpS 61 n = (n == 0) from rfl]
    repeat
      conv => whnf
      first
        | refine ⟨_, by assumption, ?_⟩
        | refine ⟨(Nat.le_of_ble_eq_true rfl), _, by assumption, ?_⟩
        | refine ⟨by kernel_rfl, ?_⟩
        | exact rfl
        | exact ⟨Nat.le_of_ble_eq_true rfl, rfl⟩
        | refine ⟨by decide, ?_⟩
  by_cases h3 : c = 8805
  · subst h3
    rw [show cmpS 8805 n = decide (n ≥ 0) from rfl]
    repeat
      conv => whnf
      first
        | refine ⟨_, by assumption, ?_⟩
        | refine ⟨(Nat.le_of_ble_eq_true rfl), _, by assumption, ?_⟩
        | refine ⟨by kernel_rfl, ?_⟩
        | exact rfl
        | exact ⟨Nat.le_of_ble_eq_true rfl, rfl⟩
        | refine ⟨by decide, ?_⟩
  by_cases h4 : c = 62
  · subst h4
    rw [show cmpS 62 n = decide (n > 0) from rfl]
    repeat
      conv => whnf
      first
        | refine ⟨_, by assumption, ?_⟩
        | refine ⟨(Nat.le_of_ble_eq_true rfl), _, by assumption, ?_⟩
        | refine ⟨by kernel_rfl, ?_⟩
        | exact rfl
        | exact ⟨Nat.le_of_ble_eq_true rfl, rfl⟩
        | refine ⟨by decide, ?_⟩
  have e0 : (c == 60) = false := beq_false_of_ne h0
  have e1 : (c == 8804) = false := beq_false_of_ne h1
  have e2 : (c == 61) = false := beq_false_of_ne h2
  have e3 : (c == 8805) = false := beq_false_of_ne h3
  have e4 : (c == 62) = false := beq_false_of_ne h4
  rw [show cmpS c n = (n != 0) by unfold cmpS; rw [if_neg h0, if_neg h1, if_neg h2, if_neg h3, if_neg h4]]
  conv => whnf
  refine caseb (fun h => Bool.noConfusion ((e0).symm.trans h)) (fun _ => ?_)
  conv => whnf
  refine caseb (fun h => Bool.noConfusion ((e1).symm.trans h)) (fun _ => ?_)
  conv => whnf
  refine caseb (fun h => Bool.noConfusion ((e2).symm.trans h)) (fun _ => ?_)
  conv => whnf
  refine caseb (fun h => Bool.noConfusion ((e3).symm.trans h)) (fun _ => ?_)
  conv => whnf
  refine caseb (fun h => Bool.noConfusion ((e4).symm.trans h)) (fun _ => ?_)
  repeat
    conv => whnf
    first
      | refine ⟨_, by assumption, ?_⟩
      | refine ⟨(Nat.le_of_ble_eq_true rfl), _, by assumption, ?_⟩
      | refine ⟨by kernel_rfl, ?_⟩
      | exact rfl
      | exact ⟨Nat.le_of_ble_eq_true rfl, rfl⟩
      | refine ⟨by decide, ?_⟩
/-- Truths as numbers. -/
def tq (t : Bool) : Rat := if t then 1 else 0
def td (t : Bool) : Nat := if t then 1 else 0
theorem td_dn (t : Bool) : dn (td t) = (tq t).den := by cases t <;> rfl
theorem tq_sz (t : Bool) : Sz (tq t) 1 := by cases t; exact Sz_zero; exact Sz_small (q := 1) (by decide) (by decide)
theorem truth_ok (t : Bool) : AC Tryz.prog 135 [.val (.bool t)] (.pure (RA (tq t).num (td t))) := by
  cases t
  · refine AC.le_res (v := RZ) ?_ RZ_le (RA_noid _ _)
    refine AC.of_body TTok Tryz.func135 rfl (enter_of Tryz.func135 (by kernel_rfl) (by kernel_rfl)) (noid1 (.val _)) RZ_noid (Nat.le_of_ble_eq_true rfl) ?_
    unfold RZ
    repeat
      conv => whnf
      first
        | refine ⟨_, by assumption, ?_⟩
        | refine ⟨(Nat.le_of_ble_eq_true rfl), _, by assumption, ?_⟩
        | refine ⟨by kernel_rfl, ?_⟩
        | exact rfl
        | exact ⟨Nat.le_of_ble_eq_true rfl, rfl⟩
        | refine ⟨by decide, ?_⟩
  · show AC Tryz.prog 135 [.val (.bool true)] (.pure (RA 1 1))
    refine AC.of_body TTok Tryz.func135 rfl (enter_of Tryz.func135 (by kernel_rfl) (by kernel_rfl)) (noid1 (.val _)) (RA_noid _ _) (Nat.le_of_ble_eq_true rfl) ?_
    have hF := RatFrom_ok 1 (by decide)
    unfold RA at *
    repeat
      conv => whnf
      first
        | refine ⟨_, by assumption, ?_⟩
        | refine ⟨(Nat.le_of_ble_eq_true rfl), _, by assumption, ?_⟩
        | refine ⟨by kernel_rfl, ?_⟩
        | exact rfl
        | exact ⟨Nat.le_of_ble_eq_true rfl, rfl⟩
        | refine ⟨by decide, ?_⟩
/-- A truth that a number is. -/
def bitQ (q : Rat) : Option Bool := if q = 0 then some false else if q = 1 then some true else none
def jdgB (c : Int) (x y : Bool) : Bool := if c = 8743 then x && y else if c = 8744 then x || y else if c = 9074 then !(x && y) else !(x || y)
theorem bit_int {q : Rat} (t : Bool) (h : bitQ q = some t) : q = (if t then 1 else 0) := by
  unfold bitQ at h
  split at h
  · cases h; assumption
  · split at h
    · cases h; assumption
    · cases h
def intV (q : Rat) : Int := if fitQ q.num q.den then q.num else 0
theorem intV_fit (q : Rat) : fit (intV q) := by
  unfold intV
  split
  · rename_i h; exact h.2
  · decide
theorem intV_none {q : Rat} (hb : bitQ q = none) : decide (fitQ q.num q.den) = false ∨ intV q < 0 ∨ 1 < intV q := by
  unfold intV
  by_cases h : fitQ q.num q.den
  · rw [if_pos h]
    right
    have : q = (q.num : Rat) := Rat.ext rfl h.1
    unfold bitQ at hb
    have n0 : q.num ≠ 0 := fun e => by rw [if_pos (Rat.num_eq_zero.1 e)] at hb; cases hb
    have n1 : q.num ≠ 1 := fun e => by
      rw [e] at this
      by_cases h0 : q = 0
      · rw [if_pos h0] at hb; cases hb
      · rw [if_neg h0, if_pos (show q = 1 from this)] at hb; cases hb
    omega
  · exact .inl (decide_eq_false h)
theorem intV_bit (q : Rat) (t : Bool) (ht : bitQ q = some t) : decide (fitQ q.num q.den) = true ∧ intV q = if t then 1 else 0 := by
  rw [bit_int t ht]
  cases t
  · exact ⟨rfl, rfl⟩
  · exact ⟨rfl, rfl⟩
theorem int_prog (q : Rat) (i : Nat) (hi : dn i = q.den) (lq : Sz q 1000) : ∃ (v : Int) (ok : Bool), fit v ∧ (bitQ q = none → ok = false ∨ v < 0 ∨ 1 < v) ∧ (∀ t, bitQ q = some t → ok = true ∧ v = if t then 1 else 0) ∧
    AC Tryz.prog 132 [RA q.num i] (.pure (.tup [.val (.int .i64 v), .val (.bool ok)])) := by
  have h1 := RInt_ok q.num i
  rw [hi] at h1
  exact ⟨intV q, _, intV_fit q, intV_none, intV_bit q, h1⟩
/-- What a judging function makes of two numbers. -/
def judgeQ (c : Int) (a b : Rat) : Rat × Int :=
  match bitQ a, bitQ b with
  | some x, some y => (tq (jdgB c x y), 0)
  | _, _ => (0, 22)

theorem jcases {a b : Rat} {v w : Int} {ok is : Bool} (nv : bitQ a = none → ok = false ∨ v < 0 ∨ 1 < v) (nw : bitQ b = none → is = false ∨ w < 0 ∨ 1 < w) (h : bitQ a = none ∨ bitQ b = none) :
    ok = false ∨ (ok = true ∧ is = false) ∨ (ok = true ∧ is = true ∧ ((v < 0 ∨ 1 < v) ∨ (0 ≤ v ∧ v ≤ 1 ∧ (w < 0 ∨ 1 < w)))) := by
  cases ok
  · exact .inl rfl
  · cases is
    · exact .inr (.inl ⟨rfl, rfl⟩)
    · refine .inr (.inr ⟨rfl, rfl, ?_⟩)
      rcases h with h | h
      · rcases nv h with h' | h'
        · cases h'
        · exact .inl h'
      · rcases nw h with h' | h'
        · cases h'
        · by_cases h2 : v < 0 ∨ 1 < v
          · exact .inl h2
          · exact .inr ⟨by omega, by omega, h'⟩
theorem judge_bad (c : Int) (a b : Rat) (i j : Nat) (hi : dn i = a.den) (hj : dn j = b.den) (la : Sz a 1000) (lb : Sz b 1000) (h : bitQ a = none ∨ bitQ b = none) : AC Tryz.prog 137 [.val (.int .i32 c), RA a.num i, RA b.num j] (.pure (.tup [RA 0 0, .val (.int .i64 22)])) := by
  obtain ⟨v, ok, fv, nv, _, A1⟩ := int_prog a i hi la
  obtain ⟨w, is, fw, nw, _, B1⟩ := int_prog b j hj lb
  have cs := jcases nv nw h
  refine AC.le_res (v := .tup [RZ, .val (.int .i64 22)]) ?_ (.tup2 RZ_le (.refl _)) (.tup _ (noid2 (RA_noid _ _) (.val _)))
  refine AC.of_body TTok Tryz.func137 rfl (enter_of Tryz.func137 (by kernel_rfl) (by kernel_rfl)) (noid3 (.val _) (RA_noid _ _) (RA_noid _ _)) (.tup _ (noid2 RZ_noid (.val _))) (Nat.le_of_ble_eq_true rfl) ?_
  unfold RA RZ at *
  rcases cs with rfl | ⟨rfl, rfl⟩ | ⟨rfl, rfl, hv | ⟨v0, v1, hw⟩⟩
  · repeat
      conv => whnf
      first
        | refine ⟨_, by assumption, ?_⟩
        | refine ⟨(Nat.le_of_ble_eq_true rfl), _, by assumption, ?_⟩
        | refine ⟨by kernel_rfl, ?_⟩
        | exact rfl
        | exact ⟨Nat.le_of_ble_eq_true rfl, rfl⟩
        | refine ⟨by decide, ?_⟩
  · repeat
      conv => whnf
      first
        | refine ⟨_, by assumption, ?_⟩
        | refine ⟨(Nat.le_of_ble_eq_true rfl), _, by assumption, ?_⟩
        | refine ⟨by kernel_rfl, ?_⟩
        | exact rfl
        | exact ⟨Nat.le_of_ble_eq_true rfl, rfl⟩
        | refine ⟨by decide, ?_⟩
  · by_cases h0 : v < 0
    · have f1 : decide (v < 0) = true := decide_eq_true h0
      conv => whnf
      refine ⟨_, A1, ?_⟩
      conv => whnf
      refine ⟨_, B1, ?_⟩
      conv => whnf
      refine caseb (fun _ => ?_) (fun h => Bool.noConfusion ((f1).symm.trans h))
      repeat
        conv => whnf
        first
          | refine ⟨_, by assumption, ?_⟩
          | refine ⟨(Nat.le_of_ble_eq_true rfl), _, by assumption, ?_⟩
          | refine ⟨by kernel_rfl, ?_⟩
          | exact rfl
          | exact ⟨Nat.le_of_ble_eq_true rfl, rfl⟩
          | refine ⟨by decide, ?_⟩
    · have f1 : decide (v < 0) = false := decide_eq_false h0
      have f2 : decide (v > 1) = true := decide_eq_true (by omega)
      conv => whnf
      refine ⟨_, A1, ?_⟩
      conv => whnf
      refine ⟨_, B1, ?_⟩
      conv => whnf
      refine caseb (fun h => Bool.noConfusion ((f1).symm.trans h)) (fun _ => ?_)
      conv => whnf
      refine caseb (fun _ => ?_) (fun h => Bool.noConfusion ((f2).symm.trans h))
      repeat
        conv => whnf
        first
          | refine ⟨_, by assumption, ?_⟩
          | refine ⟨(Nat.le_of_ble_eq_true rfl), _, by assumption, ?_⟩
          | refine ⟨by kernel_rfl, ?_⟩
          | exact rfl
          | exact ⟨Nat.le_of_ble_eq_true rfl, rfl⟩
          | refine ⟨by decide, ?_⟩
  · have f1 : decide (v < 0) = false := decide_eq_false (by omega)
    have f2 : decide (v > 1) = false := decide_eq_false (by omega)
    by_cases h0 : w < 0
    · have f3 : decide (w < 0) = true := decide_eq_true h0
      conv => whnf
      refine ⟨_, A1, ?_⟩
      conv => whnf
      refine ⟨_, B1, ?_⟩
      conv => whnf
      refine caseb (fun h => Bool.noConfusion ((f1).symm.trans h)) (fun _ => ?_)
      conv => whnf
      refine caseb (fun h => Bool.noConfusion ((f2).symm.trans h)) (fun _ => ?_)
      conv => whnf
      refine caseb (fun _ => ?_) (fun h => Bool.noConfusion ((f3).symm.trans h))
      repeat
        conv => whnf
        first
          | refine ⟨_, by assumption, ?_⟩
          | refine ⟨(Nat.le_of_ble_eq_true rfl), _, by assumption, ?_⟩
          | refine ⟨by kernel_rfl, ?_⟩
          | exact rfl
          | exact ⟨Nat.le_of_ble_eq_true rfl, rfl⟩
          | refine ⟨by decide, ?_⟩
    · have f3 : decide (w < 0) = false := decide_eq_false h0
      have f4 : decide (w > 1) = true := decide_eq_true (by omega)
      conv => whnf
      refine ⟨_, A1, ?_⟩
      conv => whnf
      refine ⟨_, B1, ?_⟩
      conv => whnf
      refine caseb (fun h => Bool.noConfusion ((f1).symm.trans h)) (fun _ => ?_)
      conv => whnf
      refine caseb (fun h => Bool.noConfusion ((f2).symm.trans h)) (fun _ => ?_)
      conv => whnf
      refine caseb (fun h => Bool.noConfusion ((f3).symm.trans h)) (fun _ => ?_)
      conv => whnf
      refine caseb (fun _ => ?_) (fun h => Bool.noConfusion ((f4).symm.trans h))
      repeat
        conv => whnf
        first
          | refine ⟨_, by assumption, ?_⟩
          | refine ⟨(Nat.le_of_ble_eq_true rfl), _, by assumption, ?_⟩
          | refine ⟨by kernel_rfl, ?_⟩
          | exact rfl
          | exact ⟨Nat.le_of_ble_eq_true rfl, rfl⟩
          | refine ⟨by decide, ?_⟩
set_option maxRecDepth 100000 in
theorem judge_good (c : Int) (hc : isJdg c) (a b : Rat) (i j : Nat) (hi : dn i = a.den) (hj : dn j = b.den) (la : Sz a 1000) (lb : Sz b 1000) (x y : Bool) (hx : bitQ a = some x) (hy : bitQ b = some y) :
    AC Tryz.prog 137 [.val (.int .i32 c), RA a.num i, RA b.num j] (.pure (.tup [RA (tq (jdgB c x y)).num (td (jdgB c x y)), .val (.int .i64 0)])) := by
  obtain ⟨v, ok, _, _, nv, A1⟩ := int_prog a i hi la
  obtain ⟨w, is, _, _, nw, B1⟩ := int_prog b j hj lb
  obtain ⟨rfl, rfl⟩ := nv x hx
  obtain ⟨rfl, rfl⟩ := nw y hy
  have T0 := truth_ok false
  have T1 := truth_ok true
  refine AC.of_body TTok Tryz.func137 rfl (enter_of Tryz.func137 (by kernel_rfl) (by kernel_rfl)) (noid3 (.val _) (RA_noid _ _) (RA_noid _ _)) (.tup _ (noid2 (RA_noid _ _) (.val _))) (Nat.le_of_ble_eq_true rfl) ?_
  clear hx hy nv nw
  unfold RA at *
  cases x <;> cases y <;> rcases hc with rfl | rfl | rfl | rfl
  all_goals
    repeat
      conv => whnf
      first
        | refine ⟨_, by assumption, ?_⟩
        | refine ⟨(Nat.le_of_ble_eq_true rfl), _, by assumption, ?_⟩
        | refine ⟨by kernel_rfl, ?_⟩
        | exact rfl
        | exact ⟨Nat.le_of_ble_eq_true rfl, rfl⟩
        | refine ⟨by decide, ?_⟩
theorem judge_ok (c : Int) (hc : isJdg c) (a b : Rat) (i j : Nat) (hi : dn i = a.den) (hj : dn j = b.den) (la : Sz a 1000) (lb : Sz b 1000) : ∃ d, dn d = (judgeQ c a b).1.den ∧
    AC Tryz.prog 137 [.val (.int .i32 c), RA a.num i, RA b.num j] (.pure (.tup [RA (judgeQ c a b).1.num d, .val (.int .i64 (judgeQ c a b).2)])) := by
  unfold judgeQ
  cases hx : bitQ a with
  | none => exact ⟨0, rfl, judge_bad c a b i j hi hj la lb (.inl hx)⟩
  | some x =>
    cases hy : bitQ b with
    | none => exact ⟨0, rfl, judge_bad c a b i j hi hj la lb (.inr hy)⟩
    | some y => exact ⟨_, td_dn _, judge_good c hc a b i j hi hj la lb x y hx hy⟩
end Go.Proofs.YtbdklokfijjifaaGreat

/- Functions of two numbers: powers. -/
set_option linter.unusedVariables false
namespace Go.Proofs.YtbdklokfijjifaaGreat
open Go Go.AL NM

/-- A number to another one, or why not. -/
def powerQ (a b : Rat) (most : Int) : Rat × Int :=
  if b.den ≠ 1 ∨ (a = 0 ∧ b.num < 0) then (0, 22)
  else if limQ a ∧ b.num ≠ 0 then (if a.num < 0 ∧ b.num.natAbs % 2 = 0 then -a else a, 0)
  else if ¬ fit b.num then (0, 26)
  else ((powQ a b.num most).1, if (powQ a b.num most).2 then 0 else 26)

theorem sig_lit (t : Int) : (t < 0 ∧ sigW t = -1) ∨ (t = 0 ∧ sigW t = 0) ∨ (0 < t ∧ sigW t = 1) := by
  unfold sigW
  rcases Int.lt_trichotomy t 0 with h | h | h
  · left; rw [if_neg (by omega), if_pos h]; exact ⟨h, rfl⟩
  · right; left; rw [if_pos h]; exact ⟨h, rfl⟩
  · right; right; rw [if_neg (by omega), if_neg (by omega)]; exact ⟨h, rfl⟩
theorem RZ22 {P : Program} {f : FuncId} {args : List AV} {e : Int} (h : AC P f args (.pure (.tup [RZ, .val (.int .i64 e)]))) : AC P f args (.pure (.tup [RA 0 0, .val (.int .i64 e)])) :=
  AC.le_res h (.tup2 RZ_le (.refl _)) (.tup _ (noid2 (RA_noid _ _) (.val _)))

theorem Power_ok (a b : Rat) (i j : Nat) (most : Int) (hi : dn i = a.den) (hj : dn j = b.den) (hm : most ≤ 200) (la : Sz a 99) : ∃ d, dn d = (powerQ a b most).1.den ∧ AC Tryz.prog 158 [RA a.num i, RA b.num j, .val (.int .i64 most)] (.pure (.tup [RA (powerQ a b most).1.num d, .val (.int .i64 (powerQ a b most).2)])) := by
  have hW := IsWhole_ok b.num j
  have hSa := RaSign_ok a.num i
  have hSb := RaSign_ok b.num j
  have hL := Limited_ok a.num i
  have hT := RTop_ok b.num j
  have hE := Even_ok b.num.natAbs
  have hM := QMinus_ok a.num i
  have hI := RInt_ok b.num j
  rw [hj] at hW hI
  rw [hi] at hL hM
  unfold powerQ
  by_cases hd : b.den = 1
  rotate_left
  · rw [if_pos (.inl hd)]
    rw [decide_eq_false hd] at hW
    refine ⟨0, rfl, RZ22 ?_⟩
    refine AC.of_body TTok Tryz.func158 rfl (enter_of Tryz.func158 (by kernel_rfl) (by kernel_rfl)) (noid3 (RA_noid _ _) (RA_noid _ _) (.val _)) (.tup _ (noid2 RZ_noid (.val _))) (Nat.le_of_ble_eq_true rfl) ?_
    unfold RA RZ at *
    repeat
      conv => whnf
      first
        | refine ⟨_, by assumption, ?_⟩
        | refine ⟨(Nat.le_of_ble_eq_true rfl), _, by assumption, ?_⟩
        | refine ⟨by kernel_rfl, ?_⟩
        | exact rfl
        | exact ⟨Nat.le_of_ble_eq_true rfl, rfl⟩
        | refine ⟨by decide, ?_⟩
  rw [decide_eq_true hd] at hW
  by_cases hz : a = 0 ∧ b.num < 0
  · rw [if_pos (.inr hz)]
    rw [show sigW a.num = 0 by rw [hz.1]; rfl] at hSa
    rw [show sigW b.num = -1 by unfold sigW; rw [if_neg (by omega), if_pos hz.2]] at hSb
    refine ⟨0, rfl, RZ22 ?_⟩
    refine AC.of_body TTok Tryz.func158 rfl (enter_of Tryz.func158 (by kernel_rfl) (by kernel_rfl)) (noid3 (RA_noid _ _) (RA_noid _ _) (.val _)) (.tup _ (noid2 RZ_noid (.val _))) (Nat.le_of_ble_eq_true rfl) ?_
    unfold RA RZ at *
    repeat
      conv => whnf
      first
        | refine ⟨_, by assumption, ?_⟩
        | refine ⟨(Nat.le_of_ble_eq_true rfl), _, by assumption, ?_⟩
        | refine ⟨by kernel_rfl, ?_⟩
        | exact rfl
        | exact ⟨Nat.le_of_ble_eq_true rfl, rfl⟩
        | refine ⟨by decide, ?_⟩
  rw [if_neg (fun h => h.elim (fun h => h hd) hz)]
  have hz' : ¬ (a.num = 0 ∧ b.num < 0) := fun h => hz ⟨Rat.num_eq_zero.1 h.1, h.2⟩
  by_cases hl : limQ a ∧ b.num ≠ 0
  · have hb0 := hl.2
    rw [if_pos hl]
    rw [decide_eq_true (show a.den = 1 ∧ (a.num.natAbs = 0 ∨ a.num.natAbs = 1) from hl.1)] at hL
    by_cases he : a.num < 0 ∧ b.num.natAbs % 2 = 0
    · rw [if_pos he]
      rw [show sigW a.num = -1 by unfold sigW; rw [if_neg (by omega), if_pos he.1]] at hSa
      rw [decide_eq_true he.2] at hE
      refine ⟨a.den, dn_self a.den_nz, ?_⟩
      refine AC.of_body TTok Tryz.func158 rfl (enter_of Tryz.func158 (by kernel_rfl) (by kernel_rfl)) (noid3 (RA_noid _ _) (RA_noid _ _) (.val _)) (.tup _ (noid2 (RA_noid _ _) (.val _))) (Nat.le_of_ble_eq_true rfl) ?_
      have hM' : AC Tryz.prog 153 [RA a.num i] (.pure (RA (-a).num a.den)) := hM
      clear hM
      rcases sig_lit b.num with ⟨_, e⟩ | ⟨e0, _⟩ | ⟨_, e⟩
      · rw [e] at hSb
        unfold RA WI natA at *
        repeat
          conv => whnf
          first
            | refine ⟨_, by assumption, ?_⟩
            | refine ⟨(Nat.le_of_ble_eq_true rfl), _, by assumption, ?_⟩
            | refine ⟨by kernel_rfl, ?_⟩
            | exact rfl
            | exact ⟨Nat.le_of_ble_eq_true rfl, rfl⟩
            | refine ⟨by decide, ?_⟩
      · exact absurd e0 hb0
      · rw [e] at hSb
        unfold RA WI natA at *
        repeat
          conv => whnf
          first
            | refine ⟨_, by assumption, ?_⟩
            | refine ⟨(Nat.le_of_ble_eq_true rfl), _, by assumption, ?_⟩
            | refine ⟨by kernel_rfl, ?_⟩
            | exact rfl
            | exact ⟨Nat.le_of_ble_eq_true rfl, rfl⟩
            | refine ⟨by decide, ?_⟩
    · rw [if_neg he]
      refine ⟨i, hi, ?_⟩
      refine AC.of_body TTok Tryz.func158 rfl (enter_of Tryz.func158 (by kernel_rfl) (by kernel_rfl)) (noid3 (RA_noid _ _) (RA_noid _ _) (.val _)) (.tup _ (noid2 (RA_noid _ _) (.val _))) (Nat.le_of_ble_eq_true rfl) ?_
      rcases sig_lit a.num with ⟨h1, e1⟩ | ⟨h1, e1⟩ | ⟨h1, e1⟩ <;> rcases sig_lit b.num with ⟨h2, e2⟩ | ⟨h2, e2⟩ | ⟨h2, e2⟩
      all_goals first
        | (exfalso; omega)
        | skip
      all_goals
        rw [e1] at hSa
        rw [e2] at hSb
        first
          | rw [decide_eq_false (show ¬ b.num.natAbs % 2 = 0 from fun h => he ⟨h1, h⟩)] at hE
          | skip
        unfold RA WI natA at *
        repeat
          conv => whnf
          first
            | refine ⟨_, by assumption, ?_⟩
            | refine ⟨(Nat.le_of_ble_eq_true rfl), _, by assumption, ?_⟩
            | refine ⟨by kernel_rfl, ?_⟩
            | exact rfl
            | exact ⟨Nat.le_of_ble_eq_true rfl, rfl⟩
            | refine ⟨by decide, ?_⟩
  rw [if_neg hl]
  have hs : (if decide (a.den = 1 ∧ (a.num.natAbs = 0 ∨ a.num.natAbs = 1)) = true then b.num else 0) = 0 := by
    split
    · rename_i h
      have h' := of_decide_eq_true h
      exact Decidable.of_not_not (fun hb => hl ⟨h', hb⟩)
    · rfl
  by_cases hf : fit b.num
  rotate_left
  · rw [if_pos hf]
    refine ⟨0, rfl, RZ22 ?_⟩
    rw [if_neg (fun h : fitQ b.num b.den => hf h.2), decide_eq_false (fun h : fitQ b.num b.den => hf h.2)] at hI
    refine AC.of_body TTok Tryz.func158 rfl (enter_of Tryz.func158 (by kernel_rfl) (by kernel_rfl)) (noid3 (RA_noid _ _) (RA_noid _ _) (.val _)) (.tup _ (noid2 RZ_noid (.val _))) (Nat.le_of_ble_eq_true rfl) ?_
    generalize decide (a.den = 1 ∧ (a.num.natAbs = 0 ∨ a.num.natAbs = 1)) = s at *
    rcases sig_lit a.num with ⟨h1, e1⟩ | ⟨h1, e1⟩ | ⟨h1, e1⟩ <;> rcases sig_lit b.num with ⟨h2, e2⟩ | ⟨h2, e2⟩ | ⟨h2, e2⟩ <;> cases s
    all_goals simp only [Bool.false_eq_true, if_false, if_true] at hs
    all_goals first
      | (exfalso; omega)
      | skip
    all_goals
      rw [e1] at hSa
      rw [e2] at hSb
      unfold RA RZ at *
      repeat
        conv => whnf
        first
          | refine ⟨_, by assumption, ?_⟩
          | refine ⟨(Nat.le_of_ble_eq_true rfl), _, by assumption, ?_⟩
          | refine ⟨by kernel_rfl, ?_⟩
          | exact rfl
          | exact ⟨Nat.le_of_ble_eq_true rfl, rfl⟩
          | refine ⟨by decide, ?_⟩
  rw [if_neg (fun h => h hf)]
  have hfq : fitQ b.num b.den := ⟨hd, hf⟩
  rw [if_pos hfq, decide_eq_true hfq] at hI
  obtain ⟨d, hd', hP, _⟩ := pow_both a i b.num most hi hf hm la
  refine ⟨d, hd', ?_⟩
  refine AC.of_body TTok Tryz.func158 rfl (enter_of Tryz.func158 (by kernel_rfl) (by kernel_rfl)) (noid3 (RA_noid _ _) (RA_noid _ _) (.val _)) (.tup _ (noid2 (RA_noid _ _) (.val _))) (Nat.le_of_ble_eq_true rfl) ?_
  revert hP
  generalize (powQ a b.num most).1 = r
  generalize (powQ a b.num most).2 = g
  intro hP
  generalize decide (a.den = 1 ∧ (a.num.natAbs = 0 ∨ a.num.natAbs = 1)) = s at *
  rcases sig_lit a.num with ⟨h1, e1⟩ | ⟨h1, e1⟩ | ⟨h1, e1⟩ <;> rcases sig_lit b.num with ⟨h2, e2⟩ | ⟨h2, e2⟩ | ⟨h2, e2⟩ <;> cases s <;> cases g
  all_goals simp only [Bool.false_eq_true, if_false, if_true] at hs
  all_goals first
    | (exfalso; omega)
    | skip
  all_goals
    rw [e1] at hSa
    rw [e2] at hSb
    unfold RA at *
    repeat
      conv => whnf
      first
        | refine ⟨_, by assumption, ?_⟩
        | refine ⟨(Nat.le_of_ble_eq_true rfl), _, by assumption, ?_⟩
        | refine ⟨by kernel_rfl, ?_⟩
        | exact rfl
        | exact ⟨Nat.le_of_ble_eq_true rfl, rfl⟩
        | refine ⟨by decide, ?_⟩

end Go.Proofs.YtbdklokfijjifaaGreat

/- Functions of two numbers: the document's powers. -/
set_option linter.unusedVariables false
namespace Go.Proofs.YtbdklokfijjifaaGreat
open Go Go.AL NM

end Go.Proofs.YtbdklokfijjifaaGreat

/- Functions of two numbers: how many ways there are. -/
set_option linter.unusedVariables false
namespace Go.Proofs.YtbdklokfijjifaaGreat
open Go Go.AL NM

/-- How many ways, factor by factor. -/
def chs (r : Nat) : Nat → Nat
  | 0 => 1
  | i + 1 => chs r i * (r + (i + 1)) / (i + 1)
theorem chs_succ (r i : Nat) : chs r (i + 1) = chs r i * (r + (i + 1)) / (i + 1) := rfl
theorem chs_mono1 (r i : Nat) : chs r i ≤ chs r (i + 1) := by
  rw [chs_succ, Nat.le_div_iff_mul_le (by omega)]
  exact Nat.mul_le_mul_left _ (by omega)
theorem chs_mono (r : Nat) {i j : Nat} (h : i ≤ j) : chs r i ≤ chs r j := by
  induction h with
  | refl => exact Nat.le_refl _
  | step _ ih => exact Nat.le_trans ih (chs_mono1 r _)
theorem chs_big (r : Nat) : ∀ i, i ≤ r → 2 ^ i ≤ chs r i
  | 0, _ => Nat.le_refl _
  | i + 1, h => by
    have ih := chs_big r i (by omega)
    rw [chs_succ, Nat.le_div_iff_mul_le (by omega), Nat.pow_succ, Nat.mul_assoc]
    exact Nat.mul_le_mul ih (by omega)
theorem chs_bound {r i : Nat} (h : i ≤ r) (hl : (limbs (chs r i)).length ≤ 200) : i ≤ 6400 := by
  have h1 := chs_big r i h
  have h2 := val_lt (limbs_lim (chs r i))
  rw [val_limbs, pow32] at h2
  have h3 : 2 ^ i < 2 ^ (32 * (limbs (chs r i)).length) := Nat.lt_of_le_of_lt h1 h2
  have := (Nat.pow_lt_pow_iff_right (by decide : 1 < 2)).1 h3
  omega

/-- Is it fewer limbs than may be? -/
def chsOk (k r : Nat) (most : Int) : Prop := k = 0 ∨ ((limbs (chs r k)).length : Int) ≤ most
instance (k r : Nat) (most : Int) : Decidable (chsOk k r most) := inferInstanceAs (Decidable (_ ∨ _))
def natQ (q : Rat) : Prop := q.den = 1 ∧ 0 ≤ q.num
instance (q : Rat) : Decidable (natQ q) := inferInstanceAs (Decidable (_ ∧ _))
/-- How many ways there are to take so many of others, or why not. -/
def chooseQ (a b : Rat) (most : Int) : Rat × Int :=
  if ¬ (natQ a ∧ natQ b) then (0, 22)
  else if b.num < a.num then (0, 0)
  else if chsOk (min a.num (b.num - a.num)).toNat (max a.num (b.num - a.num)).toNat most then (((chs (max a.num (b.num - a.num)).toNat (min a.num (b.num - a.num)).toNat : Nat) : Int), 0)
  else (0, 26)

theorem int_of {q : Rat} (h : q.den = 1) : q = ((q.num : Int) : Rat) := Rat.ext rfl h
theorem sub_int {a b : Rat} (ha : a.den = 1) (hb : b.den = 1) : (b + -a).num = b.num - a.num ∧ (b + -a).den = 1 := by
  have e : b + -a = ((b.num - a.num : Int) : Rat) := by
    rw [Rat.intCast_sub, ← int_of ha, ← int_of hb, Rat.sub_eq_add_neg]
  rw [e]
  exact ⟨rfl, rfl⟩
theorem floor_nat (x i : Nat) (hi : 0 < i) (hx : (limbs x).length < 1000000) (hl : (limbs i).length < 1000000) : ∃ r, AC Tryz.prog 182 [WI (x : Int), WI (i : Int)] (.pure (.tup [WI ((x / i : Nat) : Int), WI r, .val (.bool true)])) := by
  have h := Floor_ok (x : Int) (i : Int) (by omega) (by rw [Int.natAbs_natCast]; omega) (by rw [Int.natAbs_natCast]; omega) (DivMod_ok _ _ (by rw [Int.natAbs_natCast]; exact hi) (by rw [Int.natAbs_natCast]; omega) (by rw [Int.natAbs_natCast]; omega))
  rw [flQ_ediv _ _ (by omega)] at h
  exact ⟨_, h⟩

theorem Choose_none (a b : Rat) (i j : Nat) (most : Int) (hi : dn i = a.den) (hj : dn j = b.den) (h : ¬ (natQ a ∧ natQ b)) : AC Tryz.prog 159 [RA a.num i, RA b.num j, .val (.int .i64 most)] (.pure (.tup [RA 0 0, .val (.int .i64 22)])) := by
  refine RZ22 ?_
  have hWa := IsWhole_ok a.num i
  have hWb := IsWhole_ok b.num j
  have hSa := RaSign_ok a.num i
  have hSb := RaSign_ok b.num j
  rw [hi] at hWa
  rw [hj] at hWb
  refine AC.of_body TTok Tryz.func159 rfl (enter_of Tryz.func159 (by kernel_rfl) (by kernel_rfl)) (noid3 (RA_noid _ _) (RA_noid _ _) (.val _)) (.tup _ (noid2 RZ_noid (.val _))) (Nat.le_of_ble_eq_true rfl) ?_
  by_cases da : a.den = 1
  · rw [decide_eq_true da] at hWa
    by_cases db : b.den = 1
    · rw [decide_eq_true db] at hWb
      by_cases na : a.num < 0
      · rw [show sigW a.num = -1 by unfold sigW; rw [if_neg (by omega), if_pos na]] at hSa
        unfold RA RZ at *
        repeat
          conv => whnf
          first
            | refine ⟨_, by assumption, ?_⟩
            | refine ⟨(Nat.le_of_ble_eq_true rfl), _, by assumption, ?_⟩
            | refine ⟨by kernel_rfl, ?_⟩
            | exact rfl
            | exact ⟨Nat.le_of_ble_eq_true rfl, rfl⟩
            | refine ⟨by decide, ?_⟩
      · have nb : b.num < 0 := Decidable.of_not_not (fun hb => h ⟨⟨da, by omega⟩, ⟨db, by omega⟩⟩)
        rw [show sigW b.num = -1 by unfold sigW; rw [if_neg (by omega), if_pos nb]] at hSb
        rcases sig_lit a.num with ⟨h1, e1⟩ | ⟨h1, e1⟩ | ⟨h1, e1⟩
        · omega
        · rw [e1] at hSa
          unfold RA RZ at *
          repeat
            conv => whnf
            first
              | refine ⟨_, by assumption, ?_⟩
              | refine ⟨(Nat.le_of_ble_eq_true rfl), _, by assumption, ?_⟩
              | refine ⟨by kernel_rfl, ?_⟩
              | exact rfl
              | exact ⟨Nat.le_of_ble_eq_true rfl, rfl⟩
              | refine ⟨by decide, ?_⟩
        · rw [e1] at hSa
          unfold RA RZ at *
          repeat
            conv => whnf
            first
              | refine ⟨_, by assumption, ?_⟩
              | refine ⟨(Nat.le_of_ble_eq_true rfl), _, by assumption, ?_⟩
              | refine ⟨by kernel_rfl, ?_⟩
              | exact rfl
              | exact ⟨Nat.le_of_ble_eq_true rfl, rfl⟩
              | refine ⟨by decide, ?_⟩
    · rw [decide_eq_false db] at hWb
      unfold RA RZ at *
      repeat
        conv => whnf
        first
          | refine ⟨_, by assumption, ?_⟩
          | refine ⟨(Nat.le_of_ble_eq_true rfl), _, by assumption, ?_⟩
          | refine ⟨by kernel_rfl, ?_⟩
          | exact rfl
          | exact ⟨Nat.le_of_ble_eq_true rfl, rfl⟩
          | refine ⟨by decide, ?_⟩
  · rw [decide_eq_false da] at hWa
    unfold RA RZ at *
    repeat
      conv => whnf
      first
        | refine ⟨_, by assumption, ?_⟩
        | refine ⟨(Nat.le_of_ble_eq_true rfl), _, by assumption, ?_⟩
        | refine ⟨by kernel_rfl, ?_⟩
        | exact rfl
        | exact ⟨Nat.le_of_ble_eq_true rfl, rfl⟩
        | refine ⟨by decide, ?_⟩

section
variable (a b : Rat) (i j : Nat) (most : Int) (hi : dn i = a.den) (hj : dn j = b.den) (hm : most ≤ 200) (la : Sz a 90) (lb : Sz b 90) (na : natQ a) (nb : natQ b)
include hi hj la lb na nb
theorem Choose_less (h : b.num < a.num) : AC Tryz.prog 159 [RA a.num i, RA b.num j, .val (.int .i64 most)] (.pure (.tup [RA 0 0, .val (.int .i64 0)])) := by
  refine RZ22 ?_
  have hWa := IsWhole_ok a.num i
  have hWb := IsWhole_ok b.num j
  have hSa := RaSign_ok a.num i
  have hSb := RaSign_ok b.num j
  have hM := QMinus_ok a.num i
  have hP := QPlus1 b (-a) j a.den hj (dn_den a) (lb.mono (by decide)) ((Sz_neg la).mono (by decide))
  have hSr := RaSign_ok (b + -a).num (b + -a).den
  rw [hi, decide_eq_true na.1] at hWa
  rw [hj, decide_eq_true nb.1] at hWb
  rw [hi] at hM
  have hM : AC Tryz.prog 153 [RA a.num i] (.pure (RA (-a).num a.den)) := hM
  have e1 : sigW a.num = 0 ∨ sigW a.num = 1 := by
    rcases sig_lit a.num with ⟨h1, e1⟩ | ⟨h1, e1⟩ | ⟨h1, e1⟩
    · exact absurd na.2 (by omega)
    · exact .inl e1
    · exact .inr e1
  have e2 : sigW b.num = 0 ∨ sigW b.num = 1 := by
    rcases sig_lit b.num with ⟨h1, e1⟩ | ⟨h1, e1⟩ | ⟨h1, e1⟩
    · exact absurd nb.2 (by omega)
    · exact .inl e1
    · exact .inr e1
  obtain ⟨s1, s2⟩ := sub_int na.1 nb.1
  rw [show sigW (b + -a).num = -1 by unfold sigW; rw [if_neg (by omega), if_pos (by omega)]] at hSr
  refine AC.of_body TTok Tryz.func159 rfl (enter_of Tryz.func159 (by kernel_rfl) (by kernel_rfl)) (noid3 (RA_noid _ _) (RA_noid _ _) (.val _)) (.tup _ (noid2 RZ_noid (.val _))) (Nat.le_of_ble_eq_true rfl) ?_
  clear s1 s2
  revert hP hSr
  generalize b + -a = r
  intro hP hSr
  rcases e1 with e1 | e1 <;> rcases e2 with e2 | e2
  all_goals
    rw [e1] at hSa
    rw [e2] at hSb
    unfold RA RZ rowR at *
    repeat
      conv => whnf
      first
        | refine ⟨_, by assumption, ?_⟩
        | refine ⟨(Nat.le_of_ble_eq_true rfl), _, by assumption, ?_⟩
        | refine ⟨by kernel_rfl, ?_⟩
        | exact rfl
        | exact ⟨Nat.le_of_ble_eq_true rfl, rfl⟩
        | refine ⟨by decide, ?_⟩
include hm
theorem Choose_gen (h : a.num ≤ b.num) (res : AV) (hno : NoId res)
    (r1 : ¬ chsOk (min a.num (b.num - a.num)).toNat (max a.num (b.num - a.num)).toNat most → AV.tup [RZ, .val (.int .i64 26)] = res)
    (r2 : chsOk (min a.num (b.num - a.num)).toNat (max a.num (b.num - a.num)).toNat most → AV.tup [RA ((chs (max a.num (b.num - a.num)).toNat (min a.num (b.num - a.num)).toNat : Nat) : Int) 1, .val (.int .i64 0)] = res) :
    AC Tryz.prog 159 [RA a.num i, RA b.num j, .val (.int .i64 most)] (.pure res) := by
  have hWa := IsWhole_ok a.num i
  have hWb := IsWhole_ok b.num j
  have hSa := RaSign_ok a.num i
  have hSb := RaSign_ok b.num j
  have hM := QMinus_ok a.num i
  have hP := QPlus1 b (-a) j a.den hj (dn_den a) (lb.mono (by decide)) ((Sz_neg la).mono (by decide))
  have hSr := RaSign_ok (b + -a).num (b + -a).den
  rw [hi, decide_eq_true na.1] at hWa
  rw [hj, decide_eq_true nb.1] at hWb
  rw [hi] at hM
  have hM : AC Tryz.prog 153 [RA a.num i] (.pure (RA (-a).num a.den)) := hM
  have e1 : sigW a.num = 0 ∨ sigW a.num = 1 := by
    rcases sig_lit a.num with ⟨h1, e1⟩ | ⟨h1, e1⟩ | ⟨h1, e1⟩
    · exact absurd na.2 (by omega)
    · exact .inl e1
    · exact .inr e1
  have e2 : sigW b.num = 0 ∨ sigW b.num = 1 := by
    rcases sig_lit b.num with ⟨h1, e1⟩ | ⟨h1, e1⟩ | ⟨h1, e1⟩
    · exact absurd nb.2 (by omega)
    · exact .inl e1
    · exact .inr e1
  obtain ⟨s1, s2⟩ := sub_int na.1 nb.1
  have sR : Sz (b + -a) 361 := (Sz_add lb (Sz_neg la)).mono (by decide)
  have hC := QCmp_ok (b + -a) a (b + -a).den i (dn_den _) hi (sR.mono (by decide)) (la.mono (by decide))
  have eR : sigW (b + -a).num = 0 ∨ sigW (b + -a).num = 1 := by
    rcases sig_lit (b + -a).num with ⟨h1, e1⟩ | ⟨h1, e1⟩ | ⟨h1, e1⟩
    · omega
    · exact .inl e1
    · exact .inr e1
  refine AC.of_body TTok Tryz.func159 rfl (enter_of Tryz.func159 (by kernel_rfl) (by kernel_rfl)) (noid3 (RA_noid _ _) (RA_noid _ _) (.val _)) hno (Nat.le_of_ble_eq_true rfl) ?_
  have hlt : cmpQ (b + -a) a < 0 ↔ b.num - a.num < a.num := by
    rw [cmpQ_neg, Rat.lt_iff, s1, s2, na.1]
    simp
  have hdR : dn (b + -a).den = 1 := by rw [dn_den, s2]
  rw [na.1] at hi
  obtain ⟨dr, hdr⟩ : ∃ d, d = (b + -a).den := ⟨_, rfl⟩
  obtain ⟨nr, hnr⟩ : ∃ n, n = (b + -a).num := ⟨_, rfl⟩
  rw [← hdr] at hP hSr hC hdR
  rw [← hnr] at hP hSr hC eR s1
  have f1 : decide (sigW a.num < 0) = false := decide_eq_false (by rcases e1 with e | e <;> rw [e] <;> decide)
  have f2 : decide (sigW b.num < 0) = false := decide_eq_false (by rcases e2 with e | e <;> rw [e] <;> decide)
  have fR : decide (sigW nr < 0) = false := decide_eq_false (by rcases eR with e | e <;> rw [e] <;> decide)
  have lnr := sR.1
  rw [← hnr] at lnr
  clear sR e1 e2 eR
  have han := na.2
  have lan := la.1
  clear na nb la lb
  by_cases hs : b.num - a.num < a.num
  · have fs : decide (cmpQ (b + -a) a < 0) = true := decide_eq_true (hlt.2 hs)
    clear hlt
    generalize cmpQ (b + -a) a = cq at hC fs
    clear hnr hdr
    generalize (b + -a) = qr at hP hC
    generalize -a = qn at hM hP
    generalize sigW a.num = g1 at *
    generalize sigW b.num = g2 at *
    generalize sigW nr = g3 at *
    have hTop := RTop_ok a.num i
    have hI := RInt_ok nr dr
    rw [hdR] at hI
    obtain ⟨k, hk⟩ : ∃ k : Nat, nr = (k : Int) := ⟨(nr).toNat, by omega⟩
    obtain ⟨r, hr⟩ : ∃ r : Nat, a.num = (r : Int) := ⟨(a.num).toNat, by omega⟩
    rw [show (min a.num (b.num - a.num)).toNat = k by omega, show (max a.num (b.num - a.num)).toNat = r by omega] at r1 r2
    have hkr : k ≤ r := by omega
    have lr : (limbs r).length ≤ 400 := by
      have := lan
      rw [show r = (a.num).natAbs by omega]
      omega
    obtain ⟨v, ok, hI, hv⟩ : ∃ v ok, AC Tryz.prog 132 [RA nr dr] (.pure (.tup [.val (.int .i64 v), .val (.bool ok)])) ∧ ((ok = true ∧ v = (k : Int)) ∨ (ok = false ∧ 6500 < k)) := by
      by_cases hf : fit nr
      · rw [if_pos ⟨rfl, hf⟩, decide_eq_true (show fitQ nr 1 from ⟨rfl, hf⟩)] at hI
        exact ⟨_, _, hI, .inl ⟨rfl, hk⟩⟩
      · rw [if_neg (fun h => hf h.2), decide_eq_false (show ¬ fitQ nr 1 from fun h => hf h.2)] at hI
        exact ⟨_, _, hI, .inr ⟨rfl, by unfold fit at hf; omega⟩⟩
    have hF1 := From_ok 1 (by decide)
    have hWh := Whole_ok ((chs r k : Nat) : Int)
    unfold RA WI rowR at *
    conv => whnf
    refine ⟨_, hWa, ?_⟩
    conv => whnf
    refine ⟨_, hWb, ?_⟩
    conv => whnf
    refine ⟨_, hSa, ?_⟩
    conv => whnf
    refine caseb (fun h => Bool.noConfusion ((f1).symm.trans h)) (fun _ => ?_)
    conv => whnf
    refine ⟨_, hSb, ?_⟩
    conv => whnf
    refine caseb (fun h => Bool.noConfusion ((f2).symm.trans h)) (fun _ => ?_)
    conv => whnf
    refine ⟨_, hM, ?_⟩
    conv => whnf
    refine ⟨(Nat.le_of_ble_eq_true rfl), _, hP, ?_⟩
    conv => whnf
    refine ⟨by kernel_rfl, ?_⟩
    conv => whnf
    refine ⟨_, hSr, ?_⟩
    conv => whnf
    refine caseb (fun h => Bool.noConfusion ((fR).symm.trans h)) (fun _ => ?_)
    conv => whnf
    refine ⟨_, hC, ?_⟩
    conv => whnf
    refine caseb (fun _ => ?_) (fun h => Bool.noConfusion ((fs).symm.trans h))
    conv => whnf
    refine ⟨_, hI, ?_⟩
    conv => whnf
    refine ⟨_, hF1, ?_⟩
    conv => whnf
    refine SW.loopM TTok (fun j : Nat => [(2, .val (.int .i64 most)), (6, .lp 16 0), (8, .lp 216 0), (9, .val (.int .i64 v)), (10, .val (.bool ok)), (11, .lp 384 0), (12, .val (.int .i64 ((j : Int) + 1)))])
      (fun j => [(16, .cells 3 [[.sl 0 [] true, .val (.bool false), .sl 0 [] true]]), (216, .cells 3 [[.sl 1 (irows .u32 (limbs (a.num).natAbs)) false, .val (.bool (decide (a.num < 0))), .sl 1 (irows .u32 (limbs i)) false]]), (384, .cells 2 [[.sl 1 (irows .u32 (limbs ((chs r j : Nat) : Int).natAbs)) false, .val (.bool (decide (((chs r j : Nat) : Int) < 0)))]])]) 408 86 rfl (fun j => 6500 - j)
      (fun j => j ≤ k ∧ (j = 0 ∨ ((limbs (chs r j)).length : Int) ≤ most)) 0 [] ⟨Nat.zero_le _, .inl rfl⟩
      ⟨⟨rfl, rfl⟩, ⟨rfl, rfl⟩, ⟨rfl, rfl⟩, ⟨rfl, rfl⟩, ⟨rfl, rfl⟩, ⟨rfl, rfl⟩, ⟨rfl, rfl⟩, trivial⟩ ⟨⟨rfl, .inr ⟨rfl, rfl⟩⟩, ⟨rfl, .inr ⟨rfl, rfl⟩⟩, ⟨rfl, .inr ⟨rfl, rfl⟩⟩, trivial⟩ rfl ?_
    intro j hJ
    have hj1 : j ≤ k := hJ.1
    have hj2 : j = 0 ∨ ((limbs (chs r j)).length : Int) ≤ most := hJ.2
    clear hJ
    have lc : (limbs (chs r j)).length ≤ 200 := by
      rcases hj2 with h | h
      · subst h; exact Nat.le_trans (limbs_small (n := 1) (by decide)) (by decide)
      · omega
    have hjb := chs_bound (Nat.le_trans hj1 hkr) lc
    have lj : (limbs (j + 1)).length ≤ 1 := limbs_small (by omega)
    have hFr := From_ok ((j : Int) + 1) (by omega)
    have lrj := limbs_abs_add (r : Int) ((j : Int) + 1)
    rw [Int.natAbs_natCast, show ((j : Int) + 1).natAbs = j + 1 by omega] at lrj
    have hPl := Plus1 (r : Int) ((j : Int) + 1) (by rw [Int.natAbs_natCast]; omega) (by rw [show ((j : Int) + 1).natAbs = j + 1 by omega]; omega) (by omega)
    have lcr := limbs_abs_mul ((chs r j : Nat) : Int) ((r : Int) + ((j : Int) + 1))
    rw [Int.natAbs_natCast] at lcr
    have ec : ((chs r j : Nat) : Int) * ((r : Int) + ((j : Int) + 1)) = ((chs r j * (r + (j + 1)) : Nat) : Int) := by rw [Int.natCast_mul, Int.natCast_add, Int.natCast_add]; rfl
    have hTi := Times1 ((chs r j : Nat) : Int) ((r : Int) + ((j : Int) + 1)) (by rw [Int.natAbs_natCast]; omega) (by omega) (by omega)
    rw [ec] at hTi lcr
    rw [Int.natAbs_natCast] at lcr
    obtain ⟨w, hFl⟩ := floor_nat (chs r j * (r + (j + 1))) (j + 1) (by omega) (by omega) (by omega)
    rw [← chs_succ, show ((j + 1 : Nat) : Int) = (j : Int) + 1 from rfl] at hFl
    have hLim := Limbs_ok ((chs r (j + 1) : Nat) : Int).natAbs
    rw [← hr] at hPl hTi
    clear ec lcr lrj lj lc
    revert hPl hTi hFl
    generalize ((chs r j * (r + (j + 1)) : Nat) : Int) = y
    generalize a.num + ((j : Int) + 1) = z
    intro hPl hTi hFl
    unfold WI rowW natA at *
    rcases hv with ⟨rfl, rfl⟩ | ⟨rfl, hbig⟩
    · conv => whnf
      refine caseb (fun h4 => ?_) (fun h4 => ?_)
      · have h4' : (j : Int) + 1 ≤ (k : Int) := of_decide_eq_true h4
        conv => whnf
        refine ⟨_, hTop, ?_⟩
        conv => whnf
        refine ⟨_, hFr, ?_⟩
        conv => whnf
        refine ⟨(Nat.le_of_ble_eq_true rfl), _, hPl, ?_⟩
        conv => whnf
        refine ⟨(Nat.le_of_ble_eq_true rfl), _, hTi, ?_⟩
        conv => whnf
        refine ⟨_, hFr, ?_⟩
        conv => whnf
        refine ⟨_, hFl, ?_⟩
        conv => whnf
        refine ⟨by kernel_rfl, ?_⟩
        conv => whnf
        refine ⟨_, hLim, ?_⟩
        conv => whnf
        refine caseb (fun h5 => ?_) (fun h5 => ?_)
        · have h5' : ((limbs (chs r (j + 1))).length : Int) > most := of_decide_eq_true h5
          have hmo := limbs_len_mono (chs_mono r (show j + 1 ≤ k by omega))
          conv => whnf
          exact r1 (fun hc => by rcases hc with hc | hc <;> omega)
        · have h5' : ¬ ((limbs (chs r (j + 1))).length : Int) > most := of_decide_eq_false h5
          conv => whnf
          refine ⟨j + 1, [], (by show 6500 - (j + 1) < 6500 - j; omega), ⟨(by show j + 1 ≤ k; omega), .inr (by show ((limbs (chs r (j + 1))).length : Int) ≤ most; omega)⟩, ⟨⟨rfl, rfl⟩, ⟨rfl, rfl⟩, ⟨rfl, rfl⟩, ⟨rfl, rfl⟩, ⟨rfl, rfl⟩, ⟨rfl, rfl⟩, ⟨valI ?_, rfl⟩, trivial⟩, ⟨⟨rfl, .inr ⟨rfl, rfl⟩⟩, ⟨rfl, .inr ⟨rfl, rfl⟩⟩, ⟨rfl, .inr ⟨rfl, rfl⟩⟩, trivial⟩, rfl⟩
          show IntKind.i64.wrap ((j : Int) + 1 + 1) = ((j + 1 : Nat) : Int) + 1
          rw [IntWalk.i64_in _ (by omega)]; omega
      · have h4' : ¬ (j : Int) + 1 ≤ (k : Int) := of_decide_eq_false h4
        have hjk : j = k := by omega
        rw [hjk] at hj2 ⊢
        conv => whnf
        refine ⟨_, hWh, ?_⟩
        conv => whnf
        exact r2 (by rcases hj2 with h | h; exact .inl h; exact .inr h)
    · have h4' : (j : Int) + 1 ≤ (k : Int) := by omega
      conv => whnf
      refine ⟨_, hTop, ?_⟩
      conv => whnf
      refine ⟨_, hFr, ?_⟩
      conv => whnf
      refine ⟨(Nat.le_of_ble_eq_true rfl), _, hPl, ?_⟩
      conv => whnf
      refine ⟨(Nat.le_of_ble_eq_true rfl), _, hTi, ?_⟩
      conv => whnf
      refine ⟨_, hFr, ?_⟩
      conv => whnf
      refine ⟨_, hFl, ?_⟩
      conv => whnf
      refine ⟨by kernel_rfl, ?_⟩
      conv => whnf
      refine ⟨_, hLim, ?_⟩
      conv => whnf
      refine caseb (fun h5 => ?_) (fun h5 => ?_)
      · have h5' : ((limbs (chs r (j + 1))).length : Int) > most := of_decide_eq_true h5
        have hmo := limbs_len_mono (chs_mono r (show j + 1 ≤ k by omega))
        conv => whnf
        exact r1 (fun hc => by rcases hc with hc | hc <;> omega)
      · have h5' : ¬ ((limbs (chs r (j + 1))).length : Int) > most := of_decide_eq_false h5
        conv => whnf
        refine ⟨j + 1, [], (by show 6500 - (j + 1) < 6500 - j; omega), ⟨(by show j + 1 ≤ k; omega), .inr (by show ((limbs (chs r (j + 1))).length : Int) ≤ most; omega)⟩, ⟨⟨rfl, rfl⟩, ⟨rfl, rfl⟩, ⟨rfl, rfl⟩, ⟨rfl, rfl⟩, ⟨rfl, rfl⟩, ⟨rfl, rfl⟩, ⟨valI ?_, rfl⟩, trivial⟩, ⟨⟨rfl, .inr ⟨rfl, rfl⟩⟩, ⟨rfl, .inr ⟨rfl, rfl⟩⟩, ⟨rfl, .inr ⟨rfl, rfl⟩⟩, trivial⟩, rfl⟩
        show IntKind.i64.wrap ((j : Int) + 1 + 1) = ((j + 1 : Nat) : Int) + 1
        rw [IntWalk.i64_in _ (by omega)]; omega
  · have fs : decide (cmpQ (b + -a) a < 0) = false := decide_eq_false (fun h => hs (hlt.1 h))
    clear hlt
    generalize cmpQ (b + -a) a = cq at hC fs
    clear hnr hdr
    generalize (b + -a) = qr at hP hC
    generalize -a = qn at hM hP
    generalize sigW a.num = g1 at *
    generalize sigW b.num = g2 at *
    generalize sigW nr = g3 at *
    have hTop := RTop_ok nr dr
    have hI := RInt_ok a.num i
    rw [hi] at hI
    obtain ⟨k, hk⟩ : ∃ k : Nat, a.num = (k : Int) := ⟨(a.num).toNat, by omega⟩
    obtain ⟨r, hr⟩ : ∃ r : Nat, nr = (r : Int) := ⟨(nr).toNat, by omega⟩
    rw [show (min a.num (b.num - a.num)).toNat = k by omega, show (max a.num (b.num - a.num)).toNat = r by omega] at r1 r2
    have hkr : k ≤ r := by omega
    have lr : (limbs r).length ≤ 400 := by
      have := lnr
      rw [show r = (nr).natAbs by omega]
      omega
    obtain ⟨v, ok, hI, hv⟩ : ∃ v ok, AC Tryz.prog 132 [RA a.num i] (.pure (.tup [.val (.int .i64 v), .val (.bool ok)])) ∧ ((ok = true ∧ v = (k : Int)) ∨ (ok = false ∧ 6500 < k)) := by
      by_cases hf : fit a.num
      · rw [if_pos ⟨rfl, hf⟩, decide_eq_true (show fitQ a.num 1 from ⟨rfl, hf⟩)] at hI
        exact ⟨_, _, hI, .inl ⟨rfl, hk⟩⟩
      · rw [if_neg (fun h => hf h.2), decide_eq_false (show ¬ fitQ a.num 1 from fun h => hf h.2)] at hI
        exact ⟨_, _, hI, .inr ⟨rfl, by unfold fit at hf; omega⟩⟩
    have hF1 := From_ok 1 (by decide)
    have hWh := Whole_ok ((chs r k : Nat) : Int)
    unfold RA WI rowR at *
    conv => whnf
    refine ⟨_, hWa, ?_⟩
    conv => whnf
    refine ⟨_, hWb, ?_⟩
    conv => whnf
    refine ⟨_, hSa, ?_⟩
    conv => whnf
    refine caseb (fun h => Bool.noConfusion ((f1).symm.trans h)) (fun _ => ?_)
    conv => whnf
    refine ⟨_, hSb, ?_⟩
    conv => whnf
    refine caseb (fun h => Bool.noConfusion ((f2).symm.trans h)) (fun _ => ?_)
    conv => whnf
    refine ⟨_, hM, ?_⟩
    conv => whnf
    refine ⟨(Nat.le_of_ble_eq_true rfl), _, hP, ?_⟩
    conv => whnf
    refine ⟨by kernel_rfl, ?_⟩
    conv => whnf
    refine ⟨_, hSr, ?_⟩
    conv => whnf
    refine caseb (fun h => Bool.noConfusion ((fR).symm.trans h)) (fun _ => ?_)
    conv => whnf
    refine ⟨_, hC, ?_⟩
    conv => whnf
    refine caseb (fun h => Bool.noConfusion ((fs).symm.trans h)) (fun _ => ?_)
    conv => whnf
    refine ⟨_, hI, ?_⟩
    conv => whnf
    refine ⟨_, hF1, ?_⟩
    conv => whnf
    refine SW.loopM TTok (fun j : Nat => [(2, .val (.int .i64 most)), (6, .lp 16 0), (8, .lp 216 0), (9, .val (.int .i64 v)), (10, .val (.bool ok)), (11, .lp 352 0), (12, .val (.int .i64 ((j : Int) + 1)))])
      (fun j => [(16, .cells 3 [[.sl 0 [] true, .val (.bool false), .sl 0 [] true]]), (216, .cells 3 [[.sl 1 (irows .u32 (limbs (nr).natAbs)) false, .val (.bool (decide (nr < 0))), .sl 1 (irows .u32 (limbs dr)) false]]), (352, .cells 2 [[.sl 1 (irows .u32 (limbs ((chs r j : Nat) : Int).natAbs)) false, .val (.bool (decide (((chs r j : Nat) : Int) < 0)))]])]) 376 86 rfl (fun j => 6500 - j)
      (fun j => j ≤ k ∧ (j = 0 ∨ ((limbs (chs r j)).length : Int) ≤ most)) 0 [] ⟨Nat.zero_le _, .inl rfl⟩
      ⟨⟨rfl, rfl⟩, ⟨rfl, rfl⟩, ⟨rfl, rfl⟩, ⟨rfl, rfl⟩, ⟨rfl, rfl⟩, ⟨rfl, rfl⟩, ⟨rfl, rfl⟩, trivial⟩ ⟨⟨rfl, .inr ⟨rfl, rfl⟩⟩, ⟨rfl, .inr ⟨rfl, rfl⟩⟩, ⟨rfl, .inr ⟨rfl, rfl⟩⟩, trivial⟩ rfl ?_
    intro j hJ
    have hj1 : j ≤ k := hJ.1
    have hj2 : j = 0 ∨ ((limbs (chs r j)).length : Int) ≤ most := hJ.2
    clear hJ
    have lc : (limbs (chs r j)).length ≤ 200 := by
      rcases hj2 with h | h
      · subst h; exact Nat.le_trans (limbs_small (n := 1) (by decide)) (by decide)
      · omega
    have hjb := chs_bound (Nat.le_trans hj1 hkr) lc
    have lj : (limbs (j + 1)).length ≤ 1 := limbs_small (by omega)
    have hFr := From_ok ((j : Int) + 1) (by omega)
    have lrj := limbs_abs_add (r : Int) ((j : Int) + 1)
    rw [Int.natAbs_natCast, show ((j : Int) + 1).natAbs = j + 1 by omega] at lrj
    have hPl := Plus1 (r : Int) ((j : Int) + 1) (by rw [Int.natAbs_natCast]; omega) (by rw [show ((j : Int) + 1).natAbs = j + 1 by omega]; omega) (by omega)
    have lcr := limbs_abs_mul ((chs r j : Nat) : Int) ((r : Int) + ((j : Int) + 1))
    rw [Int.natAbs_natCast] at lcr
    have ec : ((chs r j : Nat) : Int) * ((r : Int) + ((j : Int) + 1)) = ((chs r j * (r + (j + 1)) : Nat) : Int) := by rw [Int.natCast_mul, Int.natCast_add, Int.natCast_add]; rfl
    have hTi := Times1 ((chs r j : Nat) : Int) ((r : Int) + ((j : Int) + 1)) (by rw [Int.natAbs_natCast]; omega) (by omega) (by omega)
    rw [ec] at hTi lcr
    rw [Int.natAbs_natCast] at lcr
    obtain ⟨w, hFl⟩ := floor_nat (chs r j * (r + (j + 1))) (j + 1) (by omega) (by omega) (by omega)
    rw [← chs_succ, show ((j + 1 : Nat) : Int) = (j : Int) + 1 from rfl] at hFl
    have hLim := Limbs_ok ((chs r (j + 1) : Nat) : Int).natAbs
    rw [← hr] at hPl hTi
    clear ec lcr lrj lj lc
    revert hPl hTi hFl
    generalize ((chs r j * (r + (j + 1)) : Nat) : Int) = y
    generalize nr + ((j : Int) + 1) = z
    intro hPl hTi hFl
    unfold WI rowW natA at *
    rcases hv with ⟨rfl, rfl⟩ | ⟨rfl, hbig⟩
    · conv => whnf
      refine caseb (fun h4 => ?_) (fun h4 => ?_)
      · have h4' : (j : Int) + 1 ≤ (k : Int) := of_decide_eq_true h4
        conv => whnf
        refine ⟨_, hTop, ?_⟩
        conv => whnf
        refine ⟨_, hFr, ?_⟩
        conv => whnf
        refine ⟨(Nat.le_of_ble_eq_true rfl), _, hPl, ?_⟩
        conv => whnf
        refine ⟨(Nat.le_of_ble_eq_true rfl), _, hTi, ?_⟩
        conv => whnf
        refine ⟨_, hFr, ?_⟩
        conv => whnf
        refine ⟨_, hFl, ?_⟩
        conv => whnf
        refine ⟨by kernel_rfl, ?_⟩
        conv => whnf
        refine ⟨_, hLim, ?_⟩
        conv => whnf
        refine caseb (fun h5 => ?_) (fun h5 => ?_)
        · have h5' : ((limbs (chs r (j + 1))).length : Int) > most := of_decide_eq_true h5
          have hmo := limbs_len_mono (chs_mono r (show j + 1 ≤ k by omega))
          conv => whnf
          exact r1 (fun hc => by rcases hc with hc | hc <;> omega)
        · have h5' : ¬ ((limbs (chs r (j + 1))).length : Int) > most := of_decide_eq_false h5
          conv => whnf
          refine ⟨j + 1, [], (by show 6500 - (j + 1) < 6500 - j; omega), ⟨(by show j + 1 ≤ k; omega), .inr (by show ((limbs (chs r (j + 1))).length : Int) ≤ most; omega)⟩, ⟨⟨rfl, rfl⟩, ⟨rfl, rfl⟩, ⟨rfl, rfl⟩, ⟨rfl, rfl⟩, ⟨rfl, rfl⟩, ⟨rfl, rfl⟩, ⟨valI ?_, rfl⟩, trivial⟩, ⟨⟨rfl, .inr ⟨rfl, rfl⟩⟩, ⟨rfl, .inr ⟨rfl, rfl⟩⟩, ⟨rfl, .inr ⟨rfl, rfl⟩⟩, trivial⟩, rfl⟩
          show IntKind.i64.wrap ((j : Int) + 1 + 1) = ((j + 1 : Nat) : Int) + 1
          rw [IntWalk.i64_in _ (by omega)]; omega
      · have h4' : ¬ (j : Int) + 1 ≤ (k : Int) := of_decide_eq_false h4
        have hjk : j = k := by omega
        rw [hjk] at hj2 ⊢
        conv => whnf
        refine ⟨_, hWh, ?_⟩
        conv => whnf
        exact r2 (by rcases hj2 with h | h; exact .inl h; exact .inr h)
    · have h4' : (j : Int) + 1 ≤ (k : Int) := by omega
      conv => whnf
      refine ⟨_, hTop, ?_⟩
      conv => whnf
      refine ⟨_, hFr, ?_⟩
      conv => whnf
      refine ⟨(Nat.le_of_ble_eq_true rfl), _, hPl, ?_⟩
      conv => whnf
      refine ⟨(Nat.le_of_ble_eq_true rfl), _, hTi, ?_⟩
      conv => whnf
      refine ⟨_, hFr, ?_⟩
      conv => whnf
      refine ⟨_, hFl, ?_⟩
      conv => whnf
      refine ⟨by kernel_rfl, ?_⟩
      conv => whnf
      refine ⟨_, hLim, ?_⟩
      conv => whnf
      refine caseb (fun h5 => ?_) (fun h5 => ?_)
      · have h5' : ((limbs (chs r (j + 1))).length : Int) > most := of_decide_eq_true h5
        have hmo := limbs_len_mono (chs_mono r (show j + 1 ≤ k by omega))
        conv => whnf
        exact r1 (fun hc => by rcases hc with hc | hc <;> omega)
      · have h5' : ¬ ((limbs (chs r (j + 1))).length : Int) > most := of_decide_eq_false h5
        conv => whnf
        refine ⟨j + 1, [], (by show 6500 - (j + 1) < 6500 - j; omega), ⟨(by show j + 1 ≤ k; omega), .inr (by show ((limbs (chs r (j + 1))).length : Int) ≤ most; omega)⟩, ⟨⟨rfl, rfl⟩, ⟨rfl, rfl⟩, ⟨rfl, rfl⟩, ⟨rfl, rfl⟩, ⟨rfl, rfl⟩, ⟨rfl, rfl⟩, ⟨valI ?_, rfl⟩, trivial⟩, ⟨⟨rfl, .inr ⟨rfl, rfl⟩⟩, ⟨rfl, .inr ⟨rfl, rfl⟩⟩, ⟨rfl, .inr ⟨rfl, rfl⟩⟩, trivial⟩, rfl⟩
        show IntKind.i64.wrap ((j : Int) + 1 + 1) = ((j + 1 : Nat) : Int) + 1
        rw [IntWalk.i64_in _ (by omega)]; omega
end

theorem Choose_ok (a b : Rat) (i j : Nat) (most : Int) (hi : dn i = a.den) (hj : dn j = b.den) (hm : most ≤ 200) (la : Sz a 90) (lb : Sz b 90) : ∃ d, dn d = (chooseQ a b most).1.den ∧
    AC Tryz.prog 159 [RA a.num i, RA b.num j, .val (.int .i64 most)] (.pure (.tup [RA (chooseQ a b most).1.num d, .val (.int .i64 (chooseQ a b most).2)])) := by
  unfold chooseQ
  by_cases hn : natQ a ∧ natQ b
  · rw [if_neg (fun h => h hn)]
    by_cases hl : b.num < a.num
    · rw [if_pos hl]
      exact ⟨0, rfl, Choose_less a b i j most hi hj la lb hn.1 hn.2 hl⟩
    · rw [if_neg hl]
      by_cases hc : chsOk (min a.num (b.num - a.num)).toNat (max a.num (b.num - a.num)).toNat most
      · rw [if_pos hc]
        exact ⟨1, rfl, Choose_gen a b i j most hi hj hm la lb hn.1 hn.2 (by omega) _ (.tup _ (noid2 (RA_noid _ _) (.val _))) (fun h => absurd hc h) (fun _ => rfl)⟩
      · rw [if_neg hc]
        exact ⟨0, rfl, RZ22 (Choose_gen a b i j most hi hj hm la lb hn.1 hn.2 (by omega) _ (.tup _ (noid2 RZ_noid (.val _))) (fun _ => rfl) (fun h => absurd h hc))⟩
  · rw [if_pos hn]
    exact ⟨0, rfl, Choose_none a b i j most hi hj hn⟩

end Go.Proofs.YtbdklokfijjifaaGreat

/- Functions of two numbers: the document's ways. -/
set_option linter.unusedVariables false
namespace Go.Proofs.YtbdklokfijjifaaGreat
open Go Go.AL NM

end Go.Proofs.YtbdklokfijjifaaGreat

/- Functions of two numbers: what reckons. -/
set_option linter.unusedVariables false
namespace Go.Proofs.YtbdklokfijjifaaGreat
open Go Go.AL NM

/-- What a reckoning function makes of two numbers. -/
def reckonQ (c : Int) (a b : Rat) (most : Int) : Rat × Int :=
  if c = 43 then (a + b, 0)
  else if c = 45 then (a + -b, 0)
  else if c = 215 then (a * b, 0)
  else if c = 247 then (if b ≠ 0 then (a / b, 0) else if a = 0 then (1, 0) else (0, 22))
  else if c = 8968 then (if a < b then b else a, 0)
  else if c = 8970 then (if a < b then a else b, 0)
  else if c = 124 then (restQ a b, 0)
  else if c = 42 then powerQ a b most
  else if c = 33 then chooseQ a b most
  else (0, 22)
theorem noid4 {a b c d : AV} (ha : NoId a) (hb : NoId b) (hc : NoId c) (hd : NoId d) : ∀ x ∈ [a, b, c, d], NoId x := by
  intro x hx
  simp only [List.mem_cons, List.not_mem_nil, or_false] at hx
  rcases hx with rfl | rfl | rfl | rfl <;> assumption
theorem sig_ne {q : Rat} (h : q ≠ 0) : (sigW q.num == 0) = false := beq_false_of_ne (by unfold sigW; rw [if_neg (num_ne h)]; split <;> decide)
theorem sig_z {q : Rat} (h : q = 0) : (sigW q.num == 0) = true := by rw [h]; rfl
theorem cmp_lt {a b : Rat} (h : a < b) : cmpQ a b = -1 := if_pos h
theorem cmp_ge {a b : Rat} (h : ¬ a < b) : decide (cmpQ a b < 0) = false := decide_eq_false (fun e => h (cmpQ_neg.1 e))


theorem Rec43 (a b : Rat) (i j : Nat) (most : Int) (hi : dn i = a.den) (hj : dn j = b.den) (hm : most ≤ 200) (la : Sz a 20) (lb : Sz b 20) : ∃ d, dn d = (reckonQ 43 a b most).1.den ∧ AC Tryz.prog 138 [.val (.int .i32 43), RA a.num i, RA b.num j, .val (.int .i64 most)] (.pure (.tup [RA (reckonQ 43 a b most).1.num d, .val (.int .i64 (reckonQ 43 a b most).2)])) := by
  rw [show reckonQ 43 a b most = (a + b, 0) from rfl]
  have hP := QPlus1 a b i j hi hj (la.mono (by decide)) (lb.mono (by decide))
  refine ⟨_, dn_den _, ?_⟩
  refine AC.of_body TTok Tryz.func138 rfl (enter_of Tryz.func138 (by kernel_rfl) (by kernel_rfl)) (noid4 (.val _) (RA_noid _ _) (RA_noid _ _) (.val _)) (.tup _ (noid2 (RA_noid _ _) (.val _))) (Nat.le_of_ble_eq_true rfl) ?_
  revert hP
  generalize a + b = r
  intro hP
  unfold RA rowR at *
  repeat
    conv => whnf
    first
      | refine ⟨_, by assumption, ?_⟩
      | refine ⟨(Nat.le_of_ble_eq_true rfl), _, by assumption, ?_⟩
      | refine ⟨by kernel_rfl, ?_⟩
      | exact rfl
      | exact ⟨Nat.le_of_ble_eq_true rfl, rfl⟩
      | refine ⟨by decide, ?_⟩

theorem Rec45 (a b : Rat) (i j : Nat) (most : Int) (hi : dn i = a.den) (hj : dn j = b.den) (hm : most ≤ 200) (la : Sz a 20) (lb : Sz b 20) : ∃ d, dn d = (reckonQ 45 a b most).1.den ∧ AC Tryz.prog 138 [.val (.int .i32 45), RA a.num i, RA b.num j, .val (.int .i64 most)] (.pure (.tup [RA (reckonQ 45 a b most).1.num d, .val (.int .i64 (reckonQ 45 a b most).2)])) := by
  rw [show reckonQ 45 a b most = (a + -b, 0) from rfl]
  have hM := QMinus_ok b.num j
  rw [hj] at hM
  have hM : AC Tryz.prog 153 [RA b.num j] (.pure (RA (-b).num b.den)) := hM
  have hP := QPlus1 a (-b) i b.den hi (dn_den b) (la.mono (by decide)) ((Sz_neg lb).mono (by decide))
  refine ⟨_, dn_den _, ?_⟩
  refine AC.of_body TTok Tryz.func138 rfl (enter_of Tryz.func138 (by kernel_rfl) (by kernel_rfl)) (noid4 (.val _) (RA_noid _ _) (RA_noid _ _) (.val _)) (.tup _ (noid2 (RA_noid _ _) (.val _))) (Nat.le_of_ble_eq_true rfl) ?_
  revert hP
  generalize a + -b = r
  intro hP
  generalize -b = nb at *
  unfold RA rowR at *
  repeat
    conv => whnf
    first
      | refine ⟨_, by assumption, ?_⟩
      | refine ⟨(Nat.le_of_ble_eq_true rfl), _, by assumption, ?_⟩
      | refine ⟨by kernel_rfl, ?_⟩
      | exact rfl
      | exact ⟨Nat.le_of_ble_eq_true rfl, rfl⟩
      | refine ⟨by decide, ?_⟩

theorem Rec215 (a b : Rat) (i j : Nat) (most : Int) (hi : dn i = a.den) (hj : dn j = b.den) (hm : most ≤ 200) (la : Sz a 20) (lb : Sz b 20) : ∃ d, dn d = (reckonQ 215 a b most).1.den ∧ AC Tryz.prog 138 [.val (.int .i32 215), RA a.num i, RA b.num j, .val (.int .i64 most)] (.pure (.tup [RA (reckonQ 215 a b most).1.num d, .val (.int .i64 (reckonQ 215 a b most).2)])) := by
  rw [show reckonQ 215 a b most = (a * b, 0) from rfl]
  have hP := QTimes1 a b i j hi hj (la.mono (by decide)) (lb.mono (by decide))
  refine ⟨_, dn_den _, ?_⟩
  refine AC.of_body TTok Tryz.func138 rfl (enter_of Tryz.func138 (by kernel_rfl) (by kernel_rfl)) (noid4 (.val _) (RA_noid _ _) (RA_noid _ _) (.val _)) (.tup _ (noid2 (RA_noid _ _) (.val _))) (Nat.le_of_ble_eq_true rfl) ?_
  revert hP
  generalize a * b = r
  intro hP
  unfold RA rowR at *
  repeat
    conv => whnf
    first
      | refine ⟨_, by assumption, ?_⟩
      | refine ⟨(Nat.le_of_ble_eq_true rfl), _, by assumption, ?_⟩
      | refine ⟨by kernel_rfl, ?_⟩
      | exact rfl
      | exact ⟨Nat.le_of_ble_eq_true rfl, rfl⟩
      | refine ⟨by decide, ?_⟩

theorem Rec247 (a b : Rat) (i j : Nat) (most : Int) (hi : dn i = a.den) (hj : dn j = b.den) (hm : most ≤ 200) (la : Sz a 20) (lb : Sz b 20) : ∃ d, dn d = (reckonQ 247 a b most).1.den ∧ AC Tryz.prog 138 [.val (.int .i32 247), RA a.num i, RA b.num j, .val (.int .i64 most)] (.pure (.tup [RA (reckonQ 247 a b most).1.num d, .val (.int .i64 (reckonQ 247 a b most).2)])) := by
  rw [show reckonQ 247 a b most = (if b ≠ 0 then (a / b, 0) else if a = 0 then (1, 0) else (0, 22)) from rfl]
  have hSa := RaSign_ok a.num i
  have hSb := RaSign_ok b.num j
  by_cases hb : b = 0
  · rw [if_neg (fun h => h hb)]
    have fb := sig_z hb
    by_cases ha : a = 0
    · rw [if_pos ha]
      have fa := sig_z ha
      have hF := RatFrom_ok 1 (by decide)
      refine ⟨1, rfl, ?_⟩
      show AC Tryz.prog 138 _ (.pure (.tup [RA 1 1, .val (.int .i64 0)]))
      refine AC.of_body TTok Tryz.func138 rfl (enter_of Tryz.func138 (by kernel_rfl) (by kernel_rfl)) (noid4 (.val _) (RA_noid _ _) (RA_noid _ _) (.val _)) (.tup _ (noid2 (RA_noid _ _) (.val _))) (Nat.le_of_ble_eq_true rfl) ?_
      generalize sigW a.num = s at *
      generalize sigW b.num = t at *
      unfold RA at *
      conv => whnf
      refine ⟨_, hSa, ?_⟩
      conv => whnf
      refine caseb (fun _ => ?_) (fun h => Bool.noConfusion ((fa).symm.trans h))
      conv => whnf
      refine ⟨_, hSb, ?_⟩
      conv => whnf
      refine caseb (fun _ => ?_) (fun h => Bool.noConfusion ((fb).symm.trans h))
      repeat
        conv => whnf
        first
          | refine ⟨_, by assumption, ?_⟩
          | refine ⟨(Nat.le_of_ble_eq_true rfl), _, by assumption, ?_⟩
          | refine ⟨by kernel_rfl, ?_⟩
          | exact rfl
          | exact ⟨Nat.le_of_ble_eq_true rfl, rfl⟩
          | refine ⟨by decide, ?_⟩
    · rw [if_neg ha]
      have fa := sig_ne ha
      have hB := By_zero a i j hi (by rw [hj, hb]) (la.mono (by decide))
      rw [← hb] at hB
      refine ⟨0, rfl, ?_⟩
      show AC Tryz.prog 138 _ (.pure (.tup [RA 0 0, .val (.int .i64 22)]))
      refine AC.of_body TTok Tryz.func138 rfl (enter_of Tryz.func138 (by kernel_rfl) (by kernel_rfl)) (noid4 (.val _) (RA_noid _ _) (RA_noid _ _) (.val _)) (.tup _ (noid2 (RA_noid _ _) (.val _))) (Nat.le_of_ble_eq_true rfl) ?_
      generalize sigW a.num = s at *
      unfold RA at *
      conv => whnf
      refine ⟨_, hSa, ?_⟩
      conv => whnf
      refine caseb (fun h => Bool.noConfusion ((fa).symm.trans h)) (fun _ => ?_)
      repeat
        conv => whnf
        first
          | refine ⟨_, by assumption, ?_⟩
          | refine ⟨(Nat.le_of_ble_eq_true rfl), _, by assumption, ?_⟩
          | refine ⟨by kernel_rfl, ?_⟩
          | exact rfl
          | exact ⟨Nat.le_of_ble_eq_true rfl, rfl⟩
          | refine ⟨by decide, ?_⟩
  · rw [if_pos hb]
    have fb := sig_ne hb
    have hB := By_ok a b i j hi hj (la.mono (by decide)) (lb.mono (by decide)) hb
    refine ⟨_, dn_den _, ?_⟩
    refine AC.of_body TTok Tryz.func138 rfl (enter_of Tryz.func138 (by kernel_rfl) (by kernel_rfl)) (noid4 (.val _) (RA_noid _ _) (RA_noid _ _) (.val _)) (.tup _ (noid2 (RA_noid _ _) (.val _))) (Nat.le_of_ble_eq_true rfl) ?_
    revert hB
    generalize a / b = r
    intro hB
    by_cases ha : a = 0
    · have fa := sig_z ha
      generalize sigW a.num = s at *
      generalize sigW b.num = t at *
      unfold RA at *
      conv => whnf
      refine ⟨_, hSa, ?_⟩
      conv => whnf
      refine caseb (fun _ => ?_) (fun h => Bool.noConfusion ((fa).symm.trans h))
      conv => whnf
      refine ⟨_, hSb, ?_⟩
      conv => whnf
      refine caseb (fun h => Bool.noConfusion ((fb).symm.trans h)) (fun _ => ?_)
      repeat
        conv => whnf
        first
          | refine ⟨_, by assumption, ?_⟩
          | refine ⟨(Nat.le_of_ble_eq_true rfl), _, by assumption, ?_⟩
          | refine ⟨by kernel_rfl, ?_⟩
          | exact rfl
          | exact ⟨Nat.le_of_ble_eq_true rfl, rfl⟩
          | refine ⟨by decide, ?_⟩
    · have fa := sig_ne ha
      generalize sigW a.num = s at *
      unfold RA at *
      conv => whnf
      refine ⟨_, hSa, ?_⟩
      conv => whnf
      refine caseb (fun h => Bool.noConfusion ((fa).symm.trans h)) (fun _ => ?_)
      repeat
        conv => whnf
        first
          | refine ⟨_, by assumption, ?_⟩
          | refine ⟨(Nat.le_of_ble_eq_true rfl), _, by assumption, ?_⟩
          | refine ⟨by kernel_rfl, ?_⟩
          | exact rfl
          | exact ⟨Nat.le_of_ble_eq_true rfl, rfl⟩
          | refine ⟨by decide, ?_⟩

theorem Rec8968 (a b : Rat) (i j : Nat) (most : Int) (hi : dn i = a.den) (hj : dn j = b.den) (hm : most ≤ 200) (la : Sz a 20) (lb : Sz b 20) : ∃ d, dn d = (reckonQ 8968 a b most).1.den ∧ AC Tryz.prog 138 [.val (.int .i32 8968), RA a.num i, RA b.num j, .val (.int .i64 most)] (.pure (.tup [RA (reckonQ 8968 a b most).1.num d, .val (.int .i64 (reckonQ 8968 a b most).2)])) := by
  rw [show reckonQ 8968 a b most = (if a < b then b else a, 0) from rfl]
  have hC := QCmp_ok a b i j hi hj (la.mono (by decide)) (lb.mono (by decide))
  by_cases h : a < b
  · rw [if_pos h]
    rw [cmp_lt h] at hC
    refine ⟨j, hj, ?_⟩
    refine AC.of_body TTok Tryz.func138 rfl (enter_of Tryz.func138 (by kernel_rfl) (by kernel_rfl)) (noid4 (.val _) (RA_noid _ _) (RA_noid _ _) (.val _)) (.tup _ (noid2 (RA_noid _ _) (.val _))) (Nat.le_of_ble_eq_true rfl) ?_
    unfold RA at *
    repeat
      conv => whnf
      first
        | refine ⟨_, by assumption, ?_⟩
        | refine ⟨(Nat.le_of_ble_eq_true rfl), _, by assumption, ?_⟩
        | refine ⟨by kernel_rfl, ?_⟩
        | exact rfl
        | exact ⟨Nat.le_of_ble_eq_true rfl, rfl⟩
        | refine ⟨by decide, ?_⟩
  · rw [if_neg h]
    have f1 := cmp_ge h
    refine ⟨i, hi, ?_⟩
    refine AC.of_body TTok Tryz.func138 rfl (enter_of Tryz.func138 (by kernel_rfl) (by kernel_rfl)) (noid4 (.val _) (RA_noid _ _) (RA_noid _ _) (.val _)) (.tup _ (noid2 (RA_noid _ _) (.val _))) (Nat.le_of_ble_eq_true rfl) ?_
    generalize cmpQ a b = s at *
    unfold RA at *
    conv => whnf
    refine ⟨_, hC, ?_⟩
    conv => whnf
    refine caseb (fun h => Bool.noConfusion ((f1).symm.trans h)) (fun _ => ?_)
    repeat
      conv => whnf
      first
        | refine ⟨_, by assumption, ?_⟩
        | refine ⟨(Nat.le_of_ble_eq_true rfl), _, by assumption, ?_⟩
        | refine ⟨by kernel_rfl, ?_⟩
        | exact rfl
        | exact ⟨Nat.le_of_ble_eq_true rfl, rfl⟩
        | refine ⟨by decide, ?_⟩

theorem Rec8970 (a b : Rat) (i j : Nat) (most : Int) (hi : dn i = a.den) (hj : dn j = b.den) (hm : most ≤ 200) (la : Sz a 20) (lb : Sz b 20) : ∃ d, dn d = (reckonQ 8970 a b most).1.den ∧ AC Tryz.prog 138 [.val (.int .i32 8970), RA a.num i, RA b.num j, .val (.int .i64 most)] (.pure (.tup [RA (reckonQ 8970 a b most).1.num d, .val (.int .i64 (reckonQ 8970 a b most).2)])) := by
  rw [show reckonQ 8970 a b most = (if a < b then a else b, 0) from rfl]
  have hC := QCmp_ok a b i j hi hj (la.mono (by decide)) (lb.mono (by decide))
  by_cases h : a < b
  · rw [if_pos h]
    rw [cmp_lt h] at hC
    refine ⟨i, hi, ?_⟩
    refine AC.of_body TTok Tryz.func138 rfl (enter_of Tryz.func138 (by kernel_rfl) (by kernel_rfl)) (noid4 (.val _) (RA_noid _ _) (RA_noid _ _) (.val _)) (.tup _ (noid2 (RA_noid _ _) (.val _))) (Nat.le_of_ble_eq_true rfl) ?_
    unfold RA at *
    repeat
      conv => whnf
      first
        | refine ⟨_, by assumption, ?_⟩
        | refine ⟨(Nat.le_of_ble_eq_true rfl), _, by assumption, ?_⟩
        | refine ⟨by kernel_rfl, ?_⟩
        | exact rfl
        | exact ⟨Nat.le_of_ble_eq_true rfl, rfl⟩
        | refine ⟨by decide, ?_⟩
  · rw [if_neg h]
    by_cases he : a = b
    · have hC0 : cmpQ a b = 0 := cmpQ_eq.2 he
      rw [hC0] at hC
      refine ⟨i, by rw [hi, he], ?_⟩
      rw [show RA b.num i = RA a.num i by rw [he]]
      refine AC.of_body TTok Tryz.func138 rfl (enter_of Tryz.func138 (by kernel_rfl) (by kernel_rfl)) (noid4 (.val _) (RA_noid _ _) (RA_noid _ _) (.val _)) (.tup _ (noid2 (RA_noid _ _) (.val _))) (Nat.le_of_ble_eq_true rfl) ?_
      unfold RA at *
      repeat
        conv => whnf
        first
          | refine ⟨_, by assumption, ?_⟩
          | refine ⟨(Nat.le_of_ble_eq_true rfl), _, by assumption, ?_⟩
          | refine ⟨by kernel_rfl, ?_⟩
          | exact rfl
          | exact ⟨Nat.le_of_ble_eq_true rfl, rfl⟩
          | refine ⟨by decide, ?_⟩
    · have hC1 : cmpQ a b = 1 := by unfold cmpQ; rw [if_neg h, if_neg he]
      rw [hC1] at hC
      refine ⟨j, hj, ?_⟩
      refine AC.of_body TTok Tryz.func138 rfl (enter_of Tryz.func138 (by kernel_rfl) (by kernel_rfl)) (noid4 (.val _) (RA_noid _ _) (RA_noid _ _) (.val _)) (.tup _ (noid2 (RA_noid _ _) (.val _))) (Nat.le_of_ble_eq_true rfl) ?_
      unfold RA at *
      repeat
        conv => whnf
        first
          | refine ⟨_, by assumption, ?_⟩
          | refine ⟨(Nat.le_of_ble_eq_true rfl), _, by assumption, ?_⟩
          | refine ⟨by kernel_rfl, ?_⟩
          | exact rfl
          | exact ⟨Nat.le_of_ble_eq_true rfl, rfl⟩
          | refine ⟨by decide, ?_⟩

theorem Rec124 (a b : Rat) (i j : Nat) (most : Int) (hi : dn i = a.den) (hj : dn j = b.den) (hm : most ≤ 200) (la : Sz a 20) (lb : Sz b 20) : ∃ d, dn d = (reckonQ 124 a b most).1.den ∧ AC Tryz.prog 138 [.val (.int .i32 124), RA a.num i, RA b.num j, .val (.int .i64 most)] (.pure (.tup [RA (reckonQ 124 a b most).1.num d, .val (.int .i64 (reckonQ 124 a b most).2)])) := by
  rw [show reckonQ 124 a b most = (restQ a b, 0) from rfl]
  by_cases h : a = 0
  · have hR := Rest_zero b i j (by rw [hi, h]) hj (lb.mono (by decide))
    rw [← h] at hR
    rw [show restQ a b = b from if_pos h]
    refine ⟨j, hj, ?_⟩
    refine AC.of_body TTok Tryz.func138 rfl (enter_of Tryz.func138 (by kernel_rfl) (by kernel_rfl)) (noid4 (.val _) (RA_noid _ _) (RA_noid _ _) (.val _)) (.tup _ (noid2 (RA_noid _ _) (.val _))) (Nat.le_of_ble_eq_true rfl) ?_
    unfold RA at *
    repeat
      conv => whnf
      first
        | refine ⟨_, by assumption, ?_⟩
        | refine ⟨(Nat.le_of_ble_eq_true rfl), _, by assumption, ?_⟩
        | refine ⟨by kernel_rfl, ?_⟩
        | exact rfl
        | exact ⟨Nat.le_of_ble_eq_true rfl, rfl⟩
        | refine ⟨by decide, ?_⟩
  · have hR := Rest_ok a b i j h hi hj la lb
    refine ⟨_, dn_den _, ?_⟩
    refine AC.of_body TTok Tryz.func138 rfl (enter_of Tryz.func138 (by kernel_rfl) (by kernel_rfl)) (noid4 (.val _) (RA_noid _ _) (RA_noid _ _) (.val _)) (.tup _ (noid2 (RA_noid _ _) (.val _))) (Nat.le_of_ble_eq_true rfl) ?_
    revert hR
    generalize restQ a b = r
    intro hR
    unfold RA at *
    repeat
      conv => whnf
      first
        | refine ⟨_, by assumption, ?_⟩
        | refine ⟨(Nat.le_of_ble_eq_true rfl), _, by assumption, ?_⟩
        | refine ⟨by kernel_rfl, ?_⟩
        | exact rfl
        | exact ⟨Nat.le_of_ble_eq_true rfl, rfl⟩
        | refine ⟨by decide, ?_⟩

theorem Rec42 (a b : Rat) (i j : Nat) (most : Int) (hi : dn i = a.den) (hj : dn j = b.den) (hm : most ≤ 200) (la : Sz a 20) (lb : Sz b 20) : ∃ d, dn d = (reckonQ 42 a b most).1.den ∧ AC Tryz.prog 138 [.val (.int .i32 42), RA a.num i, RA b.num j, .val (.int .i64 most)] (.pure (.tup [RA (reckonQ 42 a b most).1.num d, .val (.int .i64 (reckonQ 42 a b most).2)])) := by
  rw [show reckonQ 42 a b most = powerQ a b most from rfl]
  obtain ⟨d, hd, hP⟩ := Power_ok a b i j most hi hj hm (la.mono (by decide))
  refine ⟨d, hd, ?_⟩
  refine AC.of_body TTok Tryz.func138 rfl (enter_of Tryz.func138 (by kernel_rfl) (by kernel_rfl)) (noid4 (.val _) (RA_noid _ _) (RA_noid _ _) (.val _)) (.tup _ (noid2 (RA_noid _ _) (.val _))) (Nat.le_of_ble_eq_true rfl) ?_
  revert hP
  generalize (powerQ a b most).1 = r
  generalize (powerQ a b most).2 = e
  intro hP
  unfold RA at *
  repeat
    conv => whnf
    first
      | refine ⟨_, by assumption, ?_⟩
      | refine ⟨(Nat.le_of_ble_eq_true rfl), _, by assumption, ?_⟩
      | refine ⟨by kernel_rfl, ?_⟩
      | exact rfl
      | exact ⟨Nat.le_of_ble_eq_true rfl, rfl⟩
      | refine ⟨by decide, ?_⟩

theorem Rec33 (a b : Rat) (i j : Nat) (most : Int) (hi : dn i = a.den) (hj : dn j = b.den) (hm : most ≤ 200) (la : Sz a 20) (lb : Sz b 20) : ∃ d, dn d = (reckonQ 33 a b most).1.den ∧ AC Tryz.prog 138 [.val (.int .i32 33), RA a.num i, RA b.num j, .val (.int .i64 most)] (.pure (.tup [RA (reckonQ 33 a b most).1.num d, .val (.int .i64 (reckonQ 33 a b most).2)])) := by
  rw [show reckonQ 33 a b most = chooseQ a b most from rfl]
  obtain ⟨d, hd, hP⟩ := Choose_ok a b i j most hi hj hm (la.mono (by decide)) (lb.mono (by decide))
  refine ⟨d, hd, ?_⟩
  refine AC.of_body TTok Tryz.func138 rfl (enter_of Tryz.func138 (by kernel_rfl) (by kernel_rfl)) (noid4 (.val _) (RA_noid _ _) (RA_noid _ _) (.val _)) (.tup _ (noid2 (RA_noid _ _) (.val _))) (Nat.le_of_ble_eq_true rfl) ?_
  revert hP
  generalize (chooseQ a b most).1 = r
  generalize (chooseQ a b most).2 = e
  intro hP
  unfold RA at *
  repeat
    conv => whnf
    first
      | refine ⟨_, by assumption, ?_⟩
      | refine ⟨(Nat.le_of_ble_eq_true rfl), _, by assumption, ?_⟩
      | refine ⟨by kernel_rfl, ?_⟩
      | exact rfl
      | exact ⟨Nat.le_of_ble_eq_true rfl, rfl⟩
      | refine ⟨by decide, ?_⟩

theorem Rec9055 (a b : Rat) (i j : Nat) (most : Int) (hi : dn i = a.den) (hj : dn j = b.den) (hm : most ≤ 200) (la : Sz a 20) (lb : Sz b 20) : ∃ d, dn d = (reckonQ 9055 a b most).1.den ∧ AC Tryz.prog 138 [.val (.int .i32 9055), RA a.num i, RA b.num j, .val (.int .i64 most)] (.pure (.tup [RA (reckonQ 9055 a b most).1.num d, .val (.int .i64 (reckonQ 9055 a b most).2)])) := by
  refine ⟨0, rfl, RZ22 ?_⟩
  refine AC.of_body TTok Tryz.func138 rfl (enter_of Tryz.func138 (by kernel_rfl) (by kernel_rfl)) (noid4 (.val _) (RA_noid _ _) (RA_noid _ _) (.val _)) (.tup _ (noid2 RZ_noid (.val _))) (Nat.le_of_ble_eq_true rfl) ?_
  unfold RZ
  repeat
    conv => whnf
    first
      | refine ⟨_, by assumption, ?_⟩
      | refine ⟨(Nat.le_of_ble_eq_true rfl), _, by assumption, ?_⟩
      | refine ⟨by kernel_rfl, ?_⟩
      | exact rfl
      | exact ⟨Nat.le_of_ble_eq_true rfl, rfl⟩
      | refine ⟨by decide, ?_⟩

theorem Rec9675 (a b : Rat) (i j : Nat) (most : Int) (hi : dn i = a.den) (hj : dn j = b.den) (hm : most ≤ 200) (la : Sz a 20) (lb : Sz b 20) : ∃ d, dn d = (reckonQ 9675 a b most).1.den ∧ AC Tryz.prog 138 [.val (.int .i32 9675), RA a.num i, RA b.num j, .val (.int .i64 most)] (.pure (.tup [RA (reckonQ 9675 a b most).1.num d, .val (.int .i64 (reckonQ 9675 a b most).2)])) := by
  refine ⟨0, rfl, RZ22 ?_⟩
  refine AC.of_body TTok Tryz.func138 rfl (enter_of Tryz.func138 (by kernel_rfl) (by kernel_rfl)) (noid4 (.val _) (RA_noid _ _) (RA_noid _ _) (.val _)) (.tup _ (noid2 RZ_noid (.val _))) (Nat.le_of_ble_eq_true rfl) ?_
  unfold RZ
  repeat
    conv => whnf
    first
      | refine ⟨_, by assumption, ?_⟩
      | refine ⟨(Nat.le_of_ble_eq_true rfl), _, by assumption, ?_⟩
      | refine ⟨by kernel_rfl, ?_⟩
      | exact rfl
      | exact ⟨Nat.le_of_ble_eq_true rfl, rfl⟩
      | refine ⟨by decide, ?_⟩

theorem Reckon_ok (a b : Rat) (i j : Nat) (most : Int) (hi : dn i = a.den) (hj : dn j = b.den) (hm : most ≤ 200) (la : Sz a 20) (lb : Sz b 20) (c : Int) (hc : isRec c) : ∃ d, dn d = (reckonQ c a b most).1.den ∧ AC Tryz.prog 138 [.val (.int .i32 c), RA a.num i, RA b.num j, .val (.int .i64 most)] (.pure (.tup [RA (reckonQ c a b most).1.num d, .val (.int .i64 (reckonQ c a b most).2)])) := by
  rcases hc with rfl | rfl | rfl | rfl | rfl | rfl | rfl | rfl | rfl | rfl | rfl
  · exact Rec43 a b i j most hi hj hm la lb
  · exact Rec45 a b i j most hi hj hm la lb
  · exact Rec215 a b i j most hi hj hm la lb
  · exact Rec247 a b i j most hi hj hm la lb
  · exact Rec8968 a b i j most hi hj hm la lb
  · exact Rec8970 a b i j most hi hj hm la lb
  · exact Rec124 a b i j most hi hj hm la lb
  · exact Rec42 a b i j most hi hj hm la lb
  · exact Rec33 a b i j most hi hj hm la lb
  · exact Rec9055 a b i j most hi hj hm la lb
  · exact Rec9675 a b i j most hi hj hm la lb

end Go.Proofs.YtbdklokfijjifaaGreat

/- Functions of two numbers: all of them. -/
set_option linter.unusedVariables false
namespace Go.Proofs.YtbdklokfijjifaaGreat
open Go Go.AL NM

/-- What a function makes of two numbers. -/
def twoQ (c : Int) (a b : Rat) (most : Int) : Rat × Int :=
  if isCmp c then (tq (cmpS c (cmpQ a b)), 0)
  else if isJdg c then judgeQ c a b
  else if ¬ isRec c then (0, 20)
  else if (reckonQ c a b most).2 ≠ 0 then (0, (reckonQ c a b most).2)
  else if most < (qLimbs (reckonQ c a b most).1.num (reckonQ c a b most).1.den : Nat) then (0, 26)
  else ((reckonQ c a b most).1, 0)

theorem Sz_one : Sz 1 1 := Sz_small (by decide) (by decide)
section
variable (c : Int) (a b : Rat) (i j : Nat) (most : Int) (hi : dn i = a.den) (hj : dn j = b.den) (hm : most ≤ 200) (la : Sz a 20) (lb : Sz b 20)
include hi hj hm la lb
theorem Two_ok : ∃ d, dn d = (twoQ c a b most).1.den ∧ AC Tryz.prog 112 [.val (.int .i32 c), RA a.num i, RA b.num j, .val (.int .i64 most)] (.pure (.tup [RA (twoQ c a b most).1.num d, .val (.int .i64 (twoQ c a b most).2)])) := by
  unfold twoQ
  have hC := compares_ok c
  have hJ := judges_ok c
  have hR := reckons_ok c
  by_cases h1 : isCmp c
  · rw [if_pos h1]
    rw [decide_eq_true h1] at hC
    have hQ := QCmp_ok a b i j hi hj (la.mono (by decide)) (lb.mono (by decide))
    have hS := Compare_ok c (cmpQ a b)
    have hT := truth_ok (cmpS c (cmpQ a b))
    refine ⟨_, td_dn _, ?_⟩
    refine AC.of_body TTok Tryz.func112 rfl (enter_of Tryz.func112 (by kernel_rfl) (by kernel_rfl)) (noid4 (.val _) (RA_noid _ _) (RA_noid _ _) (.val _)) (.tup _ (noid2 (RA_noid _ _) (.val _))) (Nat.le_of_ble_eq_true rfl) ?_
    revert hQ hS hT
    generalize cmpS c (cmpQ a b) = t
    generalize cmpQ a b = n
    intro hQ hS hT
    generalize td t = e at *
    generalize (tq t).num = f at *
    unfold RA at *
    repeat
      conv => whnf
      first
        | refine ⟨_, by assumption, ?_⟩
        | refine ⟨(Nat.le_of_ble_eq_true rfl), _, by assumption, ?_⟩
        | refine ⟨by kernel_rfl, ?_⟩
        | exact rfl
        | exact ⟨Nat.le_of_ble_eq_true rfl, rfl⟩
        | refine ⟨by decide, ?_⟩
  rw [if_neg h1]
  rw [decide_eq_false h1] at hC
  by_cases h2 : isJdg c
  · rw [if_pos h2]
    rw [decide_eq_true h2] at hJ
    obtain ⟨d, hd, hP⟩ := judge_ok c h2 a b i j hi hj (la.mono (by decide)) (lb.mono (by decide))
    refine ⟨d, hd, ?_⟩
    refine AC.of_body TTok Tryz.func112 rfl (enter_of Tryz.func112 (by kernel_rfl) (by kernel_rfl)) (noid4 (.val _) (RA_noid _ _) (RA_noid _ _) (.val _)) (.tup _ (noid2 (RA_noid _ _) (.val _))) (Nat.le_of_ble_eq_true rfl) ?_
    revert hP
    generalize (judgeQ c a b).1 = r
    generalize (judgeQ c a b).2 = e
    intro hP
    unfold RA at *
    repeat
      conv => whnf
      first
        | refine ⟨_, by assumption, ?_⟩
        | refine ⟨(Nat.le_of_ble_eq_true rfl), _, by assumption, ?_⟩
        | refine ⟨by kernel_rfl, ?_⟩
        | exact rfl
        | exact ⟨Nat.le_of_ble_eq_true rfl, rfl⟩
        | refine ⟨by decide, ?_⟩
  rw [if_neg h2]
  rw [decide_eq_false h2] at hJ
  by_cases h3 : isRec c
  rotate_left
  · rw [if_pos h3]
    rw [decide_eq_false h3] at hR
    refine ⟨0, rfl, RZ22 ?_⟩
    refine AC.of_body TTok Tryz.func112 rfl (enter_of Tryz.func112 (by kernel_rfl) (by kernel_rfl)) (noid4 (.val _) (RA_noid _ _) (RA_noid _ _) (.val _)) (.tup _ (noid2 RZ_noid (.val _))) (Nat.le_of_ble_eq_true rfl) ?_
    unfold RA RZ at *
    repeat
      conv => whnf
      first
        | refine ⟨_, by assumption, ?_⟩
        | refine ⟨(Nat.le_of_ble_eq_true rfl), _, by assumption, ?_⟩
        | refine ⟨by kernel_rfl, ?_⟩
        | exact rfl
        | exact ⟨Nat.le_of_ble_eq_true rfl, rfl⟩
        | refine ⟨by decide, ?_⟩
  rw [if_neg (fun h => h h3)]
  rw [decide_eq_true h3] at hR
  obtain ⟨d, hd, hP⟩ := Reckon_ok a b i j most hi hj hm la lb c h3
  have hL := QLimbs_ok (reckonQ c a b most).1.num d
  rw [hd] at hL
  revert hd hP hL
  generalize (reckonQ c a b most).1 = r
  generalize (reckonQ c a b most).2 = e
  intro hd hP hL
  by_cases he : e = 0
  rotate_left
  · rw [if_pos he]
    have f1 : (e == 0) = false := beq_false_of_ne he
    have f2 : (e != 0) = true := by rw [bne, f1]; rfl
    refine ⟨0, rfl, RZ22 ?_⟩
    refine AC.of_body TTok Tryz.func112 rfl (enter_of Tryz.func112 (by kernel_rfl) (by kernel_rfl)) (noid4 (.val _) (RA_noid _ _) (RA_noid _ _) (.val _)) (.tup _ (noid2 RZ_noid (.val _))) (Nat.le_of_ble_eq_true rfl) ?_
    unfold RA RZ at *
    conv => whnf
    refine ⟨_, hC, ?_⟩
    conv => whnf
    refine ⟨_, hJ, ?_⟩
    conv => whnf
    refine ⟨_, hR, ?_⟩
    conv => whnf
    refine ⟨_, hP, ?_⟩
    conv => whnf
    refine caseb (fun h => Bool.noConfusion ((f1).symm.trans h)) (fun _ => ?_)
    conv => whnf
    refine caseb (fun _ => ?_) (fun h => Bool.noConfusion ((f2).symm.trans h))
    repeat
      conv => whnf
      first
        | refine ⟨_, by assumption, ?_⟩
        | refine ⟨(Nat.le_of_ble_eq_true rfl), _, by assumption, ?_⟩
        | refine ⟨by kernel_rfl, ?_⟩
        | exact rfl
        | exact ⟨Nat.le_of_ble_eq_true rfl, rfl⟩
        | refine ⟨by decide, ?_⟩
  rw [if_neg (fun h => h he)]
  subst he
  by_cases hq : most < (qLimbs r.num r.den : Nat)
  · rw [if_pos hq]
    have f1 : decide (((qLimbs r.num r.den : Nat) : Int) > most) = true := decide_eq_true hq
    refine ⟨0, rfl, RZ22 ?_⟩
    refine AC.of_body TTok Tryz.func112 rfl (enter_of Tryz.func112 (by kernel_rfl) (by kernel_rfl)) (noid4 (.val _) (RA_noid _ _) (RA_noid _ _) (.val _)) (.tup _ (noid2 RZ_noid (.val _))) (Nat.le_of_ble_eq_true rfl) ?_
    generalize ((qLimbs r.num r.den : Nat) : Int) = n at *
    unfold RA RZ at *
    conv => whnf
    refine ⟨_, hC, ?_⟩
    conv => whnf
    refine ⟨_, hJ, ?_⟩
    conv => whnf
    refine ⟨_, hR, ?_⟩
    conv => whnf
    refine ⟨_, hP, ?_⟩
    conv => whnf
    refine ⟨_, hL, ?_⟩
    conv => whnf
    refine caseb (fun _ => ?_) (fun h => Bool.noConfusion ((f1).symm.trans h))
    repeat
      conv => whnf
      first
        | refine ⟨_, by assumption, ?_⟩
        | refine ⟨(Nat.le_of_ble_eq_true rfl), _, by assumption, ?_⟩
        | refine ⟨by kernel_rfl, ?_⟩
        | exact rfl
        | exact ⟨Nat.le_of_ble_eq_true rfl, rfl⟩
        | refine ⟨by decide, ?_⟩
  · rw [if_neg hq]
    have f1 : decide (((qLimbs r.num r.den : Nat) : Int) > most) = false := decide_eq_false hq
    refine ⟨d, hd, ?_⟩
    refine AC.of_body TTok Tryz.func112 rfl (enter_of Tryz.func112 (by kernel_rfl) (by kernel_rfl)) (noid4 (.val _) (RA_noid _ _) (RA_noid _ _) (.val _)) (.tup _ (noid2 (RA_noid _ _) (.val _))) (Nat.le_of_ble_eq_true rfl) ?_
    generalize ((qLimbs r.num r.den : Nat) : Int) = n at *
    unfold RA at *
    conv => whnf
    refine ⟨_, hC, ?_⟩
    conv => whnf
    refine ⟨_, hJ, ?_⟩
    conv => whnf
    refine ⟨_, hR, ?_⟩
    conv => whnf
    refine ⟨_, hP, ?_⟩
    conv => whnf
    refine ⟨_, hL, ?_⟩
    conv => whnf
    refine caseb (fun h => Bool.noConfusion ((f1).symm.trans h)) (fun _ => ?_)
    repeat
      conv => whnf
      first
        | refine ⟨_, by assumption, ?_⟩
        | refine ⟨(Nat.le_of_ble_eq_true rfl), _, by assumption, ?_⟩
        | refine ⟨by kernel_rfl, ?_⟩
        | exact rfl
        | exact ⟨Nat.le_of_ble_eq_true rfl, rfl⟩
        | refine ⟨by decide, ?_⟩
end
end Go.Proofs.YtbdklokfijjifaaGreat

/- Arrays: two of them, element by element: the shape that they make together (plain laws); elements (contracts). -/
set_option linter.unusedVariables false
namespace Go.Proofs.YtbdklokfijjifaaGreat
open Go Go.AL NM

theorem kinds_len {sh : List Int} {ch : Bool} {a b : Nat} (h : kinds sh ch a b) : ((a + b : Nat) : Int) = cntI sh ∧ (if ch then a else b) = a + b := by
  unfold kinds at h
  cases ch with
  | true =>
    have h : (a : Int) = cntI sh ∧ b = 0 := h
    exact ⟨by omega, by show a = a + b; omega⟩
  | false =>
    have h : (b : Int) = cntI sh ∧ a = 0 := h
    exact ⟨by omega, by show b = a + b; omega⟩
/-- An index of one of two arrays: the first one's alone, if it is one for all. -/
def ix (one : Bool) (i : Nat) : Nat := if one then 0 else i
theorem fit_idx {sa sb : List Int} {la lb : Nat} (ha : (la : Int) = cntI sa) (hb : (lb : Int) = cntI sb) (va : vS sa) (vb : vS sb) (he : (fitS sa sb la lb).2.2.2 = 0) :
    vS (fitS sa sb la lb).1 ∧ (cntI (fitS sa sb la lb).1 = la ∨ cntI (fitS sa sb la lb).1 = lb) ∧ ∀ i : Nat, (i : Int) < cntI (fitS sa sb la lb).1 → ix (fitS sa sb la lb).2.1 i < la ∧ ix (fitS sa sb la lb).2.2.1 i < lb := by
  unfold fitS at *
  by_cases hs : sa = sb
  · rw [if_pos hs] at he ⊢
    subst hs
    exact ⟨va, .inl ha.symm, fun i hi => ⟨by have hi : (i : Int) < cntI sa := hi; show i < la; omega, by have hi : (i : Int) < cntI sa := hi; show i < lb; omega⟩⟩
  · rw [if_neg hs] at he ⊢
    by_cases h1 : la = 1 ∧ (lb ≠ 1 ∨ sa.length < sb.length)
    · rw [if_pos h1] at he ⊢
      exact ⟨vb, .inr hb.symm, fun i hi => ⟨by show 0 < la; omega, by have hi : (i : Int) < cntI sb := hi; show i < lb; omega⟩⟩
    · rw [if_neg h1] at he ⊢
      by_cases h2 : lb = 1
      · rw [if_pos h2] at he ⊢
        exact ⟨va, .inl ha.symm, fun i hi => ⟨by have hi : (i : Int) < cntI sa := hi; show i < la; omega, by show 0 < lb; omega⟩⟩
      · rw [if_neg h2] at he
        split at he
        · exact absurd he (by decide)
        · exact absurd he (by decide)
/-- What stands below the line of a number. -/
def denX : Option (Rat × Nat) → Nat
  | none => 0
  | some p => p.2
theorem denX_ok {o : Option (Rat × Nat)} (h : okX o) : dn (denX o) = (valX o).den := by
  cases o with
  | none => rfl
  | some p => exact h
theorem rowX_le (o : Option (Rat × Nat)) : AVle (.agg (rowX o)) (RA (valX o).num (denX o)) := by
  cases o with
  | none => exact RZ_le
  | some p => exact .refl _
theorem getD_val (na : List (Option (Rat × Nat))) (k : Nat) : (na.map valX).getD k 0 = valX (na.getD k none) := by
  rw [List.getD_eq_getElem?_getD, List.getD_eq_getElem?_getD, List.getElem?_map]
  cases na[k]? <;> rfl
theorem RatY_ok (sh : List Int) (ch : Bool) (tx : List Int) (na : List (Option (Rat × Nat))) (k : Nat) (hk : k < na.length) (hb : na.length ≤ 1000) : AC Tryz.prog 15 [AA sh ch tx na true, .val (.int .i64 (k : Int))] (.pure (RA ((na.map valX).getD k 0).num (denX (na.getD k none)))) := by
  have h := RatI_ok sh ch tx na true k hk (by omega)
  rw [getD_val, List.getD_eq_getElem?_getD, List.getElem?_eq_getElem hk]
  exact AC.le_res h (rowX_le _) (RA_noid _ _)
theorem RuneX_ok (sh : List Int) (ch : Bool) (tx : List Int) (ns : List (Option (Rat × Nat))) (k : Nat) (hk : k < tx.length) (hb : tx.length ≤ 1000) : AC Tryz.prog 134 [AA sh ch tx ns true, .val (.int .i64 (k : Int))] (.pure (.val (.int .i32 (tx.getD k 0)))) := by
  have h := RuneI_ok sh ch tx ns true k hk (by omega)
  rw [List.getD_eq_getElem?_getD, List.getElem?_eq_getElem hk]
  exact h
theorem atX_ok (i : Nat) (one : Bool) : AC Tryz.prog 113 [.val (.int .i64 (i : Int)), .val (.bool one)] (.pure (.val (.int .i64 ((ix one i : Nat) : Int)))) := by
  have h := at_ok (i : Int) one
  cases one
  · exact h
  · exact h
/-- What two elements come to. -/
def elemF (c : Int) (ca cb : Bool) (ta tb : List Int) (qa qb : List Rat) (one two : Bool) (most : Int) (i : Nat) : Rat × Int :=
  if ca = true ∨ cb = true then
    if c = 61 ∨ c = 8800 then (if (ca && cb && decide (ta.getD (ix one i) 0 = tb.getD (ix two i) 0)) = decide (c = 61) then 1 else 0, 0) else (0, 22)
  else twoQ c (qa.getD (ix one i) 0) (qb.getD (ix two i) 0) most
end Go.Proofs.YtbdklokfijjifaaGreat

/- Arrays: a function of two, element by element: numbers (the program's contract). -/
set_option linter.unusedVariables false
namespace Go.Proofs.YtbdklokfijjifaaGreat
open Go Go.AL NM

theorem rep_drop {α : Type} (x : α) (n i : Nat) (h : i < n) : (List.replicate (n - i) x) = x :: List.replicate (n - (i + 1)) x := by
  rw [show n - i = (n - (i + 1)) + 1 by omega, List.replicate_succ]

theorem rowsM_noid (l : List (Option (Rat × Nat))) (k : Nat) : ∀ r ∈ l.map rowX ++ List.replicate k (rowX none), ∀ x ∈ r, NoId x := by
  intro r hr
  rcases List.mem_append.1 hr with h | h
  · exact rowsX_noid l r h
  · refine rowsX_noid [none] r ?_
    rw [(List.mem_replicate.1 h).2]
    exact List.mem_singleton.2 rfl

theorem Two_loop (c : Int) (hc : isTwo c) (sa sb : List Int) (ta tb : List Int) (na nb : List (Option (Rat × Nat))) (qa qb : List Rat) (na1 : na.map valX = qa) (nb1 : nb.map valX = qb) (most : Int) (s : List Int) (one two : Bool) (n : Nat) (hn : n ≤ 1000) (hv : vS s) (hcn : cntI s = (n : Int))
    (hfit : AC Tryz.prog 110 [AA sa false ta na true, AA sb false tb nb true] (.pure (FV (s, one, two, 0))))
    (hix : ∀ i : Nat, i < n → ix one i < qa.length ∧ ix two i < qb.length) (la : qa.length ≤ 1000) (lb : qb.length ≤ 1000)
    (D : Nat → Nat) (f : Nat → Rat × Int)
    (hD : ∀ i < n, dn (D i) = (f i).1.den ∧ AC Tryz.prog 112 [.val (.int .i32 c), RA (qa.getD (ix one i) 0).num (denX (na.getD (ix one i) none)), RA (qb.getD (ix two i) 0).num (denX (nb.getD (ix two i) none)), .val (.int .i64 most)] (.pure (.tup [RA (f i).1.num (D i), .val (.int .i64 (f i).2)])))
    (E : Int) (hE : E = firstE ((List.range n).map f)) :
    AC Tryz.prog 66 [.val (.int .i32 c), AA sa false ta na true, AA sb false tb nb true, .val (.int .i64 most)] (.pure (if E = 0 then .tup [AA s false [] ((List.range n).map fun i => some ((f i).1, D i)) true, .val (.int .i64 0)] else .tup [AZ, .val (.int .i64 E)])) := by
  have hH := Has_ok c
  rw [decide_eq_true hc] at hH
  have hIa := IsChar_ok sa false ta na true
  have hIb := IsChar_ok sb false tb nb true
  have hC := Count_ok s (by have := hv.1; omega)
  rw [CNT_good hv, hcn] at hC
  obtain ⟨Y, hY⟩ : ∃ Y : List (Option (Rat × Nat)), Y = (List.range n).map fun i => some ((f i).1, D i) := ⟨_, rfl⟩
  rw [← hY]
  have l1 : Y.length = n := by rw [hY, List.length_map, List.length_range]
  have hYi : ∀ i (h : i < n), Y[i]'(by omega) = some ((f i).1, D i) := fun i h => by subst hY; rw [List.getElem_map, List.getElem_range]
  have hN := Nums_ok s Y hv (by rw [l1]; exact hcn) (by omega)
  obtain ⟨res, hres⟩ : ∃ res : AV, res = if E = 0 then .tup [AA s false [] Y true, .val (.int .i64 0)] else .tup [AZ, .val (.int .i64 E)] := ⟨_, rfl⟩
  rw [← hres]
  have hnr : NoId res := by
    rw [hres]; split
    · exact .tup _ (noid2 (AA_noid _ _ _ _ _) (.val _))
    · exact AZt_noid _
  refine AC.of_body TTok Tryz.func66 rfl (enter_of Tryz.func66 (by kernel_rfl) (by kernel_rfl)) (noidF (.val _) (AA_noid _ _ _ _ _) (AA_noid _ _ _ _ _) (.val _)) hnr (Nat.le_of_ble_eq_true rfl) ?_
  have lrep : ∀ k, (List.replicate k (rowX none)).length = k := fun k => List.length_replicate
  have hA1 : ∀ i < n, AC Tryz.prog 15 [AA sa false ta na true, .val (.int .i64 ((ix one i : Nat) : Int))] (.pure (RA (qa.getD (ix one i) 0).num (denX (na.getD (ix one i) none)))) := fun i hi => by
    have h := RatY_ok sa false ta na (ix one i) (by have := (hix i hi).1; rw [← na1, List.length_map] at this; exact this) (by rw [← na1, List.length_map] at la; exact la)
    rw [na1] at h; exact h
  have hB1 : ∀ i < n, AC Tryz.prog 15 [AA sb false tb nb true, .val (.int .i64 ((ix two i : Nat) : Int))] (.pure (RA (qb.getD (ix two i) 0).num (denX (nb.getD (ix two i) none)))) := fun i hi => by
    have h := RatY_ok sb false tb nb (ix two i) (by have := (hix i hi).2; rw [← nb1, List.length_map] at this; exact this) (by rw [← nb1, List.length_map] at lb; exact lb)
    rw [nb1] at h; exact h
  unfold FV AA at hfit
  unfold AA at hIa hIb hA1 hB1 ⊢
  have start : ∀ (P : Prop), P → P := fun _ h => h
  by_cases hn0 : n = 0
  · subst hn0
    have hY0 : Y = [] := List.length_eq_zero_iff.1 l1
    have hE0 : E = 0 := by rw [hE]; rfl
    rw [if_pos hE0] at hres
    subst hres
    rw [hY0] at hN ⊢
    conv => whnf
    refine ⟨_, hH, ?_⟩
    conv => whnf
    refine ⟨_, hfit, ?_⟩
    conv => whnf
    refine ⟨_, hC, ?_⟩
    conv => whnf
    refine ⟨by decide, ?_⟩
    conv => whnf
    refine SW.loopM TTok (fun _ : Unit => [(8, .lp 16 0), (10, .sl 1 (irows .i64 s) false), (16, .own 312 0 0), (65, .val (.int .i64 0)), (66, .val (.int .i64 0))]) (fun _ => [(16, .cells 5 [[.sl 0 [] true, .val (.bool false), .sl 0 [] true, .sl 0 [] true, .val (.bool false)]]), (312, .cells 3 [])]) 352 101 rfl (fun _ => 0) (fun _ => True) () [] trivial
      ⟨⟨rfl, rfl⟩, ⟨rfl, rfl⟩, ⟨rfl, rfl⟩, ⟨rfl, rfl⟩, ⟨rfl, rfl⟩, trivial⟩ ⟨⟨rfl, .inr ⟨rfl, rfl⟩⟩, ⟨rfl, .inr ⟨rfl, rfl⟩⟩, trivial⟩ rfl ?_
    intro _ _
    unfold AA at hN ⊢
    conv => whnf
    refine ⟨Nat.le_refl _, _, hN, ?_⟩
    repeat
      conv => whnf
      first
        | refine ⟨_, by assumption, ?_⟩
        | refine ⟨(Nat.le_of_ble_eq_true rfl), _, by assumption, ?_⟩
        | refine ⟨by kernel_rfl, ?_⟩
        | exact rfl
        | exact ⟨Nat.le_of_ble_eq_true rfl, rfl⟩
        | refine ⟨by decide, ?_⟩
  · conv => whnf
    refine ⟨_, hH, ?_⟩
    conv => whnf
    refine ⟨_, hfit, ?_⟩
    conv => whnf
    refine ⟨_, hC, ?_⟩
    conv => whnf
    first
      | refine caseb (fun _ => ?_) (fun h => absurd (of_decide_eq_false h) (by omega))
      | refine caseb (fun h => absurd (of_decide_eq_true h) (by omega)) (fun _ => ?_)
      | refine caseb (fun _ => ?_) (fun h => absurd (beq_eq_false_iff_ne.1 h) (by omega))
      | refine caseb (fun h => absurd (eq_of_beq h) (by omega)) (fun _ => ?_)
    conv => whnf
    refine ⟨_, hIa, ?_⟩
    conv => whnf
    refine ⟨_, hIb, ?_⟩
    conv => whnf
    refine ⟨by show 0 ≤ (n:Int) ∧ (n:Int) ≤ n ∧ (n:Int) * 56 ≤ 140737488355328; omega, ?_⟩
    conv => whnf
    refine SW.loopM TTok (fun i : Nat => [(0, .val (.int .i32 c)), (3, .val (.int .i64 most)), (5, .lp 0 0), (6, .lp 8 0), (8, .lp 16 0), (10, .sl 1 (irows .i64 s) false), (11, .val (.bool one)), (12, .val (.bool two)), (16, .own 312 0 n), (65, .val (.int .i64 (n : Int))), (66, .val (.int .i64 (i : Int)))])
      (fun i => [(0, .cells 5 [[.sl 1 (irows .i64 sa) false, .val (.bool false), .sl 1 (irows .i32 ta) false, .sl 3 (na.map rowX) false, .val (.bool true)]]), (8, .cells 5 [[.sl 1 (irows .i64 sb) false, .val (.bool false), .sl 1 (irows .i32 tb) false, .sl 3 (nb.map rowX) false, .val (.bool true)]]), (16, .cells 5 [[.sl 0 [] true, .val (.bool false), .sl 0 [] true, .sl 0 [] true, .val (.bool false)]]), (312, .cells 3 ((Y.take i).map rowX ++ List.replicate (n - i) (rowX none)))]) 352 101 rfl (fun i => n - i) (fun i => i ≤ n ∧ ∀ j < i, (f j).2 = 0) 0 [] ⟨Nat.zero_le _, fun x hx => absurd hx (Nat.not_lt_zero _)⟩
      ⟨⟨rfl, rfl⟩, ⟨rfl, rfl⟩, ⟨rfl, rfl⟩, ⟨rfl, rfl⟩, ⟨rfl, rfl⟩, ⟨rfl, rfl⟩, ⟨rfl, rfl⟩, ⟨rfl, rfl⟩, ⟨rfl, rfl⟩, ⟨rfl, rfl⟩, ⟨rfl, rfl⟩, trivial⟩ ⟨⟨rfl, .inr ⟨rfl, rfl⟩⟩, ⟨rfl, .inr ⟨rfl, rfl⟩⟩, ⟨rfl, .inr ⟨rfl, rfl⟩⟩, ⟨rfl, .inl ⟨rfl, rowsM_noid _ _⟩⟩, trivial⟩ rfl ?_
    intro i hJ
    have hi : i ≤ n := hJ.1
    have hz : ∀ j < i, (f j).2 = 0 := hJ.2
    clear hJ
    have ltk : ((Y.take i).map rowX).length = i := by rw [List.length_map, List.length_take]; omega
    have lr : ((Y.take i).map rowX ++ List.replicate (n - i) (rowX none)).length = n := by
      rw [List.length_append, ltk, List.length_replicate]; omega
    by_cases hlt : i < n
    · have eI : IntKind.i64.wrap ((i : Int) + 1) = ((i + 1 : Nat) : Int) := by rw [IntWalk.i64_in _ (by omega)]; omega
      have hA := hA1 i hlt
      have hB := hB1 i hlt
      have hta := atX_ok i one
      have htb := atX_ok i two
      obtain ⟨d1, d2⟩ := hD i hlt
      have hset : ((Y.take i).map rowX ++ List.replicate (n - i) (rowX none)).set i (rowX (some ((f i).1, D i))) = (Y.take (i + 1)).map rowX ++ List.replicate (n - (i + 1)) (rowX none) := by
        rw [rep_drop _ n i hlt, take_snoc (show i < Y.length by omega), hYi i hlt]
        have := set_mid ((Y.take i).map rowX) (rowX none) (rowX (some ((f i).1, D i))) (List.replicate (n - (i + 1)) (rowX none))
        rw [ltk] at this
        rw [this]; simp
      by_cases he : (f i).2 = 0
      · rw [he] at d2
        unfold RA at d2 hA hB
        conv => whnf
        first
          | refine caseb (fun _ => ?_) (fun h => absurd (of_decide_eq_false h) (by omega))
          | refine caseb (fun h => absurd (of_decide_eq_true h) (by omega)) (fun _ => ?_)
          | refine caseb (fun _ => ?_) (fun h => absurd (beq_eq_false_iff_ne.1 h) (by omega))
          | refine caseb (fun h => absurd (eq_of_beq h) (by omega)) (fun _ => ?_)
        conv => whnf
        refine ⟨_, hta, ?_⟩
        conv => whnf
        refine ⟨_, hA, ?_⟩
        conv => whnf
        refine ⟨_, htb, ?_⟩
        conv => whnf
        refine ⟨_, hB, ?_⟩
        conv => whnf
        refine ⟨_, d2, ?_⟩
        conv => whnf
        refine ⟨by kernel_rfl, ?_⟩
        conv => whnf
        refine ⟨by omega, ?_⟩
        conv => whnf
        refine ⟨by rw [Nat.zero_add, Int.toNat_natCast]; omega, ?_⟩
        conv => whnf
        refine ⟨i + 1, [], (by show n - (i + 1) < n - i; omega), ⟨hlt, fun j hj => ?_⟩, ⟨⟨rfl, rfl⟩, ⟨rfl, rfl⟩, ⟨rfl, rfl⟩, ⟨rfl, rfl⟩, ⟨rfl, rfl⟩, ⟨rfl, rfl⟩, ⟨rfl, rfl⟩, ⟨rfl, rfl⟩, ⟨rfl, rfl⟩, ⟨rfl, rfl⟩, ⟨valI eI, rfl⟩, trivial⟩, ⟨⟨rfl, .inr ⟨rfl, rfl⟩⟩, ⟨rfl, .inr ⟨rfl, rfl⟩⟩, ⟨rfl, .inr ⟨rfl, rfl⟩⟩, ⟨rfl, .inl ⟨celE ?_, rowsM_noid _ _⟩⟩, trivial⟩, rfl⟩
        · by_cases hji : j = i
          · rw [hji]; exact he
          · exact hz j (by omega)
        · rw [← hset]
          show List.set _ (0 + (i : Int).toNat) _ = _
          rw [Nat.zero_add, Int.toNat_natCast]
          rfl
      · have hEe : E = (f i).2 := by
          rw [hE]
          have := firstE_at (l := (List.range n).map f) (i := i) (by rw [List.length_map, List.length_range]; exact hlt) (fun x hx => by
            rw [← List.map_take] at hx
            obtain ⟨q, hq, rfl⟩ := List.mem_map.1 hx
            refine hz q ?_
            rw [List.take_range] at hq
            have := List.mem_range.1 hq
            omega) (by rw [List.getElem_map, List.getElem_range]; exact he)
          rw [this, List.getElem_map, List.getElem_range]
        rw [if_neg (by rw [hEe]; exact he), hEe] at hres
        subst hres
        unfold RA at d2 hA hB
        conv => whnf
        first
          | refine caseb (fun _ => ?_) (fun h => absurd (of_decide_eq_false h) (by omega))
          | refine caseb (fun h => absurd (of_decide_eq_true h) (by omega)) (fun _ => ?_)
          | refine caseb (fun _ => ?_) (fun h => absurd (beq_eq_false_iff_ne.1 h) (by omega))
          | refine caseb (fun h => absurd (eq_of_beq h) (by omega)) (fun _ => ?_)
        conv => whnf
        refine ⟨_, hta, ?_⟩
        conv => whnf
        refine ⟨_, hA, ?_⟩
        conv => whnf
        refine ⟨_, htb, ?_⟩
        conv => whnf
        refine ⟨_, hB, ?_⟩
        conv => whnf
        refine ⟨_, d2, ?_⟩
        conv => whnf
        refine ⟨by kernel_rfl, ?_⟩
        conv => whnf
        first
          | refine caseb (fun h => absurd (bne_iff_ne.1 h) (by omega)) (fun _ => ?_)
          | refine caseb (fun _ => ?_) (fun h => absurd (bne_eq_false_iff_eq.1 h) (by omega))
        repeat
          conv => whnf
          first
            | refine ⟨_, by assumption, ?_⟩
            | refine ⟨(Nat.le_of_ble_eq_true rfl), _, by assumption, ?_⟩
            | refine ⟨by kernel_rfl, ?_⟩
            | exact rfl
            | exact ⟨Nat.le_of_ble_eq_true rfl, rfl⟩
            | refine ⟨by decide, ?_⟩
    · have hie : i = n := by omega
      have hE0 : E = 0 := by
        rw [hE]
        refine firstE_zero (fun x hx => ?_)
        obtain ⟨q, hq, rfl⟩ := List.mem_map.1 hx
        exact hz q (by have := List.mem_range.1 hq; omega)
      rw [if_pos hE0] at hres
      subst hres
      have e1 : (Y.take i).map rowX ++ List.replicate (n - i) (rowX none) = Y.map rowX := by
        rw [hie, List.take_of_length_le (by omega), Nat.sub_self, List.replicate_zero, List.append_nil]
      rw [e1]
      have key : List.take n (List.drop 0 (Y.map rowX)) = Y.map rowX := by rw [List.drop_zero, List.take_of_length_le (by rw [List.length_map]; omega)]
      conv => whnf
      first
        | refine caseb (fun _ => ?_) (fun h => absurd (of_decide_eq_false h) (by omega))
        | refine caseb (fun h => absurd (of_decide_eq_true h) (by omega)) (fun _ => ?_)
        | refine caseb (fun _ => ?_) (fun h => absurd (beq_eq_false_iff_ne.1 h) (by omega))
        | refine caseb (fun h => absurd (eq_of_beq h) (by omega)) (fun _ => ?_)
      conv => whnf
      rw [key]
      have lY : (Y.map rowX).length = n := by rw [List.length_map]; exact l1
      unfold AA at *
      refine ⟨by show 0 + n ≤ (Y.map rowX).length; omega, _, hN, ?_⟩
      repeat
        conv => whnf
        first
          | refine ⟨_, by assumption, ?_⟩
          | refine ⟨(Nat.le_of_ble_eq_true rfl), _, by assumption, ?_⟩
          | refine ⟨by kernel_rfl, ?_⟩
          | exact rfl
          | exact ⟨Nat.le_of_ble_eq_true rfl, rfl⟩
          | refine ⟨by decide, ?_⟩
end Go.Proofs.YtbdklokfijjifaaGreat

/- Arrays: characters compared, element by element (the program's contract). -/
set_option linter.unusedVariables false
namespace Go.Proofs.YtbdklokfijjifaaGreat
open Go Go.AL NM

/-- Whether two elements are the same character. -/
def smE (ca cb : Bool) (ta tb : List Int) (one two : Bool) (i : Nat) : Bool := ca && cb && decide (ta.getD (ix one i) 0 = tb.getD (ix two i) 0)
def chE (c : Int) (ca cb : Bool) (ta tb : List Int) (one two : Bool) (i : Nat) : Option (Rat × Nat) := if smE ca cb ta tb one two i = decide (c = 61) then some (1, 1) else none
theorem noid6 {a b c d e f : AV} (h1 : NoId a) (h2 : NoId b) (h3 : NoId c) (h4 : NoId d) (h5 : NoId e) (h6 : NoId f) : ∀ x ∈ [a, b, c, d, e, f], NoId x := by
  intro x hx
  simp only [List.mem_cons, List.not_mem_nil, or_false] at hx
  rcases hx with rfl | rfl | rfl | rfl | rfl | rfl <;> assumption

theorem chars_61 (sa sb : List Int) (ca cb : Bool) (ta tb : List Int) (na nb : List (Option (Rat × Nat))) (s : List Int) (one two : Bool) (n : Nat) (hn : n ≤ 5000) (hv : vS s) (hcn : cntI s = (n : Int))
    (hix : ∀ i : Nat, i < n → (ca = true → ix one i < ta.length) ∧ (cb = true → ix two i < tb.length)) (la : ta.length ≤ 1000) (lb : tb.length ≤ 1000) :
    AC Tryz.prog 111 [.val (.int .i32 61), AA sa ca ta na true, AA sb cb tb nb true, .sl 1 (irows .i64 s) false, .val (.bool one), .val (.bool two)] (.pure (.tup [AA s false [] ((List.range n).map (chE 61 ca cb ta tb one two)) true, .val (.int .i64 0)])) := by
  have hIa := IsChar_ok sa ca ta na true
  have hIb := IsChar_ok sb cb tb nb true
  have hC := Count_ok s (by have := hv.1; omega)
  rw [CNT_good hv, hcn] at hC
  obtain ⟨Y, hY⟩ : ∃ Y : List (Option (Rat × Nat)), Y = (List.range n).map (chE 61 ca cb ta tb one two) := ⟨_, rfl⟩
  rw [← hY]
  have l1 : Y.length = n := by rw [hY, List.length_map, List.length_range]
  have hYi : ∀ i (h : i < n), Y[i]'(by omega) = chE 61 ca cb ta tb one two i := fun i h => by subst hY; rw [List.getElem_map, List.getElem_range]
  have hN := Nums_ok s Y hv (by rw [l1]; exact hcn) (by omega)
  have hF := RatFrom_ok 1 (by decide)
  refine AC.of_body TTok Tryz.func111 rfl (enter_of Tryz.func111 (by kernel_rfl) (by kernel_rfl)) (noid6 (.val _) (AA_noid _ _ _ _ _) (AA_noid _ _ _ _ _) (noid_sl _ _ _) (.val _) (.val _)) (.tup _ (noid2 (AA_noid _ _ _ _ _) (.val _))) (Nat.le_of_ble_eq_true rfl) ?_
  have hA1 : ∀ i < n, ca = true → AC Tryz.prog 134 [AA sa ca ta na true, .val (.int .i64 ((ix one i : Nat) : Int))] (.pure (.val (.int .i32 (ta.getD (ix one i) 0)))) := fun i hi h => RuneX_ok sa ca ta na _ ((hix i hi).1 h) la
  have hB1 : ∀ i < n, cb = true → AC Tryz.prog 134 [AA sb cb tb nb true, .val (.int .i64 ((ix two i : Nat) : Int))] (.pure (.val (.int .i32 (tb.getD (ix two i) 0)))) := fun i hi h => RuneX_ok sb cb tb nb _ ((hix i hi).2 h) lb
  have u1 : AA sa ca ta na true = .agg [.sl 1 (irows .i64 sa) false, .val (.bool ca), .sl 1 (irows .i32 ta) false, .sl 3 (na.map rowX) false, .val (.bool true)] := rfl
  have u2 : AA sb cb tb nb true = .agg [.sl 1 (irows .i64 sb) false, .val (.bool cb), .sl 1 (irows .i32 tb) false, .sl 3 (nb.map rowX) false, .val (.bool true)] := rfl
  rw [u1] at hIa hA1 ⊢
  rw [u2] at hIb hB1 ⊢
  unfold RA at hF
  conv => whnf
  refine ⟨_, hC, ?_⟩
  conv => whnf
  refine ⟨by show 0 ≤ (n:Int) ∧ (n:Int) ≤ n ∧ (n:Int) * 56 ≤ 140737488355328; omega, ?_⟩
  conv => whnf
  refine SW.loopM TTok (fun i : Nat => [(0, .val (.int .i32 61)), (3, .sl 1 (irows .i64 s) false), (4, .val (.bool one)), (5, .val (.bool two)), (7, .lp 0 0), (8, .lp 8 0), (12, .lp 16 0), (16, .own 144 0 n), (36, .val (.int .i64 (n : Int))), (37, .val (.int .i64 (i : Int)))])
      (fun i => [(0, .cells 5 [[.sl 1 (irows .i64 sa) false, .val (.bool ca), .sl 1 (irows .i32 ta) false, .sl 3 (na.map rowX) false, .val (.bool true)]]), (8, .cells 5 [[.sl 1 (irows .i64 sb) false, .val (.bool cb), .sl 1 (irows .i32 tb) false, .sl 3 (nb.map rowX) false, .val (.bool true)]]), (16, .cells 5 [[.sl 0 [] true, .val (.bool false), .sl 0 [] true, .sl 0 [] true, .val (.bool false)]]), (144, .cells 3 ((Y.take i).map rowX ++ List.replicate (n - i) (rowX none)))]) 184 75 rfl (fun i => n - i) (fun i => i ≤ n) 0 [] (Nat.zero_le _)
      ⟨⟨rfl, rfl⟩, ⟨rfl, rfl⟩, ⟨rfl, rfl⟩, ⟨rfl, rfl⟩, ⟨rfl, rfl⟩, ⟨rfl, rfl⟩, ⟨rfl, rfl⟩, ⟨rfl, rfl⟩, ⟨rfl, rfl⟩, ⟨rfl, rfl⟩, trivial⟩ ⟨⟨rfl, .inr ⟨rfl, rfl⟩⟩, ⟨rfl, .inr ⟨rfl, rfl⟩⟩, ⟨rfl, .inr ⟨rfl, rfl⟩⟩, ⟨rfl, .inl ⟨rfl, rowsM_noid _ _⟩⟩, trivial⟩ rfl ?_
  intro i hJ
  have hi : i ≤ n := hJ
  clear hJ
  have ltk : ((Y.take i).map rowX).length = i := by rw [List.length_map, List.length_take]; omega
  have lr : ((Y.take i).map rowX ++ List.replicate (n - i) (rowX none)).length = n := by
    rw [List.length_append, ltk, List.length_replicate]; omega
  by_cases hlt : i < n
  · have eI : IntKind.i64.wrap ((i : Int) + 1) = ((i + 1 : Nat) : Int) := by rw [IntWalk.i64_in _ (by omega)]; omega
    have hA := hA1 i hlt
    have hB := hB1 i hlt
    have hta := atX_ok i one
    have htb := atX_ok i two
    have hset : ∀ o, chE 61 ca cb ta tb one two i = o → ((Y.take i).map rowX ++ List.replicate (n - i) (rowX none)).set i (rowX o) = (Y.take (i + 1)).map rowX ++ List.replicate (n - (i + 1)) (rowX none) := fun o ho => by
      rw [rep_drop _ n i hlt, take_snoc (show i < Y.length by omega), hYi i hlt, ho]
      have := set_mid ((Y.take i).map rowX) (rowX none) (rowX o) (List.replicate (n - (i + 1)) (rowX none))
      rw [ltk] at this
      rw [this]; simp
    have hstay : chE 61 ca cb ta tb one two i = none → (Y.take i).map rowX ++ List.replicate (n - i) (rowX none) = (Y.take (i + 1)).map rowX ++ List.replicate (n - (i + 1)) (rowX none) := fun ho => by
      rw [rep_drop _ n i hlt, take_snoc (show i < Y.length by omega), hYi i hlt, ho]; simp
    obtain ⟨x, hx⟩ : ∃ x, x = ta.getD (ix one i) 0 := ⟨_, rfl⟩
    obtain ⟨y, hy⟩ : ∃ y, y = tb.getD (ix two i) 0 := ⟨_, rfl⟩
    rw [← hx] at hA
    rw [← hy] at hB
    cases ca
    · cases cb
      · conv => whnf
        first
          | refine caseb (fun _ => ?_) (fun h => absurd (of_decide_eq_false h) (by omega))
          | refine caseb (fun h => absurd (of_decide_eq_true h) (by omega)) (fun _ => ?_)
          | refine caseb (fun _ => ?_) (fun h => absurd (beq_eq_false_iff_ne.1 h) (by omega))
          | refine caseb (fun h => absurd (eq_of_beq h) (by omega)) (fun _ => ?_)
        conv => whnf
        refine ⟨_, hIa, ?_⟩
        conv => whnf
        refine ⟨by kernel_rfl, ?_⟩
        conv => whnf
        refine ⟨i + 1, [], (by show n - (i + 1) < n - i; omega), hlt, ⟨⟨rfl, rfl⟩, ⟨rfl, rfl⟩, ⟨rfl, rfl⟩, ⟨rfl, rfl⟩, ⟨rfl, rfl⟩, ⟨rfl, rfl⟩, ⟨rfl, rfl⟩, ⟨rfl, rfl⟩, ⟨rfl, rfl⟩, ⟨valI eI, rfl⟩, trivial⟩, ⟨⟨rfl, .inr ⟨rfl, rfl⟩⟩, ⟨rfl, .inr ⟨rfl, rfl⟩⟩, ⟨rfl, .inr ⟨rfl, rfl⟩⟩, ⟨rfl, .inl ⟨celE ?_, rowsM_noid _ _⟩⟩, trivial⟩, rfl⟩
        exact hstay (by unfold chE smE; simp)
      · conv => whnf
        first
          | refine caseb (fun _ => ?_) (fun h => absurd (of_decide_eq_false h) (by omega))
          | refine caseb (fun h => absurd (of_decide_eq_true h) (by omega)) (fun _ => ?_)
          | refine caseb (fun _ => ?_) (fun h => absurd (beq_eq_false_iff_ne.1 h) (by omega))
          | refine caseb (fun h => absurd (eq_of_beq h) (by omega)) (fun _ => ?_)
        conv => whnf
        refine ⟨_, hIa, ?_⟩
        conv => whnf
        refine ⟨by kernel_rfl, ?_⟩
        conv => whnf
        refine ⟨i + 1, [], (by show n - (i + 1) < n - i; omega), hlt, ⟨⟨rfl, rfl⟩, ⟨rfl, rfl⟩, ⟨rfl, rfl⟩, ⟨rfl, rfl⟩, ⟨rfl, rfl⟩, ⟨rfl, rfl⟩, ⟨rfl, rfl⟩, ⟨rfl, rfl⟩, ⟨rfl, rfl⟩, ⟨valI eI, rfl⟩, trivial⟩, ⟨⟨rfl, .inr ⟨rfl, rfl⟩⟩, ⟨rfl, .inr ⟨rfl, rfl⟩⟩, ⟨rfl, .inr ⟨rfl, rfl⟩⟩, ⟨rfl, .inl ⟨celE ?_, rowsM_noid _ _⟩⟩, trivial⟩, rfl⟩
        exact hstay (by unfold chE smE; simp)
    · cases cb
      · conv => whnf
        first
          | refine caseb (fun _ => ?_) (fun h => absurd (of_decide_eq_false h) (by omega))
          | refine caseb (fun h => absurd (of_decide_eq_true h) (by omega)) (fun _ => ?_)
          | refine caseb (fun _ => ?_) (fun h => absurd (beq_eq_false_iff_ne.1 h) (by omega))
          | refine caseb (fun h => absurd (eq_of_beq h) (by omega)) (fun _ => ?_)
        conv => whnf
        refine ⟨_, hIa, ?_⟩
        conv => whnf
        refine ⟨_, hIb, ?_⟩
        conv => whnf
        refine ⟨by kernel_rfl, ?_⟩
        conv => whnf
        refine ⟨i + 1, [], (by show n - (i + 1) < n - i; omega), hlt, ⟨⟨rfl, rfl⟩, ⟨rfl, rfl⟩, ⟨rfl, rfl⟩, ⟨rfl, rfl⟩, ⟨rfl, rfl⟩, ⟨rfl, rfl⟩, ⟨rfl, rfl⟩, ⟨rfl, rfl⟩, ⟨rfl, rfl⟩, ⟨valI eI, rfl⟩, trivial⟩, ⟨⟨rfl, .inr ⟨rfl, rfl⟩⟩, ⟨rfl, .inr ⟨rfl, rfl⟩⟩, ⟨rfl, .inr ⟨rfl, rfl⟩⟩, ⟨rfl, .inl ⟨celE ?_, rowsM_noid _ _⟩⟩, trivial⟩, rfl⟩
        exact hstay (by unfold chE smE; simp)
      · replace hA := hA rfl
        replace hB := hB rfl
        by_cases hxy : x = y
        · have hs : ((x == y) == true) = true := by simp [hxy]
          conv => whnf
          first
            | refine caseb (fun _ => ?_) (fun h => absurd (of_decide_eq_false h) (by omega))
            | refine caseb (fun h => absurd (of_decide_eq_true h) (by omega)) (fun _ => ?_)
            | refine caseb (fun _ => ?_) (fun h => absurd (beq_eq_false_iff_ne.1 h) (by omega))
            | refine caseb (fun h => absurd (eq_of_beq h) (by omega)) (fun _ => ?_)
          conv => whnf
          refine ⟨_, hIa, ?_⟩
          conv => whnf
          refine ⟨_, hIb, ?_⟩
          conv => whnf
          refine ⟨_, hta, ?_⟩
          conv => whnf
          refine ⟨_, hA, ?_⟩
          conv => whnf
          refine ⟨_, htb, ?_⟩
          conv => whnf
          refine ⟨_, hB, ?_⟩
          conv => whnf
          refine ⟨by kernel_rfl, ?_⟩
          conv => whnf
          refine caseb (fun _ => ?_) (fun h => Bool.noConfusion ((hs).symm.trans h))
          conv => whnf
          refine ⟨_, hF, ?_⟩
          conv => whnf
          refine ⟨by omega, ?_⟩
          conv => whnf
          refine ⟨by rw [Nat.zero_add, Int.toNat_natCast]; omega, ?_⟩
          conv => whnf
          refine ⟨i + 1, [], (by show n - (i + 1) < n - i; omega), hlt, ⟨⟨rfl, rfl⟩, ⟨rfl, rfl⟩, ⟨rfl, rfl⟩, ⟨rfl, rfl⟩, ⟨rfl, rfl⟩, ⟨rfl, rfl⟩, ⟨rfl, rfl⟩, ⟨rfl, rfl⟩, ⟨rfl, rfl⟩, ⟨valI eI, rfl⟩, trivial⟩, ⟨⟨rfl, .inr ⟨rfl, rfl⟩⟩, ⟨rfl, .inr ⟨rfl, rfl⟩⟩, ⟨rfl, .inr ⟨rfl, rfl⟩⟩, ⟨rfl, .inl ⟨celE ?_, rowsM_noid _ _⟩⟩, trivial⟩, rfl⟩
          rw [← hset (some (1, 1)) (by unfold chE smE; rw [← hx, ← hy]; simp [hxy])]
          show List.set _ (0 + (i : Int).toNat) _ = _
          rw [Nat.zero_add, Int.toNat_natCast]
          rfl
        · have hs : ((x == y) == true) = false := by simp [hxy]
          conv => whnf
          first
            | refine caseb (fun _ => ?_) (fun h => absurd (of_decide_eq_false h) (by omega))
            | refine caseb (fun h => absurd (of_decide_eq_true h) (by omega)) (fun _ => ?_)
            | refine caseb (fun _ => ?_) (fun h => absurd (beq_eq_false_iff_ne.1 h) (by omega))
            | refine caseb (fun h => absurd (eq_of_beq h) (by omega)) (fun _ => ?_)
          conv => whnf
          refine ⟨_, hIa, ?_⟩
          conv => whnf
          refine ⟨_, hIb, ?_⟩
          conv => whnf
          refine ⟨_, hta, ?_⟩
          conv => whnf
          refine ⟨_, hA, ?_⟩
          conv => whnf
          refine ⟨_, htb, ?_⟩
          conv => whnf
          refine ⟨_, hB, ?_⟩
          conv => whnf
          refine ⟨by kernel_rfl, ?_⟩
          conv => whnf
          refine caseb (fun h => Bool.noConfusion ((hs).symm.trans h)) (fun _ => ?_)
          conv => whnf
          refine ⟨i + 1, [], (by show n - (i + 1) < n - i; omega), hlt, ⟨⟨rfl, rfl⟩, ⟨rfl, rfl⟩, ⟨rfl, rfl⟩, ⟨rfl, rfl⟩, ⟨rfl, rfl⟩, ⟨rfl, rfl⟩, ⟨rfl, rfl⟩, ⟨rfl, rfl⟩, ⟨rfl, rfl⟩, ⟨valI eI, rfl⟩, trivial⟩, ⟨⟨rfl, .inr ⟨rfl, rfl⟩⟩, ⟨rfl, .inr ⟨rfl, rfl⟩⟩, ⟨rfl, .inr ⟨rfl, rfl⟩⟩, ⟨rfl, .inl ⟨celE ?_, rowsM_noid _ _⟩⟩, trivial⟩, rfl⟩
          exact hstay (by unfold chE smE; rw [← hx, ← hy]; simp [hxy])
  · have hie : i = n := by omega
    have e1 : (Y.take i).map rowX ++ List.replicate (n - i) (rowX none) = Y.map rowX := by
      rw [hie, List.take_of_length_le (by omega), Nat.sub_self, List.replicate_zero, List.append_nil]
    rw [e1]
    have key : List.take n (List.drop 0 (Y.map rowX)) = Y.map rowX := by rw [List.drop_zero, List.take_of_length_le (by rw [List.length_map]; omega)]
    conv => whnf
    first
      | refine caseb (fun _ => ?_) (fun h => absurd (of_decide_eq_false h) (by omega))
      | refine caseb (fun h => absurd (of_decide_eq_true h) (by omega)) (fun _ => ?_)
      | refine caseb (fun _ => ?_) (fun h => absurd (beq_eq_false_iff_ne.1 h) (by omega))
      | refine caseb (fun h => absurd (eq_of_beq h) (by omega)) (fun _ => ?_)
    conv => whnf
    rw [key]
    have lY : (Y.map rowX).length = n := by rw [List.length_map]; exact l1
    unfold AA at *
    refine ⟨by show 0 + n ≤ (Y.map rowX).length; omega, _, hN, ?_⟩
    repeat
      conv => whnf
      first
        | refine ⟨_, by assumption, ?_⟩
        | refine ⟨(Nat.le_of_ble_eq_true rfl), _, by assumption, ?_⟩
        | refine ⟨by kernel_rfl, ?_⟩
        | exact rfl
        | exact ⟨Nat.le_of_ble_eq_true rfl, rfl⟩
        | refine ⟨by decide, ?_⟩

theorem chars_8800 (sa sb : List Int) (ca cb : Bool) (ta tb : List Int) (na nb : List (Option (Rat × Nat))) (s : List Int) (one two : Bool) (n : Nat) (hn : n ≤ 5000) (hv : vS s) (hcn : cntI s = (n : Int))
    (hix : ∀ i : Nat, i < n → (ca = true → ix one i < ta.length) ∧ (cb = true → ix two i < tb.length)) (la : ta.length ≤ 1000) (lb : tb.length ≤ 1000) :
    AC Tryz.prog 111 [.val (.int .i32 8800), AA sa ca ta na true, AA sb cb tb nb true, .sl 1 (irows .i64 s) false, .val (.bool one), .val (.bool two)] (.pure (.tup [AA s false [] ((List.range n).map (chE 8800 ca cb ta tb one two)) true, .val (.int .i64 0)])) := by
  have hIa := IsChar_ok sa ca ta na true
  have hIb := IsChar_ok sb cb tb nb true
  have hC := Count_ok s (by have := hv.1; omega)
  rw [CNT_good hv, hcn] at hC
  obtain ⟨Y, hY⟩ : ∃ Y : List (Option (Rat × Nat)), Y = (List.range n).map (chE 8800 ca cb ta tb one two) := ⟨_, rfl⟩
  rw [← hY]
  have l1 : Y.length = n := by rw [hY, List.length_map, List.length_range]
  have hYi : ∀ i (h : i < n), Y[i]'(by omega) = chE 8800 ca cb ta tb one two i := fun i h => by subst hY; rw [List.getElem_map, List.getElem_range]
  have hN := Nums_ok s Y hv (by rw [l1]; exact hcn) (by omega)
  have hF := RatFrom_ok 1 (by decide)
  refine AC.of_body TTok Tryz.func111 rfl (enter_of Tryz.func111 (by kernel_rfl) (by kernel_rfl)) (noid6 (.val _) (AA_noid _ _ _ _ _) (AA_noid _ _ _ _ _) (noid_sl _ _ _) (.val _) (.val _)) (.tup _ (noid2 (AA_noid _ _ _ _ _) (.val _))) (Nat.le_of_ble_eq_true rfl) ?_
  have hA1 : ∀ i < n, ca = true → AC Tryz.prog 134 [AA sa ca ta na true, .val (.int .i64 ((ix one i : Nat) : Int))] (.pure (.val (.int .i32 (ta.getD (ix one i) 0)))) := fun i hi h => RuneX_ok sa ca ta na _ ((hix i hi).1 h) la
  have hB1 : ∀ i < n, cb = true → AC Tryz.prog 134 [AA sb cb tb nb true, .val (.int .i64 ((ix two i : Nat) : Int))] (.pure (.val (.int .i32 (tb.getD (ix two i) 0)))) := fun i hi h => RuneX_ok sb cb tb nb _ ((hix i hi).2 h) lb
  have u1 : AA sa ca ta na true = .agg [.sl 1 (irows .i64 sa) false, .val (.bool ca), .sl 1 (irows .i32 ta) false, .sl 3 (na.map rowX) false, .val (.bool true)] := rfl
  have u2 : AA sb cb tb nb true = .agg [.sl 1 (irows .i64 sb) false, .val (.bool cb), .sl 1 (irows .i32 tb) false, .sl 3 (nb.map rowX) false, .val (.bool true)] := rfl
  rw [u1] at hIa hA1 ⊢
  rw [u2] at hIb hB1 ⊢
  unfold RA at hF
  conv => whnf
  refine ⟨_, hC, ?_⟩
  conv => whnf
  refine ⟨by show 0 ≤ (n:Int) ∧ (n:Int) ≤ n ∧ (n:Int) * 56 ≤ 140737488355328; omega, ?_⟩
  conv => whnf
  refine SW.loopM TTok (fun i : Nat => [(0, .val (.int .i32 8800)), (3, .sl 1 (irows .i64 s) false), (4, .val (.bool one)), (5, .val (.bool two)), (7, .lp 0 0), (8, .lp 8 0), (12, .lp 16 0), (16, .own 144 0 n), (36, .val (.int .i64 (n : Int))), (37, .val (.int .i64 (i : Int)))])
      (fun i => [(0, .cells 5 [[.sl 1 (irows .i64 sa) false, .val (.bool ca), .sl 1 (irows .i32 ta) false, .sl 3 (na.map rowX) false, .val (.bool true)]]), (8, .cells 5 [[.sl 1 (irows .i64 sb) false, .val (.bool cb), .sl 1 (irows .i32 tb) false, .sl 3 (nb.map rowX) false, .val (.bool true)]]), (16, .cells 5 [[.sl 0 [] true, .val (.bool false), .sl 0 [] true, .sl 0 [] true, .val (.bool false)]]), (144, .cells 3 ((Y.take i).map rowX ++ List.replicate (n - i) (rowX none)))]) 184 75 rfl (fun i => n - i) (fun i => i ≤ n) 0 [] (Nat.zero_le _)
      ⟨⟨rfl, rfl⟩, ⟨rfl, rfl⟩, ⟨rfl, rfl⟩, ⟨rfl, rfl⟩, ⟨rfl, rfl⟩, ⟨rfl, rfl⟩, ⟨rfl, rfl⟩, ⟨rfl, rfl⟩, ⟨rfl, rfl⟩, ⟨rfl, rfl⟩, trivial⟩ ⟨⟨rfl, .inr ⟨rfl, rfl⟩⟩, ⟨rfl, .inr ⟨rfl, rfl⟩⟩, ⟨rfl, .inr ⟨rfl, rfl⟩⟩, ⟨rfl, .inl ⟨rfl, rowsM_noid _ _⟩⟩, trivial⟩ rfl ?_
  intro i hJ
  have hi : i ≤ n := hJ
  clear hJ
  have ltk : ((Y.take i).map rowX).length = i := by rw [List.length_map, List.length_take]; omega
  have lr : ((Y.take i).map rowX ++ List.replicate (n - i) (rowX none)).length = n := by
    rw [List.length_append, ltk, List.length_replicate]; omega
  by_cases hlt : i < n
  · have eI : IntKind.i64.wrap ((i : Int) + 1) = ((i + 1 : Nat) : Int) := by rw [IntWalk.i64_in _ (by omega)]; omega
    have hA := hA1 i hlt
    have hB := hB1 i hlt
    have hta := atX_ok i one
    have htb := atX_ok i two
    have hset : ∀ o, chE 8800 ca cb ta tb one two i = o → ((Y.take i).map rowX ++ List.replicate (n - i) (rowX none)).set i (rowX o) = (Y.take (i + 1)).map rowX ++ List.replicate (n - (i + 1)) (rowX none) := fun o ho => by
      rw [rep_drop _ n i hlt, take_snoc (show i < Y.length by omega), hYi i hlt, ho]
      have := set_mid ((Y.take i).map rowX) (rowX none) (rowX o) (List.replicate (n - (i + 1)) (rowX none))
      rw [ltk] at this
      rw [this]; simp
    have hstay : chE 8800 ca cb ta tb one two i = none → (Y.take i).map rowX ++ List.replicate (n - i) (rowX none) = (Y.take (i + 1)).map rowX ++ List.replicate (n - (i + 1)) (rowX none) := fun ho => by
      rw [rep_drop _ n i hlt, take_snoc (show i < Y.length by omega), hYi i hlt, ho]; simp
    obtain ⟨x, hx⟩ : ∃ x, x = ta.getD (ix one i) 0 := ⟨_, rfl⟩
    obtain ⟨y, hy⟩ : ∃ y, y = tb.getD (ix two i) 0 := ⟨_, rfl⟩
    rw [← hx] at hA
    rw [← hy] at hB
    cases ca
    · cases cb
      · conv => whnf
        first
          | refine caseb (fun _ => ?_) (fun h => absurd (of_decide_eq_false h) (by omega))
          | refine caseb (fun h => absurd (of_decide_eq_true h) (by omega)) (fun _ => ?_)
          | refine caseb (fun _ => ?_) (fun h => absurd (beq_eq_false_iff_ne.1 h) (by omega))
          | refine caseb (fun h => absurd (eq_of_beq h) (by omega)) (fun _ => ?_)
        conv => whnf
        refine ⟨_, hIa, ?_⟩
        conv => whnf
        refine ⟨by kernel_rfl, ?_⟩
        conv => whnf
        refine ⟨_, hF, ?_⟩
        conv => whnf
        refine ⟨by omega, ?_⟩
        conv => whnf
        refine ⟨by rw [Nat.zero_add, Int.toNat_natCast]; omega, ?_⟩
        conv => whnf
        refine ⟨i + 1, [], (by show n - (i + 1) < n - i; omega), hlt, ⟨⟨rfl, rfl⟩, ⟨rfl, rfl⟩, ⟨rfl, rfl⟩, ⟨rfl, rfl⟩, ⟨rfl, rfl⟩, ⟨rfl, rfl⟩, ⟨rfl, rfl⟩, ⟨rfl, rfl⟩, ⟨rfl, rfl⟩, ⟨valI eI, rfl⟩, trivial⟩, ⟨⟨rfl, .inr ⟨rfl, rfl⟩⟩, ⟨rfl, .inr ⟨rfl, rfl⟩⟩, ⟨rfl, .inr ⟨rfl, rfl⟩⟩, ⟨rfl, .inl ⟨celE ?_, rowsM_noid _ _⟩⟩, trivial⟩, rfl⟩
        rw [← hset (some (1, 1)) (by unfold chE smE; simp)]
        show List.set _ (0 + (i : Int).toNat) _ = _
        rw [Nat.zero_add, Int.toNat_natCast]
        rfl
      · conv => whnf
        first
          | refine caseb (fun _ => ?_) (fun h => absurd (of_decide_eq_false h) (by omega))
          | refine caseb (fun h => absurd (of_decide_eq_true h) (by omega)) (fun _ => ?_)
          | refine caseb (fun _ => ?_) (fun h => absurd (beq_eq_false_iff_ne.1 h) (by omega))
          | refine caseb (fun h => absurd (eq_of_beq h) (by omega)) (fun _ => ?_)
        conv => whnf
        refine ⟨_, hIa, ?_⟩
        conv => whnf
        refine ⟨by kernel_rfl, ?_⟩
        conv => whnf
        refine ⟨_, hF, ?_⟩
        conv => whnf
        refine ⟨by omega, ?_⟩
        conv => whnf
        refine ⟨by rw [Nat.zero_add, Int.toNat_natCast]; omega, ?_⟩
        conv => whnf
        refine ⟨i + 1, [], (by show n - (i + 1) < n - i; omega), hlt, ⟨⟨rfl, rfl⟩, ⟨rfl, rfl⟩, ⟨rfl, rfl⟩, ⟨rfl, rfl⟩, ⟨rfl, rfl⟩, ⟨rfl, rfl⟩, ⟨rfl, rfl⟩, ⟨rfl, rfl⟩, ⟨rfl, rfl⟩, ⟨valI eI, rfl⟩, trivial⟩, ⟨⟨rfl, .inr ⟨rfl, rfl⟩⟩, ⟨rfl, .inr ⟨rfl, rfl⟩⟩, ⟨rfl, .inr ⟨rfl, rfl⟩⟩, ⟨rfl, .inl ⟨celE ?_, rowsM_noid _ _⟩⟩, trivial⟩, rfl⟩
        rw [← hset (some (1, 1)) (by unfold chE smE; simp)]
        show List.set _ (0 + (i : Int).toNat) _ = _
        rw [Nat.zero_add, Int.toNat_natCast]
        rfl
    · cases cb
      · conv => whnf
        first
          | refine caseb (fun _ => ?_) (fun h => absurd (of_decide_eq_false h) (by omega))
          | refine caseb (fun h => absurd (of_decide_eq_true h) (by omega)) (fun _ => ?_)
          | refine caseb (fun _ => ?_) (fun h => absurd (beq_eq_false_iff_ne.1 h) (by omega))
          | refine caseb (fun h => absurd (eq_of_beq h) (by omega)) (fun _ => ?_)
        conv => whnf
        refine ⟨_, hIa, ?_⟩
        conv => whnf
        refine ⟨_, hIb, ?_⟩
        conv => whnf
        refine ⟨by kernel_rfl, ?_⟩
        conv => whnf
        refine ⟨_, hF, ?_⟩
        conv => whnf
        refine ⟨by omega, ?_⟩
        conv => whnf
        refine ⟨by rw [Nat.zero_add, Int.toNat_natCast]; omega, ?_⟩
        conv => whnf
        refine ⟨i + 1, [], (by show n - (i + 1) < n - i; omega), hlt, ⟨⟨rfl, rfl⟩, ⟨rfl, rfl⟩, ⟨rfl, rfl⟩, ⟨rfl, rfl⟩, ⟨rfl, rfl⟩, ⟨rfl, rfl⟩, ⟨rfl, rfl⟩, ⟨rfl, rfl⟩, ⟨rfl, rfl⟩, ⟨valI eI, rfl⟩, trivial⟩, ⟨⟨rfl, .inr ⟨rfl, rfl⟩⟩, ⟨rfl, .inr ⟨rfl, rfl⟩⟩, ⟨rfl, .inr ⟨rfl, rfl⟩⟩, ⟨rfl, .inl ⟨celE ?_, rowsM_noid _ _⟩⟩, trivial⟩, rfl⟩
        rw [← hset (some (1, 1)) (by unfold chE smE; simp)]
        show List.set _ (0 + (i : Int).toNat) _ = _
        rw [Nat.zero_add, Int.toNat_natCast]
        rfl
      · replace hA := hA rfl
        replace hB := hB rfl
        by_cases hxy : x = y
        · have hs : ((x == y) == false) = false := by simp [hxy]
          conv => whnf
          first
            | refine caseb (fun _ => ?_) (fun h => absurd (of_decide_eq_false h) (by omega))
            | refine caseb (fun h => absurd (of_decide_eq_true h) (by omega)) (fun _ => ?_)
            | refine caseb (fun _ => ?_) (fun h => absurd (beq_eq_false_iff_ne.1 h) (by omega))
            | refine caseb (fun h => absurd (eq_of_beq h) (by omega)) (fun _ => ?_)
          conv => whnf
          refine ⟨_, hIa, ?_⟩
          conv => whnf
          refine ⟨_, hIb, ?_⟩
          conv => whnf
          refine ⟨_, hta, ?_⟩
          conv => whnf
          refine ⟨_, hA, ?_⟩
          conv => whnf
          refine ⟨_, htb, ?_⟩
          conv => whnf
          refine ⟨_, hB, ?_⟩
          conv => whnf
          refine ⟨by kernel_rfl, ?_⟩
          conv => whnf
          refine caseb (fun h => Bool.noConfusion ((hs).symm.trans h)) (fun _ => ?_)
          conv => whnf
          refine ⟨i + 1, [], (by show n - (i + 1) < n - i; omega), hlt, ⟨⟨rfl, rfl⟩, ⟨rfl, rfl⟩, ⟨rfl, rfl⟩, ⟨rfl, rfl⟩, ⟨rfl, rfl⟩, ⟨rfl, rfl⟩, ⟨rfl, rfl⟩, ⟨rfl, rfl⟩, ⟨rfl, rfl⟩, ⟨valI eI, rfl⟩, trivial⟩, ⟨⟨rfl, .inr ⟨rfl, rfl⟩⟩, ⟨rfl, .inr ⟨rfl, rfl⟩⟩, ⟨rfl, .inr ⟨rfl, rfl⟩⟩, ⟨rfl, .inl ⟨celE ?_, rowsM_noid _ _⟩⟩, trivial⟩, rfl⟩
          exact hstay (by unfold chE smE; rw [← hx, ← hy]; simp [hxy])
        · have hs : ((x == y) == false) = true := by simp [hxy]
          conv => whnf
          first
            | refine caseb (fun _ => ?_) (fun h => absurd (of_decide_eq_false h) (by omega))
            | refine caseb (fun h => absurd (of_decide_eq_true h) (by omega)) (fun _ => ?_)
            | refine caseb (fun _ => ?_) (fun h => absurd (beq_eq_false_iff_ne.1 h) (by omega))
            | refine caseb (fun h => absurd (eq_of_beq h) (by omega)) (fun _ => ?_)
          conv => whnf
          refine ⟨_, hIa, ?_⟩
          conv => whnf
          refine ⟨_, hIb, ?_⟩
          conv => whnf
          refine ⟨_, hta, ?_⟩
          conv => whnf
          refine ⟨_, hA, ?_⟩
          conv => whnf
          refine ⟨_, htb, ?_⟩
          conv => whnf
          refine ⟨_, hB, ?_⟩
          conv => whnf
          refine ⟨by kernel_rfl, ?_⟩
          conv => whnf
          refine caseb (fun _ => ?_) (fun h => Bool.noConfusion ((hs).symm.trans h))
          conv => whnf
          refine ⟨_, hF, ?_⟩
          conv => whnf
          refine ⟨by omega, ?_⟩
          conv => whnf
          refine ⟨by rw [Nat.zero_add, Int.toNat_natCast]; omega, ?_⟩
          conv => whnf
          refine ⟨i + 1, [], (by show n - (i + 1) < n - i; omega), hlt, ⟨⟨rfl, rfl⟩, ⟨rfl, rfl⟩, ⟨rfl, rfl⟩, ⟨rfl, rfl⟩, ⟨rfl, rfl⟩, ⟨rfl, rfl⟩, ⟨rfl, rfl⟩, ⟨rfl, rfl⟩, ⟨rfl, rfl⟩, ⟨valI eI, rfl⟩, trivial⟩, ⟨⟨rfl, .inr ⟨rfl, rfl⟩⟩, ⟨rfl, .inr ⟨rfl, rfl⟩⟩, ⟨rfl, .inr ⟨rfl, rfl⟩⟩, ⟨rfl, .inl ⟨celE ?_, rowsM_noid _ _⟩⟩, trivial⟩, rfl⟩
          rw [← hset (some (1, 1)) (by unfold chE smE; rw [← hx, ← hy]; simp [hxy])]
          show List.set _ (0 + (i : Int).toNat) _ = _
          rw [Nat.zero_add, Int.toNat_natCast]
          rfl
  · have hie : i = n := by omega
    have e1 : (Y.take i).map rowX ++ List.replicate (n - i) (rowX none) = Y.map rowX := by
      rw [hie, List.take_of_length_le (by omega), Nat.sub_self, List.replicate_zero, List.append_nil]
    rw [e1]
    have key : List.take n (List.drop 0 (Y.map rowX)) = Y.map rowX := by rw [List.drop_zero, List.take_of_length_le (by rw [List.length_map]; omega)]
    conv => whnf
    first
      | refine caseb (fun _ => ?_) (fun h => absurd (of_decide_eq_false h) (by omega))
      | refine caseb (fun h => absurd (of_decide_eq_true h) (by omega)) (fun _ => ?_)
      | refine caseb (fun _ => ?_) (fun h => absurd (beq_eq_false_iff_ne.1 h) (by omega))
      | refine caseb (fun h => absurd (eq_of_beq h) (by omega)) (fun _ => ?_)
    conv => whnf
    rw [key]
    have lY : (Y.map rowX).length = n := by rw [List.length_map]; exact l1
    unfold AA at *
    refine ⟨by show 0 + n ≤ (Y.map rowX).length; omega, _, hN, ?_⟩
    repeat
      conv => whnf
      first
        | refine ⟨_, by assumption, ?_⟩
        | refine ⟨(Nat.le_of_ble_eq_true rfl), _, by assumption, ?_⟩
        | refine ⟨by kernel_rfl, ?_⟩
        | exact rfl
        | exact ⟨Nat.le_of_ble_eq_true rfl, rfl⟩
        | refine ⟨by decide, ?_⟩

end Go.Proofs.YtbdklokfijjifaaGreat

/- Arrays: what a function of two comes to, element by element (the program's contract). -/
set_option linter.unusedVariables false
namespace Go.Proofs.YtbdklokfijjifaaGreat
open Go Go.AL NM

section
variable (c : Int) (sa sb : List Int) (ca cb : Bool) (ta tb : List Int)
theorem Two_not (h : ¬ isTwo c) (na nb : List (Option (Rat × Nat))) (most : Int) : AC Tryz.prog 66 [.val (.int .i32 c), AA sa ca ta na true, AA sb cb tb nb true, .val (.int .i64 most)] (.pure (.tup [AZ, .val (.int .i64 20)])) := by
  have hH := Has_ok c
  rw [decide_eq_false h] at hH
  refine AC.of_body TTok Tryz.func66 rfl (enter_of Tryz.func66 (by kernel_rfl) (by kernel_rfl)) (noidF (.val _) (AA_noid _ _ _ _ _) (AA_noid _ _ _ _ _) (.val _)) (AZt_noid _) (Nat.le_of_ble_eq_true rfl) ?_
  unfold AA
  repeat
    conv => whnf
    first
      | refine ⟨_, by assumption, ?_⟩
      | refine ⟨(Nat.le_of_ble_eq_true rfl), _, by assumption, ?_⟩
      | refine ⟨by kernel_rfl, ?_⟩
      | exact rfl
      | exact ⟨Nat.le_of_ble_eq_true rfl, rfl⟩
      | refine ⟨by decide, ?_⟩
theorem Two_unfit (h : isTwo c) (na nb : List (Option (Rat × Nat))) (most : Int) (x : List Int × Bool × Bool × Int) (he : x.2.2.2 ≠ 0) (hF : AC Tryz.prog 110 [AA sa ca ta na true, AA sb cb tb nb true] (.pure (FV x))) :
    AC Tryz.prog 66 [.val (.int .i32 c), AA sa ca ta na true, AA sb cb tb nb true, .val (.int .i64 most)] (.pure (.tup [AZ, .val (.int .i64 x.2.2.2)])) := by
  have hH := Has_ok c
  rw [decide_eq_true h] at hH
  obtain ⟨s, one, two, e⟩ := x
  refine AC.of_body TTok Tryz.func66 rfl (enter_of Tryz.func66 (by kernel_rfl) (by kernel_rfl)) (noidF (.val _) (AA_noid _ _ _ _ _) (AA_noid _ _ _ _ _) (.val _)) (AZt_noid _) (Nat.le_of_ble_eq_true rfl) ?_
  unfold FV at hF
  have he : e ≠ 0 := he
  have hF : AC Tryz.prog 110 [AA sa ca ta na true, AA sb cb tb nb true] (.pure (.tup [.sl 1 (irows .i64 s) false, .val (.bool one), .val (.bool two), .val (.int .i64 e)])) := hF
  unfold AA at *
  conv => whnf
  refine ⟨_, hH, ?_⟩
  conv => whnf
  refine ⟨_, hF, ?_⟩
  conv => whnf
  first
    | refine caseb (fun h => absurd (bne_iff_ne.1 h) (by omega)) (fun _ => ?_)
    | refine caseb (fun _ => ?_) (fun h => absurd (bne_eq_false_iff_eq.1 h) (by omega))
  repeat
    conv => whnf
    first
      | refine ⟨_, by assumption, ?_⟩
      | refine ⟨(Nat.le_of_ble_eq_true rfl), _, by assumption, ?_⟩
      | refine ⟨by kernel_rfl, ?_⟩
      | exact rfl
      | exact ⟨Nat.le_of_ble_eq_true rfl, rfl⟩
      | refine ⟨by decide, ?_⟩
theorem Two_nil (h : isTwo c) (na nb : List (Option (Rat × Nat))) (most : Int) (s : List Int) (one two : Bool) (hv : vS s) (hcn : cntI s = 0) (hF : AC Tryz.prog 110 [AA sa ca ta na true, AA sb cb tb nb true] (.pure (FV (s, one, two, 0)))) :
    AC Tryz.prog 66 [.val (.int .i32 c), AA sa ca ta na true, AA sb cb tb nb true, .val (.int .i64 most)] (.pure (.tup [AA s false [] [] true, .val (.int .i64 0)])) := by
  have hH := Has_ok c
  rw [decide_eq_true h] at hH
  have hC := Count_ok s (by have := hv.1; omega)
  rw [CNT_good hv, hcn] at hC
  have hN := Nums_ok s [] hv (by rw [hcn]; rfl) (by decide)
  refine AC.of_body TTok Tryz.func66 rfl (enter_of Tryz.func66 (by kernel_rfl) (by kernel_rfl)) (noidF (.val _) (AA_noid _ _ _ _ _) (AA_noid _ _ _ _ _) (.val _)) (.tup _ (noid2 (AA_noid _ _ _ _ _) (.val _))) (Nat.le_of_ble_eq_true rfl) ?_
  unfold FV AA at hF
  unfold AA
  conv => whnf
  refine ⟨_, hH, ?_⟩
  conv => whnf
  refine ⟨_, hF, ?_⟩
  conv => whnf
  refine ⟨_, hC, ?_⟩
  conv => whnf
  refine ⟨by decide, ?_⟩
  conv => whnf
  refine SW.loopM TTok (fun _ : Unit => [(8, .lp 16 0), (10, .sl 1 (irows .i64 s) false), (16, .own 312 0 0), (65, .val (.int .i64 0)), (66, .val (.int .i64 0))]) (fun _ => [(16, .cells 5 [[.sl 0 [] true, .val (.bool false), .sl 0 [] true, .sl 0 [] true, .val (.bool false)]]), (312, .cells 3 [])]) 352 101 rfl (fun _ => 0) (fun _ => True) () [] trivial
    ⟨⟨rfl, rfl⟩, ⟨rfl, rfl⟩, ⟨rfl, rfl⟩, ⟨rfl, rfl⟩, ⟨rfl, rfl⟩, trivial⟩ ⟨⟨rfl, .inr ⟨rfl, rfl⟩⟩, ⟨rfl, .inr ⟨rfl, rfl⟩⟩, trivial⟩ rfl ?_
  intro _ _
  unfold AA at hN
  conv => whnf
  refine ⟨Nat.le_refl _, _, hN, ?_⟩
  repeat
    conv => whnf
    first
      | refine ⟨_, by assumption, ?_⟩
      | refine ⟨(Nat.le_of_ble_eq_true rfl), _, by assumption, ?_⟩
      | refine ⟨by kernel_rfl, ?_⟩
      | exact rfl
      | exact ⟨Nat.le_of_ble_eq_true rfl, rfl⟩
      | refine ⟨by decide, ?_⟩
theorem Two_chars (h : isTwo c) (hch : ca = true ∨ cb = true) (na nb : List (Option (Rat × Nat))) (most : Int) (s : List Int) (one two : Bool) (n : Nat) (hn : 0 < n) (hv : vS s) (hcn : cntI s = (n : Int)) (hF : AC Tryz.prog 110 [AA sa ca ta na true, AA sb cb tb nb true] (.pure (FV (s, one, two, 0))))
    (e : Int) (k1 k3 k4 : Nat) (l1 l3 l4 : List (List AV)) (z1 z3 z4 : Bool) (v2 v5 : Value) (hnr : NoId (.tup [.agg [.sl k1 l1 z1, .val v2, .sl k3 l3 z3, .sl k4 l4 z4, .val v5], .val (.int .i64 e)]))
    (hX : AC Tryz.prog 111 [.val (.int .i32 c), AA sa ca ta na true, AA sb cb tb nb true, .sl 1 (irows .i64 s) false, .val (.bool one), .val (.bool two)] (.pure (.tup [.agg [.sl k1 l1 z1, .val v2, .sl k3 l3 z3, .sl k4 l4 z4, .val v5], .val (.int .i64 e)]))) :
    AC Tryz.prog 66 [.val (.int .i32 c), AA sa ca ta na true, AA sb cb tb nb true, .val (.int .i64 most)] (.pure (.tup [.agg [.sl k1 l1 z1, .val v2, .sl k3 l3 z3, .sl k4 l4 z4, .val v5], .val (.int .i64 e)])) := by
  have hH := Has_ok c
  rw [decide_eq_true h] at hH
  have hC := Count_ok s (by have := hv.1; omega)
  rw [CNT_good hv, hcn] at hC
  have hIa := IsChar_ok sa ca ta na true
  have hIb := IsChar_ok sb cb tb nb true
  refine AC.of_body TTok Tryz.func66 rfl (enter_of Tryz.func66 (by kernel_rfl) (by kernel_rfl)) (noidF (.val _) (AA_noid _ _ _ _ _) (AA_noid _ _ _ _ _) (.val _)) hnr (Nat.le_of_ble_eq_true rfl) ?_
  unfold FV AA at hF
  unfold AA at *
  cases ca
  · have hcb : cb = true := hch.resolve_left Bool.false_ne_true
    subst hcb
    conv => whnf
    refine ⟨_, hH, ?_⟩
    conv => whnf
    refine ⟨_, hF, ?_⟩
    conv => whnf
    refine ⟨_, hC, ?_⟩
    conv => whnf
    first
      | refine caseb (fun _ => ?_) (fun h => absurd (of_decide_eq_false h) (by omega))
      | refine caseb (fun h => absurd (of_decide_eq_true h) (by omega)) (fun _ => ?_)
      | refine caseb (fun _ => ?_) (fun h => absurd (beq_eq_false_iff_ne.1 h) (by omega))
      | refine caseb (fun h => absurd (eq_of_beq h) (by omega)) (fun _ => ?_)
    conv => whnf
    refine ⟨_, hIa, ?_⟩
    conv => whnf
    refine ⟨_, hIb, ?_⟩
    conv => whnf
    refine ⟨_, hX, ?_⟩
    repeat
      conv => whnf
      first
        | refine ⟨_, by assumption, ?_⟩
        | refine ⟨(Nat.le_of_ble_eq_true rfl), _, by assumption, ?_⟩
        | refine ⟨by kernel_rfl, ?_⟩
        | exact rfl
        | exact ⟨Nat.le_of_ble_eq_true rfl, rfl⟩
        | refine ⟨by decide, ?_⟩
  · conv => whnf
    refine ⟨_, hH, ?_⟩
    conv => whnf
    refine ⟨_, hF, ?_⟩
    conv => whnf
    refine ⟨_, hC, ?_⟩
    conv => whnf
    first
      | refine caseb (fun _ => ?_) (fun h => absurd (of_decide_eq_false h) (by omega))
      | refine caseb (fun h => absurd (of_decide_eq_true h) (by omega)) (fun _ => ?_)
      | refine caseb (fun _ => ?_) (fun h => absurd (beq_eq_false_iff_ne.1 h) (by omega))
      | refine caseb (fun h => absurd (eq_of_beq h) (by omega)) (fun _ => ?_)
    conv => whnf
    refine ⟨_, hIa, ?_⟩
    conv => whnf
    refine ⟨_, hX, ?_⟩
    repeat
      conv => whnf
      first
        | refine ⟨_, by assumption, ?_⟩
        | refine ⟨(Nat.le_of_ble_eq_true rfl), _, by assumption, ?_⟩
        | refine ⟨by kernel_rfl, ?_⟩
        | exact rfl
        | exact ⟨Nat.le_of_ble_eq_true rfl, rfl⟩
        | refine ⟨by decide, ?_⟩
theorem chars_not (h1 : c ≠ 61) (h2 : c ≠ 8800) (na nb : List (Option (Rat × Nat))) (s : List Int) (one two : Bool) :
    AC Tryz.prog 111 [.val (.int .i32 c), AA sa ca ta na true, AA sb cb tb nb true, .sl 1 (irows .i64 s) false, .val (.bool one), .val (.bool two)] (.pure (.tup [AZ, .val (.int .i64 22)])) := by
  refine AC.of_body TTok Tryz.func111 rfl (enter_of Tryz.func111 (by kernel_rfl) (by kernel_rfl)) (noid6 (.val _) (AA_noid _ _ _ _ _) (AA_noid _ _ _ _ _) (noid_sl _ _ _) (.val _) (.val _)) (AZt_noid _) (Nat.le_of_ble_eq_true rfl) ?_
  unfold AA
  conv => whnf
  first
    | refine caseb (fun h => absurd (bne_iff_ne.1 h) (by omega)) (fun _ => ?_)
    | refine caseb (fun _ => ?_) (fun h => absurd (bne_eq_false_iff_eq.1 h) (by omega))
  conv => whnf
  first
    | refine caseb (fun h => absurd (bne_iff_ne.1 h) (by omega)) (fun _ => ?_)
    | refine caseb (fun _ => ?_) (fun h => absurd (bne_eq_false_iff_eq.1 h) (by omega))
  repeat
    conv => whnf
    first
      | refine ⟨_, by assumption, ?_⟩
      | refine ⟨(Nat.le_of_ble_eq_true rfl), _, by assumption, ?_⟩
      | refine ⟨by kernel_rfl, ?_⟩
      | exact rfl
      | exact ⟨Nat.le_of_ble_eq_true rfl, rfl⟩
      | refine ⟨by decide, ?_⟩
end
end Go.Proofs.YtbdklokfijjifaaGreat

/- Arrays: what a function of two comes to: all cases (the program's contract). -/
set_option linter.unusedVariables false
namespace Go.Proofs.YtbdklokfijjifaaGreat
open Go Go.AL NM

/-- The first error of a function of two arrays (0: none). -/
def twoE (c : Int) (sa sb : List Int) (ca cb : Bool) (ta tb : List Int) (qa qb : List Rat) (most : Int) : Int :=
  if isTwo c then (if (fitS sa sb (ta.length + qa.length) (tb.length + qb.length)).2.2.2 ≠ 0 then (fitS sa sb (ta.length + qa.length) (tb.length + qb.length)).2.2.2
    else firstE ((List.range (cntI (fitS sa sb (ta.length + qa.length) (tb.length + qb.length)).1).toNat).map (elemF c ca cb ta tb qa qb (fitS sa sb (ta.length + qa.length) (tb.length + qb.length)).2.1 (fitS sa sb (ta.length + qa.length) (tb.length + qb.length)).2.2.1 most))) else 20
/-- Its elements. -/
def twoV (c : Int) (sa sb : List Int) (ca cb : Bool) (ta tb : List Int) (qa qb : List Rat) (most : Int) : List Rat :=
  (List.range (cntI (fitS sa sb (ta.length + qa.length) (tb.length + qb.length)).1).toNat).map fun i => (elemF c ca cb ta tb qa qb (fitS sa sb (ta.length + qa.length) (tb.length + qb.length)).2.1 (fitS sa sb (ta.length + qa.length) (tb.length + qb.length)).2.2.1 most i).1
theorem chE_val (c : Int) (hc : c = 61 ∨ c = 8800) (ca cb : Bool) (hch : ca = true ∨ cb = true) (ta tb : List Int) (qa qb : List Rat) (one two : Bool) (most : Int) (i : Nat) :
    valX (chE c ca cb ta tb one two i) = (elemF c ca cb ta tb qa qb one two most i).1 ∧ okX (chE c ca cb ta tb one two i) := by
  unfold chE elemF smE
  rw [if_pos hch, if_pos hc]
  by_cases h : (ca && cb && decide (ta.getD (ix one i) 0 = tb.getD (ix two i) 0)) = decide (c = 61)
  · rw [if_pos h, if_pos h]
    exact ⟨rfl, rfl⟩
  · rw [if_neg h, if_neg h]
    exact ⟨rfl, trivial⟩
theorem chars_ok (c : Int) (hc : c = 61 ∨ c = 8800) (sa sb : List Int) (ca cb : Bool) (ta tb : List Int) (na nb : List (Option (Rat × Nat))) (s : List Int) (one two : Bool) (n : Nat) (hn : n ≤ 5000) (hv : vS s) (hcn : cntI s = (n : Int))
    (hix : ∀ i : Nat, i < n → (ca = true → ix one i < ta.length) ∧ (cb = true → ix two i < tb.length)) (la : ta.length ≤ 1000) (lb : tb.length ≤ 1000) :
    AC Tryz.prog 111 [.val (.int .i32 c), AA sa ca ta na true, AA sb cb tb nb true, .sl 1 (irows .i64 s) false, .val (.bool one), .val (.bool two)] (.pure (.tup [AA s false [] ((List.range n).map (chE c ca cb ta tb one two)) true, .val (.int .i64 0)])) := by
  rcases hc with rfl | rfl
  · exact chars_61 sa sb ca cb ta tb na nb s one two n hn hv hcn hix la lb
  · exact chars_8800 sa sb ca cb ta tb na nb s one two n hn hv hcn hix la lb

theorem getD_okX {na : List (Option (Rat × Nat))} (h : ∀ o ∈ na, okX o) (k : Nat) : okX (na.getD k none) := by
  rw [List.getD_eq_getElem?_getD]
  cases hk : na[k]? with
  | none => trivial
  | some o => exact h o (List.mem_of_getElem? hk)
theorem PTwoN_ok (c : Int) (sa sb : List Int) (ca cb : Bool) (ta tb : List Int) (na nb : List (Option (Rat × Nat))) (oa : ∀ o ∈ na, okX o) (ob : ∀ o ∈ nb, okX o) (qa qb : List Rat) (na1 : na.map valX = qa) (nb1 : nb.map valX = qb) (most : Int) (hm : most ≤ 200) (hva : vS sa) (hvb : vS sb) (hka : kinds sa ca ta.length qa.length) (hkb : kinds sb cb tb.length qb.length)
    (h1 : ta.length ≤ 500) (h2 : tb.length ≤ 500) (h3 : qa.length ≤ 500) (h4 : qb.length ≤ 500) (hQa : ∀ q ∈ qa, Sz q 20) (hQb : ∀ q ∈ qb, Sz q 20) :
    ∃ l : List (Option (Rat × Nat)), (twoE c sa sb ca cb ta tb qa qb most = 0 → l.map valX = twoV c sa sb ca cb ta tb qa qb most) ∧ (∀ o ∈ l, okX o) ∧ l.length ≤ 5000 ∧
      AC Tryz.prog 66 [.val (.int .i32 c), AA sa ca ta na true, AA sb cb tb nb true, .val (.int .i64 most)] (.pure (resA (fitS sa sb (ta.length + qa.length) (tb.length + qb.length)).1 (twoE c sa sb ca cb ta tb qa qb most) l)) := by
  have la : na.length = qa.length := by rw [← na1, List.length_map]
  have lb : nb.length = qb.length := by rw [← nb1, List.length_map]
  have hF := Fit_ok sa sb ca cb ta tb na nb (by have := hva.1; omega) (by have := hvb.1; omega) (by omega) (by omega) (by omega) (by omega)
  rw [la, lb] at hF
  obtain ⟨ka1, ka2⟩ := kinds_len hka
  obtain ⟨kb1, kb2⟩ := kinds_len hkb
  have hI := fit_idx ka1 kb1 hva hvb
  unfold twoE twoV
  generalize hx : fitS sa sb (ta.length + qa.length) (tb.length + qb.length) = x at hF hI ⊢
  by_cases hc : isTwo c
  · rw [if_pos hc]
    by_cases he : x.2.2.2 = 0
    · obtain ⟨v1, v2, v3⟩ := hI he
      obtain ⟨s, one, two, e⟩ := x
      have he : e = 0 := he
      subst he
      have v1 : vS s := v1
      have v2 : cntI s = ((ta.length + qa.length : Nat) : Int) ∨ cntI s = ((tb.length + qb.length : Nat) : Int) := v2
      have v3 : ∀ i : Nat, (i : Int) < cntI s → ix one i < ta.length + qa.length ∧ ix two i < tb.length + qb.length := v3
      obtain ⟨n, hn⟩ : ∃ n : Nat, cntI s = (n : Int) := by rcases v2 with h | h <;> exact ⟨_, h⟩
      have hn5 : n ≤ 1000 := by omega
      rw [if_neg (fun h => h rfl)]
      show ∃ l : List (Option (Rat × Nat)), (firstE ((List.range (cntI s).toNat).map (elemF c ca cb ta tb qa qb one two most)) = 0 → l.map valX = (List.range (cntI s).toNat).map fun i => (elemF c ca cb ta tb qa qb one two most i).1) ∧ (∀ o ∈ l, okX o) ∧ l.length ≤ 5000 ∧
        AC Tryz.prog 66 _ (.pure (resA s (firstE ((List.range (cntI s).toNat).map (elemF c ca cb ta tb qa qb one two most))) l))
      rw [hn, Int.toNat_natCast]
      rw [hn] at v3
      by_cases hn0 : n = 0
      · subst hn0
        refine ⟨[], fun _ => rfl, fun o ho => (nomatch ho), Nat.zero_le _, ?_⟩
        show AC Tryz.prog 66 _ (.pure (resA s 0 []))
        unfold resA
        rw [if_pos rfl]
        exact Two_nil c sa sb ca cb ta tb hc _ _ most s one two v1 hn hF
      · by_cases hch : ca = true ∨ cb = true
        · by_cases hcc : c = 61 ∨ c = 8800
          · have hz : firstE ((List.range n).map (elemF c ca cb ta tb qa qb one two most)) = 0 := firstE_zero (fun y hy => by
              obtain ⟨i, _, rfl⟩ := List.mem_map.1 hy
              unfold elemF
              rw [if_pos hch, if_pos hcc])
            refine ⟨(List.range n).map (chE c ca cb ta tb one two), fun _ => ?_, fun o ho => ?_, by rw [List.length_map, List.length_range]; omega, ?_⟩
            · rw [List.map_map]
              exact List.map_congr_left (fun i _ => (chE_val c hcc ca cb hch ta tb qa qb one two most i).1)
            · obtain ⟨i, _, rfl⟩ := List.mem_map.1 ho
              exact (chE_val c hcc ca cb hch ta tb qa qb one two most i).2
            · rw [hz]
              unfold resA
              rw [if_pos rfl]
              have hX := chars_ok c hcc sa sb ca cb ta tb na nb s one two n (by omega) v1 hn (fun i hi => ⟨fun h => by
                have := (v3 i (by omega)).1
                rw [h, if_pos rfl] at ka2
                omega, fun h => by
                have := (v3 i (by omega)).2
                rw [h, if_pos rfl] at kb2
                omega⟩) (by omega) (by omega)
              unfold AA at hX ⊢
              exact Two_chars c sa sb ca cb ta tb hc hch _ _ most s one two n (by omega) v1 hn hF 0 1 1 3 _ _ _ _ _ _ _ _ (.tup _ (noid2 (AA_noid _ _ _ _ _) (.val _))) hX
          · have hz : firstE ((List.range n).map (elemF c ca cb ta tb qa qb one two most)) = 22 := by
              have he22 : ∀ i, (elemF c ca cb ta tb qa qb one two most i).2 = 22 := fun i => by
                unfold elemF
                rw [if_pos hch, if_neg hcc]
              have := firstE_at (l := (List.range n).map (elemF c ca cb ta tb qa qb one two most)) (i := 0) (by rw [List.length_map, List.length_range]; omega) (fun y hy => nomatch hy) (by rw [List.getElem_map, he22]; decide)
              rw [this, List.getElem_map, he22]
            refine ⟨[], fun h => absurd (hz.symm.trans h) (by decide), fun o ho => (nomatch ho), Nat.zero_le _, ?_⟩
            rw [hz]
            have hX := chars_not c sa sb ca cb ta tb (fun h => hcc (.inl h)) (fun h => hcc (.inr h)) na nb s one two
            exact resA_err s _ (by decide) (Two_chars c sa sb ca cb ta tb hc hch _ _ most s one two n (by omega) v1 hn hF 22 0 0 0 _ _ _ _ _ _ _ _ (AZt_noid _) hX)
        · have hca : ca = false := by cases ca with | false => rfl | true => exact absurd (.inl rfl) hch
          have hcb : cb = false := by cases cb with | false => rfl | true => exact absurd (.inr rfl) hch
          subst hca hcb
          have ka2 : qa.length = ta.length + qa.length := ka2
          have kb2 : qb.length = tb.length + qb.length := kb2
          have hix : ∀ i : Nat, i < n → ix one i < qa.length ∧ ix two i < qb.length := fun i hi => by
            have := v3 i (by omega)
            omega
          have hel : ∀ i, elemF c false false ta tb qa qb one two most i = twoQ c (qa.getD (ix one i) 0) (qb.getD (ix two i) 0) most := fun i => by
            unfold elemF
            rw [if_neg hch]
          obtain ⟨D, hD⟩ := pick_all (l := List.range n) (p := fun i d => dn d = (elemF c false false ta tb qa qb one two most i).1.den ∧ AC Tryz.prog 112 [.val (.int .i32 c), RA (qa.getD (ix one i) 0).num (denX (na.getD (ix one i) none)), RA (qb.getD (ix two i) 0).num (denX (nb.getD (ix two i) none)), .val (.int .i64 most)] (.pure (.tup [RA (elemF c false false ta tb qa qb one two most i).1.num d, .val (.int .i64 (elemF c false false ta tb qa qb one two most i).2)]))) (fun i hi => by
            have hi := List.mem_range.1 hi
            obtain ⟨i1, i2⟩ := hix i hi
            rw [hel]
            refine Two_ok c _ _ _ _ most (by rw [← na1, getD_val]; exact denX_ok (getD_okX oa _)) (by rw [← nb1, getD_val]; exact denX_ok (getD_okX ob _)) hm ?_ ?_
            · rw [List.getD_eq_getElem?_getD, List.getElem?_eq_getElem i1]
              exact hQa _ (List.getElem_mem i1)
            · rw [List.getD_eq_getElem?_getD, List.getElem?_eq_getElem i2]
              exact hQb _ (List.getElem_mem i2))
          have hL := Two_loop c hc sa sb ta tb na nb qa qb na1 nb1 most s one two n hn5 v1 hn hF hix (by omega) (by omega) D (elemF c false false ta tb qa qb one two most) (fun i hi => hD i (List.mem_range.2 hi)) _ rfl
          refine ⟨(List.range n).map fun i => some ((elemF c false false ta tb qa qb one two most i).1, D i), fun _ => by rw [List.map_map]; rfl, fun o ho => ?_, by rw [List.length_map, List.length_range]; omega, ?_⟩
          · obtain ⟨i, hi, rfl⟩ := List.mem_map.1 ho
            exact (hD i hi).1
          · unfold resA
            by_cases hE : firstE ((List.range n).map (elemF c false false ta tb qa qb one two most)) = 0
            · rw [if_pos hE] at hL ⊢
              exact hL
            · rw [if_neg hE] at hL ⊢
              exact AC.le_res hL (.tup2 AZ_le (.refl _)) (.tup _ (noid2 (AA_noid _ _ _ _ _) (.val _)))
    · rw [if_pos he]
      refine ⟨[], fun h => absurd h he, fun o ho => (nomatch ho), Nat.zero_le _, ?_⟩
      exact resA_err _ _ he (Two_unfit c sa sb ca cb ta tb hc _ _ most x he hF)
  · rw [if_neg hc]
    exact ⟨[], fun h => absurd h (by decide), fun o ho => (nomatch ho), Nat.zero_le _, resA_err _ _ (by decide) (Two_not c sa sb ca cb ta tb hc _ _ most)⟩
end Go.Proofs.YtbdklokfijjifaaGreat

/- Arrays: an element of an array, a function of two elements (the document's contracts). -/
set_option linter.unusedVariables false
namespace Go.Proofs.YtbdklokfijjifaaGreat
open Go Go.AL NM

def PE (ch : Bool) (x : Int) (q : Rat) : AV := if ch then PA [] true [x] [] else PA [] false [] [q]
/-- What two elements come to, alone. -/
def pairV (c : Int) (ca cb : Bool) (x y : Int) (p q : Rat) (most : Int) : Rat × Int :=
  if ca = true ∨ cb = true then
    if c = 61 ∨ c = 8800 then (if (ca && cb && decide (x = y)) = decide (c = 61) then 1 else 0, 0) else (0, 22)
  else twoQ c p q most
def pairR (r : Rat × Int) : AV := .tup [RN r.1.num r.1.den, .val (.int .i64 r.2)]
section
variable (c : Int) (ca cb : Bool) (x y : Int) (p q : Rat) (most : Int) (hm : most ≤ 200) (lp : Sz p 20) (lq : Sz q 20)
include hm lp lq
end
end Go.Proofs.YtbdklokfijjifaaGreat

/- Arrays: a function of two, element by element (the document's contract). -/
set_option linter.unusedVariables false
namespace Go.Proofs.YtbdklokfijjifaaGreat
open Go Go.AL NM

def PEt (ch : Bool) (x : Int) : List (List AV) := if ch then [[.val (.int .i32 x)]] else []
def PEn (ch : Bool) (q : Rat) : List (List AV) := if ch then [] else [rowN q]
end Go.Proofs.YtbdklokfijjifaaGreat

/- Arrays: a function of two, element by element: all cases (the document's contract). -/
set_option linter.unusedVariables false
namespace Go.Proofs.YtbdklokfijjifaaGreat
open Go Go.AL NM

theorem getD_sz {j : Nat} (hj : 1 ≤ j) {l : List Rat} (h : ∀ q ∈ l, Sz q j) (k : Nat) : Sz (l.getD k 0) j := by
  rw [List.getD_eq_getElem?_getD]
  by_cases hk : k < l.length
  · rw [List.getElem?_eq_getElem hk]; exact h _ (List.getElem_mem hk)
  · rw [List.getElem?_eq_none (by omega)]; exact Sz_zero.mono hj

end Go.Proofs.YtbdklokfijjifaaGreat

/- Arrays: the chapter's examples (contracts). -/
set_option linter.unusedVariables false
namespace Go.Proofs.YtbdklokfijjifaaGreat
open Go Go.AL NM

theorem sz_nat (n : Nat) (h : n < 4294967296) : Sz ((n : Int) : Rat) 1 := Sz_small (by
  show ((n : Int)).natAbs < _
  rw [Int.natAbs_natCast]; exact h) (by show (1 : Nat) < 4294967296; decide)
end Go.Proofs.YtbdklokfijjifaaGreat

/- Arrays: an argument that is an array as the page speaks of it (opened). -/
set_option linter.unusedVariables false
namespace Go.Proofs.YtbdklokfijjifaaGreat
open Go Go.AL NM

/-- What is known of the numbers of such an argument. -/
def GN (L : List TX) : Prop := ∀ x ∈ L, bytX x ∧ x.2.1.length < 9223372036854775808 ∧ x.2.2.length < 9223372036854775808
end Go.Proofs.YtbdklokfijjifaaGreat

/- Arrays: light ones: what is read of them. -/
set_option linter.unusedVariables false
namespace Go.Proofs.YtbdklokfijjifaaGreat
open Go Go.AL NM

/-- What is read of a light array. -/
def Lite (sh : List Int) (ch : Bool) (tx : List Int) (L : List TX) (most : Nat) (qs : List Rat) : Prop :=
  PB sh ch tx L = PA sh ch tx qs ∧ vS sh ∧ kinds sh ch tx.length qs.length ∧ tx.length ≤ most ∧ qs.length ≤ most ∧ ∀ q ∈ qs, QR q
end Go.Proofs.YtbdklokfijjifaaGreat

/- Arrays: what is shown of a function's result. -/
set_option linter.unusedVariables false
namespace Go.Proofs.YtbdklokfijjifaaGreat
open Go Go.AL NM

end Go.Proofs.YtbdklokfijjifaaGreat

/- Shapes: all indices of a shape, and where they lie (plain laws). -/
set_option linter.unusedVariables false
namespace Go.Proofs.YtbdklokfijjifaaGreat
open Go Go.AL

/-- How many indices a shape has. -/
def pr : List Int → Nat
  | [] => 1
  | d :: v => d.toNat * pr v
/-- The index at a place. -/
def dig : List Int → Nat → List Int
  | [], _ => []
  | _ :: v, i => ((i / pr v : Nat) : Int) :: dig v (i % pr v)
/-- All indices. -/
def allS : List Int → List (List Int)
  | [] => [[]]
  | d :: v => (List.range d.toNat).flatMap fun n : Nat => (allS v).map fun w => (n : Int) :: w
/-- An index's place. -/
def plS (n : Int) : List Int → List Int → Int
  | d :: v, a :: w => if a < 0 ∨ d ≤ a then -1 else plS (n * d + a) v w
  | _, _ => n
theorem pr_append (u v : List Int) : pr (u ++ v) = pr u * pr v := by
  induction u with
  | nil => rw [List.nil_append]; exact (Nat.one_mul _).symm
  | cons d u ih => show d.toNat * pr (u ++ v) = d.toNat * pr u * pr v; rw [ih, Nat.mul_assoc]
end Go.Proofs.YtbdklokfijjifaaGreat

/- Shapes: how many elements they have, along an axis and beside it (plain laws). -/
set_option linter.unusedVariables false
namespace Go.Proofs.YtbdklokfijjifaaGreat
open Go Go.AL NM

theorem pm_from (v : List Int) : ∀ n : Int, v.foldl (fun n d => n * max 1 d) n = n * pmI v := by
  induction v with
  | nil => intro n; exact (Int.mul_one n).symm
  | cons d v ih =>
    intro n
    show v.foldl (fun n d => n * max 1 d) (n * max 1 d) = n * v.foldl (fun n d => n * max 1 d) (1 * max 1 d)
    rw [ih, ih, Int.one_mul, Int.mul_assoc]
theorem pm_cons (d : Int) (v : List Int) : pmI (d :: v) = max 1 d * pmI v := by
  show v.foldl (fun n d => n * max 1 d) (1 * max 1 d) = _
  rw [pm_from, Int.one_mul]
theorem pm_append (u v : List Int) : pmI (u ++ v) = pmI u * pmI v := by
  induction u with
  | nil => exact (Int.one_mul _).symm
  | cons d u ih => rw [List.cons_append, pm_cons, pm_cons, ih, Int.mul_assoc]
theorem pr_zero {s : List Int} (h : 0 ∈ s) : pr s = 0 := by
  induction s with
  | nil => cases h
  | cons d v ih =>
    show d.toNat * pr v = 0
    rcases List.mem_cons.1 h with h | h
    · rw [← h]; exact Nat.zero_mul _
    · rw [ih h, Nat.mul_zero]
theorem cnt_pr {s : List Int} (h : ∀ d ∈ s, 0 ≤ d) : cntI s = (pr s : Int) := by
  unfold cntI
  by_cases h0 : 0 ∈ s
  · rw [if_pos h0, pr_zero h0]; rfl
  · rw [if_neg h0]
    induction s with
    | nil => rfl
    | cons d v ih =>
      rw [pm_cons]
      have hd := h d List.mem_cons_self
      have hn : d ≠ 0 := fun e => h0 (by rw [e]; exact List.mem_cons_self)
      rw [ih (fun x hx => h x (List.mem_cons_of_mem _ hx)) (fun hx => h0 (List.mem_cons_of_mem _ hx))]
      show _ = ((d.toNat * pr v : Nat) : Int)
      rw [Int.natCast_mul, show max 1 d = ((d.toNat : Nat) : Int) by omega]
theorem pr_le_pm {s : List Int} (h : ∀ d ∈ s, 0 ≤ d) : (pr s : Int) ≤ pmI s := by
  rw [← cnt_pr h]
  unfold cntI
  split
  · have := pm_pos s; omega
  · exact Int.le_refl _
theorem vS_pr {s : List Int} (h : vS s) : cntI s = (pr s : Int) ∧ pr s ≤ 4096 := by
  refine ⟨cnt_pr h.2.1, ?_⟩
  have := pr_le_pm h.2.1
  have := h.2.2
  omega
theorem mid_split {s : List Int} {k : Nat} (hk : k < s.length) : s = s.take k ++ s[k] :: s.drop (k + 1) := by
  rw [← List.drop_eq_getElem_cons hk, List.take_append_drop]
theorem vS_mid {u v : List Int} {d : Int} : vS (u ++ d :: v) ↔ u.length + v.length ≤ 7 ∧ (∀ x ∈ u, 0 ≤ x) ∧ 0 ≤ d ∧ (∀ x ∈ v, 0 ≤ x) ∧ pmI u * (max 1 d * pmI v) ≤ 4096 := by
  unfold vS
  rw [pm_append, pm_cons, List.length_append, List.length_cons]
  constructor
  · rintro ⟨h1, h2, h3⟩
    exact ⟨by omega, fun x hx => h2 x (List.mem_append_left _ hx), h2 d (List.mem_append_right _ List.mem_cons_self), fun x hx => h2 x (List.mem_append_right _ (List.mem_cons_of_mem _ hx)), h3⟩
  · rintro ⟨h1, h2, h3, h4, h5⟩
    refine ⟨by omega, fun x hx => ?_, h5⟩
    rcases List.mem_append.1 hx with h | h
    · exact h2 x h
    · rcases List.mem_cons.1 h with rfl | h
      · exact h3
      · exact h4 x h
theorem vS_app {u v : List Int} : vS (u ++ v) ↔ u.length + v.length ≤ 8 ∧ (∀ x ∈ u, 0 ≤ x) ∧ (∀ x ∈ v, 0 ≤ x) ∧ pmI u * pmI v ≤ 4096 := by
  unfold vS
  rw [pm_append, List.length_append]
  constructor
  · rintro ⟨h1, h2, h3⟩
    exact ⟨h1, fun x hx => h2 x (List.mem_append_left _ hx), fun x hx => h2 x (List.mem_append_right _ hx), h3⟩
  · rintro ⟨h1, h2, h3, h4⟩
    refine ⟨h1, fun x hx => ?_, h4⟩
    rcases List.mem_append.1 hx with h | h
    · exact h2 x h
    · exact h3 x h
theorem vS_parts {u v : List Int} (h : vS (u ++ v)) : vS u ∧ vS v := by
  obtain ⟨h1, h2, h3, h4⟩ := vS_app.1 h
  have p1 := pm_pos u
  have p2 := pm_pos v
  have m1 : pmI u * 1 ≤ pmI u * pmI v := Int.mul_le_mul_of_nonneg_left p2 (by omega)
  have m2 : 1 * pmI v ≤ pmI u * pmI v := Int.mul_le_mul_of_nonneg_right p1 (by omega)
  exact ⟨⟨by omega, h2, by omega⟩, ⟨by omega, h3, by omega⟩⟩
theorem vS_dim {s : List Int} (h : vS s) {d : Int} (hd : d ∈ s) : d ≤ 4096 := by
  obtain ⟨u, v, rfl⟩ := List.append_of_mem hd
  obtain ⟨h1, h2, h3, h4, h5⟩ := vS_mid.1 h
  have p1 := pm_pos u
  have p2 := pm_pos v
  have m1 : max 1 d * 1 ≤ max 1 d * pmI v := Int.mul_le_mul_of_nonneg_left p2 (by omega)
  have m2 : 1 * (max 1 d * pmI v) ≤ pmI u * (max 1 d * pmI v) := Int.mul_le_mul_of_nonneg_right p1 (by omega)
  omega
end Go.Proofs.YtbdklokfijjifaaGreat

/- An abstract program logic over tree values (part 34): a live block that stands in another block's cell is frozen there. -/
set_option linter.unusedVariables false
set_option linter.unusedSimpArgs false
namespace Go.AL
open Go Go.RowKit

end Go.AL

/- Shapes laid one behind the other: slices.Grow, slices.Concat, shape.Join (contracts). -/
set_option linter.unusedVariables false
namespace Go.Proofs.YtbdklokfijjifaaGreat
open Go Go.AL NM

theorem Grow_zero : AC Tryz.prog 124 [.sl 0 [] true, .val (.int .i64 0)] (.pure (.sl 0 [] true)) := by
  refine AC.of_body TTok Tryz.func124 rfl (enter_of Tryz.func124 (by kernel_rfl) (by kernel_rfl)) (noid2 (.sl _ _ _ (fun r hr => nomatch hr)) (.val _)) (.sl _ _ _ (fun r hr => nomatch hr)) (Nat.le_of_ble_eq_true rfl) ?_
  repeat
    conv => whnf
    first
      | refine ⟨_, by assumption, ?_⟩
      | refine ⟨(Nat.le_of_ble_eq_true rfl), _, by assumption, ?_⟩
      | refine ⟨by kernel_rfl, ?_⟩
      | exact rfl
      | exact ⟨Nat.le_of_ble_eq_true rfl, rfl⟩
      | refine ⟨by decide, ?_⟩
theorem Grow_pos (n : Nat) (h0 : 0 < n) (hb : n ≤ 1000000) : AC Tryz.prog 124 [.sl 0 [] true, .val (.int .i64 (n : Int))] (.fresh 1 []) := by
  have e1 : IntKind.i64.wrap ((n : Int) - IntKind.i64.wrap ((([] : List (List AV)).length : Int) - (([] : List (List AV)).length : Int))) = (n : Int) := by
    rw [show (([] : List (List AV)).length : Int) - (([] : List (List AV)).length : Int) = 0 from rfl, show IntKind.i64.wrap 0 = 0 by decide, Int.sub_zero, IntWalk.i64_in _ (by omega)]
  refine AC.of_body TTok Tryz.func124 rfl (enter_of Tryz.func124 (by kernel_rfl) (by kernel_rfl)) (noid2 (.sl _ _ _ (fun r hr => nomatch hr)) (.val _)) (fun r hr => nomatch hr) (Nat.le_of_ble_eq_true rfl) ?_
  conv => whnf
  refine caseb (fun _ => ?_) (fun h => absurd (of_decide_eq_false h) (by rw [e1]; omega))
  conv => whnf
  refine ⟨by decide, ?_⟩
  conv => whnf
  refine ⟨by rw [e1]; exact ⟨by omega, by show (n : Int) * 8 ≤ 140737488355328; omega⟩, ?_⟩
  conv => whnf
  refine ⟨⟨Int.le_refl _, Int.natCast_nonneg _⟩, ?_⟩
  conv => whnf
  exact ⟨rfl, Nat.zero_le _, rfl⟩

def lrows (ls : List (List Int)) : List (List AV) := ls.map fun l => [.sl 1 (irows .i64 l) false]
theorem lrows_len (ls : List (List Int)) : (lrows ls).length = ls.length := List.length_map _
theorem lrows_noid (ls : List (List Int)) : ∀ r ∈ lrows ls, ∀ x ∈ r, NoId x := by
  intro r hr x hx
  obtain ⟨l, _, rfl⟩ := List.mem_map.1 hr
  rw [List.mem_singleton.1 hx]
  exact noid_sl _ _ _
theorem flat_snoc {ls : List (List Int)} {i : Nat} (h : i < ls.length) : (ls.take (i + 1)).flatten = (ls.take i).flatten ++ ls[i] := by
  rw [take_snoc h, List.flatten_append]; simp
theorem Concat_ok (ls : List (List Int)) (hl : ls.length ≤ 1000) (hb : ls.flatten.length ≤ 100000) : AC Tryz.prog 91 [.sl 1 (lrows ls) false] (.pure (.sl 1 (irows .i64 ls.flatten) false)) := by
  have lr := lrows_len ls
  have hle : ∀ i, i ≤ ls.length → (ls.take i).flatten.length ≤ ls.flatten.length := fun i hi => by
    have := List.take_append_drop i ls
    have h2 : ls.flatten = (ls.take i).flatten ++ (ls.drop i).flatten := by rw [← List.flatten_append, this]
    rw [h2, List.length_append]; omega
  refine AC.of_body TTok Tryz.func91 rfl (enter_of Tryz.func91 (by kernel_rfl) (by kernel_rfl)) (noid1 (.sl _ _ _ (lrows_noid _))) (noid_sl _ _ _) (Nat.le_of_ble_eq_true rfl) ?_
  conv => whnf
  refine SW.loopM TTok (fun i : Nat => [(0, .sl 1 (lrows ls) false), (3, .val (.int .i64 ((ls.take i).flatten.length : Nat))), (9, .sl 1 (lrows ls) false), (10, .val (.int .i64 ((lrows ls).length : Nat))), (11, .val (.int .i64 (i : Int)))]) (fun _ => []) 40 36 rfl (fun i => ls.length - i) (fun i => i ≤ ls.length) 0 [] (Nat.zero_le _)
    ⟨⟨rfl, rfl⟩, ⟨rfl, rfl⟩, ⟨rfl, rfl⟩, ⟨rfl, rfl⟩, ⟨rfl, rfl⟩, trivial⟩ trivial rfl ?_
  intro i hJ
  have hi : i ≤ ls.length := hJ
  clear hJ
  have b1 := hle i hi
  by_cases hlt : i < ls.length
  · have eI : IntKind.i64.wrap ((i : Int) + 1) = ((i + 1 : Nat) : Int) := by rw [IntWalk.i64_in _ (by omega)]; omega
    have b2 := hle (i + 1) hlt
    have hg : (lrows ls)[i]? = some [.sl 1 (irows .i64 ls[i]) false] := by unfold lrows; rw [List.getElem?_map, List.getElem?_eq_getElem hlt]; rfl
    have hs := flat_snoc hlt
    have hsl : (ls.take (i + 1)).flatten.length = (ls.take i).flatten.length + ls[i].length := by rw [hs, List.length_append]
    have ln := irows_len .i64 ls[i]
    have eS : IntKind.i64.wrap (((ls.take i).flatten.length : Nat) + ((irows .i64 ls[i]).length : Int)) = (((ls.take (i + 1)).flatten.length : Nat) : Int) := by rw [ln, IntWalk.i64_in _ (by omega), hsl]; omega
    conv => whnf
    first
      | refine caseb (fun _ => ?_) (fun h => absurd (of_decide_eq_false h) (by omega))
      | refine caseb (fun h => absurd (of_decide_eq_true h) (by omega)) (fun _ => ?_)
      | refine caseb (fun _ => ?_) (fun h => absurd (beq_eq_false_iff_ne.1 h) (by omega))
      | refine caseb (fun h => absurd (eq_of_beq h) (by omega)) (fun _ => ?_)
    conv => whnf
    refine ⟨_, ⟨by omega, by rw [Int.toNat_natCast]; exact hg⟩, ?_⟩
    conv => whnf
    refine caseb (fun h => absurd (of_decide_eq_true h) (by rw [eS]; omega)) (fun _ => ?_)
    conv => whnf
    exact ⟨i + 1, [], (by show ls.length - (i + 1) < ls.length - i; omega), hlt, ⟨⟨rfl, rfl⟩, ⟨valI eS, rfl⟩, ⟨rfl, rfl⟩, ⟨rfl, rfl⟩, ⟨valI eI, rfl⟩, trivial⟩, trivial, rfl⟩
  · have hie : i = ls.length := by omega
    have e0 : ls.take i = ls := by rw [hie, List.take_length]
    rw [e0]
    obtain ⟨n, hn⟩ : ∃ n, n = ls.flatten.length := ⟨_, rfl⟩
    rw [← hn] at hb hle ⊢
    by_cases hn0 : n = 0
    · subst hn0
      have hG := Grow_zero
      conv => whnf
      first
        | refine caseb (fun _ => ?_) (fun h => absurd (of_decide_eq_false h) (by omega))
        | refine caseb (fun h => absurd (of_decide_eq_true h) (by omega)) (fun _ => ?_)
        | refine caseb (fun _ => ?_) (fun h => absurd (beq_eq_false_iff_ne.1 h) (by omega))
        | refine caseb (fun h => absurd (eq_of_beq h) (by omega)) (fun _ => ?_)
      conv => whnf
      refine ⟨_, hG, ?_⟩
      conv => whnf
      refine SW.nil 6 1 rfl ?_
      refine SW.loopM TTok (fun i : Nat => [(6, .own 96 0 (ls.take i).flatten.length), (25, .sl 1 (lrows ls) false), (26, .val (.int .i64 ((lrows ls).length : Nat))), (27, .val (.int .i64 (i : Int)))]) (fun i => [(96, .cells 1 (irows .i64 (ls.take i).flatten))]) 104 36 rfl (fun i => ls.length - i) (fun i => i ≤ ls.length) 0 [] (Nat.zero_le _)
        ⟨⟨rfl, rfl⟩, ⟨rfl, rfl⟩, ⟨rfl, rfl⟩, ⟨rfl, rfl⟩, trivial⟩ ⟨⟨rfl, .inr ⟨rfl, rfl⟩⟩, trivial⟩ rfl ?_
      intro i hJ
      have hi : i ≤ ls.length := hJ
      clear hJ
      have b1 := hle i hi
      have lf := irows_len .i64 (ls.take i).flatten
      by_cases hlt : i < ls.length
      · have eI : IntKind.i64.wrap ((i : Int) + 1) = ((i + 1 : Nat) : Int) := by rw [IntWalk.i64_in _ (by omega)]; omega
        have b2 := hle (i + 1) hlt
        have hg : (lrows ls)[i]? = some [.sl 1 (irows .i64 ls[i]) false] := by unfold lrows; rw [List.getElem?_map, List.getElem?_eq_getElem hlt]; rfl
        have hs := flat_snoc hlt
        have hsl : (ls.take (i + 1)).flatten.length = (ls.take i).flatten.length + ls[i].length := by rw [hs, List.length_append]
        have ln := irows_len .i64 ls[i]
        conv => whnf
        first
          | refine caseb (fun _ => ?_) (fun h => absurd (of_decide_eq_false h) (by omega))
          | refine caseb (fun h => absurd (of_decide_eq_true h) (by omega)) (fun _ => ?_)
          | refine caseb (fun _ => ?_) (fun h => absurd (beq_eq_false_iff_ne.1 h) (by omega))
          | refine caseb (fun h => absurd (eq_of_beq h) (by omega)) (fun _ => ?_)
        conv => whnf
        refine ⟨_, ⟨by omega, by rw [Int.toNat_natCast]; exact hg⟩, ?_⟩
        conv => whnf
        refine ⟨⟨by show 0 + _ ≤ _; omega, by show ((ls.take i).flatten.length + (irows .i64 ls[i]).length) * 8 ≤ 140737488355328; omega⟩, ?_⟩
        conv => whnf
        refine ⟨i + 1, [(96, 152)], (by show ls.length - (i + 1) < ls.length - i; omega), hlt, ⟨⟨ownE rfl (by rw [hsl, ln]), rfl⟩, ⟨rfl, rfl⟩, ⟨rfl, rfl⟩, ⟨valI eI, rfl⟩, trivial⟩, ⟨⟨rfl, .inl ⟨celE ?_, irows_noid _ _⟩⟩, trivial⟩, rfl⟩
        show List.take _ (List.drop 0 (irows .i64 (ls.take i).flatten)) ++ irows .i64 ls[i] = _
        rw [List.drop_zero, List.take_of_length_le (by omega), hs, ← irows_append]
      · have hie : i = ls.length := by omega
        have e0 : ls.take i = ls := by rw [hie, List.take_length]
        rw [e0] at lf ⊢
        conv => whnf
        first
          | refine caseb (fun _ => ?_) (fun h => absurd (of_decide_eq_false h) (by omega))
          | refine caseb (fun h => absurd (of_decide_eq_true h) (by omega)) (fun _ => ?_)
          | refine caseb (fun _ => ?_) (fun h => absurd (beq_eq_false_iff_ne.1 h) (by omega))
          | refine caseb (fun h => absurd (eq_of_beq h) (by omega)) (fun _ => ?_)
        conv => whnf
        refine ⟨by show 0 + _ ≤ _; omega, ?_⟩
        show AV.sl 1 (List.take _ (List.drop 0 (irows .i64 ls.flatten))) false = _
        rw [List.drop_zero, List.take_of_length_le (by omega)]
    · have hG := Grow_pos n (by omega) (by omega)
      conv => whnf
      first
        | refine caseb (fun _ => ?_) (fun h => absurd (of_decide_eq_false h) (by omega))
        | refine caseb (fun h => absurd (of_decide_eq_true h) (by omega)) (fun _ => ?_)
        | refine caseb (fun _ => ?_) (fun h => absurd (beq_eq_false_iff_ne.1 h) (by omega))
        | refine caseb (fun h => absurd (eq_of_beq h) (by omega)) (fun _ => ?_)
      conv => whnf
      refine ⟨_, hG, ?_⟩
      conv => whnf
      refine SW.loopM TTok (fun i : Nat => [(6, .own 56 0 (ls.take i).flatten.length), (25, .sl 1 (lrows ls) false), (26, .val (.int .i64 ((lrows ls).length : Nat))), (27, .val (.int .i64 (i : Int)))]) (fun i => [(56, .cells 1 (irows .i64 (ls.take i).flatten))]) 96 36 rfl (fun i => ls.length - i) (fun i => i ≤ ls.length) 0 [] (Nat.zero_le _)
        ⟨⟨rfl, rfl⟩, ⟨rfl, rfl⟩, ⟨rfl, rfl⟩, ⟨rfl, rfl⟩, trivial⟩ ⟨⟨rfl, .inr ⟨rfl, rfl⟩⟩, trivial⟩ rfl ?_
      intro i hJ
      have hi : i ≤ ls.length := hJ
      clear hJ
      have b1 := hle i hi
      have lf := irows_len .i64 (ls.take i).flatten
      by_cases hlt : i < ls.length
      · have eI : IntKind.i64.wrap ((i : Int) + 1) = ((i + 1 : Nat) : Int) := by rw [IntWalk.i64_in _ (by omega)]; omega
        have b2 := hle (i + 1) hlt
        have hg : (lrows ls)[i]? = some [.sl 1 (irows .i64 ls[i]) false] := by unfold lrows; rw [List.getElem?_map, List.getElem?_eq_getElem hlt]; rfl
        have hs := flat_snoc hlt
        have hsl : (ls.take (i + 1)).flatten.length = (ls.take i).flatten.length + ls[i].length := by rw [hs, List.length_append]
        have ln := irows_len .i64 ls[i]
        conv => whnf
        first
          | refine caseb (fun _ => ?_) (fun h => absurd (of_decide_eq_false h) (by omega))
          | refine caseb (fun h => absurd (of_decide_eq_true h) (by omega)) (fun _ => ?_)
          | refine caseb (fun _ => ?_) (fun h => absurd (beq_eq_false_iff_ne.1 h) (by omega))
          | refine caseb (fun h => absurd (eq_of_beq h) (by omega)) (fun _ => ?_)
        conv => whnf
        refine ⟨_, ⟨by omega, by rw [Int.toNat_natCast]; exact hg⟩, ?_⟩
        conv => whnf
        refine ⟨⟨by show 0 + _ ≤ _; omega, by show ((ls.take i).flatten.length + (irows .i64 ls[i]).length) * 8 ≤ 140737488355328; omega⟩, ?_⟩
        conv => whnf
        refine ⟨i + 1, [(56, 144)], (by show ls.length - (i + 1) < ls.length - i; omega), hlt, ⟨⟨ownE rfl (by rw [hsl, ln]), rfl⟩, ⟨rfl, rfl⟩, ⟨rfl, rfl⟩, ⟨valI eI, rfl⟩, trivial⟩, ⟨⟨rfl, .inl ⟨celE ?_, irows_noid _ _⟩⟩, trivial⟩, rfl⟩
        show List.take _ (List.drop 0 (irows .i64 (ls.take i).flatten)) ++ irows .i64 ls[i] = _
        rw [List.drop_zero, List.take_of_length_le (by omega), hs, ← irows_append]
      · have hie : i = ls.length := by omega
        have e0 : ls.take i = ls := by rw [hie, List.take_length]
        rw [e0] at lf ⊢
        conv => whnf
        first
          | refine caseb (fun _ => ?_) (fun h => absurd (of_decide_eq_false h) (by omega))
          | refine caseb (fun h => absurd (of_decide_eq_true h) (by omega)) (fun _ => ?_)
          | refine caseb (fun _ => ?_) (fun h => absurd (beq_eq_false_iff_ne.1 h) (by omega))
          | refine caseb (fun h => absurd (eq_of_beq h) (by omega)) (fun _ => ?_)
        conv => whnf
        refine ⟨by show 0 + _ ≤ _; omega, ?_⟩
        show AV.sl 1 (List.take _ (List.drop 0 (irows .i64 ls.flatten))) false = _
        rw [List.drop_zero, List.take_of_length_le (by omega)]
end Go.Proofs.YtbdklokfijjifaaGreat

/- Shapes with an axis replaced, without an axis, split at an axis (contracts). -/
set_option linter.unusedVariables false
namespace Go.Proofs.YtbdklokfijjifaaGreat
open Go Go.AL NM

theorem irows_set (k : IntKind) (l : List Int) (i : Nat) (x : Int) : (irows k l).set i [.val (.int k x)] = irows k (l.set i x) := by unfold irows; rw [List.map_set]
theorem irows_take (k : IntKind) (l : List Int) (i : Nat) : (irows k l).take i = irows k (l.take i) := by unfold irows; rw [List.map_take]
theorem irows_drop (k : IntKind) (l : List Int) (i : Nat) : (irows k l).drop i = irows k (l.drop i) := by unfold irows; rw [List.map_drop]
theorem Without_ok (s : List Int) (k : Nat) (hk : k < s.length) (hb : s.length ≤ 100000) : AC Tryz.prog 39 [.sl 1 (irows .i64 s) false, .val (.int .i64 (k : Int))] (.pure (.sl 1 (irows .i64 (s.take k ++ s.drop (k + 1))) false)) := by
  have hC := Concat_ok [s.take k, s.drop (k + 1)] (by show 2 ≤ 1000; omega) (by simp; omega)
  rw [show [s.take k, s.drop (k + 1)].flatten = s.take k ++ s.drop (k + 1) by simp] at hC
  have ln := irows_len .i64 s
  have eK : IntKind.i64.wrap ((k : Int) + 1) = ((k + 1 : Nat) : Int) := by rw [IntWalk.i64_in _ (by omega)]; omega
  have e1 : lrows [s.take k, s.drop (k + 1)] = [[.sl 1 (List.drop 0 (List.take (k : Int).toNat (irows .i64 s))) false], [.sl 1 (List.drop (IntKind.i64.wrap ((k : Int) + 1)).toNat (List.take (irows .i64 s).length (irows .i64 s))) false]] := by
    rw [eK, Int.toNat_natCast, Int.toNat_natCast, List.drop_zero, List.take_length, irows_take, irows_drop]; rfl
  rw [e1] at hC
  refine AC.of_body TTok Tryz.func39 rfl (enter_of Tryz.func39 (by kernel_rfl) (by kernel_rfl)) (noid2 (noid_sl _ _ _) (.val _)) (noid_sl _ _ _) (Nat.le_of_ble_eq_true rfl) ?_
  conv => whnf
  first
    | refine caseb (fun _ => ?_) (fun h => absurd (of_decide_eq_false h) (by omega))
    | refine caseb (fun h => absurd (of_decide_eq_true h) (by omega)) (fun _ => ?_)
    | refine caseb (fun _ => ?_) (fun h => absurd (beq_eq_false_iff_ne.1 h) (by omega))
    | refine caseb (fun h => absurd (eq_of_beq h) (by omega)) (fun _ => ?_)
  conv => whnf
  refine ⟨by omega, ?_⟩
  conv => whnf
  refine ⟨by rw [eK]; omega, ?_⟩
  conv => whnf
  refine ⟨(Nat.le_of_ble_eq_true rfl), _, hC, ?_⟩
  conv => whnf
  refine ⟨by kernel_rfl, ?_⟩
  repeat
    conv => whnf
    first
      | refine ⟨_, by assumption, ?_⟩
      | refine ⟨(Nat.le_of_ble_eq_true rfl), _, by assumption, ?_⟩
      | refine ⟨by kernel_rfl, ?_⟩
      | exact rfl
      | exact ⟨Nat.le_of_ble_eq_true rfl, rfl⟩
      | refine ⟨by decide, ?_⟩
theorem Split_ok (s : List Int) (k : Nat) (hk : k < s.length) (hv : vS s) : AC Tryz.prog 109 [.sl 1 (irows .i64 s) false, .val (.int .i64 (k : Int))] (.pure (.tup [.val (.int .i64 (pr (s.take k))), .val (.int .i64 s[k]), .val (.int .i64 (pr (s.drop (k + 1)))), .val (.bool true)])) := by
  have h8 := hv.1
  have hp := mid_split hk
  have v1 : vS (s.take k) := (vS_parts (by rw [← List.take_append_drop k s] at hv; exact hv)).1
  have v2 : vS (s.drop (k + 1)) := (vS_parts (by rw [← List.take_append_drop (k + 1) s] at hv; exact hv)).2
  have c0 := Count_ok s (by omega)
  have c1 := Count_ok (s.take k) (by rw [List.length_take]; omega)
  have c2 := Count_ok (s.drop (k + 1)) (by rw [List.length_drop]; omega)
  rw [CNT_good hv] at c0
  rw [CNT_good v1, (vS_pr v1).1] at c1
  rw [CNT_good v2, (vS_pr v2).1] at c2
  have ln := irows_len .i64 s
  have eK : IntKind.i64.wrap ((k : Int) + 1) = ((k + 1 : Nat) : Int) := by rw [IntWalk.i64_in _ (by omega)]; omega
  have e1 : irows .i64 (s.take k) = List.drop 0 (List.take (k : Int).toNat (irows .i64 s)) := by rw [Int.toNat_natCast, List.drop_zero, irows_take]
  have e2 : irows .i64 (s.drop (k + 1)) = List.drop (IntKind.i64.wrap ((k : Int) + 1)).toNat (List.take (irows .i64 s).length (irows .i64 s)) := by rw [eK, Int.toNat_natCast, List.take_length, irows_drop]
  rw [e1] at c1
  rw [e2] at c2
  have hg : (irows .i64 s)[k]? = some [.val (.int .i64 s[k])] := irows_get .i64 s (List.getElem?_eq_getElem hk)
  refine AC.of_body TTok Tryz.func109 rfl (enter_of Tryz.func109 (by kernel_rfl) (by kernel_rfl)) (noid2 (noid_sl _ _ _) (.val _)) (.tup _ (noidF (.val _) (.val _) (.val _) (.val _))) (Nat.le_of_ble_eq_true rfl) ?_
  conv => whnf
  refine ⟨_, c0, ?_⟩
  conv => whnf
  first
    | refine caseb (fun _ => ?_) (fun h => absurd (of_decide_eq_false h) (by omega))
    | refine caseb (fun h => absurd (of_decide_eq_true h) (by omega)) (fun _ => ?_)
    | refine caseb (fun _ => ?_) (fun h => absurd (beq_eq_false_iff_ne.1 h) (by omega))
    | refine caseb (fun h => absurd (eq_of_beq h) (by omega)) (fun _ => ?_)
  conv => whnf
  refine ⟨by omega, ?_⟩
  conv => whnf
  refine ⟨_, c1, ?_⟩
  conv => whnf
  refine ⟨by rw [eK]; omega, ?_⟩
  conv => whnf
  refine ⟨_, c2, ?_⟩
  conv => whnf
  refine ⟨_, ⟨by omega, by rw [Int.toNat_natCast]; exact hg⟩, ?_⟩
  repeat
    conv => whnf
    first
      | refine ⟨_, by assumption, ?_⟩
      | refine ⟨(Nat.le_of_ble_eq_true rfl), _, by assumption, ?_⟩
      | refine ⟨by kernel_rfl, ?_⟩
      | exact rfl
      | exact ⟨Nat.le_of_ble_eq_true rfl, rfl⟩
      | refine ⟨by decide, ?_⟩
end Go.Proofs.YtbdklokfijjifaaGreat

/- The document's shapes: with an axis replaced, with an axis put in, all indices, an index's place (contracts). -/
set_option linter.unusedVariables false
namespace Go.Proofs.YtbdklokfijjifaaGreat
open Go Go.AL NM

end Go.Proofs.YtbdklokfijjifaaGreat

/- The document's shapes: an index's place, all indices (contracts). -/
set_option linter.unusedVariables false
namespace Go.Proofs.YtbdklokfijjifaaGreat
open Go Go.AL NM

/-- What is before an axis: the place so far is small. -/
def plB (s : List Int) (i : Nat) (n : Int) : Prop := 0 ≤ n ∧ n < pmI (s.take i)
end Go.Proofs.YtbdklokfijjifaaGreat

/- The document's shapes: all indices (contract). -/
set_option linter.unusedVariables false
namespace Go.Proofs.YtbdklokfijjifaaGreat
open Go Go.AL NM

def gA (D : Nat) (w : List Int) : List (List Int) := (List.range D).map fun n : Nat => w ++ [(n : Int)]
end Go.Proofs.YtbdklokfijjifaaGreat

/- An abstract program logic over tree values (part 35): ways that meet again; what stands there is weakened first. -/
set_option linter.unusedVariables false
set_option linter.unusedSimpArgs false
namespace Go.AL
open Go Go.RowKit

end Go.AL

/- Arrays: elements picked (contracts). -/
set_option linter.unusedVariables false
namespace Go.Proofs.YtbdklokfijjifaaGreat
open Go Go.AL NM

/-- An element at a place; what stands for none, where there is no such place. -/
def getX (ns : List (Option (Rat × Nat))) (k : Int) : Option (Rat × Nat) := if 0 ≤ k then ns.getD k.toNat none else none
def getT (tx : List Int) (k : Int) : Int := if 0 ≤ k then tx.getD k.toNat 32 else 32
def getQ (qs : List Rat) (k : Int) : Rat := if 0 ≤ k then qs.getD k.toNat 0 else 0
theorem getX_in {ns : List (Option (Rat × Nat))} {k : Nat} (h : k < ns.length) : getX ns (k : Int) = ns[k] := by
  unfold getX
  rw [if_pos (by omega), Int.toNat_natCast, List.getD_eq_getElem?_getD, List.getElem?_eq_getElem h]; rfl
theorem getX_out {ns : List (Option (Rat × Nat))} {k : Int} (h : k < 0 ∨ (ns.length : Int) ≤ k) : getX ns k = none := by
  unfold getX
  split
  · rw [List.getD_eq_getElem?_getD, List.getElem?_eq_none (by omega)]; rfl
  · rfl
theorem getT_in {tx : List Int} {k : Nat} (h : k < tx.length) : getT tx (k : Int) = tx[k] := by
  unfold getT
  rw [if_pos (by omega), Int.toNat_natCast, List.getD_eq_getElem?_getD, List.getElem?_eq_getElem h]; rfl
theorem getT_out {tx : List Int} {k : Int} (h : k < 0 ∨ (tx.length : Int) ≤ k) : getT tx k = 32 := by
  unfold getT
  split
  · rw [List.getD_eq_getElem?_getD, List.getElem?_eq_none (by omega)]; rfl
  · rfl
theorem getQ_in {qs : List Rat} {k : Nat} (h : k < qs.length) : getQ qs (k : Int) = qs[k] := by
  unfold getQ
  rw [if_pos (by omega), Int.toNat_natCast, List.getD_eq_getElem?_getD, List.getElem?_eq_getElem h]; rfl
theorem getQ_out {qs : List Rat} {k : Int} (h : k < 0 ∨ (qs.length : Int) ≤ k) : getQ qs k = 0 := by
  unfold getQ
  split
  · rw [List.getD_eq_getElem?_getD, List.getElem?_eq_none (by omega)]; rfl
  · rfl
theorem getX_val (ns : List (Option (Rat × Nat))) (k : Int) : valX (getX ns k) = getQ (ns.map valX) k := by
  by_cases h : k < 0 ∨ (ns.length : Int) ≤ k
  · rw [getX_out h, getQ_out (by rw [List.length_map]; exact h)]; rfl
  · obtain ⟨j, rfl⟩ := Int.eq_ofNat_of_zero_le (show 0 ≤ k by omega)
    rw [getX_in (show j < ns.length by omega), getQ_in (show j < (ns.map valX).length by rw [List.length_map]; omega), List.getElem_map]
theorem getX_ok {ns : List (Option (Rat × Nat))} (h : ∀ o ∈ ns, okX o) (k : Int) : okX (getX ns k) := by
  by_cases hk : k < 0 ∨ (ns.length : Int) ≤ k
  · rw [getX_out hk]; trivial
  · obtain ⟨j, rfl⟩ := Int.eq_ofNat_of_zero_le (show 0 ≤ k by omega)
    rw [getX_in (show j < ns.length by omega)]
    exact h _ (List.getElem_mem _)
theorem RatAny_ok (sh : List Int) (ch : Bool) (tx : List Int) (ns : List (Option (Rat × Nat))) (made : Bool) (k : Int) (hb : ns.length ≤ 1000000) : AC Tryz.prog 15 [AA sh ch tx ns made, .val (.int .i64 k)] (.pure (.agg (rowX (getX ns k)))) := by
  by_cases h : k < 0 ∨ (ns.length : Int) ≤ k
  · rw [getX_out h]
    refine AC.of_body TTok Tryz.func15 rfl (enter_of Tryz.func15 (by kernel_rfl) (by kernel_rfl)) (noid2 (AA_noid _ _ _ _ _) (.val _)) (.agg _ (rowX_noid none)) (Nat.le_of_ble_eq_true rfl) ?_
    have hlen : (ns.map rowX).length = ns.length := List.length_map _
    unfold AA
    by_cases h0 : k < 0
    · conv => whnf
      first
        | refine caseb (fun _ => ?_) (fun h => absurd (of_decide_eq_false h) (by omega))
        | refine caseb (fun h => absurd (of_decide_eq_true h) (by omega)) (fun _ => ?_)
        | refine caseb (fun _ => ?_) (fun h => absurd (beq_eq_false_iff_ne.1 h) (by omega))
        | refine caseb (fun h => absurd (eq_of_beq h) (by omega)) (fun _ => ?_)
      repeat
        conv => whnf
        first
          | refine ⟨_, by assumption, ?_⟩
          | refine ⟨(Nat.le_of_ble_eq_true rfl), _, by assumption, ?_⟩
          | refine ⟨by kernel_rfl, ?_⟩
          | exact rfl
          | exact ⟨Nat.le_of_ble_eq_true rfl, rfl⟩
          | refine ⟨by decide, ?_⟩
    · conv => whnf
      first
        | refine caseb (fun _ => ?_) (fun h => absurd (of_decide_eq_false h) (by omega))
        | refine caseb (fun h => absurd (of_decide_eq_true h) (by omega)) (fun _ => ?_)
        | refine caseb (fun _ => ?_) (fun h => absurd (beq_eq_false_iff_ne.1 h) (by omega))
        | refine caseb (fun h => absurd (eq_of_beq h) (by omega)) (fun _ => ?_)
      conv => whnf
      first
        | refine caseb (fun _ => ?_) (fun h => absurd (of_decide_eq_false h) (by omega))
        | refine caseb (fun h => absurd (of_decide_eq_true h) (by omega)) (fun _ => ?_)
        | refine caseb (fun _ => ?_) (fun h => absurd (beq_eq_false_iff_ne.1 h) (by omega))
        | refine caseb (fun h => absurd (eq_of_beq h) (by omega)) (fun _ => ?_)
      repeat
        conv => whnf
        first
          | refine ⟨_, by assumption, ?_⟩
          | refine ⟨(Nat.le_of_ble_eq_true rfl), _, by assumption, ?_⟩
          | refine ⟨by kernel_rfl, ?_⟩
          | exact rfl
          | exact ⟨Nat.le_of_ble_eq_true rfl, rfl⟩
          | refine ⟨by decide, ?_⟩
  · obtain ⟨j, rfl⟩ := Int.eq_ofNat_of_zero_le (show 0 ≤ k by omega)
    rw [getX_in (show j < ns.length by omega)]
    exact RatI_ok sh ch tx ns made j (by omega) hb
theorem rowX_eq (o : Option (Rat × Nat)) : ∃ (k : Nat) (l1 l2 : List (List AV)) (z : Bool) (b : Bool), rowX o = [.sl k l1 z, .val (.bool b), .sl k l2 z] := by
  cases o with
  | none => exact ⟨0, [], [], true, false, rfl⟩
  | some p => exact ⟨1, _, _, false, _, rfl⟩
/-- Numbers picked (the program). -/
theorem PickN_ok (sh : List Int) (tx : List Int) (ns : List (Option (Rat × Nat))) (s at_ : List Int) (hv : vS s) (hc : cntI s = (at_.length : Int)) (hb : ns.length ≤ 100000) :
    AC Tryz.prog 108 [AA sh false tx ns true, .sl 1 (irows .i64 s) false, .sl 1 (irows .i64 at_) false] (.pure (.tup [AA s false [] (at_.map (getX ns)) true, .val (.bool true)])) := by
  have l4 : at_.length ≤ 4096 := by have := vS_pr hv; omega
  have hC := Count_ok s (by have := hv.1; omega)
  rw [CNT_good hv, hc] at hC
  have hK := CloneI_ok s (by have := hv.1; omega)
  have la := irows_len .i64 at_
  obtain ⟨Y, hY⟩ : ∃ Y, Y = at_.map (getX ns) := ⟨_, rfl⟩
  have lY : Y.length = at_.length := by rw [hY, List.length_map]
  have hYi : ∀ i (h : i < at_.length), Y[i]'(by omega) = getX ns at_[i] := fun i h => by subst hY; rw [List.getElem_map]
  have hR : ∀ i (h : i < at_.length), AC Tryz.prog 15 [AA sh false tx ns true, .val (.int .i64 at_[i])] (.pure (.agg (rowX (getX ns at_[i])))) := fun i h => RatAny_ok sh false tx ns true _ (by omega)
  rw [← hY]
  refine AC.le_res (?_ : AC Tryz.prog 108 _ (.pure (.tup [.agg [.sl 1 (irows .i64 s) false, .val (.bool false), .sl 0 [] true, .sl 3 (Y.map rowX) false, .val (.bool true)], .val (.bool true)]))) (.tup2 (le_agg5 (.refl _) (.refl _) (le_nil 1) (.refl _) (.refl _)) (.refl _)) (.tup _ (noid2 (AA_noid _ _ _ _ _) (.val _)))
  refine AC.of_body TTok Tryz.func108 rfl (enter_of Tryz.func108 (by kernel_rfl) (by kernel_rfl)) (noid3 (AA_noid _ _ _ _ _) (noid_sl _ _ _) (noid_sl _ _ _)) (.tup _ (noid2 (.agg _ (noid5 (noid_sl _ _ _) (.val _) (.sl _ _ _ (fun r hr => nomatch hr)) (slX_noid _) (.val _))) (.val _))) (Nat.le_of_ble_eq_true rfl) ?_
  unfold AA at hR ⊢
  conv => whnf
  refine ⟨_, hC, ?_⟩
  conv => whnf
  first
    | refine caseb (fun h => absurd (bne_iff_ne.1 h) (by omega)) (fun _ => ?_)
    | refine caseb (fun _ => ?_) (fun h => absurd (bne_eq_false_iff_eq.1 h) (by omega))
  conv => whnf
  refine ⟨_, hK, ?_⟩
  conv => whnf
  refine ⟨by kernel_rfl, ?_⟩
  conv => whnf
  refine SW.nilC 184 3 3 rfl rfl ?_
  refine SW.loopM TTok (fun i : Nat => [(3, .lp 0 0), (6, .lp 8 0), (10, .lp 184 0), (32, .sl 1 (irows .i64 at_) false), (33, .val (.int .i64 ((irows .i64 at_).length : Nat))), (34, .val (.int .i64 (i : Int)))])
    (fun i => [(0, .cells 5 [[.sl 1 (irows .i64 sh) false, .val (.bool false), .sl 1 (irows .i32 tx) false, .sl 3 (ns.map rowX) false, .val (.bool true)]]), (8, .cells 5 [[.sl 0 [] true, .val (.bool false), .sl 0 [] true, .sl 0 [] true, .val (.bool false)]]), (184, .cells 5 [[.sl 1 (irows .i64 s) false, .val (.bool false), .sl 0 [] true, .own 224 0 i, .val (.bool true)]]), (224, .cells 3 ((Y.take i).map rowX))]) 232 77 rfl (fun i => at_.length - i) (fun i => i ≤ at_.length) 0 [] (Nat.zero_le _)
    ⟨⟨rfl, rfl⟩, ⟨rfl, rfl⟩, ⟨rfl, rfl⟩, ⟨rfl, rfl⟩, ⟨rfl, rfl⟩, ⟨rfl, rfl⟩, trivial⟩ ⟨⟨rfl, .inr ⟨rfl, rfl⟩⟩, ⟨rfl, .inr ⟨rfl, rfl⟩⟩, ⟨rfl, .inr ⟨rfl, rfl⟩⟩, ⟨rfl, .inr ⟨rfl, rfl⟩⟩, trivial⟩ rfl ?_
  intro i hJ
  have hi : i ≤ at_.length := hJ
  clear hJ
  have lr : ((Y.take i).map rowX).length = i := by rw [List.length_map, List.length_take]; omega
  by_cases hlt : i < at_.length
  · have eI : IntKind.i64.wrap ((i : Int) + 1) = ((i + 1 : Nat) : Int) := by rw [IntWalk.i64_in _ (by omega)]; omega
    have hg : (irows .i64 at_)[i]? = some [.val (.int .i64 at_[i])] := irows_get .i64 at_ (List.getElem?_eq_getElem hlt)
    have d2 := hR i hlt
    have hsn : (Y.take i).map rowX ++ [rowX (getX ns at_[i])] = (Y.take (i + 1)).map rowX := by
      rw [take_snoc (show i < Y.length by omega), List.map_append, hYi i hlt]; rfl
    have htk : List.take i (List.drop 0 ((Y.take i).map rowX)) = (Y.take i).map rowX := by rw [List.drop_zero, List.take_of_length_le (by omega)]
    obtain ⟨k, l1, l2, z, b, hrow⟩ := rowX_eq (getX ns at_[i])
    rw [hrow] at d2 hsn
    conv => whnf
    first
      | refine caseb (fun _ => ?_) (fun h => absurd (of_decide_eq_false h) (by omega))
      | refine caseb (fun h => absurd (of_decide_eq_true h) (by omega)) (fun _ => ?_)
      | refine caseb (fun _ => ?_) (fun h => absurd (beq_eq_false_iff_ne.1 h) (by omega))
      | refine caseb (fun h => absurd (eq_of_beq h) (by omega)) (fun _ => ?_)
    conv => whnf
    refine ⟨_, ⟨by omega, by rw [Int.toNat_natCast]; exact hg⟩, ?_⟩
    conv => whnf
    refine ⟨_, d2, ?_⟩
    conv => whnf
    refine ⟨⟨by show 0 + i ≤ _; omega, by show (i + 1) * 56 ≤ 140737488355328; omega, Nat.le_of_ble_eq_true rfl⟩, ?_⟩
    conv => whnf
    refine ⟨by kernel_rfl, ?_⟩
    conv => whnf
    refine ⟨i + 1, [(224, 344)], (by show at_.length - (i + 1) < at_.length - i; omega), hlt, ⟨⟨rfl, rfl⟩, ⟨rfl, rfl⟩, ⟨rfl, rfl⟩, ⟨rfl, rfl⟩, ⟨rfl, rfl⟩, ⟨valI eI, rfl⟩, trivial⟩, ⟨⟨rfl, .inr ⟨rfl, rfl⟩⟩, ⟨rfl, .inr ⟨rfl, rfl⟩⟩, ⟨rfl, .inr ⟨rfl, rfl⟩⟩, ⟨rfl, .inl ⟨celE ?_, rowsX_noid _⟩⟩, trivial⟩, rfl⟩
    rw [← hsn]
    show List.take i (List.drop 0 ((Y.take i).map rowX)) ++ [_] = _
    rw [htk]
    rfl
  · have hie : i = at_.length := by omega
    have e1 : Y.take i = Y := List.take_of_length_le (by omega)
    rw [e1] at lr ⊢
    have key : List.take i (List.drop 0 (Y.map rowX)) = Y.map rowX := by rw [List.drop_zero, List.take_of_length_le (by omega)]
    conv => whnf
    first
      | refine caseb (fun _ => ?_) (fun h => absurd (of_decide_eq_false h) (by omega))
      | refine caseb (fun h => absurd (of_decide_eq_true h) (by omega)) (fun _ => ?_)
      | refine caseb (fun _ => ?_) (fun h => absurd (beq_eq_false_iff_ne.1 h) (by omega))
      | refine caseb (fun h => absurd (eq_of_beq h) (by omega)) (fun _ => ?_)
    conv => whnf
    refine ⟨by show 0 + i ≤ _; omega, ?_⟩
    show AV.tup [AV.agg [_, _, _, AV.sl 3 (List.take i (List.drop 0 (Y.map rowX))) false, _], _] = _
    rw [key]
    rfl
/-- Characters picked (the program). -/
theorem PickT_ok (sh : List Int) (tx : List Int) (ns : List (Option (Rat × Nat))) (s at_ : List Int) (hv : vS s) (hc : cntI s = (at_.length : Int)) (hb : tx.length ≤ 100000) :
    AC Tryz.prog 108 [AA sh true tx ns true, .sl 1 (irows .i64 s) false, .sl 1 (irows .i64 at_) false] (.pure (.tup [AA s true (at_.map (getT tx)) [] true, .val (.bool true)])) := by
  have l4 : at_.length ≤ 4096 := by have := vS_pr hv; omega
  have hC := Count_ok s (by have := hv.1; omega)
  rw [CNT_good hv, hc] at hC
  have hK := CloneI_ok s (by have := hv.1; omega)
  have la := irows_len .i64 at_
  have lt := irows_len .i32 tx
  obtain ⟨Y, hY⟩ : ∃ Y, Y = at_.map (getT tx) := ⟨_, rfl⟩
  have lY : Y.length = at_.length := by rw [hY, List.length_map]
  have hYi : ∀ i (h : i < at_.length), Y[i]'(by omega) = getT tx at_[i] := fun i h => by subst hY; rw [List.getElem_map]
  rw [← hY]
  refine AC.le_res (?_ : AC Tryz.prog 108 _ (.pure (.tup [.agg [.sl 1 (irows .i64 s) false, .val (.bool true), .sl 1 (irows .i32 Y) false, .sl 0 [] true, .val (.bool true)], .val (.bool true)]))) (.tup2 (le_agg5 (.refl _) (.refl _) (.refl _) (le_nil 3) (.refl _)) (.refl _)) (.tup _ (noid2 (AA_noid _ _ _ _ _) (.val _)))
  refine AC.of_body TTok Tryz.func108 rfl (enter_of Tryz.func108 (by kernel_rfl) (by kernel_rfl)) (noid3 (AA_noid _ _ _ _ _) (noid_sl _ _ _) (noid_sl _ _ _)) (.tup _ (noid2 (.agg _ (noid5 (noid_sl _ _ _) (.val _) (noid_sl _ _ _) (.sl _ _ _ (fun r hr => nomatch hr)) (.val _))) (.val _))) (Nat.le_of_ble_eq_true rfl) ?_
  unfold AA
  conv => whnf
  refine ⟨_, hC, ?_⟩
  conv => whnf
  first
    | refine caseb (fun h => absurd (bne_iff_ne.1 h) (by omega)) (fun _ => ?_)
    | refine caseb (fun _ => ?_) (fun h => absurd (bne_eq_false_iff_eq.1 h) (by omega))
  conv => whnf
  refine ⟨_, hK, ?_⟩
  conv => whnf
  refine ⟨by kernel_rfl, ?_⟩
  conv => whnf
  refine SW.nilC 184 2 1 rfl rfl ?_
  refine SW.loopM TTok (fun i : Nat => [(3, .lp 0 0), (6, .lp 8 0), (10, .lp 184 0), (32, .sl 1 (irows .i64 at_) false), (33, .val (.int .i64 ((irows .i64 at_).length : Nat))), (34, .val (.int .i64 (i : Int)))])
    (fun i => [(0, .cells 5 [[.sl 1 (irows .i64 sh) false, .val (.bool true), .sl 1 (irows .i32 tx) false, .sl 3 (ns.map rowX) false, .val (.bool true)]]), (8, .cells 5 [[.sl 0 [] true, .val (.bool false), .sl 0 [] true, .sl 0 [] true, .val (.bool false)]]), (184, .cells 5 [[.sl 1 (irows .i64 s) false, .val (.bool true), .own 224 0 i, .sl 0 [] true, .val (.bool true)]]), (224, .cells 1 (irows .i32 (Y.take i)))]) 232 77 rfl (fun i => at_.length - i) (fun i => i ≤ at_.length) 0 [] (Nat.zero_le _)
    ⟨⟨rfl, rfl⟩, ⟨rfl, rfl⟩, ⟨rfl, rfl⟩, ⟨rfl, rfl⟩, ⟨rfl, rfl⟩, ⟨rfl, rfl⟩, trivial⟩ ⟨⟨rfl, .inr ⟨rfl, rfl⟩⟩, ⟨rfl, .inr ⟨rfl, rfl⟩⟩, ⟨rfl, .inr ⟨rfl, rfl⟩⟩, ⟨rfl, .inr ⟨rfl, rfl⟩⟩, trivial⟩ rfl ?_
  intro i hJ
  have hi : i ≤ at_.length := hJ
  clear hJ
  have lr : (irows .i32 (Y.take i)).length = i := by rw [irows_len, List.length_take]; omega
  by_cases hlt : i < at_.length
  · have eI : IntKind.i64.wrap ((i : Int) + 1) = ((i + 1 : Nat) : Int) := by rw [IntWalk.i64_in _ (by omega)]; omega
    have hg : (irows .i64 at_)[i]? = some [.val (.int .i64 at_[i])] := irows_get .i64 at_ (List.getElem?_eq_getElem hlt)
    have hsn : irows .i32 (Y.take i) ++ irows .i32 [getT tx at_[i]] = irows .i32 (Y.take (i + 1)) := by
      rw [take_snoc (show i < Y.length by omega), hYi i hlt, irows_append]
    have htk : List.take i (List.drop 0 (irows .i32 (Y.take i))) = irows .i32 (Y.take i) := by rw [List.drop_zero, List.take_of_length_le (by omega)]
    obtain ⟨k, hk⟩ : ∃ k, k = at_[i] := ⟨_, rfl⟩
    rw [← hk] at hg hsn
    by_cases h0 : k < 0
    · rw [getT_out (.inl h0)] at hsn
      conv => whnf
      first
        | refine caseb (fun _ => ?_) (fun h => absurd (of_decide_eq_false h) (by omega))
        | refine caseb (fun h => absurd (of_decide_eq_true h) (by omega)) (fun _ => ?_)
        | refine caseb (fun _ => ?_) (fun h => absurd (beq_eq_false_iff_ne.1 h) (by omega))
        | refine caseb (fun h => absurd (eq_of_beq h) (by omega)) (fun _ => ?_)
      conv => whnf
      refine ⟨_, ⟨by omega, by rw [Int.toNat_natCast]; exact hg⟩, ?_⟩
      conv => whnf
      first
        | refine caseb (fun _ => ?_) (fun h => absurd (of_decide_eq_false h) (by omega))
        | refine caseb (fun h => absurd (of_decide_eq_true h) (by omega)) (fun _ => ?_)
        | refine caseb (fun _ => ?_) (fun h => absurd (beq_eq_false_iff_ne.1 h) (by omega))
        | refine caseb (fun h => absurd (eq_of_beq h) (by omega)) (fun _ => ?_)
      conv => whnf
      refine ⟨⟨by show 0 + i ≤ _; omega, by show (i + 1) * 4 ≤ 140737488355328; omega, Nat.le_of_ble_eq_true rfl⟩, ?_⟩
      conv => whnf
      refine ⟨i + 1, [(224, 400)], (by show at_.length - (i + 1) < at_.length - i; omega), hlt, ⟨⟨rfl, rfl⟩, ⟨rfl, rfl⟩, ⟨rfl, rfl⟩, ⟨rfl, rfl⟩, ⟨rfl, rfl⟩, ⟨valI eI, rfl⟩, trivial⟩, ⟨⟨rfl, .inr ⟨rfl, rfl⟩⟩, ⟨rfl, .inr ⟨rfl, rfl⟩⟩, ⟨rfl, .inr ⟨rfl, rfl⟩⟩, ⟨rfl, .inl ⟨celE ?_, irows_noid _ _⟩⟩, trivial⟩, rfl⟩
      rw [← hsn]
      show List.take i (List.drop 0 (irows .i32 (Y.take i))) ++ [_] = _
      rw [htk]; rfl
    · by_cases h1 : (tx.length : Int) ≤ k
      · rw [getT_out (.inr h1)] at hsn
        conv => whnf
        first
          | refine caseb (fun _ => ?_) (fun h => absurd (of_decide_eq_false h) (by omega))
          | refine caseb (fun h => absurd (of_decide_eq_true h) (by omega)) (fun _ => ?_)
          | refine caseb (fun _ => ?_) (fun h => absurd (beq_eq_false_iff_ne.1 h) (by omega))
          | refine caseb (fun h => absurd (eq_of_beq h) (by omega)) (fun _ => ?_)
        conv => whnf
        refine ⟨_, ⟨by omega, by rw [Int.toNat_natCast]; exact hg⟩, ?_⟩
        conv => whnf
        first
          | refine caseb (fun _ => ?_) (fun h => absurd (of_decide_eq_false h) (by omega))
          | refine caseb (fun h => absurd (of_decide_eq_true h) (by omega)) (fun _ => ?_)
          | refine caseb (fun _ => ?_) (fun h => absurd (beq_eq_false_iff_ne.1 h) (by omega))
          | refine caseb (fun h => absurd (eq_of_beq h) (by omega)) (fun _ => ?_)
        conv => whnf
        first
          | refine caseb (fun _ => ?_) (fun h => absurd (of_decide_eq_false h) (by omega))
          | refine caseb (fun h => absurd (of_decide_eq_true h) (by omega)) (fun _ => ?_)
          | refine caseb (fun _ => ?_) (fun h => absurd (beq_eq_false_iff_ne.1 h) (by omega))
          | refine caseb (fun h => absurd (eq_of_beq h) (by omega)) (fun _ => ?_)
        conv => whnf
        refine ⟨⟨by show 0 + i ≤ _; omega, by show (i + 1) * 4 ≤ 140737488355328; omega, Nat.le_of_ble_eq_true rfl⟩, ?_⟩
        conv => whnf
        refine ⟨i + 1, [(224, 400)], (by show at_.length - (i + 1) < at_.length - i; omega), hlt, ⟨⟨rfl, rfl⟩, ⟨rfl, rfl⟩, ⟨rfl, rfl⟩, ⟨rfl, rfl⟩, ⟨rfl, rfl⟩, ⟨valI eI, rfl⟩, trivial⟩, ⟨⟨rfl, .inr ⟨rfl, rfl⟩⟩, ⟨rfl, .inr ⟨rfl, rfl⟩⟩, ⟨rfl, .inr ⟨rfl, rfl⟩⟩, ⟨rfl, .inl ⟨celE ?_, irows_noid _ _⟩⟩, trivial⟩, rfl⟩
        rw [← hsn]
        show List.take i (List.drop 0 (irows .i32 (Y.take i))) ++ [_] = _
        rw [htk]; rfl
      · obtain ⟨j, rfl⟩ := Int.eq_ofNat_of_zero_le (show 0 ≤ k by omega)
        rw [getT_in (show j < tx.length by omega)] at hsn
        have hg2 : (irows .i32 tx)[j]? = some [.val (.int .i32 tx[j])] := irows_get .i32 tx (List.getElem?_eq_getElem (by omega))
        conv => whnf
        first
          | refine caseb (fun _ => ?_) (fun h => absurd (of_decide_eq_false h) (by omega))
          | refine caseb (fun h => absurd (of_decide_eq_true h) (by omega)) (fun _ => ?_)
          | refine caseb (fun _ => ?_) (fun h => absurd (beq_eq_false_iff_ne.1 h) (by omega))
          | refine caseb (fun h => absurd (eq_of_beq h) (by omega)) (fun _ => ?_)
        conv => whnf
        refine ⟨_, ⟨by omega, by rw [Int.toNat_natCast]; exact hg⟩, ?_⟩
        conv => whnf
        first
          | refine caseb (fun _ => ?_) (fun h => absurd (of_decide_eq_false h) (by omega))
          | refine caseb (fun h => absurd (of_decide_eq_true h) (by omega)) (fun _ => ?_)
          | refine caseb (fun _ => ?_) (fun h => absurd (beq_eq_false_iff_ne.1 h) (by omega))
          | refine caseb (fun h => absurd (eq_of_beq h) (by omega)) (fun _ => ?_)
        conv => whnf
        refine ⟨_, ⟨by omega, by rw [Int.toNat_natCast]; exact hg2⟩, ?_⟩
        conv => whnf
        refine ⟨⟨by show 0 + i ≤ _; omega, by show (i + 1) * 4 ≤ 140737488355328; omega, Nat.le_of_ble_eq_true rfl⟩, ?_⟩
        conv => whnf
        refine ⟨by kernel_rfl, ?_⟩
        conv => whnf
        refine ⟨i + 1, [(224, 440)], (by show at_.length - (i + 1) < at_.length - i; omega), hlt, ⟨⟨rfl, rfl⟩, ⟨rfl, rfl⟩, ⟨rfl, rfl⟩, ⟨rfl, rfl⟩, ⟨rfl, rfl⟩, ⟨valI eI, rfl⟩, trivial⟩, ⟨⟨rfl, .inr ⟨rfl, rfl⟩⟩, ⟨rfl, .inr ⟨rfl, rfl⟩⟩, ⟨rfl, .inr ⟨rfl, rfl⟩⟩, ⟨rfl, .inl ⟨celE ?_, irows_noid _ _⟩⟩, trivial⟩, rfl⟩
        rw [← hsn]
        show List.take i (List.drop 0 (irows .i32 (Y.take i))) ++ [_] = _
        rw [htk]; rfl
  · have hie : i = at_.length := by omega
    have e1 : Y.take i = Y := List.take_of_length_le (by omega)
    rw [e1] at lr ⊢
    have key : List.take i (List.drop 0 (irows .i32 Y)) = irows .i32 Y := by rw [List.drop_zero, List.take_of_length_le (by omega)]
    conv => whnf
    first
      | refine caseb (fun _ => ?_) (fun h => absurd (of_decide_eq_false h) (by omega))
      | refine caseb (fun h => absurd (of_decide_eq_true h) (by omega)) (fun _ => ?_)
      | refine caseb (fun _ => ?_) (fun h => absurd (beq_eq_false_iff_ne.1 h) (by omega))
      | refine caseb (fun h => absurd (eq_of_beq h) (by omega)) (fun _ => ?_)
    conv => whnf
    refine ⟨by show 0 + i ≤ _; omega, ?_⟩
    show AV.tup [AV.agg [_, _, AV.sl 1 (List.take i (List.drop 0 (irows .i32 Y))) false, _, _], _] = _
    rw [key]
    rfl
end Go.Proofs.YtbdklokfijjifaaGreat

/- Arrays: elements picked (the document's contracts). -/
set_option linter.unusedVariables false
namespace Go.Proofs.YtbdklokfijjifaaGreat
open Go Go.AL NM

end Go.Proofs.YtbdklokfijjifaaGreat

/- Arrays laid side by side (plain laws). -/
set_option linter.unusedVariables false
namespace Go.Proofs.YtbdklokfijjifaaGreat
open Go Go.AL NM

/-- An array made ready to be laid along an axis: its shape, whether it is one for all, the error. -/
def fitJ (sh s : List Int) (k : Nat) : List Int × Bool × Int :=
  if sh = [] then (s.set k 1, true, 0)
  else if (if sh.length + 1 = s.length then sh.take k ++ 1 :: sh.drop k else sh).length ≠ s.length then ([], false, 23)
  else if (if sh.length + 1 = s.length then sh.take k ++ 1 :: sh.drop k else sh).take k ++ (if sh.length + 1 = s.length then sh.take k ++ 1 :: sh.drop k else sh).drop (k + 1) ≠ s.take k ++ s.drop (k + 1) then ([], false, 24)
  else ((if sh.length + 1 = s.length then sh.take k ++ 1 :: sh.drop k else sh), false, 0)
/-- The place of an element of two arrays laid side by side: n, m how many along the axis, I how many behind it. -/
def atJ (n m I la : Nat) (one two : Bool) (i : Nat) : Int :=
  if i / I % (n + m) < n then (if one then 0 else ((((i / I / (n + m)) * n + i / I % (n + m)) * I + i % I : Nat) : Int))
  else (if two then (la : Int) else ((la + ((i / I / (n + m)) * m + (i / I % (n + m) - n)) * I + i % I : Nat) : Int))
/-- What an index of the two comes to. -/
def docJ (n : Nat) (x y : List Int) (la : Nat) (one two : Bool) (k : Nat) (idx : List Int) : Int :=
  if idx.getD k 0 < (n : Int) then (if one then 0 else plS 0 x idx) else (la : Int) + (if two then 0 else plS 0 y (idx.set k (idx.getD k 0 - (n : Int))))
end Go.Proofs.YtbdklokfijjifaaGreat

/- Arrays: two of one kind; the elements of two (contracts). -/
set_option linter.unusedVariables false
namespace Go.Proofs.YtbdklokfijjifaaGreat
open Go Go.AL NM

theorem CloneQ_freshA (l : List (Option (Rat × Nat))) (hb : l.length ≤ 1000000) : AC Tryz.prog 44 [.sl 3 (l.map rowX) false] (.fresh 3 (l.map rowX)) := by
  by_cases hne : l = []
  · subst hne
    refine AC.of_sw TTok Tryz.func44 rfl (enter_of Tryz.func44 (by kernel_rfl) (by kernel_rfl)) (noid1 (slX_noid _)) (rowsX_noid _) (Nat.le_of_ble_eq_true rfl) ?_
    refine SW.seqA TTok ?_
    conv => whnf
    refine SW.seq (SW.seq ?_)
    refine SW.regionNil (sz := 3) (rows := ([] : List (Option (Rat × Nat))).map rowX) (tight := false) TTok _ rfl rfl rfl rfl (show Tryz.prog.underlying 30 = some (.slice 45) by kernel_rfl) ?_
    conv => whnf
    refine ⟨rfl, rfl, by decide, fun bv hbv => ?_⟩
    conv => whnf
    cases bv with
    | true =>
      refine SW.cond (t := true) rfl (fun _ => ?_) (fun h => Bool.noConfusion h)
      refine SW.seqA TTok ?_
      conv => whnf
      refine SW.nil 2 3 rfl ?_
      refine SW.ret ?_
      exact ⟨rfl, Nat.le_refl _, rfl⟩
    | false =>
      refine SW.cond (t := false) rfl (fun h => Bool.noConfusion h) (fun _ => ?_)
      refine axp_sound TTok _ _ _ ?_
      conv => whnf
      refine axp_sound TTok _ _ _ ?_
      conv => whnf
      refine ⟨⟨Nat.le_refl _, by show 0 * 56 ≤ 140737488355328; decide⟩, ?_⟩
      conv => whnf
      exact ⟨rfl, Nat.le_refl _, rfl⟩
  · exact CloneQ_fresh l hne hb
section
variable (sh : List Int) (ch : Bool) (tx : List Int) (ns : List (Option (Rat × Nat)))
theorem Rats_freshA (h : ns.length ≤ 1000000) : AC Tryz.prog 114 [AA sh ch tx ns true] (.fresh 3 (ns.map rowX)) := by
  have hC := CloneQ_freshA ns h
  refine AC.of_body TTok Tryz.func114 rfl (enter_of Tryz.func114 (by kernel_rfl) (by kernel_rfl)) (noid1 (AA_noid _ _ _ _ _)) (rowsX_noid _) (Nat.le_of_ble_eq_true rfl) ?_
  unfold AA
  conv => whnf
  refine ⟨_, hC, ?_⟩
  conv => whnf
  refine ⟨rfl, by show 0 + _ ≤ _; omega, ?_⟩
  show (ns.map rowX).take (ns.map rowX).length = _
  rw [List.take_length]
end
theorem vS_single (n : Nat) (h : n ≤ 4096) : vS [(n : Int)] ∧ cntI [(n : Int)] = (n : Int) := by
  have hv : vS [(n : Int)] := ⟨by show 1 ≤ 8; omega, fun d hd => by rw [List.mem_singleton.1 hd]; omega, by show 1 * max 1 (n : Int) ≤ 4096; omega⟩
  refine ⟨hv, ?_⟩
  rw [cnt_pr hv.2.1]
  show (((n : Int).toNat * 1 : Nat) : Int) = _
  omega
end Go.Proofs.YtbdklokfijjifaaGreat

/- Arrays brought together along an axis: what comes of it (plain laws). -/
set_option linter.unusedVariables false
namespace Go.Proofs.YtbdklokfijjifaaGreat
open Go Go.AL NM

/-- An element: its kind, its sign, its number. -/
abbrev El := Bool × Int × Rat
def numE (q : Rat) : El := (false, 0, q)
def pairE (c most : Int) (x y : El) : Rat × Int := pairV c x.1 y.1 x.2.1 y.2.1 x.2.2 y.2.2 most
/-- Elements brought together, from the last one on; the error. -/
def foldE (c most : Int) : List El → El × Int
  | [] => (numE 0, 0)
  | x :: l => match l with
    | [] => (x, 0)
    | _ :: _ => if (foldE c most l).2 ≠ 0 then (numE 0, (foldE c most l).2)
      else if (pairE c most x (foldE c most l).1).2 ≠ 0 then (numE 0, (pairE c most x (foldE c most l).1).2) else (numE (pairE c most x (foldE c most l).1).1, 0)
theorem foldE_one (c most : Int) (x : El) : foldE c most [x] = (x, 0) := by unfold foldE; rfl
theorem foldE_cons (c most : Int) (x : El) {l : List El} (hl : l ≠ []) : foldE c most (x :: l) = if (foldE c most l).2 ≠ 0 then (numE 0, (foldE c most l).2)
      else if (pairE c most x (foldE c most l).1).2 ≠ 0 then (numE 0, (pairE c most x (foldE c most l).1).2) else (numE (pairE c most x (foldE c most l).1).1, 0) := by
  cases l with
  | nil => exact absurd rfl hl
  | cons y l => rw [foldE]
/-- A list's element. -/
def elA (c : Bool) (tx : List Int) (qs : List Rat) (i : Nat) : El := (c, tx.getD i 0, qs.getD i 0)
/-- The first t elements along an axis (n of them, I elements behind it) at row r. -/
def lineE (c : Bool) (tx : List Int) (qs : List Rat) (t n I r : Nat) : List El := (List.range t).map fun i => elA c tx qs ((r / I * n + i) * I + r % I)
theorem lineE_len (c : Bool) (tx : List Int) (qs : List Rat) (t n I r : Nat) : (lineE c tx qs t n I r).length = t := by unfold lineE; rw [List.length_map, List.length_range]
/-- The first error (0: none). -/
def fst0 : List Int → Int
  | [] => 0
  | e :: l => if e ≠ 0 then e else fst0 l
/-- The error of all rows from a place along the axis on. -/
def rowsE (c most : Int) (L : List (List El)) (i : Nat) : Int := fst0 (L.map fun l => (foldE c most (l.drop i)).2)
/-- The first error: from the end on, place by place, row by row. -/
def redE (c most : Int) (L : List (List El)) (n : Nat) : Int := fst0 ((List.range (n - 1)).reverse.map (rowsE c most L))
theorem fst0_zero {l : List Int} (h : fst0 l = 0) : ∀ e ∈ l, e = 0 := by
  induction l with
  | nil => intro e he; exact nomatch he
  | cons a l ih =>
    unfold fst0 at h
    by_cases ha : a ≠ 0
    · rw [if_pos ha] at h; exact absurd h ha
    · rw [if_neg ha] at h
      intro e he
      rcases List.mem_cons.1 he with rfl | he
      · exact Decidable.byContradiction ha
      · exact ih h e he
theorem fst0_of {l : List Int} (h : ∀ e ∈ l, e = 0) : fst0 l = 0 := by
  induction l with
  | nil => rfl
  | cons a l ih =>
    unfold fst0
    rw [if_neg (fun ha => ha (h a List.mem_cons_self))]
    exact ih fun e he => h e (List.mem_cons_of_mem _ he)
theorem fst0_at {l : List Int} {i : Nat} (hi : i < l.length) (hz : ∀ e ∈ l.take i, e = 0) (hne : l[i] ≠ 0) : fst0 l = l[i] := by
  induction l generalizing i with
  | nil => exact absurd hi (Nat.not_lt_zero _)
  | cons a l ih =>
    unfold fst0
    cases i with
    | zero => rw [if_pos (by exact hne)]; rfl
    | succ i =>
      have ha : a = 0 := hz a (by simp)
      rw [if_neg (fun h => h ha)]
      exact ih (by simpa using hi) (fun e he => hz e (by simp [he])) (by simpa using hne)
/-- What a function makes of nothing. -/
def unitQ (c : Int) : Option Int :=
  if c = 43 ∨ c = 45 ∨ c = 124 ∨ c = 60 ∨ c = 62 ∨ c = 8800 ∨ c = 8744 then some 0
  else if c = 215 ∨ c = 247 ∨ c = 42 ∨ c = 33 ∨ c = 8804 ∨ c = 61 ∨ c = 8805 ∨ c = 8743 then some 1 else none
/-- The first error goes on place by place. -/
theorem redE_from (c most : Int) (L : List (List El)) (n i : Nat) (hi : i + 1 < n) (hz : ∀ j, i < j → j < n → rowsE c most L j = 0) (hne : rowsE c most L i ≠ 0) : redE c most L n = rowsE c most L i := by
  have key : (List.range (n - 1)).reverse[n - 2 - i]? = some i := by
    rw [List.getElem?_reverse (by rw [List.length_range]; omega), List.length_range, List.getElem?_range (by omega)]
    congr 1; omega
  have hlen : n - 2 - i < ((List.range (n - 1)).reverse.map (rowsE c most L)).length := by rw [List.length_map, List.length_reverse, List.length_range]; omega
  have hat : ((List.range (n - 1)).reverse.map (rowsE c most L))[n - 2 - i] = rowsE c most L i := by
    have : ((List.range (n - 1)).reverse.map (rowsE c most L))[n - 2 - i]? = some (rowsE c most L i) := by rw [List.getElem?_map, key]; rfl
    rw [List.getElem?_eq_getElem hlen] at this
    exact Option.some.inj this
  unfold redE
  rw [fst0_at hlen (fun e he => ?_) (by rw [hat]; exact hne), hat]
  rw [← List.map_take] at he
  obtain ⟨j, hj, rfl⟩ := List.mem_map.1 he
  obtain ⟨k, hk, hkj⟩ := List.getElem_of_mem hj
  rw [List.length_take, List.length_reverse, List.length_range] at hk
  rw [List.getElem_take, List.getElem_reverse, List.getElem_range, List.length_range] at hkj
  exact hz j (by omega) (by omega)
theorem redE_zero (c most : Int) (L : List (List El)) (n : Nat) (hz : ∀ j, j + 1 < n → rowsE c most L j = 0) : redE c most L n = 0 := by
  refine fst0_of fun e he => ?_
  obtain ⟨j, hj, rfl⟩ := List.mem_map.1 he
  have := List.mem_range.1 (List.mem_reverse.1 hj)
  exact hz j (by omega)
theorem firstE_fst0 (l : List (Rat × Int)) : firstE l = fst0 (l.map (·.2)) := by
  induction l with
  | nil => rfl
  | cons x l ih =>
    show (if x.2 = 0 then firstE l else x.2) = (if x.2 ≠ 0 then x.2 else fst0 (l.map (·.2)))
    by_cases h : x.2 = 0
    · rw [if_pos h, if_neg (fun h' => h' h), ih]
    · rw [if_neg h, if_pos h]
theorem lineE_drop (c : Bool) (tx : List Int) (qs : List Rat) (t n I r i : Nat) (hi : i < t) : (lineE c tx qs t n I r).drop i = elA c tx qs ((r / I * n + i) * I + r % I) :: (lineE c tx qs t n I r).drop (i + 1) := by
  have hlen : i < (lineE c tx qs t n I r).length := by rw [lineE_len]; exact hi
  rw [List.drop_eq_getElem_cons hlen]
  congr 1
  have h : (lineE c tx qs t n I r)[i]? = some (elA c tx qs ((r / I * n + i) * I + r % I)) := by
    unfold lineE
    rw [List.getElem?_map, List.getElem?_range hi]; rfl
  rw [List.getElem?_eq_getElem hlen] at h
  exact Option.some.inj h
theorem lineE_last (c most : Int) (ch : Bool) (tx : List Int) (qs : List Rat) (t n I r : Nat) (hn : 0 < t) : foldE c most ((lineE ch tx qs t n I r).drop (t - 1)) = (elA ch tx qs ((r / I * n + (t - 1)) * I + r % I), 0) := by
  rw [lineE_drop _ _ _ _ _ _ _ _ (by omega), show (lineE ch tx qs t n I r).drop (t - 1 + 1) = [] from List.drop_of_length_le (by rw [lineE_len]; omega), foldE_one]
theorem drop_ne {α : Type} {l : List α} {i : Nat} (h : i < l.length) : l.drop i ≠ [] := fun e => by
  have := congrArg List.length e
  rw [List.length_drop, List.length_nil] at this
  omega
/-- The rows. -/
def rowsL (c : Bool) (tx : List Int) (qs : List Rat) (t n I R : Nat) : List (List El) := (List.range R).map (lineE c tx qs t n I)
theorem rows_step (c most : Int) (ch : Bool) (tx : List Int) (qs : List Rat) (t n I R i : Nat) (hi : i + 1 < t) (hz : rowsE c most (rowsL ch tx qs t n I R) (i + 1) = 0) :
    rowsE c most (rowsL ch tx qs t n I R) i = firstE ((List.range R).map fun r => pairE c most (elA ch tx qs ((r / I * n + i) * I + r % I)) (foldE c most ((lineE ch tx qs t n I r).drop (i + 1))).1) ∧
    (rowsE c most (rowsL ch tx qs t n I R) i = 0 → ∀ r, r < R → (foldE c most ((lineE ch tx qs t n I r).drop i)) = (numE (pairE c most (elA ch tx qs ((r / I * n + i) * I + r % I)) (foldE c most ((lineE ch tx qs t n I r).drop (i + 1))).1).1, 0)) := by
  have hz' : ∀ r, r < R → (foldE c most ((lineE ch tx qs t n I r).drop (i + 1))).2 = 0 := fun r hr => by
    refine fst0_zero hz _ ?_
    unfold rowsL
    rw [List.map_map]
    exact List.mem_map.2 ⟨r, List.mem_range.2 hr, rfl⟩
  have hst : ∀ r, r < R → foldE c most ((lineE ch tx qs t n I r).drop i) = if (pairE c most (elA ch tx qs ((r / I * n + i) * I + r % I)) (foldE c most ((lineE ch tx qs t n I r).drop (i + 1))).1).2 ≠ 0 then (numE 0, (pairE c most (elA ch tx qs ((r / I * n + i) * I + r % I)) (foldE c most ((lineE ch tx qs t n I r).drop (i + 1))).1).2) else (numE (pairE c most (elA ch tx qs ((r / I * n + i) * I + r % I)) (foldE c most ((lineE ch tx qs t n I r).drop (i + 1))).1).1, 0) := fun r hr => by
    rw [lineE_drop _ _ _ _ _ _ _ _ (by omega), foldE_cons _ _ _ (drop_ne (by rw [lineE_len]; omega)), if_neg (fun h => h (hz' r hr))]
  have hE : rowsE c most (rowsL ch tx qs t n I R) i = firstE ((List.range R).map fun r => pairE c most (elA ch tx qs ((r / I * n + i) * I + r % I)) (foldE c most ((lineE ch tx qs t n I r).drop (i + 1))).1) := by
    rw [firstE_fst0]
    unfold rowsE rowsL
    rw [List.map_map, List.map_map]
    congr 1
    refine List.map_congr_left fun r hr => ?_
    have hr := List.mem_range.1 hr
    show (foldE c most ((lineE ch tx qs t n I r).drop i)).2 = (pairE c most (elA ch tx qs ((r / I * n + i) * I + r % I)) (foldE c most ((lineE ch tx qs t n I r).drop (i + 1))).1).2
    rw [hst r hr]
    split
    · rfl
    · rename_i h; exact (Decidable.byContradiction h).symm
  refine ⟨hE, fun h0 r hr => ?_⟩
  rw [hE, firstE_fst0] at h0
  have := fst0_zero h0 _ (List.mem_map.2 ⟨_, List.mem_map.2 ⟨r, List.mem_range.2 hr, rfl⟩, rfl⟩)
  rw [hst r hr, if_neg (fun h => h this)]
theorem rows_last (c most : Int) (ch : Bool) (tx : List Int) (qs : List Rat) (t n I R : Nat) (hn : 0 < t) : rowsE c most (rowsL ch tx qs t n I R) (t - 1) = 0 := by
  refine fst0_of fun e he => ?_
  unfold rowsL at he
  rw [List.map_map] at he
  obtain ⟨r, _, rfl⟩ := List.mem_map.1 he
  show (foldE c most ((lineE ch tx qs t n I r).drop (t - 1))).2 = 0
  rw [lineE_last _ _ _ _ _ _ _ _ _ hn]
theorem two_szm {c : Int} {p q : Rat} {most : Int} (hm : most ≤ 20) (h : (twoQ c p q most).2 = 0) : Sz (twoQ c p q most).1 20 := by
  unfold twoQ at *
  by_cases h1 : isCmp c
  · rw [if_pos h1]; exact (tq_sz _).mono (by decide)
  · rw [if_neg h1] at h ⊢
    by_cases h2 : isJdg c
    · rw [if_pos h2]
      unfold judgeQ
      split
      · exact (tq_sz _).mono (by decide)
      · exact Sz_zero.mono (by decide)
    · rw [if_neg h2] at h ⊢
      by_cases h3 : ¬ isRec c
      · rw [if_pos h3]; exact Sz_zero.mono (by decide)
      · rw [if_neg h3] at h ⊢
        by_cases h4 : (reckonQ c p q most).2 ≠ 0
        · rw [if_pos h4] at h; exact absurd h h4
        · rw [if_neg h4] at h ⊢
          by_cases h5 : most < (qLimbs (reckonQ c p q most).1.num (reckonQ c p q most).1.den : Nat)
          · rw [if_pos h5] at h; exact absurd h (by show ¬ (26 : Int) = 0; decide)
          · rw [if_neg h5]
            unfold qLimbs at h5
            exact ⟨by show (limbs (reckonQ c p q most).1.num.natAbs).length ≤ 20; omega, by show (limbs (reckonQ c p q most).1.den).length ≤ 20; omega⟩
theorem pair_szm {c most : Int} (hm : most ≤ 20) {x y : El} (h : (pairE c most x y).2 = 0) : Sz (pairE c most x y).1 20 := by
  unfold pairE pairV at *
  split
  · split
    · show Sz (if _ then 1 else 0) 20
      split
      · exact Sz_one.mono (by decide)
      · exact Sz_zero.mono (by decide)
    · exact Sz_zero.mono (by decide)
  · rename_i h1
    rw [if_neg h1] at h
    exact two_szm hm h
/-- The places of a part of an array. -/
def slabL (n I R i : Nat) : List Int := (List.range R).map fun r => (((r / I * n + i) * I + r % I : Nat) : Int)
theorem slabL_len (n I R i : Nat) : (slabL n I R i).length = R := by unfold slabL; rw [List.length_map, List.length_range]
theorem getT_nat (tx : List Int) {k : Nat} (h : k < tx.length) : getT tx (k : Int) = tx.getD k 0 := by
  rw [getT_in h, List.getD_eq_getElem?_getD, List.getElem?_eq_getElem h]; rfl
theorem getQ_nat (qs : List Rat) (k : Nat) : getQ qs (k : Int) = qs.getD k 0 := by
  unfold getQ
  rw [if_pos (by omega), Int.toNat_natCast]
theorem getD_map_slab {β : Type} (f : Int → β) (d : β) (n I R i r : Nat) (hr : r < R) : ((slabL n I R i).map f).getD r d = f (((r / I * n + i) * I + r % I : Nat) : Int) := by
  unfold slabL
  rw [List.getD_eq_getElem?_getD, List.getElem?_map, List.getElem?_map, List.getElem?_range hr]
  rfl
theorem el_slab {c : Bool} {tx : List Int} {qs : List Rat} {n I R i r : Nat} (hr : r < R) (hc : c = true → qs = [] ∧ (r / I * n + i) * I + r % I < tx.length) (hn : c = false → tx = []) :
    elA c (if c then (slabL n I R i).map (getT tx) else []) (if c then [] else (slabL n I R i).map (getQ qs)) r = elA c tx qs ((r / I * n + i) * I + r % I) := by
  cases c
  · have := hn rfl
    subst this
    unfold elA
    rw [if_neg Bool.false_ne_true, if_neg Bool.false_ne_true, getD_map_slab _ _ _ _ _ _ _ hr, getQ_nat]
    rfl
  · obtain ⟨h1, h2⟩ := hc rfl
    subst h1
    unfold elA
    rw [if_pos rfl, if_pos rfl, getD_map_slab _ _ _ _ _ _ _ hr, getT_nat _ h2]
    rfl
/-- A place along an axis is one of the array. -/
theorem place_lt {O I n r i : Nat} (hr : r < O * I) (hi : i < n) : (r / I * n + i) * I + r % I < O * (n * I) := by
  have hI : 0 < I := Nat.pos_of_ne_zero fun e => by rw [e] at hr; omega
  have h1 : r / I < O := Nat.div_lt_of_lt_mul (by rw [Nat.mul_comm]; exact hr)
  have h2 : r % I < I := Nat.mod_lt _ hI
  have h3 : r / I * n + i + 1 ≤ O * n := by
    have : (r / I + 1) * n ≤ O * n := Nat.mul_le_mul_right _ h1
    rw [Nat.add_mul, Nat.one_mul] at this
    omega
  have h4 : (r / I * n + i + 1) * I ≤ O * n * I := Nat.mul_le_mul_right _ h3
  rw [Nat.add_mul (r / I * n + i) 1 I, Nat.one_mul, Nat.mul_assoc O] at h4
  omega
end Go.Proofs.YtbdklokfijjifaaGreat

/- Arrays brought together along an axis: parts (the program's contracts). -/
set_option linter.unusedVariables false
namespace Go.Proofs.YtbdklokfijjifaaGreat
open Go Go.AL NM

theorem wrap_nat' (a : Nat) (h : a < 9223372036854775808) : IntKind.i64.wrap (a : Int) = (a : Int) := IntWalk.i64_in _ (by omega)
theorem place_wrap (o n K I j q : Nat) (h1 : o * n + K ≤ q) (h2 : q * I + j ≤ 5000) (hI : 0 < I) :
    IntKind.i64.wrap (IntKind.i64.wrap (IntKind.i64.wrap (IntKind.i64.wrap ((o : Int) * (n : Int)) + (K : Int)) * (I : Int)) + (j : Int)) = (((o * n + K) * I + j : Nat) : Int) := by
  have a1 : (o * n + K) * I ≤ q * I := Nat.mul_le_mul_right _ h1
  have a2 : q ≤ q * I := Nat.le_mul_of_pos_right _ hI
  rw [← Int.natCast_mul, wrap_nat' _ (by omega), ← Int.natCast_add, wrap_nat' _ (by omega), ← Int.natCast_mul, wrap_nat' _ (by omega), ← Int.natCast_add, wrap_nat' _ (by omega)]
/-- A shape around an axis. -/
theorem axis_split {s : List Int} {k : Nat} (hk : k < s.length) (hv : vS s) : ∃ n : Nat, s[k] = (n : Int) ∧ s = s.take k ++ (n : Int) :: s.drop (k + 1) ∧ vS (s.take k ++ s.drop (k + 1)) ∧ pr s = pr (s.take k) * (n * pr (s.drop (k + 1))) ∧ pr (s.take k ++ s.drop (k + 1)) = pr (s.take k) * pr (s.drop (k + 1)) ∧ pr s ≤ 4096 ∧ pr (s.take k) * pr (s.drop (k + 1)) ≤ 4096 ∧ vS (s.take k) ∧ vS (s.drop (k + 1)) := by
  have h0 := hv.2.1 _ (List.getElem_mem hk)
  have hs := mid_split hk
  have hn : s[k] = (s[k].toNat : Int) := (Int.toNat_of_nonneg h0).symm
  have hv' := hv
  rw [hs] at hv'
  have hr : vS (s.take k ++ s.drop (k + 1)) := by
    rw [vS_mid] at hv'
    rw [vS_app]
    obtain ⟨a1, a2, a3, a4, a5⟩ := hv'
    refine ⟨by omega, a2, a4, ?_⟩
    have e0 := pm_pos (s.take k)
    have e1 : pmI (s.drop (k + 1)) ≤ max 1 s[k] * pmI (s.drop (k + 1)) := by
      have e2 := pm_pos (s.drop (k + 1))
      have : 1 * pmI (s.drop (k + 1)) ≤ max 1 s[k] * pmI (s.drop (k + 1)) := Int.mul_le_mul_of_nonneg_right (by omega) (by omega)
      rw [Int.one_mul] at this
      exact this
    have e3 : pmI (s.take k) * pmI (s.drop (k + 1)) ≤ pmI (s.take k) * (max 1 s[k] * pmI (s.drop (k + 1))) := Int.mul_le_mul_of_nonneg_left e1 (by omega)
    omega
  have hp : pr s = pr (s.take k) * (s[k].toNat * pr (s.drop (k + 1))) := by
    conv => lhs; rw [hs]
    rw [pr_append]
    rfl
  have hpr : pr (s.take k ++ s.drop (k + 1)) = pr (s.take k) * pr (s.drop (k + 1)) := pr_append _ _
  refine ⟨s[k].toNat, hn, by rw [← hn]; exact hs, hr, hp, hpr, (vS_pr hv).2, by rw [← hpr]; exact (vS_pr hr).2, (vS_parts hr).1, (vS_parts hr).2⟩
theorem kinds_c {s : List Int} {c : Bool} {a b : Nat} (hv : vS s) (h : kinds s c a b) : (c = true → a = pr s ∧ b = 0) ∧ (c = false → b = pr s ∧ a = 0) := by
  have hc := (vS_pr hv).1
  unfold kinds at h
  rw [hc] at h
  cases c
  · exact ⟨fun h => Bool.noConfusion h, fun _ => ⟨by have := h.1; omega, h.2⟩⟩
  · exact ⟨fun _ => ⟨by have := h.1; omega, h.2⟩, fun h => Bool.noConfusion h⟩
set_option maxRecDepth 20000 in
theorem slab_ok (s : List Int) (k : Nat) (c : Bool) (tx : List Int) (na : List (Option (Rat × Nat))) (hk : k < s.length) (hv : vS s) (ka : kinds s c tx.length na.length) (n : Nat) (hn : s[k] = (n : Int)) (i : Nat) (hi : i < n) :
    AC Tryz.prog 90 [AA s c tx na true, .val (.int .i64 (k : Int)), .val (.int .i64 (i : Int))] (.pure (AA (s.take k ++ s.drop (k + 1)) c
      (if c then (slabL n (pr (s.drop (k + 1))) (pr (s.take k) * pr (s.drop (k + 1))) i).map (getT tx) else [])
      (if c then [] else (slabL n (pr (s.drop (k + 1))) (pr (s.take k) * pr (s.drop (k + 1))) i).map (getX na)) true)) := by
  have h8 := hv.1
  obtain ⟨n', hn', _, hr, hp, hpr, p4, r4, vu, vv⟩ := axis_split hk hv
  have : n' = n := by rw [hn] at hn'; omega
  subst this
  have hS := Shape_ok s c tx na (by omega)
  have hSp := Split_ok s k hk hv
  rw [hn] at hSp
  have hWo := Without_ok s k hk (by omega)
  have l2 := (kinds_c hv ka)
  have ltx : tx.length ≤ 4096 ∧ na.length ≤ 4096 := by
    cases c
    · have := l2.2 rfl; omega
    · have := l2.1 rfl; omega
  obtain ⟨O, hO⟩ : ∃ O, O = pr (s.take k) := ⟨_, rfl⟩
  obtain ⟨I, hI⟩ : ∃ I, I = pr (s.drop (k + 1)) := ⟨_, rfl⟩
  rw [← hO, ← hI] at hp hpr r4 hSp ⊢
  rw [hp] at p4
  obtain ⟨rest, hrest⟩ : ∃ rest, rest = s.take k ++ s.drop (k + 1) := ⟨_, rfl⟩
  rw [← hrest] at hr hpr hWo ⊢
  have lO : O ≤ 4096 := by rw [hO]; exact (vS_pr vu).2
  have lI : I ≤ 4096 := by rw [hI]; exact (vS_pr vv).2
  have ln : n' ≤ 4096 := by have := vS_dim hv (List.getElem_mem hk); omega
  obtain ⟨Y, hY⟩ : ∃ Y, Y = slabL n' I (O * I) i := ⟨_, rfl⟩
  rw [← hY]
  have lY : Y.length = O * I := by rw [hY]; exact slabL_len _ _ _ _
  have hYr : ∀ r (h : r < O * I), Y[r]'(by omega) = (((r / I * n' + i) * I + r % I : Nat) : Int) := fun r h => by subst hY; unfold slabL; rw [List.getElem_map, List.getElem_range]
  have hc1 : cntI rest = (Y.length : Int) := by rw [(vS_pr hr).1, hpr, lY]
  have lYr := irows_len .i64 Y
  have hP : AC Tryz.prog 108 [AA s c tx na true, .sl 1 (irows .i64 rest) false, .sl 1 (irows .i64 Y) false] (.pure (.tup [AA rest c (if c then Y.map (getT tx) else []) (if c then [] else Y.map (getX na)) true, .val (.bool true)])) := by
    cases c
    · exact PickN_ok s tx na rest Y hr hc1 (by omega)
    · exact PickT_ok s tx na rest Y hr hc1 (by omega)
  have eP : irows .i64 Y = List.take (O * I) (List.drop 0 (irows .i64 Y)) := by rw [List.drop_zero, List.take_of_length_le (by omega)]
  rw [eP] at hP
  have eOI : IntKind.i64.wrap ((O : Int) * (I : Int)) = ((O * I : Nat) : Int) := by rw [← Int.natCast_mul, wrap_nat' _ (by omega)]
  refine AC.of_body TTok Tryz.func90 rfl (enter_of Tryz.func90 (by kernel_rfl) (by kernel_rfl)) (noid3 (AA_noid _ _ _ _ _) (.val _) (.val _)) (AA_noid _ _ _ _ _) (Nat.le_of_ble_eq_true rfl) ?_
  unfold AA at *
  conv => whnf
  refine ⟨_, hS, ?_⟩
  conv => whnf
  refine ⟨_, hSp, ?_⟩
  conv => whnf
  refine ⟨⟨by decide, by rw [eOI]; omega, by rw [eOI]; show ((O * I : Nat) : Int) * ((8 : Nat) : Int) ≤ 140737488355328; omega⟩, ?_⟩
  conv => whnf
  refine SW.loopM TTok (fun o : Nat => [(1, .val (.int .i64 (k : Int))), (2, .val (.int .i64 (i : Int))), (3, .lp 0 0), (6, .lp 8 0), (7, .sl 1 (irows .i64 s) false), (9, .val (.int .i64 (n' : Int))), (10, .val (.int .i64 (I : Int))), (12, .own 160 0 (o * I)), (31, .val (.int .i64 (O : Int))), (32, .val (.int .i64 (o : Int)))])
    (fun o => [(0, .cells 5 [[.sl 1 (irows .i64 s) false, .val (.bool c), .sl 1 (irows .i32 tx) false, .sl 3 (na.map rowX) false, .val (.bool true)]]), (8, .cells 5 [[.sl 0 [] true, .val (.bool false), .sl 0 [] true, .sl 0 [] true, .val (.bool false)]]), (160, .cells 1 (irows .i64 (Y.take (o * I))))]) 192 63 rfl (fun o => O - o) (fun o => o ≤ O) 0 [] (Nat.zero_le _)
    ⟨⟨rfl, rfl⟩, ⟨rfl, rfl⟩, ⟨rfl, rfl⟩, ⟨rfl, rfl⟩, ⟨rfl, rfl⟩, ⟨rfl, rfl⟩, ⟨rfl, rfl⟩, ⟨ownE rfl (Nat.zero_mul I).symm, rfl⟩, ⟨rfl, rfl⟩, ⟨rfl, rfl⟩, trivial⟩ ⟨⟨rfl, .inr ⟨rfl, rfl⟩⟩, ⟨rfl, .inr ⟨rfl, rfl⟩⟩, ⟨rfl, .inl ⟨celE (by rw [Nat.zero_mul]; rfl), irows_noid _ _⟩⟩, trivial⟩ rfl ?_
  intro o hJ
  have ho : o ≤ O := hJ
  clear hJ
  by_cases hlt : o < O
  · have eO : IntKind.i64.wrap ((o : Int) + 1) = ((o + 1 : Nat) : Int) := by rw [IntWalk.i64_in _ (by omega)]; omega
    conv => whnf
    first
      | refine caseb (fun _ => ?_) (fun h => absurd (of_decide_eq_false h) (by omega))
      | refine caseb (fun h => absurd (of_decide_eq_true h) (by omega)) (fun _ => ?_)
      | refine caseb (fun _ => ?_) (fun h => absurd (beq_eq_false_iff_ne.1 h) (by omega))
      | refine caseb (fun h => absurd (eq_of_beq h) (by omega)) (fun _ => ?_)
    conv => whnf
    refine SW.loopM TTok (fun j : Nat => [(1, .val (.int .i64 (k : Int))), (2, .val (.int .i64 (i : Int))), (3, .lp 0 0), (6, .lp 8 0), (7, .sl 1 (irows .i64 s) false), (9, .val (.int .i64 (n' : Int))), (10, .val (.int .i64 (I : Int))), (12, .own 160 0 (o * I + j)), (13, .val (.int .i64 (o : Int))), (31, .val (.int .i64 (O : Int))), (32, .val (.int .i64 (o : Int))), (35, .val (.int .i64 (I : Int))), (36, .val (.int .i64 (j : Int)))])
      (fun j => [(0, .cells 5 [[.sl 1 (irows .i64 s) false, .val (.bool c), .sl 1 (irows .i32 tx) false, .sl 3 (na.map rowX) false, .val (.bool true)]]), (8, .cells 5 [[.sl 0 [] true, .val (.bool false), .sl 0 [] true, .sl 0 [] true, .val (.bool false)]]), (160, .cells 1 (irows .i64 (Y.take (o * I + j))))]) 232 63 rfl (fun j => I - j) (fun j => j ≤ I) 0 [] (Nat.zero_le _)
      ⟨⟨rfl, rfl⟩, ⟨rfl, rfl⟩, ⟨rfl, rfl⟩, ⟨rfl, rfl⟩, ⟨rfl, rfl⟩, ⟨rfl, rfl⟩, ⟨rfl, rfl⟩, ⟨rfl, rfl⟩, ⟨rfl, rfl⟩, ⟨rfl, rfl⟩, ⟨rfl, rfl⟩, ⟨rfl, rfl⟩, ⟨rfl, rfl⟩, trivial⟩ ⟨⟨rfl, .inr ⟨rfl, rfl⟩⟩, ⟨rfl, .inr ⟨rfl, rfl⟩⟩, ⟨rfl, .inl ⟨rfl, irows_noid _ _⟩⟩, trivial⟩ rfl ?_
    intro j hJ
    have hj : j ≤ I := hJ
    clear hJ
    have hoI : (o + 1) * I ≤ O * I := Nat.mul_le_mul_right _ hlt
    rw [Nat.add_mul, Nat.one_mul] at hoI
    have lr : (irows .i64 (Y.take (o * I + j))).length = o * I + j := by rw [irows_len, List.length_take]; omega
    by_cases hjt : j < I
    · have eJ : IntKind.i64.wrap ((j : Int) + 1) = ((j + 1 : Nat) : Int) := by rw [IntWalk.i64_in _ (by omega)]; omega
      have hr' : o * I + j < O * I := by omega
      have hpl := place_lt (O := O) (I := I) (n := n') (r := o * I + j) (i := i) hr' hi
      have d1 : (o * I + j) / I = o := by rw [Nat.mul_comm, Nat.mul_add_div (by omega), Nat.div_eq_of_lt hjt, Nat.add_zero]
      have d2 : (o * I + j) % I = j := by rw [Nat.mul_comm, Nat.mul_add_mod, Nat.mod_eq_of_lt hjt]
      have hYj := hYr _ hr'
      rw [d1, d2] at hYj hpl
      have hsn : irows .i64 (Y.take (o * I + j)) ++ [[.val (.int .i64 (((o * n' + i) * I + j : Nat) : Int))]] = irows .i64 (Y.take (o * I + (j + 1))) := by
        rw [show o * I + (j + 1) = o * I + j + 1 by omega, take_snoc (show o * I + j < Y.length by omega), hYj, ← irows_append]; rfl
      have htk : List.take (o * I + j) (List.drop 0 (irows .i64 (Y.take (o * I + j)))) = irows .i64 (Y.take (o * I + j)) := by rw [List.drop_zero, List.take_of_length_le (by omega)]
      have P1 := place_wrap o n' i I j (o * n' + i) (Nat.le_refl _) (by omega) (by omega)
      conv => whnf
      first
        | refine caseb (fun _ => ?_) (fun h => absurd (of_decide_eq_false h) (by omega))
        | refine caseb (fun h => absurd (of_decide_eq_true h) (by omega)) (fun _ => ?_)
        | refine caseb (fun _ => ?_) (fun h => absurd (beq_eq_false_iff_ne.1 h) (by omega))
        | refine caseb (fun h => absurd (eq_of_beq h) (by omega)) (fun _ => ?_)
      conv => whnf
      refine ⟨⟨by show 0 + (o * I + j) ≤ _; omega, by show (o * I + j + 1) * 8 ≤ 140737488355328; omega, Nat.le_of_ble_eq_true rfl⟩, ?_⟩
      conv => whnf
      refine ⟨j + 1, [(160, 344)], (by show I - (j + 1) < I - j; omega), hjt, ⟨⟨rfl, rfl⟩, ⟨rfl, rfl⟩, ⟨rfl, rfl⟩, ⟨rfl, rfl⟩, ⟨rfl, rfl⟩, ⟨rfl, rfl⟩, ⟨rfl, rfl⟩, ⟨rfl, rfl⟩, ⟨rfl, rfl⟩, ⟨rfl, rfl⟩, ⟨rfl, rfl⟩, ⟨rfl, rfl⟩, ⟨valI eJ, rfl⟩, trivial⟩, ⟨⟨rfl, .inr ⟨rfl, rfl⟩⟩, ⟨rfl, .inr ⟨rfl, rfl⟩⟩, ⟨rfl, .inl ⟨celE ?_, irows_noid _ _⟩⟩, trivial⟩, rfl⟩
      rw [← hsn]
      show List.take (o * I + j) (List.drop 0 (irows .i64 (Y.take (o * I + j)))) ++ [[.val (.int .i64 (IntKind.i64.wrap (IntKind.i64.wrap (IntKind.i64.wrap (IntKind.i64.wrap ((o : Int) * (n' : Int)) + (i : Int)) * (I : Int)) + (j : Int))))]] = _
      rw [htk, P1]
    · have hje : j = I := by omega
      conv => whnf
      first
        | refine caseb (fun _ => ?_) (fun h => absurd (of_decide_eq_false h) (by omega))
        | refine caseb (fun h => absurd (of_decide_eq_true h) (by omega)) (fun _ => ?_)
        | refine caseb (fun _ => ?_) (fun h => absurd (beq_eq_false_iff_ne.1 h) (by omega))
        | refine caseb (fun h => absurd (eq_of_beq h) (by omega)) (fun _ => ?_)
      conv => whnf
      exact ⟨o + 1, [], (by show O - (o + 1) < O - o; omega), hlt, ⟨⟨rfl, rfl⟩, ⟨rfl, rfl⟩, ⟨rfl, rfl⟩, ⟨rfl, rfl⟩, ⟨rfl, rfl⟩, ⟨rfl, rfl⟩, ⟨rfl, rfl⟩, ⟨ownE rfl (by rw [hje, Nat.add_mul, Nat.one_mul]), rfl⟩, ⟨rfl, rfl⟩, ⟨valI eO, rfl⟩, trivial⟩, ⟨⟨rfl, .inr ⟨rfl, rfl⟩⟩, ⟨rfl, .inr ⟨rfl, rfl⟩⟩, ⟨rfl, .inl ⟨celE (by rw [hje, Nat.add_mul, Nat.one_mul]), irows_noid _ _⟩⟩, trivial⟩, rfl⟩
  · have hoe : o = O := by omega
    subst hoe
    have e1 : Y.take (o * I) = Y := List.take_of_length_le (by omega)
    rw [e1]
    conv => whnf
    first
      | refine caseb (fun _ => ?_) (fun h => absurd (of_decide_eq_false h) (by omega))
      | refine caseb (fun h => absurd (of_decide_eq_true h) (by omega)) (fun _ => ?_)
      | refine caseb (fun _ => ?_) (fun h => absurd (beq_eq_false_iff_ne.1 h) (by omega))
      | refine caseb (fun h => absurd (eq_of_beq h) (by omega)) (fun _ => ?_)
    conv => whnf
    refine ⟨_, hWo, ?_⟩
    conv => whnf
    refine ⟨by show 0 + o * I ≤ _; omega, _, hP, ?_⟩
    conv => whnf
    refine ⟨by kernel_rfl, ?_⟩
    repeat
      conv => whnf
      first
        | refine ⟨_, by assumption, ?_⟩
        | refine ⟨(Nat.le_of_ble_eq_true rfl), _, by assumption, ?_⟩
        | refine ⟨by kernel_rfl, ?_⟩
        | exact rfl
        | exact ⟨Nat.le_of_ble_eq_true rfl, rfl⟩
        | refine ⟨by decide, ?_⟩
end Go.Proofs.YtbdklokfijjifaaGreat

/- Arrays brought together along an axis: all parts (the program's contract). -/
set_option linter.unusedVariables false
namespace Go.Proofs.YtbdklokfijjifaaGreat
open Go Go.AL NM

/-- What the program comes to: an array, or the error. -/
def resF (sh : List Int) (ch : Bool) (tx : List Int) (na : List (Option (Rat × Nat))) (E : Int) : AV := if E = 0 then .tup [AA sh ch tx na true, .val (.int .i64 0)] else .tup [AA [] false [] [] false, .val (.int .i64 E)]
theorem resF_noid (sh : List Int) (ch : Bool) (tx : List Int) (na : List (Option (Rat × Nat))) (E : Int) : NoId (resF sh ch tx na E) := by
  unfold resF
  split
  · exact .tup _ (noid2 (AA_noid _ _ _ _ _) (.val _))
  · exact .tup _ (noid2 (AA_noid _ _ _ _ _) (.val _))
/-- What stands at a place along the axis: the elements from there on, brought together. -/
def StF (c most : Int) (rest : List Int) (ch : Bool) (tx : List Int) (qs : List Rat) (t n I R i : Nat) (x : Bool × List Int × List (Option (Rat × Nat))) : Prop :=
  x.1 = (ch && decide (i + 1 = t)) ∧ kinds rest x.1 x.2.1.length x.2.2.length ∧ (∀ o ∈ x.2.2, okX o) ∧ (∀ q ∈ x.2.2.map valX, Sz q 20) ∧ ∀ r, r < R → elA x.1 x.2.1 (x.2.2.map valX) r = (foldE c most ((lineE ch tx qs t n I r).drop i)).1
def slabX (ch : Bool) (tx : List Int) (na : List (Option (Rat × Nat))) (n I R i : Nat) : Bool × List Int × List (Option (Rat × Nat)) :=
  (ch, if ch then (slabL n I R i).map (getT tx) else [], if ch then [] else (slabL n I R i).map (getX na))
theorem getX_map (na : List (Option (Rat × Nat))) (L : List Int) : (L.map (getX na)).map valX = L.map (getQ (na.map valX)) := by
  rw [List.map_map]
  exact List.map_congr_left fun k _ => getX_val na k
theorem ifnil {c : Bool} {α β : Type} (f : List α → List β) (hf : f [] = []) (l : List α) : f (if c then [] else l) = if c then [] else f l := by
  cases c <;> simp [hf]
theorem slab_el (ch : Bool) (tx : List Int) (na : List (Option (Rat × Nat))) (qs : List Rat) (na1 : na.map valX = qs) (n I O : Nat) (k1 : ch = true → na = [] ∧ tx.length = O * (n * I)) (k2 : ch = false → tx = [] ∧ na.length = O * (n * I)) (i : Nat) (hi : i < n) (r : Nat) (hrr : r < O * I) : elA ch (slabX ch tx na n I (O * I) i).2.1 ((slabX ch tx na n I (O * I) i).2.2.map valX) r = elA ch tx qs ((r / I * n + i) * I + r % I) := by
  have e : (slabX ch tx na n I (O * I) i).2.2.map valX = if ch then [] else (slabL n I (O * I) i).map (getQ qs) := by
    unfold slabX
    show List.map valX (if ch then [] else (slabL n I (O * I) i).map (getX na)) = _
    rw [ifnil (List.map valX) rfl, getX_map, na1]
  rw [e]
  unfold slabX
  refine el_slab hrr (fun h => ?_) (fun h => (k2 h).1)
  obtain ⟨g1, g2⟩ := k1 h
  have := place_lt (n := n) hrr hi
  exact ⟨by rw [← na1, g1]; rfl, by omega⟩
section
variable (c most : Int) (hc : isTwo c) (hm : most ≤ 200) (ch : Bool) (tx : List Int) (na : List (Option (Rat × Nat))) (qs : List Rat) (na1 : na.map valX = qs) (oa : ∀ o ∈ na, okX o) (hQ : ∀ q ∈ qs, Sz q 20) (rest : List Int) (hr : vS rest) (n I O : Nat)
  (hR : pr rest = O * I) (h5 : O * I ≤ 500) (k1 : ch = true → na = [] ∧ tx.length = O * (n * I)) (k2 : ch = false → tx = [] ∧ na.length = O * (n * I))
include na1 oa hQ hr hR k1 k2
theorem slab_kinds (i : Nat) : kinds rest ch (slabX ch tx na n I (O * I) i).2.1.length (slabX ch tx na n I (O * I) i).2.2.length ∧ (∀ o ∈ (slabX ch tx na n I (O * I) i).2.2, okX o) ∧ ∀ q ∈ (slabX ch tx na n I (O * I) i).2.2.map valX, Sz q 20 := by
  have hcn := (vS_pr hr).1
  rw [hR] at hcn
  unfold slabX
  cases ch
  · refine ⟨?_, ?_, ?_⟩
    · show ((((slabL n I (O * I) i).map (getX na)).length : Nat) : Int) = cntI rest ∧ (0 = 0)
      rw [List.length_map, slabL_len, hcn]
      exact ⟨rfl, rfl⟩
    · intro o ho
      have ho : o ∈ (slabL n I (O * I) i).map (getX na) := ho
      obtain ⟨k, _, rfl⟩ := List.mem_map.1 ho
      exact getX_ok oa k
    · intro q hq
      have hq : q ∈ ((slabL n I (O * I) i).map (getX na)).map valX := hq
      rw [getX_map, na1] at hq
      obtain ⟨k, _, rfl⟩ := List.mem_map.1 hq
      unfold getQ
      split
      · exact getD_sz (by decide) hQ _
      · exact Sz_zero.mono (by decide)
  · refine ⟨?_, (fun o ho => nomatch ho), (fun q hq => nomatch hq)⟩
    show ((((slabL n I (O * I) i).map (getT tx)).length : Nat) : Int) = cntI rest ∧ (0 = 0)
    rw [List.length_map, slabL_len, hcn]
    exact ⟨rfl, rfl⟩
theorem StF_base (t : Nat) (h0 : 0 < t) (ht : t ≤ n) : StF c most rest ch tx qs t n I (O * I) (t - 1) (slabX ch tx na n I (O * I) (t - 1)) := by
  obtain ⟨g1, g2, g3⟩ := slab_kinds ch tx na qs na1 oa hQ rest hr n I O hR k1 k2 (t - 1)
  refine ⟨?_, g1, g2, g3, fun r hrr => ?_⟩
  · show ch = _
    rw [decide_eq_true (by omega), Bool.and_true]
  · rw [lineE_last _ _ _ _ _ _ _ _ _ h0]
    exact slab_el ch tx na qs na1 n I O k1 k2 (t - 1) (by omega) r hrr
include hc hm h5
theorem StF_step (t : Nat) (ht : t ≤ n) (hb : ∀ i r, r < O * I → (pairE c most (elA ch tx qs ((r / I * n + i) * I + r % I)) (foldE c most ((lineE ch tx qs t n I r).drop (i + 1))).1).2 = 0 → Sz (pairE c most (elA ch tx qs ((r / I * n + i) * I + r % I)) (foldE c most ((lineE ch tx qs t n I r).drop (i + 1))).1).1 20) (i : Nat) (hi : i + 1 < t) (x : Bool × List Int × List (Option (Rat × Nat))) (hx : StF c most rest ch tx qs t n I (O * I) (i + 1) x) (hz : rowsE c most (rowsL ch tx qs t n I (O * I)) (i + 1) = 0) :
    ∃ l : List (Option (Rat × Nat)), (rowsE c most (rowsL ch tx qs t n I (O * I)) i = 0 → StF c most rest ch tx qs t n I (O * I) i (false, [], l)) ∧
      AC Tryz.prog 66 [.val (.int .i32 c), AA rest ch (slabX ch tx na n I (O * I) i).2.1 (slabX ch tx na n I (O * I) i).2.2 true, AA rest x.1 x.2.1 x.2.2 true, .val (.int .i64 most)] (.pure (resA rest (rowsE c most (rowsL ch tx qs t n I (O * I)) i) l)) := by
  obtain ⟨x1, x2, x3, x4, x5⟩ := hx
  obtain ⟨g1, g2, g3⟩ := slab_kinds ch tx na qs na1 oa hQ rest hr n I O hR k1 k2 i
  have hel := slab_el ch tx na qs na1 n I O k1 k2 i (by omega)
  obtain ⟨hs1, hs2⟩ := rows_step c most ch tx qs t n I (O * I) i hi hz
  generalize slabX ch tx na n I (O * I) i = y at *
  obtain ⟨_, ty, ny⟩ := y
  obtain ⟨cb, tb, nb⟩ := x
  have hcn := (vS_pr hr).1
  have la := (kinds_len g1).1
  have lb := (kinds_len x2).1
  rw [hcn, hR] at la lb
  have la' : ty.length + ny.length = O * I := by
    have la : ((ty.length + ny.length : Nat) : Int) = ((O * I : Nat) : Int) := la
    omega
  have lb' : tb.length + nb.length = O * I := by
    have lb : ((tb.length + nb.length : Nat) : Int) = ((O * I : Nat) : Int) := lb
    omega
  have hT := PTwoN_ok c rest rest ch cb ty tb ny nb g2 x3 (ny.map valX) (nb.map valX) rfl rfl most (by omega) hr hr (by rw [List.length_map]; exact g1) (by rw [List.length_map]; exact x2) (by omega) (by omega) (by rw [List.length_map]; omega) (by rw [List.length_map]; omega) g3 x4
  have fit : fitS rest rest (ty.length + (ny.map valX).length) (tb.length + (nb.map valX).length) = (rest, false, false, 0) := if_pos rfl
  have hE : twoE c rest rest ch cb ty tb (ny.map valX) (nb.map valX) most = rowsE c most (rowsL ch tx qs t n I (O * I)) i := by
    unfold twoE
    rw [if_pos hc, fit, if_neg (fun h => h rfl), hs1]
    show firstE ((List.range (cntI rest).toNat).map _) = _
    rw [hcn, hR, Int.toNat_natCast]
    congr 1
    refine List.map_congr_left fun r hrr => ?_
    have hrr := List.mem_range.1 hrr
    rw [← x5 r hrr, ← hel r hrr]
    rfl
  have hV : twoV c rest rest ch cb ty tb (ny.map valX) (nb.map valX) most = (List.range (O * I)).map fun r => (pairE c most (elA ch tx qs ((r / I * n + i) * I + r % I)) (foldE c most ((lineE ch tx qs t n I r).drop (i + 1))).1).1 := by
    unfold twoV
    rw [fit]
    show (List.range (cntI rest).toNat).map _ = _
    rw [hcn, hR, Int.toNat_natCast]
    refine List.map_congr_left fun r hrr => ?_
    have hrr := List.mem_range.1 hrr
    rw [← x5 r hrr, ← hel r hrr]
    rfl
  obtain ⟨l, w1, w2, w3, w4⟩ := hT
  rw [fit, hE] at w4
  rw [hE, hV] at w1
  refine ⟨l, fun h0 => ?_, w4⟩
  have w1 := w1 h0
  have ll : l.length = O * I := by
    have := congrArg List.length w1
    rw [List.length_map, List.length_map, List.length_range] at this
    exact this
  have hs2 := hs2 h0
  refine ⟨?_, ?_, w2, ?_, fun r hrr => ?_⟩
  · show false = _
    rw [decide_eq_false (by omega), Bool.and_false]
  · show ((l.length : Nat) : Int) = cntI rest ∧ (0 = 0)
    rw [hcn, hR, ll]
    exact ⟨rfl, rfl⟩
  · intro q hq
    have hq : q ∈ l.map valX := hq
    rw [w1] at hq
    obtain ⟨r, hrr, rfl⟩ := List.mem_map.1 hq
    have hrr := List.mem_range.1 hrr
    refine hb i r hrr ?_
    have := hs1
    rw [h0] at this
    have h2 := fst0_zero ((firstE_fst0 _).symm.trans this.symm) _ (List.mem_map.2 ⟨_, List.mem_map.2 ⟨r, List.mem_range.2 hrr, rfl⟩, rfl⟩)
    exact h2
  · rw [hs2 r hrr]
    show elA false [] (l.map valX) r = _
    rw [w1]
    have hg : ((List.range (O * I)).map fun r => (pairE c most (elA ch tx qs ((r / I * n + i) * I + r % I)) (foldE c most ((lineE ch tx qs t n I r).drop (i + 1))).1).1).getD r 0 = (pairE c most (elA ch tx qs ((r / I * n + i) * I + r % I)) (foldE c most ((lineE ch tx qs t n I r).drop (i + 1))).1).1 := by
      rw [List.getD_eq_getElem?_getD, List.getElem?_map, List.getElem?_range hrr]; rfl
    unfold elA numE at *
    rw [hg]
    rfl
/-- The states from the end on. -/
theorem StF_chain (t : Nat) (h0 : 0 < t) (ht : t ≤ n) (hb : ∀ i r, r < O * I → (pairE c most (elA ch tx qs ((r / I * n + i) * I + r % I)) (foldE c most ((lineE ch tx qs t n I r).drop (i + 1))).1).2 = 0 → Sz (pairE c most (elA ch tx qs ((r / I * n + i) * I + r % I)) (foldE c most ((lineE ch tx qs t n I r).drop (i + 1))).1).1 20) : ∀ m, m < t → ∃ f : Nat → Bool × List Int × List (Option (Rat × Nat)), f (t - 1) = slabX ch tx na n I (O * I) (t - 1) ∧
    (∀ i, t - 1 - m ≤ i → i < t → (∀ j, i ≤ j → j < t → rowsE c most (rowsL ch tx qs t n I (O * I)) j = 0) → StF c most rest ch tx qs t n I (O * I) i (f i)) ∧
    (∀ i, t - 1 - m ≤ i → i + 1 < t → (∀ j, i < j → j < t → rowsE c most (rowsL ch tx qs t n I (O * I)) j = 0) → (f i).1 = false ∧ (f i).2.1 = [] ∧
      AC Tryz.prog 66 [.val (.int .i32 c), AA rest ch (slabX ch tx na n I (O * I) i).2.1 (slabX ch tx na n I (O * I) i).2.2 true, AA rest (f (i + 1)).1 (f (i + 1)).2.1 (f (i + 1)).2.2 true, .val (.int .i64 most)] (.pure (resA rest (rowsE c most (rowsL ch tx qs t n I (O * I)) i) (f i).2.2))) := by
  intro m
  induction m with
  | zero =>
    intro hmn
    refine ⟨fun _ => slabX ch tx na n I (O * I) (t - 1), rfl, fun i h1 h2 _ => ?_, fun i h1 h2 => absurd h2 (by omega)⟩
    have : i = t - 1 := by omega
    subst this
    exact StF_base c most ch tx na qs na1 oa hQ rest hr n I O hR k1 k2 t h0 ht
  | succ m ih =>
    intro hmn
    obtain ⟨f, f1, f2, f3⟩ := ih (by omega)
    obtain ⟨i0, hi0⟩ : ∃ i0, i0 = t - 1 - (m + 1) := ⟨_, rfl⟩
    by_cases hz : ∀ j, i0 < j → j < t → rowsE c most (rowsL ch tx qs t n I (O * I)) j = 0
    · have hS := f2 (i0 + 1) (by omega) (by omega) (fun j h1 h2 => hz j (by omega) h2)
      obtain ⟨l, w1, w2⟩ := StF_step c most hc hm ch tx na qs na1 oa hQ rest hr n I O hR h5 k1 k2 t ht hb i0 (by omega) (f (i0 + 1)) hS (hz (i0 + 1) (by omega) (by omega))
      refine ⟨fun i => if i = i0 then (false, [], l) else f i, ?_, fun i h1 h2 h3 => ?_, fun i h1 h2 h3 => ?_⟩
      · show (if t - 1 = i0 then _ else _) = _
        rw [if_neg (by omega)]; exact f1
      · by_cases hii : i = i0
        · subst hii
          show StF _ _ _ _ _ _ _ _ _ _ _ (if i = i then _ else _)
          rw [if_pos rfl]
          exact w1 (h3 i (Nat.le_refl _) h2)
        · show StF _ _ _ _ _ _ _ _ _ _ _ (if i = i0 then _ else _)
          rw [if_neg hii]
          exact f2 i (by omega) h2 h3
      · by_cases hii : i = i0
        · subst hii
          show (if i = i then _ else _ : Bool × List Int × List (Option (Rat × Nat))).1 = false ∧ (if i = i then _ else _ : Bool × List Int × List (Option (Rat × Nat))).2.1 = [] ∧ AC Tryz.prog 66 [_, _, AA rest (if i + 1 = i then _ else _ : Bool × List Int × List (Option (Rat × Nat))).1 (if i + 1 = i then _ else _ : Bool × List Int × List (Option (Rat × Nat))).2.1 (if i + 1 = i then _ else _ : Bool × List Int × List (Option (Rat × Nat))).2.2 true, _] (.pure (resA rest _ (if i = i then _ else _ : Bool × List Int × List (Option (Rat × Nat))).2.2))
          rw [if_pos rfl, if_neg (by omega)]
          exact ⟨rfl, rfl, w2⟩
        · show (if i = i0 then _ else _ : Bool × List Int × List (Option (Rat × Nat))).1 = false ∧ (if i = i0 then _ else _ : Bool × List Int × List (Option (Rat × Nat))).2.1 = [] ∧ AC Tryz.prog 66 [_, _, AA rest (if i + 1 = i0 then _ else _ : Bool × List Int × List (Option (Rat × Nat))).1 (if i + 1 = i0 then _ else _ : Bool × List Int × List (Option (Rat × Nat))).2.1 (if i + 1 = i0 then _ else _ : Bool × List Int × List (Option (Rat × Nat))).2.2 true, _] (.pure (resA rest _ (if i = i0 then _ else _ : Bool × List Int × List (Option (Rat × Nat))).2.2))
          rw [if_neg hii, if_neg (by omega)]
          exact f3 i (by omega) h2 h3
    · refine ⟨f, f1, fun i h1 h2 h3 => ?_, fun i h1 h2 h3 => ?_⟩
      · by_cases hii : i = i0
        · exact absurd (fun j h4 h5 => h3 j (by omega) h5) hz
        · exact f2 i (by omega) h2 h3
      · by_cases hii : i = i0
        · subst hii; exact absurd h3 hz
        · exact f3 i (by omega) h2 h3
end
end Go.Proofs.YtbdklokfijjifaaGreat

/- Arrays brought together along an axis: all parts, one behind the other (the program's contract). -/
set_option linter.unusedVariables false
namespace Go.Proofs.YtbdklokfijjifaaGreat
open Go Go.AL NM

theorem AZf_noid (e : Int) : NoId (.tup [AZ, .val (.int .i64 e)]) := .tup _ (noid2 AZ_noid (.val _))
/-- An array's numbers fit its shape around an axis. -/
theorem kinds_axis {s : List Int} {k : Nat} {c : Bool} {a b : Nat} {n : Nat} (hv : vS s) (hp : pr s = pr (s.take k) * (n * pr (s.drop (k + 1)))) (h : kinds s c a b) :
    (c = true → b = 0 ∧ a = pr (s.take k) * (n * pr (s.drop (k + 1)))) ∧ (c = false → a = 0 ∧ b = pr (s.take k) * (n * pr (s.drop (k + 1)))) := by
  obtain ⟨h1, h2⟩ := kinds_c hv h
  rw [hp] at h1 h2
  exact ⟨fun h => ⟨(h1 h).2, (h1 h).1⟩, fun h => ⟨(h2 h).2, (h2 h).1⟩⟩
theorem run_any (c most : Int) (hc : isTwo c) (hm : most ≤ 200) (s : List Int) (k : Nat) (ch : Bool) (tx : List Int) (na : List (Option (Rat × Nat))) (qs : List Rat) (na1 : na.map valX = qs) (oa : ∀ o ∈ na, okX o) (hQ : ∀ q ∈ qs, Sz q 20)
    (hk : k < s.length) (hv : vS s) (ka : kinds s ch tx.length na.length) (n : Nat) (hn : s[k] = (n : Int)) (t : Nat) (h0 : 0 < t) (ht : t ≤ n) (hb : ∀ i r, r < pr (s.take k) * pr (s.drop (k + 1)) → (pairE c most (elA ch tx qs ((r / pr (s.drop (k + 1)) * n + i) * pr (s.drop (k + 1)) + r % pr (s.drop (k + 1)))) (foldE c most ((lineE ch tx qs t n (pr (s.drop (k + 1))) r).drop (i + 1))).1).2 = 0 → Sz (pairE c most (elA ch tx qs ((r / pr (s.drop (k + 1)) * n + i) * pr (s.drop (k + 1)) + r % pr (s.drop (k + 1)))) (foldE c most ((lineE ch tx qs t n (pr (s.drop (k + 1))) r).drop (i + 1))).1).1 20) (h5 : pr (s.take k) * pr (s.drop (k + 1)) ≤ 500) :
    ∃ x : Bool × List Int × List (Option (Rat × Nat)), (redE c most (rowsL ch tx qs t n (pr (s.drop (k + 1))) (pr (s.take k) * pr (s.drop (k + 1)))) t = 0 → StF c most (s.take k ++ s.drop (k + 1)) ch tx qs t n (pr (s.drop (k + 1))) (pr (s.take k) * pr (s.drop (k + 1))) 0 x) ∧
      AC Tryz.prog 38 [.val (.int .i32 c), AA s ch tx na true, .val (.int .i64 (k : Int)), .val (.int .i64 ((t - 1 : Nat) : Int)), .val (.int .i64 most)]
        (.pure (resF (s.take k ++ s.drop (k + 1)) x.1 x.2.1 x.2.2 (redE c most (rowsL ch tx qs t n (pr (s.drop (k + 1))) (pr (s.take k) * pr (s.drop (k + 1)))) t))) := by
  obtain ⟨n', hn', _, hr, hp, hpr, p4, r4, vu, vv⟩ := axis_split hk hv
  have : n' = n := by rw [hn] at hn'; omega
  subst this
  have ln : n' ≤ 4096 := by have := vS_dim hv (List.getElem_mem hk); omega
  obtain ⟨k1, k2⟩ := kinds_axis hv hp ka
  have hSl := fun i hi => slab_ok s k ch tx na hk hv ka n' hn i hi
  obtain ⟨O, hO⟩ : ∃ O, O = pr (s.take k) := ⟨_, rfl⟩
  obtain ⟨I, hI⟩ : ∃ I, I = pr (s.drop (k + 1)) := ⟨_, rfl⟩
  rw [← hO, ← hI] at hp hpr r4 h5 k1 k2 hSl ⊢
  rw [← hI, ← hO] at hb
  obtain ⟨rest, hrest⟩ : ∃ rest, rest = s.take k ++ s.drop (k + 1) := ⟨_, rfl⟩
  rw [← hrest] at hr hpr hSl ⊢
  have k1 : ch = true → na = [] ∧ tx.length = O * (n' * I) := fun h => ⟨List.length_eq_zero_iff.1 (k1 h).1, (k1 h).2⟩
  have k2 : ch = false → tx = [] ∧ na.length = O * (n' * I) := fun h => ⟨List.length_eq_zero_iff.1 (k2 h).1, (k2 h).2⟩
  obtain ⟨f, f1, f2, f3⟩ := StF_chain c most hc hm ch tx na qs na1 oa hQ rest hr n' I O hpr h5 k1 k2 t h0 ht hb (t - 1) (by omega)
  have hSl : ∀ i, i < n' → AC Tryz.prog 90 [AA s ch tx na true, .val (.int .i64 (k : Int)), .val (.int .i64 (i : Int))] (.pure (AA rest (slabX ch tx na n' I (O * I) i).1 (slabX ch tx na n' I (O * I) i).2.1 (slabX ch tx na n' I (O * I) i).2.2 true)) := hSl
  refine ⟨f 0, fun hz => f2 0 (by omega) h0 (fun j _ hj => ?_), ?_⟩
  · by_cases hjn : j + 1 < t
    · refine fst0_zero hz _ (List.mem_map.2 ⟨j, List.mem_reverse.2 (List.mem_range.2 (by omega)), rfl⟩)
    · have : j = t - 1 := by omega
      subst this
      exact rows_last c most ch tx qs t n' I (O * I) h0
  obtain ⟨E, hE⟩ : ∃ E, E = redE c most (rowsL ch tx qs t n' I (O * I)) t := ⟨_, rfl⟩
  rw [← hE]
  obtain ⟨r', hle, hno, e1, e2⟩ : ∃ r', AVle r' (resF rest (f 0).1 (f 0).2.1 (f 0).2.2 E) ∧ NoId r' ∧ (E = 0 → r' = .tup [AA rest (f 0).1 (f 0).2.1 (f 0).2.2 true, .val (.int .i64 0)]) ∧ (E ≠ 0 → r' = .tup [AZ, .val (.int .i64 E)]) := by
    unfold resF
    by_cases h : E = 0
    · rw [if_pos h]
      exact ⟨_, .refl _, .tup _ (noid2 (AA_noid _ _ _ _ _) (.val _)), fun _ => rfl, fun h' => absurd h h'⟩
    · rw [if_neg h]
      exact ⟨_, .tup2 AZ_le (.refl _), AZf_noid _, fun h' => absurd h' h, fun _ => rfl⟩
  refine AC.le_res (?_ : AC Tryz.prog 38 _ (.pure r')) hle (resF_noid _ _ _ _ _)
  have hlast := hSl (t - 1) (by omega)
  rw [← f1] at hlast
  refine AC.of_body TTok Tryz.func38 rfl (enter_of Tryz.func38 (by kernel_rfl) (by kernel_rfl)) (noid5 (.val _) (AA_noid _ _ _ _ _) (.val _) (.val _) (.val _)) hno (Nat.le_of_ble_eq_true rfl) ?_
  unfold AA AZ at *
  conv => whnf
  refine ⟨_, hlast, ?_⟩
  conv => whnf
  refine SW.loopM TTok (fun x : Nat => [(0, .val (.int .i32 c)), (2, .val (.int .i64 (k : Int))), (4, .val (.int .i64 most)), (6, .lp 0 0), (10, .lp 8 0), (11, .val (.int .i64 0)), (12, .lp 56 0), (13, .val (.int .i64 ((x : Int) - 1)))])
    (fun x => [(0, .cells 5 [[.sl 1 (irows .i64 s) false, .val (.bool ch), .sl 1 (irows .i32 tx) false, .sl 3 (na.map rowX) false, .val (.bool true)]]), (8, .cells 5 [[.sl 0 [] true, .val (.bool false), .sl 0 [] true, .sl 0 [] true, .val (.bool false)]]), (56, .cells 5 [[.sl 1 (irows .i64 rest) false, .val (.bool (f x).1), .sl 1 (irows .i32 (f x).2.1) false, .sl 3 ((f x).2.2.map rowX) false, .val (.bool true)]])]) 96 43 rfl (fun x => x) (fun x => x ≤ t - 1 ∧ ∀ j, x ≤ j → j < t → rowsE c most (rowsL ch tx qs t n' I (O * I)) j = 0) (t - 1) [] ⟨Nat.le_refl _, fun j h1 h2 => by
      have : j = t - 1 := by omega
      subst this
      exact rows_last c most ch tx qs t n' I (O * I) h0⟩
    ⟨⟨rfl, rfl⟩, ⟨rfl, rfl⟩, ⟨rfl, rfl⟩, ⟨rfl, rfl⟩, ⟨rfl, rfl⟩, ⟨rfl, rfl⟩, ⟨rfl, rfl⟩, ⟨valI (IntWalk.i64_in _ (by omega)), rfl⟩, trivial⟩ ⟨⟨rfl, .inr ⟨rfl, rfl⟩⟩, ⟨rfl, .inr ⟨rfl, rfl⟩⟩, ⟨rfl, .inr ⟨rfl, rfl⟩⟩, trivial⟩ rfl ?_
  intro x hJ
  have hx : x ≤ t - 1 := hJ.1
  have hz : ∀ j, x ≤ j → j < t → rowsE c most (rowsL ch tx qs t n' I (O * I)) j = 0 := hJ.2
  clear hJ
  cases x with
  | zero =>
    have hE0 : E = 0 := by
      rw [hE]; exact redE_zero _ _ _ _ (fun j hj => hz j (Nat.zero_le _) (by omega))
    rw [e1 hE0]
    repeat
      conv => whnf
      first
        | refine ⟨_, by assumption, ?_⟩
        | refine ⟨(Nat.le_of_ble_eq_true rfl), _, by assumption, ?_⟩
        | refine ⟨by kernel_rfl, ?_⟩
        | exact rfl
        | exact ⟨Nat.le_of_ble_eq_true rfl, rfl⟩
        | refine ⟨by decide, ?_⟩
  | succ i =>
    have eI : ((i + 1 : Nat) : Int) - 1 = (i : Int) := by omega
    have hS := hSl i (by omega)
    obtain ⟨g1, g2, g3⟩ := f3 i (by omega) (by omega) (fun j h1 h2 => hz j (by omega) h2)
    rw [← eI] at hS
    have eJ : IntKind.i64.wrap (((i + 1 : Nat) : Int) - 1 - 1) = (i : Int) - 1 := by rw [IntWalk.i64_in _ (by omega)]; omega
    have hS : AC Tryz.prog 90 [AA s ch tx na true, .val (.int .i64 (k : Int)), .val (.int .i64 (((i + 1 : Nat) : Int) - 1))] (.pure (AA rest ch (slabX ch tx na n' I (O * I) i).2.1 (slabX ch tx na n' I (O * I) i).2.2 true)) := hS
    generalize slabX ch tx na n' I (O * I) i = y at hS g3
    obtain ⟨_, ty, ny⟩ := y
    have hS : AC Tryz.prog 90 [AA s ch tx na true, .val (.int .i64 (k : Int)), .val (.int .i64 (((i + 1 : Nat) : Int) - 1))] (.pure (AA rest ch ty ny true)) := hS
    have g3 : AC Tryz.prog 66 [.val (.int .i32 c), AA rest ch ty ny true, AA rest (f (i + 1)).1 (f (i + 1)).2.1 (f (i + 1)).2.2 true, .val (.int .i64 most)] (.pure (resA rest (rowsE c most (rowsL ch tx qs t n' I (O * I)) i) (f i).2.2)) := g3
    unfold AA at hS
    unfold resA AA at g3
    by_cases he : rowsE c most (rowsL ch tx qs t n' I (O * I)) i = 0
    · rw [if_pos he] at g3
      conv => whnf
      first
        | refine caseb (fun _ => ?_) (fun h => absurd (of_decide_eq_false h) (by omega))
        | refine caseb (fun h => absurd (of_decide_eq_true h) (by omega)) (fun _ => ?_)
        | refine caseb (fun _ => ?_) (fun h => absurd (beq_eq_false_iff_ne.1 h) (by omega))
        | refine caseb (fun h => absurd (eq_of_beq h) (by omega)) (fun _ => ?_)
      conv => whnf
      refine ⟨_, hS, ?_⟩
      conv => whnf
      refine ⟨_, g3, ?_⟩
      conv => whnf
      refine ⟨by kernel_rfl, ?_⟩
      conv => whnf
      refine ⟨i, [], Nat.lt_succ_self _, ⟨by omega, fun j h1 h2 => ?_⟩, ⟨⟨rfl, rfl⟩, ⟨rfl, rfl⟩, ⟨rfl, rfl⟩, ⟨rfl, rfl⟩, ⟨rfl, rfl⟩, ⟨rfl, rfl⟩, ⟨rfl, rfl⟩, ⟨valI eJ, rfl⟩, trivial⟩, ⟨⟨rfl, .inr ⟨rfl, rfl⟩⟩, ⟨rfl, .inr ⟨rfl, rfl⟩⟩, ⟨rfl, .inr ⟨celE ?_, rfl⟩⟩, trivial⟩, rfl⟩
      · by_cases hji : j = i
        · rw [hji]; exact he
        · exact hz j (by omega) h2
      · rw [g1, g2]; rfl
    · rw [if_neg he] at g3
      have hE1 : E = rowsE c most (rowsL ch tx qs t n' I (O * I)) i := by
        rw [hE]; exact redE_from _ _ _ _ _ (by omega) (fun j h1 h2 => hz j (by omega) h2) he
      rw [e2 (by rw [hE1]; exact he), hE1]
      generalize rowsE c most (rowsL ch tx qs t n' I (O * I)) i = e at *
      conv => whnf
      first
        | refine caseb (fun _ => ?_) (fun h => absurd (of_decide_eq_false h) (by omega))
        | refine caseb (fun h => absurd (of_decide_eq_true h) (by omega)) (fun _ => ?_)
        | refine caseb (fun _ => ?_) (fun h => absurd (beq_eq_false_iff_ne.1 h) (by omega))
        | refine caseb (fun h => absurd (eq_of_beq h) (by omega)) (fun _ => ?_)
      conv => whnf
      refine ⟨_, hS, ?_⟩
      conv => whnf
      refine ⟨_, g3, ?_⟩
      conv => whnf
      refine ⟨by kernel_rfl, ?_⟩
      conv => whnf
      first
        | refine caseb (fun h => absurd (bne_iff_ne.1 h) (by omega)) (fun _ => ?_)
        | refine caseb (fun _ => ?_) (fun h => absurd (bne_eq_false_iff_eq.1 h) (by omega))
      repeat
        conv => whnf
        first
          | refine ⟨_, by assumption, ?_⟩
          | refine ⟨(Nat.le_of_ble_eq_true rfl), _, by assumption, ?_⟩
          | refine ⟨by kernel_rfl, ?_⟩
          | exact rfl
          | exact ⟨Nat.le_of_ble_eq_true rfl, rfl⟩
          | refine ⟨by decide, ?_⟩
end Go.Proofs.YtbdklokfijjifaaGreat
