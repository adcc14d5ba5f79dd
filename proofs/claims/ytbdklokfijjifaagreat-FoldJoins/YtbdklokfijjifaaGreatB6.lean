/- Arrays brought together along an axis: what a function makes of nothing, axes, other shapes (the program's contracts). -/
import Derived.Test.YtbdklokfijjifaaGreatB5
set_option linter.unusedVariables false
namespace Go.Proofs.YtbdklokfijjifaaGreat
open Go Go.AL NM

theorem Unit_ok (c : Int) : AC Tryz.prog 9 [.val (.int .i32 c)] (.pure (.tup [.val (.int .i64 ((unitQ c).getD 0)), .val (.bool (unitQ c).isSome)])) := by
  have nd := noid1 (NoId.val (.int .i32 c))
  by_cases h43 : c = 43
  · subst h43
    refine AC.of_body TTok Tryz.func9 rfl (enter_of Tryz.func9 (by kernel_rfl) (by kernel_rfl)) nd (.tup _ (noid2 (.val _) (.val _))) (Nat.le_of_ble_eq_true rfl) ?_
    repeat
      conv => whnf
      first
        | refine ⟨_, by assumption, ?_⟩
        | refine ⟨(Nat.le_of_ble_eq_true rfl), _, by assumption, ?_⟩
        | refine ⟨by kernel_rfl, ?_⟩
        | exact rfl
        | exact ⟨Nat.le_of_ble_eq_true rfl, rfl⟩
        | refine ⟨by decide, ?_⟩
  by_cases h45 : c = 45
  · subst h45
    refine AC.of_body TTok Tryz.func9 rfl (enter_of Tryz.func9 (by kernel_rfl) (by kernel_rfl)) nd (.tup _ (noid2 (.val _) (.val _))) (Nat.le_of_ble_eq_true rfl) ?_
    repeat
      conv => whnf
      first
        | refine ⟨_, by assumption, ?_⟩
        | refine ⟨(Nat.le_of_ble_eq_true rfl), _, by assumption, ?_⟩
        | refine ⟨by kernel_rfl, ?_⟩
        | exact rfl
        | exact ⟨Nat.le_of_ble_eq_true rfl, rfl⟩
        | refine ⟨by decide, ?_⟩
  by_cases h124 : c = 124
  · subst h124
    refine AC.of_body TTok Tryz.func9 rfl (enter_of Tryz.func9 (by kernel_rfl) (by kernel_rfl)) nd (.tup _ (noid2 (.val _) (.val _))) (Nat.le_of_ble_eq_true rfl) ?_
    repeat
      conv => whnf
      first
        | refine ⟨_, by assumption, ?_⟩
        | refine ⟨(Nat.le_of_ble_eq_true rfl), _, by assumption, ?_⟩
        | refine ⟨by kernel_rfl, ?_⟩
        | exact rfl
        | exact ⟨Nat.le_of_ble_eq_true rfl, rfl⟩
        | refine ⟨by decide, ?_⟩
  by_cases h60 : c = 60
  · subst h60
    refine AC.of_body TTok Tryz.func9 rfl (enter_of Tryz.func9 (by kernel_rfl) (by kernel_rfl)) nd (.tup _ (noid2 (.val _) (.val _))) (Nat.le_of_ble_eq_true rfl) ?_
    repeat
      conv => whnf
      first
        | refine ⟨_, by assumption, ?_⟩
        | refine ⟨(Nat.le_of_ble_eq_true rfl), _, by assumption, ?_⟩
        | refine ⟨by kernel_rfl, ?_⟩
        | exact rfl
        | exact ⟨Nat.le_of_ble_eq_true rfl, rfl⟩
        | refine ⟨by decide, ?_⟩
  by_cases h62 : c = 62
  · subst h62
    refine AC.of_body TTok Tryz.func9 rfl (enter_of Tryz.func9 (by kernel_rfl) (by kernel_rfl)) nd (.tup _ (noid2 (.val _) (.val _))) (Nat.le_of_ble_eq_true rfl) ?_
    repeat
      conv => whnf
      first
        | refine ⟨_, by assumption, ?_⟩
        | refine ⟨(Nat.le_of_ble_eq_true rfl), _, by assumption, ?_⟩
        | refine ⟨by kernel_rfl, ?_⟩
        | exact rfl
        | exact ⟨Nat.le_of_ble_eq_true rfl, rfl⟩
        | refine ⟨by decide, ?_⟩
  by_cases h8800 : c = 8800
  · subst h8800
    refine AC.of_body TTok Tryz.func9 rfl (enter_of Tryz.func9 (by kernel_rfl) (by kernel_rfl)) nd (.tup _ (noid2 (.val _) (.val _))) (Nat.le_of_ble_eq_true rfl) ?_
    repeat
      conv => whnf
      first
        | refine ⟨_, by assumption, ?_⟩
        | refine ⟨(Nat.le_of_ble_eq_true rfl), _, by assumption, ?_⟩
        | refine ⟨by kernel_rfl, ?_⟩
        | exact rfl
        | exact ⟨Nat.le_of_ble_eq_true rfl, rfl⟩
        | refine ⟨by decide, ?_⟩
  by_cases h8744 : c = 8744
  · subst h8744
    refine AC.of_body TTok Tryz.func9 rfl (enter_of Tryz.func9 (by kernel_rfl) (by kernel_rfl)) nd (.tup _ (noid2 (.val _) (.val _))) (Nat.le_of_ble_eq_true rfl) ?_
    repeat
      conv => whnf
      first
        | refine ⟨_, by assumption, ?_⟩
        | refine ⟨(Nat.le_of_ble_eq_true rfl), _, by assumption, ?_⟩
        | refine ⟨by kernel_rfl, ?_⟩
        | exact rfl
        | exact ⟨Nat.le_of_ble_eq_true rfl, rfl⟩
        | refine ⟨by decide, ?_⟩
  by_cases h215 : c = 215
  · subst h215
    refine AC.of_body TTok Tryz.func9 rfl (enter_of Tryz.func9 (by kernel_rfl) (by kernel_rfl)) nd (.tup _ (noid2 (.val _) (.val _))) (Nat.le_of_ble_eq_true rfl) ?_
    repeat
      conv => whnf
      first
        | refine ⟨_, by assumption, ?_⟩
        | refine ⟨(Nat.le_of_ble_eq_true rfl), _, by assumption, ?_⟩
        | refine ⟨by kernel_rfl, ?_⟩
        | exact rfl
        | exact ⟨Nat.le_of_ble_eq_true rfl, rfl⟩
        | refine ⟨by decide, ?_⟩
  by_cases h247 : c = 247
  · subst h247
    refine AC.of_body TTok Tryz.func9 rfl (enter_of Tryz.func9 (by kernel_rfl) (by kernel_rfl)) nd (.tup _ (noid2 (.val _) (.val _))) (Nat.le_of_ble_eq_true rfl) ?_
    repeat
      conv => whnf
      first
        | refine ⟨_, by assumption, ?_⟩
        | refine ⟨(Nat.le_of_ble_eq_true rfl), _, by assumption, ?_⟩
        | refine ⟨by kernel_rfl, ?_⟩
        | exact rfl
        | exact ⟨Nat.le_of_ble_eq_true rfl, rfl⟩
        | refine ⟨by decide, ?_⟩
  by_cases h42 : c = 42
  · subst h42
    refine AC.of_body TTok Tryz.func9 rfl (enter_of Tryz.func9 (by kernel_rfl) (by kernel_rfl)) nd (.tup _ (noid2 (.val _) (.val _))) (Nat.le_of_ble_eq_true rfl) ?_
    repeat
      conv => whnf
      first
        | refine ⟨_, by assumption, ?_⟩
        | refine ⟨(Nat.le_of_ble_eq_true rfl), _, by assumption, ?_⟩
        | refine ⟨by kernel_rfl, ?_⟩
        | exact rfl
        | exact ⟨Nat.le_of_ble_eq_true rfl, rfl⟩
        | refine ⟨by decide, ?_⟩
  by_cases h33 : c = 33
  · subst h33
    refine AC.of_body TTok Tryz.func9 rfl (enter_of Tryz.func9 (by kernel_rfl) (by kernel_rfl)) nd (.tup _ (noid2 (.val _) (.val _))) (Nat.le_of_ble_eq_true rfl) ?_
    repeat
      conv => whnf
      first
        | refine ⟨_, by assumption, ?_⟩
        | refine ⟨(Nat.le_of_ble_eq_true rfl), _, by assumption, ?_⟩
        | refine ⟨by kernel_rfl, ?_⟩
        | exact rfl
        | exact ⟨Nat.le_of_ble_eq_true rfl, rfl⟩
        | refine ⟨by decide, ?_⟩
  by_cases h8804 : c = 8804
  · subst h8804
    refine AC.of_body TTok Tryz.func9 rfl (enter_of Tryz.func9 (by kernel_rfl) (by kernel_rfl)) nd (.tup _ (noid2 (.val _) (.val _))) (Nat.le_of_ble_eq_true rfl) ?_
    repeat
      conv => whnf
      first
        | refine ⟨_, by assumption, ?_⟩
        | refine ⟨(Nat.le_of_ble_eq_true rfl), _, by assumption, ?_⟩
        | refine ⟨by kernel_rfl, ?_⟩
        | exact rfl
        | exact ⟨Nat.le_of_ble_eq_true rfl, rfl⟩
        | refine ⟨by decide, ?_⟩
  by_cases h61 : c = 61
  · subst h61
    refine AC.of_body TTok Tryz.func9 rfl (enter_of Tryz.func9 (by kernel_rfl) (by kernel_rfl)) nd (.tup _ (noid2 (.val _) (.val _))) (Nat.le_of_ble_eq_true rfl) ?_
    repeat
      conv => whnf
      first
        | refine ⟨_, by assumption, ?_⟩
        | refine ⟨(Nat.le_of_ble_eq_true rfl), _, by assumption, ?_⟩
        | refine ⟨by kernel_rfl, ?_⟩
        | exact rfl
        | exact ⟨Nat.le_of_ble_eq_true rfl, rfl⟩
        | refine ⟨by decide, ?_⟩
  by_cases h8805 : c = 8805
  · subst h8805
    refine AC.of_body TTok Tryz.func9 rfl (enter_of Tryz.func9 (by kernel_rfl) (by kernel_rfl)) nd (.tup _ (noid2 (.val _) (.val _))) (Nat.le_of_ble_eq_true rfl) ?_
    repeat
      conv => whnf
      first
        | refine ⟨_, by assumption, ?_⟩
        | refine ⟨(Nat.le_of_ble_eq_true rfl), _, by assumption, ?_⟩
        | refine ⟨by kernel_rfl, ?_⟩
        | exact rfl
        | exact ⟨Nat.le_of_ble_eq_true rfl, rfl⟩
        | refine ⟨by decide, ?_⟩
  by_cases h8743 : c = 8743
  · subst h8743
    refine AC.of_body TTok Tryz.func9 rfl (enter_of Tryz.func9 (by kernel_rfl) (by kernel_rfl)) nd (.tup _ (noid2 (.val _) (.val _))) (Nat.le_of_ble_eq_true rfl) ?_
    repeat
      conv => whnf
      first
        | refine ⟨_, by assumption, ?_⟩
        | refine ⟨(Nat.le_of_ble_eq_true rfl), _, by assumption, ?_⟩
        | refine ⟨by kernel_rfl, ?_⟩
        | exact rfl
        | exact ⟨Nat.le_of_ble_eq_true rfl, rfl⟩
        | refine ⟨by decide, ?_⟩
  have e : unitQ c = none := by unfold unitQ; rw [if_neg (by omega), if_neg (by omega)]
  rw [e]
  refine AC.of_body TTok Tryz.func9 rfl (enter_of Tryz.func9 (by kernel_rfl) (by kernel_rfl)) nd (.tup _ (noid2 (.val _) (.val _))) (Nat.le_of_ble_eq_true rfl) ?_
  repeat
    conv => whnf
    first
      | refine ⟨_, by assumption, ?_⟩
      | refine ⟨(Nat.le_of_ble_eq_true rfl), _, by assumption, ?_⟩
      | refine ⟨by kernel_rfl, ?_⟩
      | exact rfl
      | exact ⟨Nat.le_of_ble_eq_true rfl, rfl⟩
      | refine ⟨by decide, ?_⟩
      | refine caseb (fun _ => ?_) (fun h => absurd (of_decide_eq_false h) (by omega))
      | refine caseb (fun h => absurd (of_decide_eq_true h) (by omega)) (fun _ => ?_)
      | refine caseb (fun _ => ?_) (fun h => absurd (beq_eq_false_iff_ne.1 h) (by omega))
      | refine caseb (fun h => absurd (eq_of_beq h) (by omega)) (fun _ => ?_)
      | refine caseb (fun h => absurd (bne_iff_ne.1 h) (by omega)) (fun _ => ?_)
      | refine caseb (fun _ => ?_) (fun h => absurd (bne_eq_false_iff_eq.1 h) (by omega))
section
variable (s : List Int) (ch : Bool) (tx : List Int) (na : List (Option (Rat × Nat))) (axis : Int)
/-- Is it the axis? -/
def isAx (len : Nat) (axis : Int) (k : Nat) : Prop := k < len ∧ (axis = (k : Int) ∨ axis < 0 ∧ k + 1 = len)
theorem Axis_ok (k : Nat) (h : isAx s.length axis k) (h8 : s.length ≤ 1000) : AC Tryz.prog 37 [AA s ch tx na true, .val (.int .i64 axis)] (.pure (.tup [.val (.int .i64 (k : Int)), .val (.bool true)])) := by
  obtain ⟨hk, h⟩ := h
  have hR := Rank_ok s ch tx na (by omega)
  refine AC.of_body TTok Tryz.func37 rfl (enter_of Tryz.func37 (by kernel_rfl) (by kernel_rfl)) (noid2 (AA_noid _ _ _ _ _) (.val _)) (.tup _ (noid2 (.val _) (.val _))) (Nat.le_of_ble_eq_true rfl) ?_
  unfold AA at *
  by_cases h0 : axis < 0
  · have e : IntKind.i64.wrap ((s.length : Int) - 1) = (k : Int) := by rw [IntWalk.i64_in _ (by omega)]; omega
    rw [← e]
    have t1 : decide (IntKind.i64.wrap ((s.length : Int) - 1) ≥ 0) = true := decide_eq_true (by rw [e]; omega)
    have t2 : decide (IntKind.i64.wrap ((s.length : Int) - 1) < ((s.length : Nat) : Int)) = true := decide_eq_true (by rw [e]; omega)
    conv => whnf
    first
      | refine caseb (fun _ => ?_) (fun h => absurd (of_decide_eq_false h) (by omega))
      | refine caseb (fun h => absurd (of_decide_eq_true h) (by omega)) (fun _ => ?_)
      | refine caseb (fun _ => ?_) (fun h => absurd (beq_eq_false_iff_ne.1 h) (by omega))
      | refine caseb (fun h => absurd (eq_of_beq h) (by omega)) (fun _ => ?_)
    conv => whnf
    refine ⟨_, hR, ?_⟩
    conv => whnf
    refine caseb (fun _ => ?_) (fun h => Bool.noConfusion ((t1).symm.trans h))
    conv => whnf
    refine ⟨_, hR, ?_⟩
    conv => whnf
    rw [t2]
    rfl
  · have e : axis = (k : Int) := by omega
    subst e
    have t2 : decide ((k : Int) < ((s.length : Nat) : Int)) = true := decide_eq_true (by omega)
    conv => whnf
    refine ⟨_, hR, ?_⟩
    conv => whnf
    rw [t2]
    rfl
end
theorem rep_set (n i : Nat) (x : List AV) : (List.replicate n x).set i x = List.replicate n x := by
  refine List.ext_getElem? fun j => ?_
  rw [List.getElem?_set]
  by_cases h : i = j
  · rw [if_pos h, List.length_replicate]
    subst h
    by_cases h2 : i < n
    · rw [if_pos h2, List.getElem?_replicate, if_pos h2]
    · rw [if_neg h2, List.getElem?_replicate, if_neg h2]
  · rw [if_neg h]
theorem irows_rep (n : Nat) : irows .i64 (List.replicate n 0) = List.replicate n [.val (.int .i64 0)] := by unfold irows; rw [List.map_replicate]
end Go.Proofs.YtbdklokfijjifaaGreat

/- Arrays brought together along an axis: Reduce, by cases (the program's contracts). -/
set_option linter.unusedVariables false
namespace Go.Proofs.YtbdklokfijjifaaGreat
open Go Go.AL NM

section
variable (c : Int) (s : List Int) (ch : Bool) (tx : List Int) (na : List (Option (Rat × Nat))) (axis most : Int)
theorem red_nd : ∀ x ∈ [AV.val (.int .i32 c), AA s ch tx na true, .val (.int .i64 axis), .val (.int .i64 most)], NoId x := noidF (.val _) (AA_noid _ _ _ _ _) (.val _) (.val _)
theorem Red_run (h : isTwo c) (k : Nat) (hx : isAx s.length axis k) (hs : s.length ≤ 8) (n : Nat) (hn : s[k]'hx.1 = (n : Int)) (h0 : 0 < n) (hn4 : n ≤ 5000) (sh : List Int) (c' : Bool) (tx' : List Int) (na' : List (Option (Rat × Nat))) (E : Int)
    (hRun : AC Tryz.prog 38 [.val (.int .i32 c), AA s ch tx na true, .val (.int .i64 (k : Int)), .val (.int .i64 ((n - 1 : Nat) : Int)), .val (.int .i64 most)] (.pure (resF sh c' tx' na' E))) :
    AC Tryz.prog 12 [.val (.int .i32 c), AA s ch tx na true, .val (.int .i64 axis), .val (.int .i64 most)] (.pure (resF sh c' tx' na' E)) := by
  have hk := hx.1
  have hH := Has_ok c
  rw [decide_eq_true h] at hH
  have hR := Rank_ok s ch tx na (by omega)
  have hS := Shape_ok s ch tx na (by omega)
  have hA := Axis_ok s ch tx na axis k hx (by omega)
  have lr := irows_len .i64 s
  have hg : (irows .i64 s)[k]? = some [.val (.int .i64 (n : Int))] := by rw [← hn]; exact irows_get .i64 s (List.getElem?_eq_getElem hk)
  have e : IntKind.i64.wrap ((n : Int) - 1) = ((n - 1 : Nat) : Int) := by rw [IntWalk.i64_in _ (by omega)]; omega
  rw [← e] at hRun
  refine AC.of_body TTok Tryz.func12 rfl (enter_of Tryz.func12 (by kernel_rfl) (by kernel_rfl)) (red_nd c s ch tx na axis most) (resF_noid _ _ _ _ _) (Nat.le_of_ble_eq_true rfl) ?_
  unfold resF at *
  by_cases hE : E = 0
  · rw [if_pos hE] at hRun ⊢
    unfold AA at *
    conv => whnf
    refine ⟨_, hH, ?_⟩
    conv => whnf
    refine ⟨_, hR, ?_⟩
    conv => whnf
    first
      | refine caseb (fun _ => ?_) (fun h => absurd (of_decide_eq_false h) (by omega))
      | refine caseb (fun h => absurd (of_decide_eq_true h) (by omega)) (fun _ => ?_)
      | refine caseb (fun _ => ?_) (fun h => absurd (beq_eq_false_iff_ne.1 h) (by omega))
      | refine caseb (fun h => absurd (eq_of_beq h) (by omega)) (fun _ => ?_)
    conv => whnf
    refine ⟨_, hA, ?_⟩
    conv => whnf
    refine ⟨_, hS, ?_⟩
    conv => whnf
    refine ⟨_, ⟨by omega, by rw [Int.toNat_natCast]; exact hg⟩, ?_⟩
    conv => whnf
    first
      | refine caseb (fun _ => ?_) (fun h => absurd (of_decide_eq_false h) (by omega))
      | refine caseb (fun h => absurd (of_decide_eq_true h) (by omega)) (fun _ => ?_)
      | refine caseb (fun _ => ?_) (fun h => absurd (beq_eq_false_iff_ne.1 h) (by omega))
      | refine caseb (fun h => absurd (eq_of_beq h) (by omega)) (fun _ => ?_)
    conv => whnf
    refine ⟨_, hRun, ?_⟩
    repeat
      conv => whnf
      first
        | refine ⟨_, by assumption, ?_⟩
        | refine ⟨(Nat.le_of_ble_eq_true rfl), _, by assumption, ?_⟩
        | refine ⟨by kernel_rfl, ?_⟩
        | exact rfl
        | exact ⟨Nat.le_of_ble_eq_true rfl, rfl⟩
        | refine ⟨by decide, ?_⟩
  · rw [if_neg hE] at hRun ⊢
    unfold AA at *
    conv => whnf
    refine ⟨_, hH, ?_⟩
    conv => whnf
    refine ⟨_, hR, ?_⟩
    conv => whnf
    first
      | refine caseb (fun _ => ?_) (fun h => absurd (of_decide_eq_false h) (by omega))
      | refine caseb (fun h => absurd (of_decide_eq_true h) (by omega)) (fun _ => ?_)
      | refine caseb (fun _ => ?_) (fun h => absurd (beq_eq_false_iff_ne.1 h) (by omega))
      | refine caseb (fun h => absurd (eq_of_beq h) (by omega)) (fun _ => ?_)
    conv => whnf
    refine ⟨_, hA, ?_⟩
    conv => whnf
    refine ⟨_, hS, ?_⟩
    conv => whnf
    refine ⟨_, ⟨by omega, by rw [Int.toNat_natCast]; exact hg⟩, ?_⟩
    conv => whnf
    first
      | refine caseb (fun _ => ?_) (fun h => absurd (of_decide_eq_false h) (by omega))
      | refine caseb (fun h => absurd (of_decide_eq_true h) (by omega)) (fun _ => ?_)
      | refine caseb (fun _ => ?_) (fun h => absurd (beq_eq_false_iff_ne.1 h) (by omega))
      | refine caseb (fun h => absurd (eq_of_beq h) (by omega)) (fun _ => ?_)
    conv => whnf
    refine ⟨_, hRun, ?_⟩
    repeat
      conv => whnf
      first
        | refine ⟨_, by assumption, ?_⟩
        | refine ⟨(Nat.le_of_ble_eq_true rfl), _, by assumption, ?_⟩
        | refine ⟨by kernel_rfl, ?_⟩
        | exact rfl
        | exact ⟨Nat.le_of_ble_eq_true rfl, rfl⟩
        | refine ⟨by decide, ?_⟩
end
end Go.Proofs.YtbdklokfijjifaaGreat

/- Lists: all up to each place brought together (the program's contracts). -/
set_option linter.unusedVariables false
namespace Go.Proofs.YtbdklokfijjifaaGreat
open Go Go.AL NM

theorem Ravel_ok (x : Option (Rat × Nat)) : AC Tryz.prog 122 [AA [] false [] [x] true] (.pure (AA [1] false [] [x] true)) := by
  have hL : AC Tryz.prog 57 [AA [] false [] [x] true] (.pure (.val (.int .i64 1))) := ALen_ok [] false [] [x] true (by decide) (by show 1 ≤ 1000000; omega)
  refine AC.of_body TTok Tryz.func122 rfl (enter_of Tryz.func122 (by kernel_rfl) (by kernel_rfl)) (noid1 (AA_noid _ _ _ _ _)) (AA_noid _ _ _ _ _) (Nat.le_of_ble_eq_true rfl) ?_
  unfold AA at *
  conv => whnf
  refine ⟨_, hL, ?_⟩
  conv => whnf
  exact ⟨Nat.le_refl _, rfl⟩
/-- A part's cells. -/
def prow (x : Option (Rat × Nat)) : List AV := [.sl 1 (irows .i64 []) false, .val (.bool false), .sl 1 (irows .i32 []) false, .sl 3 ([x].map rowX) false, .val (.bool true)]
def zrow : List AV := [.sl 0 [] true, .val (.bool false), .sl 0 [] true, .sl 0 [] true, .val (.bool false)]
theorem prow_noid (x : Option (Rat × Nat)) : ∀ y ∈ prow x, NoId y := noid5 (noid_sl _ _ _) (.val _) (noid_sl _ _ _) (slX_noid _) (.val _)
theorem zrow_noid : ∀ y ∈ zrow, NoId y := noid5 (.sl _ _ _ (fun r hr => nomatch hr)) (.val _) (.sl _ _ _ (fun r hr => nomatch hr)) (.sl _ _ _ (fun r hr => nomatch hr)) (.val _)
theorem prows_noid (xs : List (Option (Rat × Nat))) : ∀ r ∈ xs.map prow, ∀ y ∈ r, NoId y := by
  intro r hr
  obtain ⟨x, _, rfl⟩ := List.mem_map.1 hr
  exact prow_noid x
theorem pz_noid (xs : List (Option (Rat × Nat))) (k : Nat) : ∀ r ∈ xs.map prow ++ List.replicate k zrow, ∀ y ∈ r, NoId y := by
  intro r hr
  rcases List.mem_append.1 hr with h | h
  · exact prows_noid xs r h
  · rw [(List.mem_replicate.1 h).2]; exact zrow_noid
theorem woven_list (xs : List (Option (Rat × Nat))) (hn : 2 ≤ xs.length) (h4 : xs.length ≤ 1000) : AC Tryz.prog 84 [.sl 5 (xs.map prow) false, .sl 1 (irows .i64 [(xs.length : Int)]) false, .val (.int .i64 0)] (.pure (.tup [AA [(xs.length : Int)] false [] xs true, .val (.int .i64 0)])) := by
  obtain ⟨n, hnl⟩ : ∃ n, n = xs.length := ⟨_, rfl⟩
  obtain ⟨v1, c1⟩ := vS_single n (by omega)
  have lp : (xs.map prow).length = n := by rw [List.length_map]; exact hnl.symm
  have hx0 : 0 < xs.length := by omega
  have hg0 : (xs.map prow)[0]? = some [.sl 1 (irows .i64 []) false, .val (.bool false), .sl 1 (irows .i32 []) false, .sl 3 ([xs[0]].map rowX) false, .val (.bool true)] := by rw [List.getElem?_map, List.getElem?_eq_getElem hx0]; rfl
  have hRv := Ravel_ok xs[0]
  have hF0 := Rats_freshA [1] false [] [xs[0]] (by show 1 ≤ 1000000; omega)
  have hL1 : AC Tryz.prog 57 [AA [] false [] [xs[0]] true] (.pure (.val (.int .i64 1))) := ALen_ok [] false [] [xs[0]] true (by decide) (by show 1 ≤ 1000000; omega)
  have hN := Nums_ok [(n : Int)] xs v1 (by rw [c1, hnl]) (by omega)
  have hSp := Split_ok [(n : Int)] 0 (by show 0 < 1; omega) v1
  have hSp : AC Tryz.prog 109 [.sl 1 (irows .i64 [(n : Int)]) false, .val (.int .i64 0)] (.pure (.tup [.val (.int .i64 1), .val (.int .i64 (n : Int)), .val (.int .i64 1), .val (.bool true)])) := hSp
  obtain ⟨Y, hY⟩ : ∃ Y : List Int, Y = (List.range n).map fun i : Nat => (i : Int) := ⟨_, rfl⟩
  have lY : Y.length = n := by rw [hY, List.length_map, List.length_range]
  have hYi : ∀ i (h : i < n), Y[i]'(by omega) = (i : Int) := fun i h => by subst hY; rw [List.getElem_map, List.getElem_range]
  have hP := PickN_ok [(n : Int)] [] xs [(n : Int)] Y v1 (by rw [c1, lY]) (by omega)
  have hYx : Y.map (getX xs) = xs := by
    rw [hY, List.map_map]
    refine List.ext_getElem? fun i => ?_
    rw [List.getElem?_map]
    by_cases hi : i < n
    · rw [List.getElem?_range hi]
      show some (getX xs (i : Int)) = _
      rw [getX_in (by omega), List.getElem?_eq_getElem (by omega)]
    · rw [List.getElem?_eq_none (by rw [List.length_range]; omega), List.getElem?_eq_none (by omega)]
      rfl
  rw [hYx] at hP
  have lYr := irows_len .i64 Y
  have eP : irows .i64 Y = List.take n (List.drop 0 (irows .i64 Y)) := by rw [List.drop_zero, List.take_of_length_le (by omega)]
  rw [eP] at hP
  rw [← hnl]
  refine AC.of_body TTok Tryz.func84 rfl (enter_of Tryz.func84 (by kernel_rfl) (by kernel_rfl)) (noid3 (.sl _ _ _ (prows_noid _)) (noid_sl _ _ _) (.val _)) (.tup _ (noid2 (AA_noid _ _ _ _ _) (.val _))) (Nat.le_of_ble_eq_true rfl) ?_
  unfold AA at *
  conv => whnf
  first
    | refine caseb (fun _ => ?_) (fun h => absurd (of_decide_eq_false h) (by omega))
    | refine caseb (fun h => absurd (of_decide_eq_true h) (by omega)) (fun _ => ?_)
    | refine caseb (fun _ => ?_) (fun h => absurd (beq_eq_false_iff_ne.1 h) (by omega))
    | refine caseb (fun h => absurd (eq_of_beq h) (by omega)) (fun _ => ?_)
  conv => whnf
  refine ⟨_, ⟨by decide, hg0⟩, ?_⟩
  conv => whnf
  refine ⟨_, hRv, ?_⟩
  conv => whnf
  refine ⟨_, hF0, ?_⟩
  conv => whnf
  refine ⟨by show (0 : Int) ≤ 1 ∧ (1 : Int) ≤ ((xs.map prow).length : Nat); omega, ?_⟩
  conv => whnf
  refine SW.loopM TTok (fun i : Nat => [(0, .sl 5 (xs.map prow) false), (1, .sl 1 (irows .i64 [(n : Int)]) false), (2, .val (.int .i64 0)), (6, .lp 0 0), (7, .val (.int .i64 0)), (11, .own 96 0 (i + 1)), (52, .sl 5 ((xs.drop 1).map prow) false), (53, .val (.int .i64 ((n - 1 : Nat) : Int))), (54, .val (.int .i64 (i : Int)))])
    (fun i => [(0, .cells 5 [[.sl 0 [] true, .val (.bool false), .sl 0 [] true, .sl 0 [] true, .val (.bool false)]]), (96, .cells 3 ((xs.take (i + 1)).map rowX))]) 144 127 rfl (fun i => n - 1 - i) (fun i => i ≤ n - 1) 0 [] (Nat.zero_le _)
    ⟨⟨rfl, rfl⟩, ⟨rfl, rfl⟩, ⟨rfl, rfl⟩, ⟨rfl, rfl⟩, ⟨rfl, rfl⟩, ⟨rfl, rfl⟩, ⟨slE ?_, rfl⟩, ⟨valI ?_, rfl⟩, ⟨rfl, rfl⟩, trivial⟩ ⟨⟨rfl, .inr ⟨rfl, rfl⟩⟩, ⟨rfl, .inl ⟨celE ?_, rowsX_noid _⟩⟩, trivial⟩ rfl ?_
  · rw [List.take_length, List.map_drop]; rfl
  · rw [List.take_length, List.length_drop, lp]; rfl
  · rw [List.take_one, List.head?_eq_getElem?, List.getElem?_eq_getElem hx0]; rfl
  intro i hJ
  have hi : i ≤ n - 1 := hJ
  clear hJ
  have lr : ((xs.take (i + 1)).map rowX).length = i + 1 := by rw [List.length_map, List.length_take]; omega
  by_cases hlt : i < n - 1
  · have eI : IntKind.i64.wrap ((i : Int) + 1) = ((i + 1 : Nat) : Int) := by rw [IntWalk.i64_in _ (by omega)]; omega
    have hxi : i + 1 < xs.length := by omega
    have hg : ((xs.drop 1).map prow)[i]? = some [.sl 1 (irows .i64 []) false, .val (.bool false), .sl 1 (irows .i32 []) false, .sl 3 ([xs[i + 1]].map rowX) false, .val (.bool true)] := by
      rw [List.getElem?_map, List.getElem?_drop, Nat.add_comm 1 i, List.getElem?_eq_getElem hxi]; rfl
    have hF := Rats_freshA [] false [] [xs[i + 1]] (by show 1 ≤ 1000000; omega)
    have hsn : (xs.take (i + 1)).map rowX ++ [rowX xs[i + 1]] = (xs.take (i + 1 + 1)).map rowX := by
      rw [take_snoc hxi, List.map_append]; rfl
    have htk : List.take (i + 1) (List.drop 0 ((xs.take (i + 1)).map rowX)) = (xs.take (i + 1)).map rowX := by rw [List.drop_zero, List.take_of_length_le (by omega)]
    unfold AA at hF
    conv => whnf
    first
      | refine caseb (fun _ => ?_) (fun h => absurd (of_decide_eq_false h) (by omega))
      | refine caseb (fun h => absurd (of_decide_eq_true h) (by omega)) (fun _ => ?_)
      | refine caseb (fun _ => ?_) (fun h => absurd (beq_eq_false_iff_ne.1 h) (by omega))
      | refine caseb (fun h => absurd (eq_of_beq h) (by omega)) (fun _ => ?_)
    conv => whnf
    refine ⟨_, ⟨by omega, by rw [Int.toNat_natCast]; exact hg⟩, ?_⟩
    conv => whnf
    refine ⟨_, hF, ?_⟩
    conv => whnf
    refine ⟨⟨by show 0 + (i + 1) ≤ _; omega, by show (i + 1 + 1) * 56 ≤ 140737488355328; omega, Nat.le_refl _⟩, ?_⟩
    conv => whnf
    refine ⟨i + 1, [(96, 208)], (by show n - 1 - (i + 1) < n - 1 - i; omega), (by show i + 1 ≤ n - 1; omega), ⟨⟨rfl, rfl⟩, ⟨rfl, rfl⟩, ⟨rfl, rfl⟩, ⟨rfl, rfl⟩, ⟨rfl, rfl⟩, ⟨rfl, rfl⟩, ⟨rfl, rfl⟩, ⟨rfl, rfl⟩, ⟨valI eI, rfl⟩, trivial⟩, ⟨⟨rfl, .inr ⟨rfl, rfl⟩⟩, ⟨rfl, .inl ⟨celE ?_, rowsX_noid _⟩⟩, trivial⟩, rfl⟩
    rw [← hsn]
    show List.take (i + 1) (List.drop 0 ((xs.take (i + 1)).map rowX)) ++ List.take 1 (List.drop 0 ([xs[i + 1]].map rowX)) = _
    rw [htk]
    rfl
  · have hie : i = n - 1 := by omega
    have e1 : xs.take (i + 1) = xs := List.take_of_length_le (by omega)
    have e2 : i + 1 = n := by omega
    rw [e1] at lr ⊢
    rw [e2] at lr ⊢
    conv => whnf
    first
      | refine caseb (fun _ => ?_) (fun h => absurd (of_decide_eq_false h) (by omega))
      | refine caseb (fun h => absurd (of_decide_eq_true h) (by omega)) (fun _ => ?_)
      | refine caseb (fun _ => ?_) (fun h => absurd (beq_eq_false_iff_ne.1 h) (by omega))
      | refine caseb (fun h => absurd (eq_of_beq h) (by omega)) (fun _ => ?_)
    conv => whnf
    have eX : xs.map rowX = List.take n (List.drop 0 (xs.map rowX)) := by rw [List.drop_zero, List.take_of_length_le (by omega)]
    have hN' : AC Tryz.prog 14 [.sl 1 (irows .i64 [(n : Int)]) false, .sl 3 (List.take n (List.drop 0 (xs.map rowX))) false] (.pure (.tup [.agg [.sl 1 (irows .i64 [(n : Int)]) false, .val (.bool false), .sl 1 (irows .i32 []) false, .sl 3 (xs.map rowX) false, .val (.bool true)], .val (.bool true)])) := by
      rw [← eX]; exact hN
    refine ⟨⟨Nat.le_refl _, by show 0 + n ≤ _; omega⟩, _, hN', ?_⟩
    conv => whnf
    refine ⟨_, hSp, ?_⟩
    conv => whnf
    refine ⟨⟨by decide, by omega, by show ((n : Nat) : Int) * ((8 : Nat) : Int) ≤ 140737488355328; omega⟩, ?_⟩
    conv => whnf
    refine ⟨_, ⟨by decide, hg0⟩, ?_⟩
    conv => whnf
    refine ⟨_, hL1, ?_⟩
    conv => whnf
    refine SW.loopM TTok (fun i : Nat => [(0, .sl 5 (xs.map prow) false), (1, .sl 1 (irows .i64 [(n : Int)]) false), (6, .lp 0 0), (7, .val (.int .i64 0)), (14, .lp 216 0), (18, .val (.int .i64 1)), (20, .own 352 0 i), (21, .val (.int .i64 1)), (87, .val (.int .i64 (n : Int))), (88, .val (.int .i64 (i : Int)))])
      (fun i => [(0, .cells 5 [[.sl 0 [] true, .val (.bool false), .sl 0 [] true, .sl 0 [] true, .val (.bool false)]]), (216, .cells 5 [[.sl 1 (irows .i64 [(n : Int)]) false, .val (.bool false), .sl 1 (irows .i32 []) false, .sl 3 (xs.map rowX) false, .val (.bool true)]]), (352, .cells 1 (irows .i64 (Y.take i)))]) 432 127 rfl (fun i => n - i) (fun i => i ≤ n) 0 [] (Nat.zero_le _)
      ⟨⟨rfl, rfl⟩, ⟨rfl, rfl⟩, ⟨rfl, rfl⟩, ⟨rfl, rfl⟩, ⟨rfl, rfl⟩, ⟨rfl, rfl⟩, ⟨rfl, rfl⟩, ⟨rfl, rfl⟩, ⟨rfl, rfl⟩, ⟨rfl, rfl⟩, trivial⟩ ⟨⟨rfl, .inr ⟨rfl, rfl⟩⟩, ⟨rfl, .inr ⟨rfl, rfl⟩⟩, ⟨rfl, .inr ⟨rfl, rfl⟩⟩, trivial⟩ rfl ?_
    intro i hJ
    have hi : i ≤ n := hJ
    clear hJ
    have lr2 : (irows .i64 (Y.take i)).length = i := by rw [irows_len, List.length_take]; omega
    by_cases hlt : i < n
    · have eI : IntKind.i64.wrap ((i : Int) + 1) = ((i + 1 : Nat) : Int) := by rw [IntWalk.i64_in _ (by omega)]; omega
      have hsn : irows .i64 (Y.take i) ++ [[.val (.int .i64 (i : Int))]] = irows .i64 (Y.take (i + 1)) := by
        rw [take_snoc (show i < Y.length by omega), hYi i hlt, ← irows_append]; rfl
      have htk : List.take i (List.drop 0 (irows .i64 (Y.take i))) = irows .i64 (Y.take i) := by rw [List.drop_zero, List.take_of_length_le (by omega)]
      have d1 : ((i : Int)).tdiv 1 = (i : Int) := by rw [Int.tdiv_eq_ediv_of_nonneg (Int.natCast_nonneg _)]; omega
      have d2 : ((i : Int)).tmod 1 = 0 := by rw [Int.tmod_eq_emod_of_nonneg (Int.natCast_nonneg _)]; omega
      have d3 : ((i : Int)).tmod (((xs.map prow).length : Nat) : Int) = (i : Int) := by
        rw [lp, Int.tmod_eq_emod_of_nonneg (Int.natCast_nonneg _), Int.emod_eq_of_lt (by omega) (by omega)]
      have d4 : ((i : Int)).tdiv (((xs.map prow).length : Nat) : Int) = 0 := by
        rw [lp, Int.tdiv_eq_ediv_of_nonneg (Int.natCast_nonneg _), Int.ediv_eq_zero_of_lt (by omega) (by omega)]
      have dw : IntKind.i64.wrap (i : Int) = (i : Int) := wrap_nat' _ (by omega)
      conv => whnf
      first
        | refine caseb (fun _ => ?_) (fun h => absurd (of_decide_eq_false h) (by omega))
        | refine caseb (fun h => absurd (of_decide_eq_true h) (by omega)) (fun _ => ?_)
        | refine caseb (fun _ => ?_) (fun h => absurd (beq_eq_false_iff_ne.1 h) (by omega))
        | refine caseb (fun h => absurd (eq_of_beq h) (by omega)) (fun _ => ?_)
      conv => whnf
      refine ⟨by decide, ?_⟩
      conv => whnf
      refine ⟨by decide, ?_⟩
      conv => whnf
      refine ⟨by omega, ?_⟩
      conv => whnf
      refine ⟨by decide, ?_⟩
      conv => whnf
      refine ⟨by omega, ?_⟩
      conv => whnf
      refine ⟨⟨by show 0 + i ≤ _; omega, by show (i + 1) * 8 ≤ 140737488355328; omega, Nat.le_of_ble_eq_true rfl⟩, ?_⟩
      conv => whnf
      refine ⟨i + 1, [(352, 688)], (by show n - (i + 1) < n - i; omega), hlt, ⟨⟨rfl, rfl⟩, ⟨rfl, rfl⟩, ⟨rfl, rfl⟩, ⟨rfl, rfl⟩, ⟨rfl, rfl⟩, ⟨rfl, rfl⟩, ⟨rfl, rfl⟩, ⟨rfl, rfl⟩, ⟨rfl, rfl⟩, ⟨valI eI, rfl⟩, trivial⟩, ⟨⟨rfl, .inr ⟨rfl, rfl⟩⟩, ⟨rfl, .inr ⟨rfl, rfl⟩⟩, ⟨rfl, .inl ⟨celE ?_, irows_noid _ _⟩⟩, trivial⟩, rfl⟩
      rw [← hsn]
      show List.take i (List.drop 0 (irows .i64 (Y.take i))) ++ [[.val (.int .i64 (IntKind.i64.wrap (IntKind.i64.wrap (IntKind.i64.wrap ((IntKind.i64.wrap (((i : Int)).tdiv 1)).tmod (((xs.map prow).length : Nat) : Int) * 1) + IntKind.i64.wrap (IntKind.i64.wrap ((IntKind.i64.wrap (((i : Int)).tdiv 1)).tdiv (((xs.map prow).length : Nat) : Int)) * 1)) + ((i : Int)).tmod 1)))]] = _
      rw [htk, d1, d2, dw, d3, d4, Int.mul_one, dw, show IntKind.i64.wrap (IntKind.i64.wrap 0 * 1) = 0 from rfl, Int.add_zero, Int.add_zero, dw, dw]
    · have hie2 : i = n := by omega
      have e3 : Y.take i = Y := List.take_of_length_le (by omega)
      rw [e3, hie2]
      conv => whnf
      first
        | refine caseb (fun _ => ?_) (fun h => absurd (of_decide_eq_false h) (by omega))
        | refine caseb (fun h => absurd (of_decide_eq_true h) (by omega)) (fun _ => ?_)
        | refine caseb (fun _ => ?_) (fun h => absurd (beq_eq_false_iff_ne.1 h) (by omega))
        | refine caseb (fun h => absurd (eq_of_beq h) (by omega)) (fun _ => ?_)
      conv => whnf
      refine ⟨by show 0 + n ≤ _; omega, _, hP, ?_⟩
      repeat
        conv => whnf
        first
          | refine ⟨_, by assumption, ?_⟩
          | refine ⟨(Nat.le_of_ble_eq_true rfl), _, by assumption, ?_⟩
          | refine ⟨by kernel_rfl, ?_⟩
          | exact rfl
          | exact ⟨Nat.le_of_ble_eq_true rfl, rfl⟩
          | refine ⟨by decide, ?_⟩
/-- All up to each place of a list brought together. -/
theorem Scan_list (c : Int) (hc : isTwo c) (axis most : Int) (hax : axis < 0) (na : List (Option (Rat × Nat))) (xs : List (Option (Rat × Nat))) (n : Nat) (hnl : n = xs.length) (hl : na.length = xs.length) (hn : 2 ≤ xs.length) (h4 : xs.length ≤ 1000)
    (hR : ∀ i (h : i < xs.length), AC Tryz.prog 38 [.val (.int .i32 c), AA [(n : Int)] false [] na true, .val (.int .i64 0), .val (.int .i64 (i : Int)), .val (.int .i64 most)] (.pure (.tup [AA [] false [] [xs[i]] true, .val (.int .i64 0)]))) :
    AC Tryz.prog 32 [.val (.int .i32 c), AA [(n : Int)] false [] na true, .val (.int .i64 axis), .val (.int .i64 most)] (.pure (.tup [AA [(n : Int)] false [] xs true, .val (.int .i64 0)])) := by
  have hH := Has_ok c
  rw [decide_eq_true hc] at hH
  have hRk : AC Tryz.prog 36 [AA [(n : Int)] false [] na true] (.pure (.val (.int .i64 1))) := Rank_ok [(n : Int)] false [] na (by show 1 ≤ 1000000; omega)
  have hA := Axis_ok [(n : Int)] false [] na axis 0 ⟨by show 0 < 1; omega, .inr ⟨hax, rfl⟩⟩ (by show 1 ≤ 1000; omega)
  have hA : AC Tryz.prog 37 [AA [(n : Int)] false [] na true, .val (.int .i64 axis)] (.pure (.tup [.val (.int .i64 0), .val (.bool true)])) := hA
  have hS := Shape_ok [(n : Int)] false [] na (by show 1 ≤ 1000000; omega)
  have hL := ALen_ok [(n : Int)] false [] na true (by decide) (by omega)
  have hW := woven_list xs hn h4
  have lp : (xs.map prow).length = n := by rw [List.length_map]; exact hnl.symm
  have eW : xs.map prow = List.take n (List.drop 0 (xs.map prow)) := by rw [List.drop_zero, List.take_of_length_le (by omega)]
  rw [eW] at hW
  have hIc := fun x => IsChar_ok [] false [] [x] true
  have lna : ([] : List Int).length + na.length = n := by rw [hl, hnl]; exact Nat.zero_add _
  rw [lna] at hL
  rw [← hnl] at hW
  have lz : ∀ k, (List.replicate k zrow).length = k := fun k => List.length_replicate
  refine AC.of_body TTok Tryz.func32 rfl (enter_of Tryz.func32 (by kernel_rfl) (by kernel_rfl)) (noidF (.val _) (AA_noid _ _ _ _ _) (.val _) (.val _)) (.tup _ (noid2 (AA_noid _ _ _ _ _) (.val _))) (Nat.le_of_ble_eq_true rfl) ?_
  unfold AA at *
  conv => whnf
  refine ⟨_, hH, ?_⟩
  conv => whnf
  refine ⟨_, hRk, ?_⟩
  conv => whnf
  refine ⟨_, hA, ?_⟩
  conv => whnf
  refine ⟨_, hS, ?_⟩
  conv => whnf
  refine ⟨_, hL, ?_⟩
  conv => whnf
  first
    | refine caseb (fun _ => ?_) (fun h => absurd (of_decide_eq_false h) (by omega))
    | refine caseb (fun h => absurd (of_decide_eq_true h) (by omega)) (fun _ => ?_)
    | refine caseb (fun _ => ?_) (fun h => absurd (beq_eq_false_iff_ne.1 h) (by omega))
    | refine caseb (fun h => absurd (eq_of_beq h) (by omega)) (fun _ => ?_)
  conv => whnf
  refine ⟨_, ⟨by decide, rfl⟩, ?_⟩
  conv => whnf
  refine ⟨⟨by omega, by omega, by show ((n : Nat) : Int) * ((88 : Nat) : Int) ≤ 140737488355328; omega⟩, ?_⟩
  conv => whnf
  refine SW.loopM TTok (fun i : Nat => [(0, .val (.int .i32 c)), (3, .val (.int .i64 most)), (5, .lp 0 0), (8, .lp 8 0), (9, .val (.int .i64 0)), (10, .val (.int .i64 0)), (12, .sl 1 (irows .i64 [(n : Int)]) false), (13, .own 280 0 n), (52, .val (.int .i64 (n : Int))), (53, .val (.int .i64 (i : Int)))])
    (fun i => [(0, .cells 5 [[.sl 1 (irows .i64 [(n : Int)]) false, .val (.bool false), .sl 1 (irows .i32 []) false, .sl 3 (na.map rowX) false, .val (.bool true)]]), (8, .cells 5 [[.sl 0 [] true, .val (.bool false), .sl 0 [] true, .sl 0 [] true, .val (.bool false)]]), (280, .cells 5 ((xs.take i).map prow ++ List.replicate (n - i) zrow))]) 320 90 rfl (fun i => n - i) (fun i => i ≤ n) 0 [] (Nat.zero_le _)
    ⟨⟨rfl, rfl⟩, ⟨rfl, rfl⟩, ⟨rfl, rfl⟩, ⟨rfl, rfl⟩, ⟨rfl, rfl⟩, ⟨rfl, rfl⟩, ⟨rfl, rfl⟩, ⟨rfl, rfl⟩, ⟨rfl, rfl⟩, ⟨rfl, rfl⟩, trivial⟩ ⟨⟨rfl, .inr ⟨rfl, rfl⟩⟩, ⟨rfl, .inr ⟨rfl, rfl⟩⟩, ⟨rfl, .inl ⟨rfl, pz_noid _ _⟩⟩, trivial⟩ rfl ?_
  intro i hJ
  have hi : i ≤ n := hJ
  clear hJ
  have ltk : ((xs.take i).map prow).length = i := by rw [List.length_map, List.length_take]; omega
  have lr : ((xs.take i).map prow ++ List.replicate (n - i) zrow).length = n := by rw [List.length_append, ltk, lz]; omega
  by_cases hlt : i < n
  · have eI : IntKind.i64.wrap ((i : Int) + 1) = ((i + 1 : Nat) : Int) := by rw [IntWalk.i64_in _ (by omega)]; omega
    have hxi : i < xs.length := by omega
    have hRi := hR i hxi
    have hIi := hIc xs[i]
    obtain ⟨x, hx⟩ : ∃ x, x = xs[i] := ⟨_, rfl⟩
    rw [← hx] at hRi hIi
    have hset : ((xs.take i).map prow ++ List.replicate (n - i) zrow).set i (prow x) = (xs.take (i + 1)).map prow ++ List.replicate (n - (i + 1)) zrow := by
      rw [rep_drop _ n i hlt, take_snoc hxi, ← hx]
      have := set_mid ((xs.take i).map prow) zrow (prow x) (List.replicate (n - (i + 1)) zrow)
      rw [ltk] at this
      rw [this]; simp
    conv => whnf
    first
      | refine caseb (fun _ => ?_) (fun h => absurd (of_decide_eq_false h) (by omega))
      | refine caseb (fun h => absurd (of_decide_eq_true h) (by omega)) (fun _ => ?_)
      | refine caseb (fun _ => ?_) (fun h => absurd (beq_eq_false_iff_ne.1 h) (by omega))
      | refine caseb (fun h => absurd (eq_of_beq h) (by omega)) (fun _ => ?_)
    conv => whnf
    refine ⟨_, hRi, ?_⟩
    conv => whnf
    refine ⟨by omega, ?_⟩
    conv => whnf
    refine ⟨by rw [Nat.zero_add, Int.toNat_natCast]; omega, ?_⟩
    conv => whnf
    refine ⟨_, hIi, ?_⟩
    conv => whnf
    refine ⟨i + 1, [], (by show n - (i + 1) < n - i; omega), hlt, ⟨⟨rfl, rfl⟩, ⟨rfl, rfl⟩, ⟨rfl, rfl⟩, ⟨rfl, rfl⟩, ⟨rfl, rfl⟩, ⟨rfl, rfl⟩, ⟨rfl, rfl⟩, ⟨rfl, rfl⟩, ⟨rfl, rfl⟩, ⟨valI eI, rfl⟩, trivial⟩, ⟨⟨rfl, .inr ⟨rfl, rfl⟩⟩, ⟨rfl, .inr ⟨rfl, rfl⟩⟩, ⟨rfl, .inl ⟨celE ?_, pz_noid _ _⟩⟩, trivial⟩, rfl⟩
    rw [← hset]
    show List.set _ (0 + (i : Int).toNat) _ = _
    rw [Nat.zero_add, Int.toNat_natCast]
    rfl
  · have hie : i = n := by omega
    have e1 : xs.take i = xs := List.take_of_length_le (by omega)
    rw [e1, hie, Nat.sub_self, List.replicate_zero, List.append_nil]
    conv => whnf
    first
      | refine caseb (fun _ => ?_) (fun h => absurd (of_decide_eq_false h) (by omega))
      | refine caseb (fun h => absurd (of_decide_eq_true h) (by omega)) (fun _ => ?_)
      | refine caseb (fun _ => ?_) (fun h => absurd (beq_eq_false_iff_ne.1 h) (by omega))
      | refine caseb (fun h => absurd (eq_of_beq h) (by omega)) (fun _ => ?_)
    conv => whnf
    refine ⟨by show 0 + n ≤ _; omega, _, hW, ?_⟩
    repeat
      conv => whnf
      first
        | refine ⟨_, by assumption, ?_⟩
        | refine ⟨(Nat.le_of_ble_eq_true rfl), _, by assumption, ?_⟩
        | refine ⟨by kernel_rfl, ?_⟩
        | exact rfl
        | exact ⟨Nat.le_of_ble_eq_true rfl, rfl⟩
        | refine ⟨by decide, ?_⟩
end Go.Proofs.YtbdklokfijjifaaGreat

/- Lists brought together; what is shown; the chapter's examples (contracts). -/
set_option linter.unusedVariables false
namespace Go.Proofs.YtbdklokfijjifaaGreat
open Go Go.AL NM

theorem foldE_tail (c most : Int) (x : El) (l : List El) (h : (foldE c most (x :: l)).2 = 0) : (foldE c most l).2 = 0 := by
  cases l with
  | nil => rfl
  | cons y l =>
    rw [foldE_cons _ _ _ (List.cons_ne_nil _ _)] at h
    by_cases h2 : (foldE c most (y :: l)).2 ≠ 0
    · rw [if_pos h2] at h; exact absurd h h2
    · exact Decidable.byContradiction h2
theorem foldE_drop (c most : Int) : ∀ (i : Nat) (l : List El), (foldE c most l).2 = 0 → (foldE c most (l.drop i)).2 = 0
  | 0, l, h => h
  | i + 1, [], h => h
  | i + 1, x :: l, h => foldE_drop c most i l (foldE_tail c most x l h)
/-- The elements of a list of numbers. -/
theorem line_list (qs : List Rat) (t n : Nat) (ht : t ≤ qs.length) : lineE false [] qs t n 1 0 = (qs.take t).map numE := by
  refine List.ext_getElem? fun i => ?_
  unfold lineE
  rw [List.getElem?_map, List.getElem?_map, List.getElem?_take]
  by_cases hi : i < t
  · rw [if_pos hi, List.getElem?_range hi, List.getElem?_eq_getElem (by omega)]
    show some (elA false [] qs ((0 / 1 * n + i) * 1 + 0 % 1)) = some (numE qs[i])
    have e : (0 / 1 * n + i) * 1 + 0 % 1 = i := by simp
    rw [e]
    unfold elA numE
    rw [List.getD_eq_getElem?_getD, List.getD_eq_getElem?_getD, List.getElem?_eq_getElem (show i < qs.length by omega)]
    rfl
  · rw [if_neg hi, List.getElem?_eq_none (by rw [List.length_range]; omega)]; rfl
section
variable (c most : Int) (hc : isTwo c) (hm : most ≤ 200) (na : List (Option (Rat × Nat))) (qs : List Rat) (na1 : na.map valX = qs) (oa : ∀ o ∈ na, okX o) (hQ : ∀ q ∈ qs, Sz q 20)
include hc hm na1 oa hQ
theorem run_list (h4 : qs.length ≤ 500) (t : Nat) (h0 : 0 < t) (ht : t ≤ qs.length) (hz : (foldE c most ((qs.take t).map numE)).2 = 0)
    (hb : ∀ i, (pairE c most (elA false [] qs i) (foldE c most (((qs.take t).map numE).drop (i + 1))).1).2 = 0 → Sz (pairE c most (elA false [] qs i) (foldE c most (((qs.take t).map numE).drop (i + 1))).1).1 20) :
    ∃ o, okX o ∧ numE (valX o) = (foldE c most ((qs.take t).map numE)).1 ∧
      AC Tryz.prog 38 [.val (.int .i32 c), AA [(qs.length : Int)] false [] na true, .val (.int .i64 0), .val (.int .i64 ((t - 1 : Nat) : Int)), .val (.int .i64 most)] (.pure (.tup [AA [] false [] [o] true, .val (.int .i64 0)])) := by
  have la : na.length = qs.length := by rw [← na1, List.length_map]
  obtain ⟨v1, c1⟩ := vS_single qs.length (by omega)
  have hk : kinds [(qs.length : Int)] false ([] : List Int).length na.length := by
    show ((na.length : Nat) : Int) = cntI [(qs.length : Int)] ∧ (0 = 0)
    rw [c1, la]; exact ⟨rfl, rfl⟩
  have hl := line_list qs t qs.length ht
  obtain ⟨x, hx1, hx2⟩ := run_any c most hc hm [(qs.length : Int)] 0 false [] na qs na1 oa hQ (by show 0 < 1; omega) v1 hk qs.length rfl t h0 ht
    (fun i r hr h => by
      have hr0 : r = 0 := by
        have hr : r < 1 * 1 := hr
        omega
      subst hr0
      have e : (0 / 1 * qs.length + i) * 1 + 0 % 1 = i := by simp
      have h : (pairE c most (elA false [] qs ((0 / 1 * qs.length + i) * 1 + 0 % 1)) (foldE c most ((lineE false [] qs t qs.length 1 0).drop (i + 1))).1).2 = 0 := h
      show Sz (pairE c most (elA false [] qs ((0 / 1 * qs.length + i) * 1 + 0 % 1)) (foldE c most ((lineE false [] qs t qs.length 1 0).drop (i + 1))).1).1 20
      rw [e, hl] at h ⊢
      exact hb i h) (by show 1 * 1 ≤ 500; omega)
  have hE : redE c most (rowsL false [] qs t qs.length (pr ([] : List Int)) (pr ([] : List Int) * pr ([] : List Int))) t = 0 := by
    refine redE_zero _ _ _ _ (fun j hj => ?_)
    refine fst0_of fun e he => ?_
    obtain ⟨l, hl2, rfl⟩ := List.mem_map.1 he
    obtain ⟨r, hr, rfl⟩ := List.mem_map.1 hl2
    have hr0 : r = 0 := by
      have : r < 1 * 1 := List.mem_range.1 hr
      omega
    subst hr0
    show (foldE c most ((lineE false [] qs t qs.length 1 0).drop j)).2 = 0
    rw [hl]
    exact foldE_drop c most j _ hz
  have hx1 := hx1 hE
  have hx2 : AC Tryz.prog 38 [.val (.int .i32 c), AA [(qs.length : Int)] false [] na true, .val (.int .i64 0), .val (.int .i64 ((t - 1 : Nat) : Int)), .val (.int .i64 most)] (.pure (resF [] x.1 x.2.1 x.2.2 (redE c most (rowsL false [] qs t qs.length (pr ([] : List Int)) (pr ([] : List Int) * pr ([] : List Int))) t))) := hx2
  obtain ⟨y1, y2, y3, _, y5⟩ := hx1
  obtain ⟨xc, xt, xn⟩ := x
  have y1 : xc = false := y1
  subst y1
  have y2 : ((xn.length : Nat) : Int) = cntI [] ∧ xt.length = 0 := y2
  have xt0 : xt = [] := List.length_eq_zero_iff.1 y2.2
  subst xt0
  have xl : xn.length = 1 := by have := y2.1; rw [show cntI [] = 1 from rfl] at this; omega
  obtain ⟨o, rfl⟩ := List.length_eq_one_iff.1 xl
  rw [hE] at hx2
  refine ⟨o, y3 o (List.mem_singleton.2 rfl), ?_, hx2⟩
  have y5 := y5 0 (by show 0 < 1 * 1; omega)
  have y5 : elA false [] [valX o] 0 = (foldE c most ((lineE false [] qs t qs.length 1 0).drop 0)).1 := y5
  rw [hl] at y5
  exact y5
theorem Red_list (axis : Int) (hax : axis < 0) (h4 : qs.length ≤ 500) (h0 : 0 < qs.length) (hz : (foldE c most (qs.map numE)).2 = 0)
    (hb : ∀ i, (pairE c most (elA false [] qs i) (foldE c most ((qs.map numE).drop (i + 1))).1).2 = 0 → Sz (pairE c most (elA false [] qs i) (foldE c most ((qs.map numE).drop (i + 1))).1).1 20) :
    ∃ o, okX o ∧ numE (valX o) = (foldE c most (qs.map numE)).1 ∧
      AC Tryz.prog 12 [.val (.int .i32 c), AA [(qs.length : Int)] false [] na true, .val (.int .i64 axis), .val (.int .i64 most)] (.pure (.tup [AA [] false [] [o] true, .val (.int .i64 0)])) := by
  have ht : qs.take qs.length = qs := List.take_length
  obtain ⟨o, o1, o2, o3⟩ := run_list c most hc hm na qs na1 oa hQ h4 qs.length h0 (Nat.le_refl _) (by rw [ht]; exact hz) (by rw [ht]; exact hb)
  rw [ht] at o2
  exact ⟨o, o1, o2, Red_run c [(qs.length : Int)] false [] na axis most hc 0 ⟨by show 0 < 1; omega, .inr ⟨hax, rfl⟩⟩ (by show 1 ≤ 8; omega) qs.length rfl h0 (by omega) [] false [] [o] 0 o3⟩
end
end Go.Proofs.YtbdklokfijjifaaGreat

/- What functions make of nothing (the document's contract); what is shown; the chapter's examples. -/
set_option linter.unusedVariables false
namespace Go.Proofs.YtbdklokfijjifaaGreat
open Go Go.AL NM

def zlU : List Int := [43, 45, 124, 60, 62, 8800, 8744]
def olU : List Int := [215, 247, 42, 33, 8804, 61, 8805, 8743]
theorem unitQ_zero {c : Int} (h : c ∈ zlU) : unitQ c = some 0 := by
  unfold zlU at h
  simp only [List.mem_cons, List.not_mem_nil, or_false] at h
  exact if_pos h
theorem unitQ_one {c : Int} (h : c ∉ zlU) (h1 : c ∈ olU) : unitQ c = some 1 := by
  unfold zlU at h
  unfold olU at h1
  simp only [List.mem_cons, List.not_mem_nil, or_false] at h h1
  exact (if_neg h).trans (if_pos h1)
theorem unitQ_none {c : Int} (h : c ∉ zlU) (h1 : c ∉ olU) : unitQ c = none := by
  unfold zlU at h
  unfold olU at h1
  simp only [List.mem_cons, List.not_mem_nil, or_false] at h h1
  exact (if_neg h).trans (if_neg h1)
theorem not_mem_of {l : List Int} {c : Int} {n : Nat} (hn : l.length = n) (h : ∀ j (hj : j < l.length), j < n → l[j] ≠ c) : c ∉ l := fun hc => by
  obtain ⟨j, hj, e⟩ := List.getElem_of_mem hc
  exact h j hj (by omega) e
theorem RUnit_ok (c : Int) : AC Tryz.prog 10 [.val (.int .i32 c)] (.pure (.tup [.val (.int .i64 ((unitQ c).getD 0)), .val (.bool (unitQ c).isSome)])) := by
  obtain ⟨zl, hzl⟩ : ∃ zl, zl = zlU := ⟨_, rfl⟩
  obtain ⟨ol, hol⟩ : ∃ ol, ol = olU := ⟨_, rfl⟩
  have l1 : zl.length = 7 := by rw [hzl]; rfl
  have l2 : ol.length = 8 := by rw [hol]; rfl
  have e1 : irows .i32 zl = [[.val (.int .i32 43)], [.val (.int .i32 45)], [.val (.int .i32 124)], [.val (.int .i32 60)], [.val (.int .i32 62)], [.val (.int .i32 8800)], [.val (.int .i32 8744)]] := by rw [hzl]; rfl
  have e2 : irows .i32 ol = [[.val (.int .i32 215)], [.val (.int .i32 247)], [.val (.int .i32 42)], [.val (.int .i32 33)], [.val (.int .i32 8804)], [.val (.int .i32 61)], [.val (.int .i32 8805)], [.val (.int .i32 8743)]] := by rw [hol]; rfl
  have lr1 := irows_len .i32 zl
  have lr2 := irows_len .i32 ol
  obtain ⟨r, hr⟩ : ∃ r : AV, r = .tup [.val (.int .i64 ((unitQ c).getD 0)), .val (.bool (unitQ c).isSome)] := ⟨_, rfl⟩
  have rn : NoId r := by rw [hr]; exact .tup _ (noid2 (.val _) (.val _))
  have r0 : c ∈ zl → r = .tup [.val (.int .i64 0), .val (.bool true)] := fun h => by rw [hr, unitQ_zero (by rw [← hzl]; exact h)]; rfl
  have r1 : c ∉ zl → c ∈ ol → r = .tup [.val (.int .i64 1), .val (.bool true)] := fun h h' => by rw [hr, unitQ_one (by rw [← hzl]; exact h) (by rw [← hol]; exact h')]; rfl
  have r2 : c ∉ zl → c ∉ ol → r = .tup [.val (.int .i64 0), .val (.bool false)] := fun h h' => by rw [hr, unitQ_none (by rw [← hzl]; exact h) (by rw [← hol]; exact h')]; rfl
  rw [← hr]
  clear hr hzl hol
  refine AC.of_body TTok Tryz.func10 rfl (enter_of Tryz.func10 (by kernel_rfl) (by kernel_rfl)) (noid1 (.val _)) rn (Nat.le_of_ble_eq_true rfl) ?_
  conv => whnf
  refine SW.loopM TTok (fun i : Nat => [(0, .val (.int .i32 c)), (4, .own 16 0 7), (5, .own 32 0 8), (6, .val (.int .i64 (i : Int)))]) (fun _ => [(16, .cells 1 (irows .i32 zl)), (32, .cells 1 (irows .i32 ol))]) 56 34 rfl (fun i => 7 - i) (fun i => i ≤ 7 ∧ ∀ j (hj : j < zl.length), j < i → zl[j] ≠ c) 0 [] ⟨Nat.zero_le _, fun j _ hj => absurd hj (Nat.not_lt_zero _)⟩
    ⟨⟨rfl, rfl⟩, ⟨rfl, rfl⟩, ⟨rfl, rfl⟩, ⟨rfl, rfl⟩, trivial⟩ ⟨⟨rfl, .inl ⟨celE (by rw [e1]; rfl), irows_noid _ _⟩⟩, ⟨rfl, .inl ⟨celE (by rw [e2]; rfl), irows_noid _ _⟩⟩, trivial⟩ rfl ?_
  intro i hJ
  have hi : i ≤ 7 := hJ.1
  have hq : ∀ j (hj : j < zl.length), j < i → zl[j] ≠ c := hJ.2
  clear hJ
  by_cases hlt : i < 7
  · have eI : IntKind.i64.wrap ((i : Int) + 1) = ((i + 1 : Nat) : Int) := by rw [IntWalk.i64_in _ (by omega)]; omega
    have hil : i < zl.length := by omega
    have hg := irows_get .i32 zl (List.getElem?_eq_getElem hil)
    obtain ⟨x, hx⟩ : ∃ x, x = zl[i] := ⟨_, rfl⟩
    rw [← hx] at hg
    by_cases hxc : x = c
    · rw [r0 (by rw [← hxc, hx]; exact List.getElem_mem hil)]
      conv => whnf
      first
        | refine caseb (fun _ => ?_) (fun h => absurd (of_decide_eq_false h) (by omega))
        | refine caseb (fun h => absurd (of_decide_eq_true h) (by omega)) (fun _ => ?_)
        | refine caseb (fun _ => ?_) (fun h => absurd (beq_eq_false_iff_ne.1 h) (by omega))
        | refine caseb (fun h => absurd (eq_of_beq h) (by omega)) (fun _ => ?_)
      conv => whnf
      refine ⟨by omega, ?_⟩
      conv => whnf
      refine ⟨_, by rw [Nat.zero_add, Int.toNat_natCast]; exact hg, ?_⟩
      conv => whnf
      first
        | refine caseb (fun _ => ?_) (fun h => absurd (of_decide_eq_false h) (by omega))
        | refine caseb (fun h => absurd (of_decide_eq_true h) (by omega)) (fun _ => ?_)
        | refine caseb (fun _ => ?_) (fun h => absurd (beq_eq_false_iff_ne.1 h) (by omega))
        | refine caseb (fun h => absurd (eq_of_beq h) (by omega)) (fun _ => ?_)
      repeat
        conv => whnf
        first
          | refine ⟨_, by assumption, ?_⟩
          | refine ⟨(Nat.le_of_ble_eq_true rfl), _, by assumption, ?_⟩
          | refine ⟨by kernel_rfl, ?_⟩
          | exact rfl
          | exact ⟨Nat.le_of_ble_eq_true rfl, rfl⟩
          | refine ⟨by decide, ?_⟩
    · conv => whnf
      first
        | refine caseb (fun _ => ?_) (fun h => absurd (of_decide_eq_false h) (by omega))
        | refine caseb (fun h => absurd (of_decide_eq_true h) (by omega)) (fun _ => ?_)
        | refine caseb (fun _ => ?_) (fun h => absurd (beq_eq_false_iff_ne.1 h) (by omega))
        | refine caseb (fun h => absurd (eq_of_beq h) (by omega)) (fun _ => ?_)
      conv => whnf
      refine ⟨by omega, ?_⟩
      conv => whnf
      refine ⟨_, by rw [Nat.zero_add, Int.toNat_natCast]; exact hg, ?_⟩
      conv => whnf
      first
        | refine caseb (fun _ => ?_) (fun h => absurd (of_decide_eq_false h) (by omega))
        | refine caseb (fun h => absurd (of_decide_eq_true h) (by omega)) (fun _ => ?_)
        | refine caseb (fun _ => ?_) (fun h => absurd (beq_eq_false_iff_ne.1 h) (by omega))
        | refine caseb (fun h => absurd (eq_of_beq h) (by omega)) (fun _ => ?_)
      conv => whnf
      refine ⟨i + 1, [], (by show 7 - (i + 1) < 7 - i; omega), ⟨hlt, fun j hj h => ?_⟩, ⟨⟨rfl, rfl⟩, ⟨rfl, rfl⟩, ⟨rfl, rfl⟩, ⟨valI eI, rfl⟩, trivial⟩, ⟨⟨rfl, .inl ⟨rfl, irows_noid _ _⟩⟩, ⟨rfl, .inl ⟨rfl, irows_noid _ _⟩⟩, trivial⟩, rfl⟩
      by_cases hji : j = i
      · subst hji; rw [← hx]; exact hxc
      · exact hq j hj (by omega)
  · have hnz : c ∉ zl := not_mem_of l1 (fun j hj h => hq j hj (by omega))
    conv => whnf
    first
      | refine caseb (fun _ => ?_) (fun h => absurd (of_decide_eq_false h) (by omega))
      | refine caseb (fun h => absurd (of_decide_eq_true h) (by omega)) (fun _ => ?_)
      | refine caseb (fun _ => ?_) (fun h => absurd (beq_eq_false_iff_ne.1 h) (by omega))
      | refine caseb (fun h => absurd (eq_of_beq h) (by omega)) (fun _ => ?_)
    conv => whnf
    refine SW.loopM TTok (fun i : Nat => [(0, .val (.int .i32 c)), (5, .own 32 0 8), (7, .val (.int .i64 (i : Int)))]) (fun _ => [(32, .cells 1 (irows .i32 ol))]) 96 34 rfl (fun i => 8 - i) (fun i => i ≤ 8 ∧ ∀ j (hj : j < ol.length), j < i → ol[j] ≠ c) 0 [] ⟨Nat.zero_le _, fun j _ hj => absurd hj (Nat.not_lt_zero _)⟩
      ⟨⟨rfl, rfl⟩, ⟨rfl, rfl⟩, ⟨rfl, rfl⟩, trivial⟩ ⟨⟨rfl, .inl ⟨rfl, irows_noid _ _⟩⟩, trivial⟩ rfl ?_
    intro i hJ
    have hi : i ≤ 8 := hJ.1
    have hq2 : ∀ j (hj : j < ol.length), j < i → ol[j] ≠ c := hJ.2
    clear hJ
    by_cases hlt : i < 8
    · have eI : IntKind.i64.wrap ((i : Int) + 1) = ((i + 1 : Nat) : Int) := by rw [IntWalk.i64_in _ (by omega)]; omega
      have hil : i < ol.length := by omega
      have hg := irows_get .i32 ol (List.getElem?_eq_getElem hil)
      obtain ⟨x, hx⟩ : ∃ x, x = ol[i] := ⟨_, rfl⟩
      rw [← hx] at hg
      by_cases hxc : x = c
      · rw [r1 hnz (by rw [← hxc, hx]; exact List.getElem_mem hil)]
        conv => whnf
        first
          | refine caseb (fun _ => ?_) (fun h => absurd (of_decide_eq_false h) (by omega))
          | refine caseb (fun h => absurd (of_decide_eq_true h) (by omega)) (fun _ => ?_)
          | refine caseb (fun _ => ?_) (fun h => absurd (beq_eq_false_iff_ne.1 h) (by omega))
          | refine caseb (fun h => absurd (eq_of_beq h) (by omega)) (fun _ => ?_)
        conv => whnf
        refine ⟨by omega, ?_⟩
        conv => whnf
        refine ⟨_, by rw [Nat.zero_add, Int.toNat_natCast]; exact hg, ?_⟩
        conv => whnf
        first
          | refine caseb (fun _ => ?_) (fun h => absurd (of_decide_eq_false h) (by omega))
          | refine caseb (fun h => absurd (of_decide_eq_true h) (by omega)) (fun _ => ?_)
          | refine caseb (fun _ => ?_) (fun h => absurd (beq_eq_false_iff_ne.1 h) (by omega))
          | refine caseb (fun h => absurd (eq_of_beq h) (by omega)) (fun _ => ?_)
        repeat
          conv => whnf
          first
            | refine ⟨_, by assumption, ?_⟩
            | refine ⟨(Nat.le_of_ble_eq_true rfl), _, by assumption, ?_⟩
            | refine ⟨by kernel_rfl, ?_⟩
            | exact rfl
            | exact ⟨Nat.le_of_ble_eq_true rfl, rfl⟩
            | refine ⟨by decide, ?_⟩
      · conv => whnf
        first
          | refine caseb (fun _ => ?_) (fun h => absurd (of_decide_eq_false h) (by omega))
          | refine caseb (fun h => absurd (of_decide_eq_true h) (by omega)) (fun _ => ?_)
          | refine caseb (fun _ => ?_) (fun h => absurd (beq_eq_false_iff_ne.1 h) (by omega))
          | refine caseb (fun h => absurd (eq_of_beq h) (by omega)) (fun _ => ?_)
        conv => whnf
        refine ⟨by omega, ?_⟩
        conv => whnf
        refine ⟨_, by rw [Nat.zero_add, Int.toNat_natCast]; exact hg, ?_⟩
        conv => whnf
        first
          | refine caseb (fun _ => ?_) (fun h => absurd (of_decide_eq_false h) (by omega))
          | refine caseb (fun h => absurd (of_decide_eq_true h) (by omega)) (fun _ => ?_)
          | refine caseb (fun _ => ?_) (fun h => absurd (beq_eq_false_iff_ne.1 h) (by omega))
          | refine caseb (fun h => absurd (eq_of_beq h) (by omega)) (fun _ => ?_)
        conv => whnf
        refine ⟨i + 1, [], (by show 8 - (i + 1) < 8 - i; omega), ⟨hlt, fun j hj h => ?_⟩, ⟨⟨rfl, rfl⟩, ⟨rfl, rfl⟩, ⟨valI eI, rfl⟩, trivial⟩, ⟨⟨rfl, .inl ⟨rfl, irows_noid _ _⟩⟩, trivial⟩, rfl⟩
        by_cases hji : j = i
        · subst hji; rw [← hx]; exact hxc
        · exact hq2 j hj (by omega)
    · have hno : c ∉ ol := not_mem_of l2 (fun j hj h => hq2 j hj (by omega))
      rw [r2 hnz hno]
      conv => whnf
      first
        | refine caseb (fun _ => ?_) (fun h => absurd (of_decide_eq_false h) (by omega))
        | refine caseb (fun h => absurd (of_decide_eq_true h) (by omega)) (fun _ => ?_)
        | refine caseb (fun _ => ?_) (fun h => absurd (beq_eq_false_iff_ne.1 h) (by omega))
        | refine caseb (fun h => absurd (eq_of_beq h) (by omega)) (fun _ => ?_)
      repeat
        conv => whnf
        first
          | refine ⟨_, by assumption, ?_⟩
          | refine ⟨(Nat.le_of_ble_eq_true rfl), _, by assumption, ?_⟩
          | refine ⟨by kernel_rfl, ?_⟩
          | exact rfl
          | exact ⟨Nat.le_of_ble_eq_true rfl, rfl⟩
          | refine ⟨by decide, ?_⟩
theorem RIntP_ok (n : Int) (hn : -9223372036854775808 ≤ n ∧ n < 9223372036854775808) : AC Tryz.prog 33 [.val (.int .i64 n)] (.pure (PA [] false [] [(n : Rat)])) := by
  have hF := SFrom_ok n hn
  have hN : AC Tryz.prog 85 [RN n 1] (.pure (PA [] false [] [(n : Rat)])) := by
    refine AC.le_res (?_ : AC Tryz.prog 85 _ (.pure (.agg [.sl 0 [] true, .val (.bool false), .sl 0 [] true, .sl 3 ([(n : Rat)].map rowN) false]))) (le_agg4 (le_nil 1) (.refl _) (le_nil 1) (.refl _)) (PA_noid _ _ _ _)
    refine AC.of_body TTok Tryz.func85 rfl (enter_of Tryz.func85 (by kernel_rfl) (by kernel_rfl)) (noid1 (RN_noid _ _)) (.agg _ (noidF (.sl _ _ _ (fun r hr => nomatch hr)) (.val _) (.sl _ _ _ (fun r hr => nomatch hr)) (slN_noid _))) (Nat.le_of_ble_eq_true rfl) ?_
    show axp _ _ _ _ _
    rw [show [(n : Rat)].map rowN = [[.val (.bool (decide (n < 0))), .val (.string (decS n.natAbs)), .val (.string (decS 1))]] by rw [List.map_cons, intN_row]; rfl]
    unfold RN
    conv => whnf
    exact ⟨Nat.le_refl _, rfl⟩
  refine AC.of_body TTok Tryz.func33 rfl (enter_of Tryz.func33 (by kernel_rfl) (by kernel_rfl)) (noid1 (.val _)) (PA_noid _ _ _ _) (Nat.le_of_ble_eq_true rfl) ?_
  unfold RN PA at *
  repeat
    conv => whnf
    first
      | refine ⟨_, by assumption, ?_⟩
      | refine ⟨(Nat.le_of_ble_eq_true rfl), _, by assumption, ?_⟩
      | refine ⟨by kernel_rfl, ?_⟩
      | exact rfl
      | exact ⟨Nat.le_of_ble_eq_true rfl, rfl⟩
      | refine ⟨by decide, ?_⟩
theorem shows19_ok (sh : List Int) (ch : Bool) (tx : List Int) (ns : List (Option (Rat × Nat))) (h1 : sh.length ≤ 1000) (h2 : tx.length ≤ 100000) (h3 : ns.length ≤ 100000) (ho : ∀ o ∈ ns, okX o ∧ Sz (valX o) 100000) :
    AC Tryz.prog 20 [AA sh ch tx ns true, .val (.int .i64 0), PA sh ch tx (ns.map valX), .val (.int .i64 0)] (.pure (.val (.bool true))) := by
  refine AC.of_body TTok Tryz.func20 rfl (enter_of Tryz.func20 (by kernel_rfl) (by kernel_rfl)) (noidF (AA_noid _ _ _ _ _) (.val _) (PA_noid _ _ _ _) (.val _)) (.val _) (Nat.le_of_ble_eq_true rfl) ?_
  have hP := Plain_ok sh ch tx ns h1 h2 h3 ho
  have hS := PSame_ok sh ch tx (ns.map valX) h1 h2 (by rw [List.length_map]; exact h3)
  unfold AA PA at *
  repeat
    conv => whnf
    first
      | refine ⟨_, by assumption, ?_⟩
      | refine ⟨(Nat.le_of_ble_eq_true rfl), _, by assumption, ?_⟩
      | refine ⟨by kernel_rfl, ?_⟩
      | exact rfl
      | exact ⟨Nat.le_of_ble_eq_true rfl, rfl⟩
      | refine ⟨by decide, ?_⟩
theorem sz_natI (n : Nat) (h : n < 4294967296) : Sz ((n : Int) : Rat) 20 := (sz_nat n h).mono (by decide)
theorem f43_1 : foldE 43 4 ([1].map numE) = (numE 1, 0) := by decide +kernel
theorem f43_2 : foldE 43 4 ([1, 2].map numE) = (numE 3, 0) := by decide +kernel
theorem f43_3 : foldE 43 4 ([1, 2, 3].map numE) = (numE 6, 0) := by decide +kernel
theorem f45_3 : foldE 45 4 ([1, 2, 3].map numE) = (numE 2, 0) := by decide +kernel
theorem numE_inj {a b : Rat} (h : numE a = numE b) : a = b := congrArg (fun x : El => x.2.2) h
theorem awake19_ok : AC Tryz.prog 11 [] (.pure (.val (.bool true))) := by
  have hQ : ∀ q ∈ ([1, 2, 3] : List Rat), Sz q 20 := fun q hq => by
    simp only [List.mem_cons, List.not_mem_nil, or_false] at hq
    rcases hq with rfl | rfl | rfl
    · exact sz_natI 1 (by decide)
    · exact sz_natI 2 (by decide)
    · exact sz_natI 3 (by decide)
  have nv : ([1, 2, 3].map intX).map valX = ([1, 2, 3] : List Rat) := rfl
  have no : ∀ o ∈ [1, 2, 3].map intX, okX o := fun o ho => by
    obtain ⟨n, hn, rfl⟩ := List.mem_map.1 ho
    simp only [List.mem_cons, List.not_mem_nil, or_false] at hn
    rcases hn with rfl | rfl | rfl <;> exact rfl
  obtain ⟨a, a1, a2, a3⟩ := Red_list 43 4 (by unfold isTwo; decide) (by decide) ([1, 2, 3].map intX) [1, 2, 3] nv no hQ (-1) (by decide) (by decide) (by decide) (by rw [f43_3]) (fun _ h => pair_szm (by decide) h)
  obtain ⟨b, b1, b2, b3⟩ := Red_list 45 4 (by unfold isTwo; decide) (by decide) ([1, 2, 3].map intX) [1, 2, 3] nv no hQ (-1) (by decide) (by decide) (by decide) (by rw [f45_3]) (fun _ h => pair_szm (by decide) h)
  rw [f43_3] at a2
  rw [f45_3] at b2
  have a2 := numE_inj a2
  have b2 := numE_inj b2
  obtain ⟨x, x1, x2, x3⟩ := run_list 43 4 (by unfold isTwo; decide) (by decide) ([1, 2, 3].map intX) [1, 2, 3] nv no hQ (by decide) 1 (by decide) (by decide) (by show (foldE 43 4 ([1].map numE)).2 = 0; rw [f43_1]) (fun _ h => pair_szm (by decide) h)
  obtain ⟨y, y1, y2, y3⟩ := run_list 43 4 (by unfold isTwo; decide) (by decide) ([1, 2, 3].map intX) [1, 2, 3] nv no hQ (by decide) 2 (by decide) (by decide) (by show (foldE 43 4 ([1, 2].map numE)).2 = 0; rw [f43_2]) (fun _ h => pair_szm (by decide) h)
  obtain ⟨z, z1, z2, z3⟩ := run_list 43 4 (by unfold isTwo; decide) (by decide) ([1, 2, 3].map intX) [1, 2, 3] nv no hQ (by decide) 3 (by decide) (by decide) (by show (foldE 43 4 ([1, 2, 3].map numE)).2 = 0; rw [f43_3]) (fun _ h => pair_szm (by decide) h)
  have x2 : numE (valX x) = (foldE 43 4 ([1].map numE)).1 := x2
  have y2 : numE (valX y) = (foldE 43 4 ([1, 2].map numE)).1 := y2
  have z2 : numE (valX z) = (foldE 43 4 ([1, 2, 3].map numE)).1 := z2
  rw [f43_1] at x2
  rw [f43_2] at y2
  rw [f43_3] at z2
  have x2 := numE_inj x2
  have y2 := numE_inj y2
  have z2 := numE_inj z2
  have hSc := Scan_list 43 (by unfold isTwo; decide) (-1) 4 (by decide) ([1, 2, 3].map intX) [x, y, z] 3 rfl rfl (by show 2 ≤ 3; omega) (by show 3 ≤ 1000; omega) (fun i h => by
    have h : i < 3 := h
    match i, h with
    | 0, _ => exact x3
    | 1, _ => exact y3
    | 2, _ => exact z3)
  have I1 := AInts_ok [1, 2, 3] (by decide) (fun n hn => by simp at hn; rcases hn with rfl | rfl | rfl <;> exact ⟨by decide, by decide⟩)
  have I1 : AC Tryz.prog 13 [.sl 1 (irows .i64 [1, 2, 3]) false] (.pure (AA [3] false [] ([1, 2, 3].map intX) true)) := I1
  have R6 := RIntP_ok 6 (by decide)
  have R2 := RIntP_ok 2 (by decide)
  have R3 := RInts_ok [1, 3, 6] (by decide) (fun n hn => by simp at hn; rcases hn with rfl | rfl | rfl <;> exact ⟨by decide, by decide⟩)
  have R3 : AC Tryz.prog 34 [.sl 1 (irows .i64 [1, 3, 6]) false] (.pure (PA [3] false [] [1, 3, 6])) := R3
  have S1 := shows19_ok [] false [] [a] (by decide) (by decide) (by show 1 ≤ 100000; omega) (fun o ho => by
    rw [List.mem_singleton.1 ho]
    exact ⟨a1, by rw [a2]; exact (sz_natI 6 (by decide)).mono (by decide)⟩)
  have S2 := shows19_ok [] false [] [b] (by decide) (by decide) (by show 1 ≤ 100000; omega) (fun o ho => by
    rw [List.mem_singleton.1 ho]
    exact ⟨b1, by rw [b2]; exact (sz_natI 2 (by decide)).mono (by decide)⟩)
  have S3 := shows19_ok [3] false [] [x, y, z] (by decide) (by decide) (by show 3 ≤ 100000; omega) (fun o ho => by
    simp only [List.mem_cons, List.not_mem_nil, or_false] at ho
    rcases ho with rfl | rfl | rfl
    · exact ⟨x1, by rw [x2]; exact (sz_natI 1 (by decide)).mono (by decide)⟩
    · exact ⟨y1, by rw [y2]; exact (sz_natI 3 (by decide)).mono (by decide)⟩
    · exact ⟨z1, by rw [z2]; exact (sz_natI 6 (by decide)).mono (by decide)⟩)
  rw [show [a].map valX = [((6 : Int) : Rat)] by show [valX a] = _; rw [a2]; rfl] at S1
  rw [show [b].map valX = [((2 : Int) : Rat)] by show [valX b] = _; rw [b2]; rfl] at S2
  rw [show [x, y, z].map valX = [1, 3, 6] by show [valX x, valX y, valX z] = _; rw [x2, y2, z2]] at S3
  have a3 : AC Tryz.prog 12 [.val (.int .i32 43), AA [3] false [] ([1, 2, 3].map intX) true, .val (.int .i64 (-1)), .val (.int .i64 4)] (.pure (.tup [AA [] false [] [a] true, .val (.int .i64 0)])) := a3
  have b3 : AC Tryz.prog 12 [.val (.int .i32 45), AA [3] false [] ([1, 2, 3].map intX) true, .val (.int .i64 (-1)), .val (.int .i64 4)] (.pure (.tup [AA [] false [] [b] true, .val (.int .i64 0)])) := b3
  have hSc : AC Tryz.prog 32 [.val (.int .i32 43), AA [3] false [] ([1, 2, 3].map intX) true, .val (.int .i64 (-1)), .val (.int .i64 4)] (.pure (.tup [AA [3] false [] [x, y, z] true, .val (.int .i64 0)])) := hSc
  clear nv no hQ a1 a2 b1 b2 x1 x2 x3 y1 y2 y3 z1 z2 z3
  generalize ([1, 2, 3] : List Int).map intX = w1 at *
  generalize [a] = w2 at *
  generalize [b] = w3 at *
  generalize [x, y, z] = w4 at *
  generalize [((6 : Int) : Rat)] = w5 at *
  generalize [((2 : Int) : Rat)] = w6 at *
  generalize ([1, 3, 6] : List Rat) = w7 at *
  refine AC.of_body TTok Tryz.func11 rfl (enter_of Tryz.func11 (by kernel_rfl) (by kernel_rfl)) (fun x hx => nomatch hx) (.val _) (Nat.le_of_ble_eq_true rfl) ?_
  unfold AA PA at *
  conv => whnf
  refine ⟨(Nat.le_of_ble_eq_true rfl), _, I1, ?_⟩
  conv => whnf
  refine ⟨_, a3, ?_⟩
  conv => whnf
  refine ⟨_, b3, ?_⟩
  conv => whnf
  refine ⟨_, hSc, ?_⟩
  conv => whnf
  refine ⟨_, R6, ?_⟩
  conv => whnf
  refine ⟨_, S1, ?_⟩
  conv => whnf
  refine ⟨_, R2, ?_⟩
  conv => whnf
  refine ⟨_, S2, ?_⟩
  conv => whnf
  refine ⟨(Nat.le_of_ble_eq_true rfl), _, R3, ?_⟩
  conv => whnf
  refine ⟨_, S3, ?_⟩
  repeat
    conv => whnf
    first
      | refine ⟨_, by assumption, ?_⟩
      | refine ⟨(Nat.le_of_ble_eq_true rfl), _, by assumption, ?_⟩
      | refine ⟨by kernel_rfl, ?_⟩
      | exact rfl
      | exact ⟨Nat.le_of_ble_eq_true rfl, rfl⟩
      | refine ⟨by decide, ?_⟩
end Go.Proofs.YtbdklokfijjifaaGreat

/- Lists of small whole numbers brought together (plain laws and contracts). -/
set_option linter.unusedVariables false
namespace Go.Proofs.YtbdklokfijjifaaGreat
open Go Go.AL NM

/-- What the four functions make of two whole numbers. -/
def opI (c a b : Int) : Int := if c = 43 then a + b else if c = 215 then a * b else if c = 8968 then (if a < b then b else a) else (if a < b then a else b)
def isFour (c : Int) : Prop := c = 43 ∨ c = 215 ∨ c = 8968 ∨ c = 8970
def FI (c : Int) : List Int → Int
  | [] => 0
  | x :: l => match l with
    | [] => x
    | _ :: _ => opI c x (FI c l)
theorem FI_cons (c x : Int) {l : List Int} (h : l ≠ []) : FI c (x :: l) = opI c x (FI c l) := by
  cases l with
  | nil => exact absurd rfl h
  | cons y l => rw [FI]
theorem opI_assoc {c : Int} (h : isFour c) (a b d : Int) : opI c a (opI c b d) = opI c (opI c a b) d := by
  unfold opI
  rcases h with rfl | rfl | rfl | rfl
  · simp only [if_pos]; omega
  · simp only [if_pos, if_neg (show ¬ (215 : Int) = 43 by decide)]; rw [Int.mul_assoc]
  · simp only [if_pos, if_neg (show ¬ (8968 : Int) = 43 by decide), if_neg (show ¬ (8968 : Int) = 215 by decide)]
    by_cases h1 : a < b <;> by_cases h2 : b < d <;> by_cases h3 : a < d <;> simp only [h1, h2, h3, if_true, if_false] <;> omega
  · simp only [if_neg (show ¬ (8970 : Int) = 43 by decide), if_neg (show ¬ (8970 : Int) = 215 by decide), if_neg (show ¬ (8970 : Int) = 8968 by decide)]
    by_cases h1 : a < b <;> by_cases h2 : b < d <;> by_cases h3 : a < d <;> simp only [h1, h2, h3, if_true, if_false] <;> omega
theorem FI_append {c : Int} (h : isFour c) : ∀ (x y : List Int), x ≠ [] → y ≠ [] → FI c (x ++ y) = opI c (FI c x) (FI c y)
  | [], _, hx, _ => absurd rfl hx
  | [a], y, _, hy => by
    rw [List.singleton_append, FI_cons _ _ hy]; rfl
  | a :: b :: x, y, _, hy => by
    rw [List.cons_append, FI_cons c a (l := b :: x ++ y) (by simp), FI_append h (b :: x) y (List.cons_ne_nil _ _) hy, FI_cons c a (List.cons_ne_nil b x), opI_assoc h]
/-- Bounds. -/
theorem opI_bound {c : Int} (h : isFour c) {a b A B : Int} (ha : -A ≤ a ∧ a ≤ A) (hb : -B ≤ b ∧ b ≤ B) (hA : 1 ≤ A) (hB : 1 ≤ B) : -(A * B * 2) ≤ opI c a b ∧ opI c a b ≤ A * B * 2 := by
  have p1 : A ≤ A * B := by have := Int.mul_le_mul_of_nonneg_left hB (show 0 ≤ A by omega); omega
  have p2 : B ≤ A * B := by have := Int.mul_le_mul_of_nonneg_right hA (show 0 ≤ B by omega); omega
  unfold opI
  rcases h with rfl | rfl | rfl | rfl
  · rw [if_pos rfl]; omega
  · rw [if_neg (by decide), if_pos rfl]
    have h1 : (a * b).natAbs ≤ (A * B).natAbs := by
      rw [Int.natAbs_mul, Int.natAbs_mul]
      exact Nat.mul_le_mul (by omega) (by omega)
    omega
  · rw [if_neg (by decide), if_neg (by decide), if_pos rfl]
    split <;> omega
  · rw [if_neg (by decide), if_neg (by decide), if_neg (by decide)]
    split <;> omega
theorem FI_bound {c : Int} (h : isFour c) : ∀ (l : List Int), (∀ n ∈ l, -128 ≤ n ∧ n ≤ 128) → -((256 : Int) ^ l.length) ≤ FI c l ∧ FI c l ≤ (256 : Int) ^ l.length
  | [], _ => by show -((256 : Int) ^ 0) ≤ 0 ∧ (0 : Int) ≤ 256 ^ 0; decide
  | [x], hl => by
    have := hl x (by simp)
    show -((256 : Int) ^ 1) ≤ x ∧ x ≤ 256 ^ 1
    omega
  | x :: y :: l, hl => by
    rw [FI_cons _ _ (List.cons_ne_nil _ _)]
    obtain ⟨h1, h2⟩ := FI_bound h (y :: l) (fun n hn => hl n (List.mem_cons_of_mem _ hn))
    have hx := hl x (by simp)
    have hp : (1 : Int) ≤ 256 ^ (y :: l).length := Int.pow_pos (by decide)
    obtain ⟨g1, g2⟩ := opI_bound h hx ⟨h1, h2⟩ (by decide) hp
    have e : (256 : Int) ^ (x :: y :: l).length = 128 * 256 ^ (y :: l).length * 2 := by
      rw [show (x :: y :: l).length = (y :: l).length + 1 from rfl, Int.pow_succ]; omega
    rw [e]
    exact ⟨g1, g2⟩
theorem pow2_le {a b : Nat} (h : a ≤ b) : (2 : Int) ^ a ≤ 2 ^ b := by
  have e : ∀ k : Nat, ((2 ^ k : Nat) : Int) = (2 : Int) ^ k := fun k => Int.natCast_pow 2 k
  rw [← e, ← e]
  exact Int.ofNat_le.2 (Nat.pow_le_pow_right (by decide) h)
theorem Sz_big {n : Int} (h : -((2 : Int) ^ 200 * 2 ^ 200 * 2) ≤ n ∧ n ≤ 2 ^ 200 * 2 ^ 200 * 2) : Sz (n : Rat) 20 := by
  refine Sz_int (by decide) (limbs_len_le ?_)
  have e : ((2 ^ 200 * 2 ^ 200 * 2 : Nat) : Int) = (2 : Int) ^ 200 * 2 ^ 200 * 2 := by rw [Int.natCast_mul, Int.natCast_mul, Int.natCast_pow]; rfl
  have h1 : n.natAbs ≤ 2 ^ 200 * 2 ^ 200 * 2 := by
    rw [← e] at h
    omega
  exact Nat.lt_of_le_of_lt h1 (by decide +kernel)
theorem pow_pos200 : (1 : Int) ≤ (2 : Int) ^ 200 := Int.pow_pos (by decide)
theorem le_pp {n : Int} (h : -(2 : Int) ^ 200 ≤ n ∧ n ≤ 2 ^ 200) : -((2 : Int) ^ 200 * 2 ^ 200 * 2) ≤ n ∧ n ≤ 2 ^ 200 * 2 ^ 200 * 2 := by
  have hp := pow_pos200
  generalize (2 : Int) ^ 200 = P at *
  have : P * 1 ≤ P * P := Int.mul_le_mul_of_nonneg_left hp (by omega)
  omega
/-- What the four functions make of two whole numbers, of few limbs. -/
theorem pair_int {c : Int} (h : isFour c) {a b : Int} (ha : -(2 : Int) ^ 200 ≤ a ∧ a ≤ 2 ^ 200) (hb : -(2 : Int) ^ 200 ≤ b ∧ b ≤ 2 ^ 200) : pairE c 64 (numE (a : Rat)) (numE (b : Rat)) = ((opI c a b : Rat), 0) ∧ Sz ((opI c a b : Int) : Rat) 20 := by
  have hp := pow_pos200
  have hb2 := opI_bound h ha hb hp hp
  have hS : Sz ((opI c a b : Int) : Rat) 20 := Sz_big hb2
  refine ⟨?_, hS⟩
  have hr : reckonQ c (a : Rat) (b : Rat) 64 = ((opI c a b : Rat), 0) := by
    rcases h with rfl | rfl | rfl | rfl
    · have h1 : reckonQ 43 (a : Rat) (b : Rat) 64 = ((a : Rat) + (b : Rat), 0) := by unfold reckonQ; rw [if_pos rfl]
      have h2 : opI 43 a b = a + b := by unfold opI; rw [if_pos rfl]
      rw [h1, h2, Rat.intCast_add]
    · have h1 : reckonQ 215 (a : Rat) (b : Rat) 64 = ((a : Rat) * (b : Rat), 0) := by unfold reckonQ; rw [if_neg (by decide), if_neg (by decide), if_pos rfl]
      have h2 : opI 215 a b = a * b := by unfold opI; rw [if_neg (by decide), if_pos rfl]
      rw [h1, h2, Rat.intCast_mul]
    · have h1 : reckonQ 8968 (a : Rat) (b : Rat) 64 = (if (a : Rat) < (b : Rat) then (b : Rat) else (a : Rat), 0) := by
        unfold reckonQ; rw [if_neg (show ¬ (8968 : Int) = 43 by decide), if_neg (show ¬ (8968 : Int) = 45 by decide), if_neg (show ¬ (8968 : Int) = 215 by decide), if_neg (show ¬ (8968 : Int) = 247 by decide), if_pos rfl]
      have h2 : opI 8968 a b = if a < b then b else a := by unfold opI; rw [if_neg (show ¬ (8968 : Int) = 43 by decide), if_neg (show ¬ (8968 : Int) = 215 by decide), if_pos rfl]
      rw [h1, h2]
      by_cases hlt : a < b
      · rw [if_pos hlt, if_pos (Rat.intCast_lt_intCast.2 hlt)]
      · rw [if_neg hlt, if_neg (fun h => hlt (Rat.intCast_lt_intCast.1 h))]
    · have h1 : reckonQ 8970 (a : Rat) (b : Rat) 64 = (if (a : Rat) < (b : Rat) then (a : Rat) else (b : Rat), 0) := by
        unfold reckonQ; rw [if_neg (show ¬ (8970 : Int) = 43 by decide), if_neg (show ¬ (8970 : Int) = 45 by decide), if_neg (show ¬ (8970 : Int) = 215 by decide), if_neg (show ¬ (8970 : Int) = 247 by decide), if_neg (show ¬ (8970 : Int) = 8968 by decide), if_pos rfl]
      have h2 : opI 8970 a b = if a < b then a else b := by unfold opI; rw [if_neg (show ¬ (8970 : Int) = 43 by decide), if_neg (show ¬ (8970 : Int) = 215 by decide), if_neg (show ¬ (8970 : Int) = 8968 by decide)]
      rw [h1, h2]
      by_cases hlt : a < b
      · rw [if_pos hlt, if_pos (Rat.intCast_lt_intCast.2 hlt)]
      · rw [if_neg hlt, if_neg (fun h => hlt (Rat.intCast_lt_intCast.1 h))]
  have h1 : ¬ isCmp c := by rcases h with rfl | rfl | rfl | rfl <;> decide
  have h2 : ¬ isJdg c := by rcases h with rfl | rfl | rfl | rfl <;> decide
  have h3 : isRec c := by rcases h with rfl | rfl | rfl | rfl <;> decide
  have e : pairE c 64 (numE (a : Rat)) (numE (b : Rat)) = twoQ c (a : Rat) (b : Rat) 64 := by
    unfold pairE pairV
    exact if_neg (fun h => by rcases h with h | h <;> exact Bool.noConfusion h)
  rw [e]
  unfold twoQ
  rw [if_neg h1, if_neg h2, if_neg (fun h => h h3), hr, if_neg (fun h => h rfl), if_neg]
  have q1 := hS.1
  have q2 := hS.2
  show ¬ (64 : Int) < ((qLimbs ((opI c a b : Int) : Rat).num ((opI c a b : Int) : Rat).den : Nat) : Int)
  unfold qLimbs
  omega
def numI (n : Int) : El := numE (n : Rat)
/-- What comes of a list, from a place on, is small. -/
def smallF (c : Int) (l : List Int) : Prop := (∀ n ∈ l, -(2 : Int) ^ 200 ≤ n ∧ n ≤ 2 ^ 200) ∧ ∀ i, -(2 : Int) ^ 200 ≤ FI c (l.drop (i + 1)) ∧ FI c (l.drop (i + 1)) ≤ 2 ^ 200
theorem fold_int {c : Int} (h : isFour c) : ∀ (l : List Int), smallF c l → foldE c 64 (l.map numI) = (numI (FI c l), 0)
  | [], _ => rfl
  | [x], _ => by rw [List.map_singleton, foldE_one]; rfl
  | x :: y :: l, hs => by
    have ih := fold_int h (y :: l) ⟨fun n hn => hs.1 n (List.mem_cons_of_mem _ hn), fun i => hs.2 (i + 1)⟩
    have e := (pair_int h (hs.1 x (by simp)) (hs.2 0)).1
    have e : pairE c 64 (numI x) (numI (FI c (y :: l))) = ((opI c x (FI c (y :: l)) : Rat), 0) := e
    rw [List.map_cons, foldE_cons _ _ _ (by simp), ih, if_neg (fun h => h rfl), e, if_neg (fun h => h rfl), FI_cons _ _ (List.cons_ne_nil _ _)]
    rfl
theorem four_two {c : Int} (h : isFour c) : isTwo c := by
  unfold isTwo isRec
  rcases h with rfl | rfl | rfl | rfl <;> decide
/-- Reduce of a list of whole numbers by one of the four. -/
theorem RedI (c : Int) (h : isFour c) (L : List Int) (na : List (Option (Rat × Nat))) (na1 : na.map valX = L.map (fun n : Int => (n : Rat))) (oa : ∀ o ∈ na, okX o) (h0 : 0 < L.length) (h4 : L.length ≤ 100) (hs : smallF c L) :
    ∃ o, okX o ∧ valX o = (FI c L : Rat) ∧ AC Tryz.prog 12 [.val (.int .i32 c), AA [(L.length : Int)] false [] na true, .val (.int .i64 (-1)), .val (.int .i64 64)] (.pure (.tup [AA [] false [] [o] true, .val (.int .i64 0)])) := by
  obtain ⟨qs, hqs⟩ : ∃ qs : List Rat, qs = L.map (fun n : Int => (n : Rat)) := ⟨_, rfl⟩
  have ql : qs.length = L.length := by rw [hqs, List.length_map]
  have em : qs.map numE = L.map numI := by rw [hqs, List.map_map]; rfl
  have hf := fold_int h L hs
  have hQ : ∀ q ∈ qs, Sz q 20 := fun q hq => by
    rw [hqs] at hq
    obtain ⟨n, hn, rfl⟩ := List.mem_map.1 hq
    have h1 := hs.1 n hn
    exact Sz_big (le_pp h1)
  have hp := pow_pos200
  obtain ⟨o, o1, o2, o3⟩ := Red_list c 64 (four_two h) (by decide) na qs (by rw [na1, hqs]) oa hQ (-1) (by decide) (by omega) (by omega) (by rw [em, hf]) (fun i _ => by
    rw [em, ← List.map_drop, fold_int h (L.drop (i + 1)) ⟨fun n hn => hs.1 n (List.mem_of_mem_drop hn), fun j => by rw [List.drop_drop, show i + 1 + (j + 1) = i + 1 + j + 1 by omega]; exact hs.2 (i + 1 + j)⟩]
    have he : elA false [] qs i = numI (L.getD i 0) := by
      unfold elA numI numE
      rw [hqs, List.getD_eq_getElem?_getD, List.getD_eq_getElem?_getD, List.getD_eq_getElem?_getD, List.getElem?_map]
      cases L[i]? <;> rfl
    have hg : -(2 : Int) ^ 200 ≤ L.getD i 0 ∧ L.getD i 0 ≤ 2 ^ 200 := by
      rw [List.getD_eq_getElem?_getD]
      cases hL : L[i]? with
      | none => show -(2 : Int) ^ 200 ≤ 0 ∧ (0 : Int) ≤ 2 ^ 200; omega
      | some n => exact hs.1 n (List.mem_of_getElem? hL)
    rw [he]
    have := pair_int h hg (hs.2 i)
    show Sz (pairE c 64 (numE _) (numE _)).1 20
    rw [this.1]
    exact this.2)
  rw [em, hf] at o2
  rw [ql] at o3
  exact ⟨o, o1, numE_inj o2, o3⟩
end Go.Proofs.YtbdklokfijjifaaGreat

/- The statement FoldJoins: the walk through the law. -/
set_option linter.unusedVariables false
namespace Go.Proofs.YtbdklokfijjifaaGreat.foldJoins
open Go Go.AL NM

theorem i8_noid (l : List Int) : NoId (.sl 1 (irows .i8 l) false) := noid_sl _ _ _
section
variable (l m : List Int)
theorem nd : ∀ x ∈ [AV.sl 1 (irows .i8 l) false, AV.sl 1 (irows .i8 m) false], NoId x := noid2 (i8_noid l) (i8_noid m)
theorem bad (h : l.length < 1 ∨ m.length < 1 ∨ 12 < l.length ∨ 12 < m.length) : AC Tryz.prog 4 [.sl 1 (irows .i8 l) false, .sl 1 (irows .i8 m) false] (.pure (.val (.bool true))) := by
  have hA := awake19_ok
  have l1 := irows_len .i8 l
  have l2 := irows_len .i8 m
  refine AC.of_body TTok Tryz.func4 rfl (enter_of Tryz.func4 (by kernel_rfl) (by kernel_rfl)) (nd l m) (.val _) (Nat.le_of_ble_eq_true rfl) ?_
  by_cases h1 : l.length < 1
  · conv => whnf
    first
      | refine caseb (fun _ => ?_) (fun h => absurd (of_decide_eq_false h) (by omega))
      | refine caseb (fun h => absurd (of_decide_eq_true h) (by omega)) (fun _ => ?_)
      | refine caseb (fun _ => ?_) (fun h => absurd (beq_eq_false_iff_ne.1 h) (by omega))
      | refine caseb (fun h => absurd (eq_of_beq h) (by omega)) (fun _ => ?_)
    repeat
      conv => whnf
      first
        | refine ⟨_, by assumption, ?_⟩
        | refine ⟨(Nat.le_of_ble_eq_true rfl), _, by assumption, ?_⟩
        | refine ⟨by kernel_rfl, ?_⟩
        | exact rfl
        | exact ⟨Nat.le_of_ble_eq_true rfl, rfl⟩
        | refine ⟨by decide, ?_⟩
  · by_cases h2 : m.length < 1
    · conv => whnf
      first
        | refine caseb (fun _ => ?_) (fun h => absurd (of_decide_eq_false h) (by omega))
        | refine caseb (fun h => absurd (of_decide_eq_true h) (by omega)) (fun _ => ?_)
        | refine caseb (fun _ => ?_) (fun h => absurd (beq_eq_false_iff_ne.1 h) (by omega))
        | refine caseb (fun h => absurd (eq_of_beq h) (by omega)) (fun _ => ?_)
      conv => whnf
      first
        | refine caseb (fun _ => ?_) (fun h => absurd (of_decide_eq_false h) (by omega))
        | refine caseb (fun h => absurd (of_decide_eq_true h) (by omega)) (fun _ => ?_)
        | refine caseb (fun _ => ?_) (fun h => absurd (beq_eq_false_iff_ne.1 h) (by omega))
        | refine caseb (fun h => absurd (eq_of_beq h) (by omega)) (fun _ => ?_)
      repeat
        conv => whnf
        first
          | refine ⟨_, by assumption, ?_⟩
          | refine ⟨(Nat.le_of_ble_eq_true rfl), _, by assumption, ?_⟩
          | refine ⟨by kernel_rfl, ?_⟩
          | exact rfl
          | exact ⟨Nat.le_of_ble_eq_true rfl, rfl⟩
          | refine ⟨by decide, ?_⟩
    · by_cases h3 : 12 < l.length
      · conv => whnf
        first
          | refine caseb (fun _ => ?_) (fun h => absurd (of_decide_eq_false h) (by omega))
          | refine caseb (fun h => absurd (of_decide_eq_true h) (by omega)) (fun _ => ?_)
          | refine caseb (fun _ => ?_) (fun h => absurd (beq_eq_false_iff_ne.1 h) (by omega))
          | refine caseb (fun h => absurd (eq_of_beq h) (by omega)) (fun _ => ?_)
        conv => whnf
        first
          | refine caseb (fun _ => ?_) (fun h => absurd (of_decide_eq_false h) (by omega))
          | refine caseb (fun h => absurd (of_decide_eq_true h) (by omega)) (fun _ => ?_)
          | refine caseb (fun _ => ?_) (fun h => absurd (beq_eq_false_iff_ne.1 h) (by omega))
          | refine caseb (fun h => absurd (eq_of_beq h) (by omega)) (fun _ => ?_)
        conv => whnf
        first
          | refine caseb (fun _ => ?_) (fun h => absurd (of_decide_eq_false h) (by omega))
          | refine caseb (fun h => absurd (of_decide_eq_true h) (by omega)) (fun _ => ?_)
          | refine caseb (fun _ => ?_) (fun h => absurd (beq_eq_false_iff_ne.1 h) (by omega))
          | refine caseb (fun h => absurd (eq_of_beq h) (by omega)) (fun _ => ?_)
        repeat
          conv => whnf
          first
            | refine ⟨_, by assumption, ?_⟩
            | refine ⟨(Nat.le_of_ble_eq_true rfl), _, by assumption, ?_⟩
            | refine ⟨by kernel_rfl, ?_⟩
            | exact rfl
            | exact ⟨Nat.le_of_ble_eq_true rfl, rfl⟩
            | refine ⟨by decide, ?_⟩
      · conv => whnf
        first
          | refine caseb (fun _ => ?_) (fun h => absurd (of_decide_eq_false h) (by omega))
          | refine caseb (fun h => absurd (of_decide_eq_true h) (by omega)) (fun _ => ?_)
          | refine caseb (fun _ => ?_) (fun h => absurd (beq_eq_false_iff_ne.1 h) (by omega))
          | refine caseb (fun h => absurd (eq_of_beq h) (by omega)) (fun _ => ?_)
        conv => whnf
        first
          | refine caseb (fun _ => ?_) (fun h => absurd (of_decide_eq_false h) (by omega))
          | refine caseb (fun h => absurd (of_decide_eq_true h) (by omega)) (fun _ => ?_)
          | refine caseb (fun _ => ?_) (fun h => absurd (beq_eq_false_iff_ne.1 h) (by omega))
          | refine caseb (fun h => absurd (eq_of_beq h) (by omega)) (fun _ => ?_)
        conv => whnf
        first
          | refine caseb (fun _ => ?_) (fun h => absurd (of_decide_eq_false h) (by omega))
          | refine caseb (fun h => absurd (of_decide_eq_true h) (by omega)) (fun _ => ?_)
          | refine caseb (fun _ => ?_) (fun h => absurd (beq_eq_false_iff_ne.1 h) (by omega))
          | refine caseb (fun h => absurd (eq_of_beq h) (by omega)) (fun _ => ?_)
        conv => whnf
        first
          | refine caseb (fun _ => ?_) (fun h => absurd (of_decide_eq_false h) (by omega))
          | refine caseb (fun h => absurd (of_decide_eq_true h) (by omega)) (fun _ => ?_)
          | refine caseb (fun _ => ?_) (fun h => absurd (beq_eq_false_iff_ne.1 h) (by omega))
          | refine caseb (fun h => absurd (eq_of_beq h) (by omega)) (fun _ => ?_)
        repeat
          conv => whnf
          first
            | refine ⟨_, by assumption, ?_⟩
            | refine ⟨(Nat.le_of_ble_eq_true rfl), _, by assumption, ?_⟩
            | refine ⟨by kernel_rfl, ?_⟩
            | exact rfl
            | exact ⟨Nat.le_of_ble_eq_true rfl, rfl⟩
            | refine ⟨by decide, ?_⟩
theorem RatE (o : Option (Rat × Nat)) : AC Tryz.prog 15 [AA [] false [] [o] true, .val (.int .i64 0)] (.pure (RA (valX o).num (denX o))) := RatY_ok [] false [] [o] 0 (by show 0 < 1; omega) (by show 1 ≤ 1000; omega)
theorem RatR (o : Option (Rat × Nat)) : AC Tryz.prog 15 [AA [] false [] [o] true, .val (.int .i64 0)] (.pure (.agg (rowX o))) := RatI_ok [] false [] [o] true 0 (by show 0 < 1; omega) (by show 1 ≤ 1000000; omega)
theorem intX_vals (L : List Int) : (L.map intX).map valX = L.map (fun n : Int => (n : Rat)) := by rw [List.map_map]; rfl
theorem intX_oks (L : List Int) : ∀ o ∈ L.map intX, okX o := fun o ho => by
  obtain ⟨n, _, rfl⟩ := List.mem_map.1 ho
  exact (Rat.den_intCast n).symm
theorem p256 (n : Nat) : (256 : Int) ^ n = 2 ^ (8 * n) := by rw [Int.pow_mul]; rfl
theorem small_of (c : Int) (h : isFour c) (L : List Int) (hL : ∀ n ∈ L, -128 ≤ n ∧ n ≤ 128) (h24 : L.length ≤ 24) : smallF c L ∧ -(2 : Int) ^ 200 ≤ FI c L ∧ FI c L ≤ 2 ^ 200 := by
  have key : ∀ K : List Int, (∀ n ∈ K, -128 ≤ n ∧ n ≤ 128) → K.length ≤ 24 → -(2 : Int) ^ 200 ≤ FI c K ∧ FI c K ≤ 2 ^ 200 := fun K hK hl => by
    have := FI_bound h K hK
    rw [p256] at this
    have hp := pow2_le (show 8 * K.length ≤ 200 by omega)
    omega
  have hp : (2 : Int) ^ 7 ≤ 2 ^ 200 := pow2_le (by decide)
  refine ⟨⟨fun n hn => ?_, fun i => key _ (fun n hn => hL n (List.mem_of_mem_drop hn)) (by rw [List.length_drop]; omega)⟩, key L hL h24⟩
  have h1 := hL n hn
  have h2 : (2 : Int) ^ 7 = 128 := by decide
  omega
/-- What a round needs. -/
theorem round (c : Int) (h : isFour c) (hl : ∀ n ∈ l, -128 ≤ n ∧ n ≤ 128) (hm : ∀ n ∈ m, -128 ≤ n ∧ n ≤ 128) (l1 : 0 < l.length) (m1 : 0 < m.length) (l12 : l.length ≤ 12) (m12 : m.length ≤ 12) :
    ∃ a b d z p : Option (Rat × Nat),
      AC Tryz.prog 12 [.val (.int .i32 c), AA [(l.length : Int)] false [] (l.map intX) true, .val (.int .i64 (-1)), .val (.int .i64 64)] (.pure (.tup [AA [] false [] [a] true, .val (.int .i64 0)])) ∧
      AC Tryz.prog 12 [.val (.int .i32 c), AA [(m.length : Int)] false [] (m.map intX) true, .val (.int .i64 (-1)), .val (.int .i64 64)] (.pure (.tup [AA [] false [] [b] true, .val (.int .i64 0)])) ∧
      AC Tryz.prog 12 [.val (.int .i32 c), AA [((l ++ m).length : Int)] false [] ((l ++ m).map intX) true, .val (.int .i64 (-1)), .val (.int .i64 64)] (.pure (.tup [AA [] false [] [d] true, .val (.int .i64 0)])) ∧
      AC Tryz.prog 12 [.val (.int .i32 c), AA [2] false [] ([0, 0].map intX) true, .val (.int .i64 (-1)), .val (.int .i64 64)] (.pure (.tup [AA [] false [] [z] true, .val (.int .i64 0)])) ∧
      AC Tryz.prog 12 [.val (.int .i32 c), AA [2] false [] [a, b] true, .val (.int .i64 (-1)), .val (.int .i64 64)] (.pure (.tup [AA [] false [] [p] true, .val (.int .i64 0)])) ∧
      AC Tryz.prog 16 [RA (valX p).num (denX p), RA (valX d).num (denX d)] (.pure (.val (.int .i64 0))) := by
  have hlm : ∀ n ∈ l ++ m, -128 ≤ n ∧ n ≤ 128 := fun n hn => (List.mem_append.1 hn).elim (hl n) (hm n)
  have ne : ∀ L : List Int, 0 < L.length → L ≠ [] := fun L hp e => by rw [e] at hp; exact absurd hp (by decide)
  obtain ⟨a, a1, a2, a3⟩ := RedI c h l (l.map intX) (intX_vals l) (intX_oks l) l1 (by omega) (small_of c h l hl (by omega)).1
  obtain ⟨b, b1, b2, b3⟩ := RedI c h m (m.map intX) (intX_vals m) (intX_oks m) m1 (by omega) (small_of c h m hm (by omega)).1
  obtain ⟨d, d1, d2, d3⟩ := RedI c h (l ++ m) ((l ++ m).map intX) (intX_vals _) (intX_oks _) (by rw [List.length_append]; omega) (by rw [List.length_append]; omega) (small_of c h _ hlm (by rw [List.length_append]; omega)).1
  obtain ⟨z, z1, z2, z3⟩ := RedI c h [0, 0] ([0, 0].map intX) (intX_vals _) (intX_oks _) (by decide) (by decide) (small_of c h [0, 0] (fun n hn => by simp at hn; subst hn; decide) (by decide)).1
  have ga := (small_of c h l hl (by omega)).2
  have gb := (small_of c h m hm (by omega)).2
  obtain ⟨p, p1, p2, p3⟩ := RedI c h [FI c l, FI c m] [a, b] (by show [valX a, valX b] = _; rw [a2, b2]; rfl) (fun o ho => by
    simp only [List.mem_cons, List.not_mem_nil, or_false] at ho
    rcases ho with rfl | rfl
    · exact a1
    · exact b1) (by show 0 < 2; omega) (by show 2 ≤ 100; omega) ⟨fun n hn => by
      simp only [List.mem_cons, List.not_mem_nil, or_false] at hn
      rcases hn with rfl | rfl
      · exact ga
      · exact gb, fun i => by
      have hp := pow_pos200
      cases i with
      | zero => exact gb
      | succ i =>
        rw [show [FI c l, FI c m].drop (i + 1 + 1) = [] from List.drop_of_length_le (by show 2 ≤ _; omega)]
        show -(2 : Int) ^ 200 ≤ 0 ∧ (0 : Int) ≤ 2 ^ 200
        omega⟩
  refine ⟨a, b, d, z, p, a3, b3, d3, z3, p3, ?_⟩
  have e : valX p = valX d := by
    rw [p2, d2, FI_append h l m (ne l l1) (ne m m1), FI_cons _ _ (List.cons_ne_nil _ _)]
    rfl
  have gd := (small_of c h _ hlm (by rw [List.length_append]; omega)).2
  have sd : Sz (valX d) 1000 := by rw [d2]; exact (Sz_big (le_pp gd)).mono (by decide)
  have := QCmp_ok (valX p) (valX d) (denX p) (denX d) (denX_ok p1) (denX_ok d1) (by rw [e]; exact sd) sd
  rw [e, cmpQ_self] at this
  rw [e]
  exact this
set_option maxRecDepth 20000 in
theorem good (hl : ∀ n ∈ l, -128 ≤ n ∧ n < 128) (hm : ∀ n ∈ m, -128 ≤ n ∧ n < 128) (l1 : 0 < l.length) (m1 : 0 < m.length) (l12 : l.length ≤ 12) (m12 : m.length ≤ 12) :
    AC Tryz.prog 4 [.sl 1 (irows .i8 l) false, .sl 1 (irows .i8 m) false] (.pure (.val (.bool true))) := by
  have hA := awake19_ok
  have ll := irows_len .i8 l
  have lm := irows_len .i8 m
  have xl := irows_len .i64 l
  have xm := irows_len .i64 m
  have i64l : ∀ n ∈ l, i64b n := fun n hn => by have := hl n hn; exact ⟨by omega, by omega⟩
  have i64m : ∀ n ∈ m, i64b n := fun n hn => by have := hm n hn; exact ⟨by omega, by omega⟩
  have I1 := AInts_ok l (by omega) i64l
  have I2 := AInts_ok m (by omega) i64m
  have I3 := AInts_ok (l ++ m) (by rw [List.length_append]; omega) (fun n hn => (List.mem_append.1 hn).elim (i64l n) (i64m n))
  have I0 : AC Tryz.prog 13 [.sl 1 (irows .i64 [0, 0]) false] (.pure (AA [2] false [] ([0, 0].map intX) true)) := AInts_ok [0, 0] (by decide) (fun n hn => by simp at hn; subst hn; exact ⟨by decide, by decide⟩)
  have lx := irows_len .i64 (l ++ m)
  rw [List.length_append] at lx
  have e3 : List.take (0 + (irows .i64 l).length + (irows .i64 m).length) (List.drop 0 (List.take (0 + (irows .i64 l).length) (List.drop 0 (List.take 0 (List.drop 0 ([] : List (List AV))) ++ irows .i64 l)) ++ irows .i64 m)) = irows .i64 (l ++ m) := by
    simp only [List.drop_zero, List.take_zero, List.nil_append, Nat.zero_add, List.take_length]
    rw [List.take_of_length_le (by rw [List.length_append]; omega), ← irows_append]
  rw [← e3] at I3
  obtain ⟨cl, hcl⟩ : ∃ cl : List Int, cl = [43, 215, 8968, 8970] := ⟨_, rfl⟩
  have lc : cl.length = 4 := by rw [hcl]; rfl
  have ec : irows .i32 cl = [[.val (.int .i32 43)], [.val (.int .i32 215)], [.val (.int .i32 8968)], [.val (.int .i32 8970)]] := by rw [hcl]; rfl
  have lcr := irows_len .i32 cl
  have hall : ∀ c ∈ cl, isFour c := fun c hc => by
    rw [hcl] at hc
    simp only [List.mem_cons, List.not_mem_nil, or_false] at hc
    exact hc
  have hfour : ∀ i (h : i < cl.length), isFour cl[i] := fun i h => hall _ (List.getElem_mem h)
  clear hcl
  refine AC.of_body TTok Tryz.func4 rfl (enter_of Tryz.func4 (by kernel_rfl) (by kernel_rfl)) (nd l m) (.val _) (Nat.le_of_ble_eq_true rfl) ?_
  conv => whnf
  first
    | refine caseb (fun _ => ?_) (fun h => absurd (of_decide_eq_false h) (by omega))
    | refine caseb (fun h => absurd (of_decide_eq_true h) (by omega)) (fun _ => ?_)
    | refine caseb (fun _ => ?_) (fun h => absurd (beq_eq_false_iff_ne.1 h) (by omega))
    | refine caseb (fun h => absurd (eq_of_beq h) (by omega)) (fun _ => ?_)
  conv => whnf
  first
    | refine caseb (fun _ => ?_) (fun h => absurd (of_decide_eq_false h) (by omega))
    | refine caseb (fun h => absurd (of_decide_eq_true h) (by omega)) (fun _ => ?_)
    | refine caseb (fun _ => ?_) (fun h => absurd (beq_eq_false_iff_ne.1 h) (by omega))
    | refine caseb (fun h => absurd (eq_of_beq h) (by omega)) (fun _ => ?_)
  conv => whnf
  first
    | refine caseb (fun _ => ?_) (fun h => absurd (of_decide_eq_false h) (by omega))
    | refine caseb (fun h => absurd (of_decide_eq_true h) (by omega)) (fun _ => ?_)
    | refine caseb (fun _ => ?_) (fun h => absurd (beq_eq_false_iff_ne.1 h) (by omega))
    | refine caseb (fun h => absurd (eq_of_beq h) (by omega)) (fun _ => ?_)
  conv => whnf
  first
    | refine caseb (fun _ => ?_) (fun h => absurd (of_decide_eq_false h) (by omega))
    | refine caseb (fun h => absurd (of_decide_eq_true h) (by omega)) (fun _ => ?_)
    | refine caseb (fun _ => ?_) (fun h => absurd (beq_eq_false_iff_ne.1 h) (by omega))
    | refine caseb (fun h => absurd (eq_of_beq h) (by omega)) (fun _ => ?_)
  conv => whnf
  refine SW.nil 5 1 rfl ?_
  refine SW.nil 6 1 rfl ?_
  refine SW.loopM TTok (fun i : Nat => [(0, .sl 1 (irows .i8 l) false), (1, .sl 1 (irows .i8 m) false), (4, .val (.bool false)), (5, .own 176 0 i), (6, .own 184 0 0), (7, .val (.int .i64 (i : Int)))]) (fun i => [(176, .cells 1 (irows .i64 (l.take i))), (184, .cells 1 [])]) 192 147 rfl (fun i => l.length - i) (fun i => i ≤ l.length) 0 [] (Nat.zero_le _)
    ⟨⟨rfl, rfl⟩, ⟨rfl, rfl⟩, ⟨rfl, rfl⟩, ⟨rfl, rfl⟩, ⟨rfl, rfl⟩, ⟨rfl, rfl⟩, trivial⟩ ⟨⟨rfl, .inr ⟨rfl, rfl⟩⟩, ⟨rfl, .inr ⟨rfl, rfl⟩⟩, trivial⟩ rfl ?_
  intro i hJ
  have hi : i ≤ l.length := hJ
  clear hJ
  have lr : (irows .i64 (l.take i)).length = i := by rw [irows_len, List.length_take]; omega
  by_cases hlt : i < l.length
  · have eI : IntKind.i64.wrap ((i : Int) + 1) = ((i + 1 : Nat) : Int) := by rw [IntWalk.i64_in _ (by omega)]; omega
    have hg := irows_get .i8 l (List.getElem?_eq_getElem hlt)
    have hb := i64l _ (List.getElem_mem hlt)
    have hsn : irows .i64 (l.take i) ++ [[.val (.int .i64 l[i])]] = irows .i64 (l.take (i + 1)) := by rw [take_snoc hlt, ← irows_append]; rfl
    have htk : List.take i (List.drop 0 (irows .i64 (l.take i))) = irows .i64 (l.take i) := by rw [List.drop_zero, List.take_of_length_le (by omega)]
    obtain ⟨n, hn⟩ : ∃ n, n = l[i] := ⟨_, rfl⟩
    rw [← hn] at hg hb hsn
    conv => whnf
    first
      | refine caseb (fun _ => ?_) (fun h => absurd (of_decide_eq_false h) (by omega))
      | refine caseb (fun h => absurd (of_decide_eq_true h) (by omega)) (fun _ => ?_)
      | refine caseb (fun _ => ?_) (fun h => absurd (beq_eq_false_iff_ne.1 h) (by omega))
      | refine caseb (fun h => absurd (eq_of_beq h) (by omega)) (fun _ => ?_)
    conv => whnf
    refine ⟨_, ⟨by omega, by rw [Int.toNat_natCast]; exact hg⟩, ?_⟩
    conv => whnf
    refine ⟨⟨by show 0 + i ≤ _; omega, by show (i + 1) * 8 ≤ 140737488355328; omega, Nat.le_of_ble_eq_true rfl⟩, ?_⟩
    conv => whnf
    refine ⟨i + 1, [(176, 280)], (by show l.length - (i + 1) < l.length - i; omega), hlt, ⟨⟨rfl, rfl⟩, ⟨rfl, rfl⟩, ⟨rfl, rfl⟩, ⟨rfl, rfl⟩, ⟨rfl, rfl⟩, ⟨valI eI, rfl⟩, trivial⟩, ⟨⟨rfl, .inl ⟨celE ?_, irows_noid _ _⟩⟩, ⟨rfl, .inr ⟨rfl, rfl⟩⟩, trivial⟩, rfl⟩
    rw [← hsn]
    show List.take i (List.drop 0 (irows .i64 (l.take i))) ++ [[.val (.int .i64 (IntKind.i64.wrap n))]] = _
    rw [htk, IntWalk.i64_in _ ⟨hb.1, by have := hb.2; omega⟩]
  have hie : i = l.length := by omega
  have e1 : l.take i = l := List.take_of_length_le (by omega)
  rw [e1, hie]
  conv => whnf
  first
    | refine caseb (fun _ => ?_) (fun h => absurd (of_decide_eq_false h) (by omega))
    | refine caseb (fun h => absurd (of_decide_eq_true h) (by omega)) (fun _ => ?_)
    | refine caseb (fun _ => ?_) (fun h => absurd (beq_eq_false_iff_ne.1 h) (by omega))
    | refine caseb (fun h => absurd (eq_of_beq h) (by omega)) (fun _ => ?_)
  conv => whnf
  refine SW.loopM TTok (fun j : Nat => [(1, .sl 1 (irows .i8 m) false), (4, .val (.bool false)), (5, .own 176 0 l.length), (6, .own 184 0 j), (8, .val (.int .i64 (j : Int)))]) (fun j => [(176, .cells 1 (irows .i64 l)), (184, .cells 1 (irows .i64 (m.take j)))]) 232 147 rfl (fun j => m.length - j) (fun j => j ≤ m.length) 0 [] (Nat.zero_le _)
    ⟨⟨rfl, rfl⟩, ⟨rfl, rfl⟩, ⟨rfl, rfl⟩, ⟨rfl, rfl⟩, ⟨rfl, rfl⟩, trivial⟩ ⟨⟨rfl, .inl ⟨rfl, irows_noid _ _⟩⟩, ⟨rfl, .inr ⟨rfl, rfl⟩⟩, trivial⟩ rfl ?_
  intro j hJ
  have hj : j ≤ m.length := hJ
  clear hJ
  have lr2 : (irows .i64 (m.take j)).length = j := by rw [irows_len, List.length_take]; omega
  by_cases hlt : j < m.length
  · have eJ : IntKind.i64.wrap ((j : Int) + 1) = ((j + 1 : Nat) : Int) := by rw [IntWalk.i64_in _ (by omega)]; omega
    have hg := irows_get .i8 m (List.getElem?_eq_getElem hlt)
    have hb := i64m _ (List.getElem_mem hlt)
    have hsn : irows .i64 (m.take j) ++ [[.val (.int .i64 m[j])]] = irows .i64 (m.take (j + 1)) := by rw [take_snoc hlt, ← irows_append]; rfl
    have htk : List.take j (List.drop 0 (irows .i64 (m.take j))) = irows .i64 (m.take j) := by rw [List.drop_zero, List.take_of_length_le (by omega)]
    obtain ⟨n, hn⟩ : ∃ n, n = m[j] := ⟨_, rfl⟩
    rw [← hn] at hg hb hsn
    conv => whnf
    first
      | refine caseb (fun _ => ?_) (fun h => absurd (of_decide_eq_false h) (by omega))
      | refine caseb (fun h => absurd (of_decide_eq_true h) (by omega)) (fun _ => ?_)
      | refine caseb (fun _ => ?_) (fun h => absurd (beq_eq_false_iff_ne.1 h) (by omega))
      | refine caseb (fun h => absurd (eq_of_beq h) (by omega)) (fun _ => ?_)
    conv => whnf
    refine ⟨_, ⟨by omega, by rw [Int.toNat_natCast]; exact hg⟩, ?_⟩
    conv => whnf
    refine ⟨⟨by show 0 + j ≤ _; omega, by show (j + 1) * 8 ≤ 140737488355328; omega, Nat.le_of_ble_eq_true rfl⟩, ?_⟩
    conv => whnf
    refine ⟨j + 1, [(184, 320)], (by show m.length - (j + 1) < m.length - j; omega), hlt, ⟨⟨rfl, rfl⟩, ⟨rfl, rfl⟩, ⟨rfl, rfl⟩, ⟨rfl, rfl⟩, ⟨valI eJ, rfl⟩, trivial⟩, ⟨⟨rfl, .inl ⟨rfl, irows_noid _ _⟩⟩, ⟨rfl, .inl ⟨celE ?_, irows_noid _ _⟩⟩, trivial⟩, rfl⟩
    rw [← hsn]
    show List.take j (List.drop 0 (irows .i64 (m.take j))) ++ [[.val (.int .i64 (IntKind.i64.wrap n))]] = _
    rw [htk, IntWalk.i64_in _ ⟨hb.1, by have := hb.2; omega⟩]
  have hje : j = m.length := by omega
  have e2 : m.take j = m := List.take_of_length_le (by omega)
  rw [e2, hje]
  have kl : List.take l.length (List.drop 0 (irows .i64 l)) = irows .i64 l := by rw [List.drop_zero, List.take_of_length_le (by omega)]
  have km : List.take m.length (List.drop 0 (irows .i64 m)) = irows .i64 m := by rw [List.drop_zero, List.take_of_length_le (by omega)]
  conv => whnf
  first
    | refine caseb (fun _ => ?_) (fun h => absurd (of_decide_eq_false h) (by omega))
    | refine caseb (fun h => absurd (of_decide_eq_true h) (by omega)) (fun _ => ?_)
    | refine caseb (fun _ => ?_) (fun h => absurd (beq_eq_false_iff_ne.1 h) (by omega))
    | refine caseb (fun h => absurd (eq_of_beq h) (by omega)) (fun _ => ?_)
  conv => whnf
  refine SW.weak ((Wk.frz 5 176 0 l.length 1 rfl rfl (by decide) (by show 0 + _ ≤ _; omega) (by rw [List.drop_zero, List.take_of_length_le (by omega)]; exact noid_sl _ _ _)).trans (Wk.frz 6 184 0 m.length 1 rfl rfl (by decide) (by show 0 + _ ≤ _; omega) (by rw [List.drop_zero, List.take_of_length_le (by omega)]; exact noid_sl _ _ _))) rfl ?_
  refine SW.loopM TTok (fun i : Nat => [(4, .val (.bool false)), (5, .sl 1 (irows .i64 l) false), (6, .sl 1 (irows .i64 m) false), (68, .own 264 0 4), (69, .val (.int .i64 4)), (70, .val (.int .i64 (i : Int)))]) (fun _ => [(264, .cells 1 (irows .i32 cl))]) 288 147 rfl (fun i => 4 - i) (fun i => i ≤ 4) 0 [] (Nat.zero_le _)
    ⟨⟨rfl, rfl⟩, ⟨slE kl, rfl⟩, ⟨slE km, rfl⟩, ⟨rfl, rfl⟩, ⟨rfl, rfl⟩, ⟨rfl, rfl⟩, trivial⟩ ⟨⟨rfl, .inl ⟨celE (by rw [ec]; rfl), irows_noid _ _⟩⟩, trivial⟩ rfl ?_
  intro i hJ
  have hi : i ≤ 4 := hJ
  clear hJ
  by_cases hlt : i < 4
  · have eI : IntKind.i64.wrap ((i : Int) + 1) = ((i + 1 : Nat) : Int) := by rw [IntWalk.i64_in _ (by omega)]; omega
    have hic : i < cl.length := by omega
    have hg := irows_get .i32 cl (List.getElem?_eq_getElem hic)
    obtain ⟨a, b, d, z, p, a3, b3, d3, z3, p3, hC⟩ := round l m cl[i] (hfour i hic) (fun n hn => by have := hl n hn; omega) (fun n hn => by have := hm n hn; omega) l1 m1 l12 m12
    obtain ⟨c, hc⟩ : ∃ c, c = cl[i] := ⟨_, rfl⟩
    rw [← hc] at hg a3 b3 d3 z3 p3
    have Ra := RatR a
    have Rb := RatR b
    have Ep := RatE p
    have Ed := RatE d
    have hN : AC Tryz.prog 14 [.sl 1 (irows .i64 [2]) false, .sl 3 ([a, b].map rowX) false] (.pure (.tup [AA [2] false [] [a, b] true, .val (.bool true)])) := Nums_ok [2] [a, b] (by decide) rfl (by show 2 ≤ 1000000; omega)
    obtain ⟨ka, a1, a2, za, ba, hra⟩ := rowX_eq a
    obtain ⟨kb, b1, b2, zb, bb, hrb⟩ := rowX_eq b
    have hab : [a, b].map rowX = [[.sl ka a1 za, .val (.bool ba), .sl ka a2 za], [.sl kb b1 zb, .val (.bool bb), .sl kb b2 zb]] := by
      show [rowX a, rowX b] = _
      rw [hra, hrb]
    rw [hra] at Ra
    rw [hrb] at Rb
    have wa : [a].map rowX = [[.sl ka a1 za, .val (.bool ba), .sl ka a2 za]] := by show [rowX a] = _; rw [hra]
    have wb : [b].map rowX = [[.sl kb b1 zb, .val (.bool bb), .sl kb b2 zb]] := by show [rowX b] = _; rw [hrb]
    unfold AA at *
    unfold RA at Ep Ed hC
    rw [hab] at hN p3
    conv => whnf
    first
      | refine caseb (fun _ => ?_) (fun h => absurd (of_decide_eq_false h) (by omega))
      | refine caseb (fun h => absurd (of_decide_eq_true h) (by omega)) (fun _ => ?_)
      | refine caseb (fun _ => ?_) (fun h => absurd (beq_eq_false_iff_ne.1 h) (by omega))
      | refine caseb (fun h => absurd (eq_of_beq h) (by omega)) (fun _ => ?_)
    conv => whnf
    refine ⟨by omega, ?_⟩
    conv => whnf
    refine ⟨_, by rw [Nat.zero_add, Int.toNat_natCast]; exact hg, ?_⟩
    conv => whnf
    refine ⟨_, I1, ?_⟩
    conv => whnf
    refine ⟨_, a3, ?_⟩
    conv => whnf
    refine ⟨_, I2, ?_⟩
    conv => whnf
    refine ⟨_, b3, ?_⟩
    conv => whnf
    refine ⟨⟨Nat.le_refl _, by show (0 + (irows .i64 l).length) * 8 ≤ 140737488355328; omega⟩, ?_⟩
    conv => whnf
    refine ⟨⟨by show 0 + (0 + (irows .i64 l).length) ≤ (List.take 0 (List.drop 0 ([] : List (List AV))) ++ irows .i64 l).length; simp, by show (0 + (irows .i64 l).length + (irows .i64 m).length) * 8 ≤ 140737488355328; omega⟩, ?_⟩
    conv => whnf
    refine ⟨by show 0 + (0 + (irows .i64 l).length + (irows .i64 m).length) ≤ (List.take (0 + (irows .i64 l).length) (List.drop 0 (List.take 0 (List.drop 0 ([] : List (List AV))) ++ irows .i64 l)) ++ irows .i64 m).length; simp, _, I3, ?_⟩
    conv => whnf
    refine ⟨_, d3, ?_⟩
    conv => whnf
    refine ⟨(Nat.le_of_ble_eq_true rfl), _, I0, ?_⟩
    conv => whnf
    refine ⟨_, z3, ?_⟩
    conv => whnf
    refine ⟨_, Ra, ?_⟩
    conv => whnf
    refine ⟨_, Rb, ?_⟩
    conv => whnf
    refine ⟨⟨Nat.le_refl _, Nat.le_refl _⟩, _, hN, ?_⟩
    conv => whnf
    refine ⟨by kernel_rfl, ?_⟩
    conv => whnf
    refine ⟨_, p3, ?_⟩
    conv => whnf
    refine ⟨_, Ep, ?_⟩
    conv => whnf
    refine ⟨_, Ed, ?_⟩
    conv => whnf
    refine ⟨_, hC, ?_⟩
    conv => whnf
    refine ⟨by kernel_rfl, ?_⟩
    conv => whnf
    exact ⟨i + 1, [], (by show 4 - (i + 1) < 4 - i; omega), hlt, ⟨⟨rfl, rfl⟩, ⟨rfl, rfl⟩, ⟨rfl, rfl⟩, ⟨rfl, rfl⟩, ⟨rfl, rfl⟩, ⟨valI eI, rfl⟩, trivial⟩, ⟨⟨rfl, .inl ⟨rfl, irows_noid _ _⟩⟩, trivial⟩, rfl⟩
  · conv => whnf
    first
      | refine caseb (fun _ => ?_) (fun h => absurd (of_decide_eq_false h) (by omega))
      | refine caseb (fun h => absurd (of_decide_eq_true h) (by omega)) (fun _ => ?_)
      | refine caseb (fun _ => ?_) (fun h => absurd (beq_eq_false_iff_ne.1 h) (by omega))
      | refine caseb (fun h => absurd (eq_of_beq h) (by omega)) (fun _ => ?_)
    repeat
      conv => whnf
      first
        | refine ⟨_, by assumption, ?_⟩
        | refine ⟨(Nat.le_of_ble_eq_true rfl), _, by assumption, ?_⟩
        | refine ⟨by kernel_rfl, ?_⟩
        | exact rfl
        | exact ⟨Nat.le_of_ble_eq_true rfl, rfl⟩
        | refine ⟨by decide, ?_⟩
end
theorem holds (l m : List Int) (_ll : l.length < 9223372036854775808) (hl : ∀ n ∈ l, -128 ≤ n ∧ n < 128) (_lm : m.length < 9223372036854775808) (hm : ∀ n ∈ m, -128 ≤ n ∧ n < 128) :
    AC Tryz.prog 4 [.sl 1 (irows .i8 l) false, .sl 1 (irows .i8 m) false] (.pure (.val (.bool true))) := by
  by_cases h : l.length < 1 ∨ m.length < 1 ∨ 12 < l.length ∨ 12 < m.length
  · exact bad l m h
  · exact good l m hl hm (by omega) (by omega) (by omega) (by omega)
end Go.Proofs.YtbdklokfijjifaaGreat.foldJoins
