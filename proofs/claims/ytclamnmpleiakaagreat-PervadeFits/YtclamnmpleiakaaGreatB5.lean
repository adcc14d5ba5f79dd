/- Arrays: alike ones; the shape of two (contracts). -/
import Derived.Test.YtclamnmpleiakaaGreatB4
import Derived.Test.YtclamnmpleiakaaGreatB2
set_option linter.unusedVariables false
namespace Go.Proofs.YtclamnmpleiakaaGreat
open Go Go.AL NM

theorem PSame_ok (sh : List Int) (ch : Bool) (tx : List Int) (qs : List Rat) (h1 : sh.length ≤ 1000) (h2 : tx.length ≤ 100000) (h3 : qs.length ≤ 100000) : AC Tryz.prog 41 [PA sh ch tx qs, PA sh ch tx qs] (.pure (.val (.bool true))) := by
  refine AC.of_body TTok Tryz.func41 rfl (enter_of Tryz.func41 (by kernel_rfl) (by kernel_rfl)) (noid2 (PA_noid _ _ _ _) (PA_noid _ _ _ _)) (.val _) (Nat.le_of_ble_eq_true rfl) ?_
  have hI := IntsSame_ok sh sh (by omega) (by omega)
  rw [decide_eq_true rfl] at hI
  have hR := Runes_ok tx tx (by omega) (by omega)
  rw [decide_eq_true rfl] at hR
  have l3 : (qs.map rowN).length = qs.length := List.length_map _
  have hbb : (!(ch == ch)) = false := by cases ch <;> rfl
  unfold PA
  conv => whnf
  refine caseb (fun h => Bool.noConfusion ((hbb).symm.trans h)) (fun _ => ?_)
  conv => whnf
  refine ⟨_, hI, ?_⟩
  conv => whnf
  refine ⟨_, hR, ?_⟩
  conv => whnf
  first
    | refine caseb (fun h => absurd (bne_iff_ne.1 h) (by omega)) (fun _ => ?_)
    | refine caseb (fun _ => ?_) (fun h => absurd (bne_eq_false_iff_eq.1 h) (by omega))
  conv => whnf
  refine SW.loopM TTok (fun i : Nat => [(2, .lp 0 0), (3, .lp 8 0), (5, .val (.int .i64 (i : Int)))]) (fun i => [(0, .cells 4 [[.sl 1 (irows .i64 sh) false, .val (.bool ch), .sl 1 (irows .i32 tx) false, .sl 3 (qs.map rowN) false]]), (8, .cells 4 [[.sl 1 (irows .i64 sh) false, .val (.bool ch), .sl 1 (irows .i32 tx) false, .sl 3 (qs.map rowN) false]])]) 272 54 rfl (fun i => qs.length - i) (fun i => i ≤ qs.length) 0 [] (Nat.zero_le _)
    ⟨⟨rfl, rfl⟩, ⟨rfl, rfl⟩, ⟨rfl, rfl⟩, trivial⟩ ⟨⟨rfl, .inr ⟨rfl, rfl⟩⟩, ⟨rfl, .inr ⟨rfl, rfl⟩⟩, trivial⟩ rfl ?_
  intro i hi
  have hi : i ≤ qs.length := hi
  by_cases hlt : i < qs.length
  · have eI : IntKind.i64.wrap ((i : Int) + 1) = ((i + 1 : Nat) : Int) := by rw [IntWalk.i64_in _ (by omega)]; omega
    have hg : (qs.map rowN)[i]? = some [.val (.bool (decide (qs[i].num < 0))), .val (.string (decS qs[i].num.natAbs)), .val (.string (decS qs[i].den))] := by rw [List.getElem?_map, List.getElem?_eq_getElem hlt]; rfl
    conv => whnf
    first
      | refine caseb (fun _ => ?_) (fun h => absurd (of_decide_eq_false h) (by omega))
      | refine caseb (fun h => absurd (of_decide_eq_true h) (by omega)) (fun _ => ?_)
      | refine caseb (fun _ => ?_) (fun h => absurd (beq_eq_false_iff_ne.1 h) (by omega))
      | refine caseb (fun h => absurd (eq_of_beq h) (by omega)) (fun _ => ?_)
    conv => whnf
    refine ⟨_, ⟨by omega, hg⟩, ?_⟩
    conv => whnf
    refine ⟨_, ⟨by omega, hg⟩, ?_⟩
    conv => whnf
    refine ⟨by kernel_rfl, ?_⟩
    conv => whnf
    refine caseb (fun h => Bool.noConfusion ((RN_selfn _ _ _).symm.trans h)) (fun _ => ?_)
    conv => whnf
    refine ⟨i + 1, [], (by show qs.length - (i + 1) < qs.length - i; omega), hlt, ⟨⟨rfl, rfl⟩, ⟨rfl, rfl⟩, ⟨valI eI, rfl⟩, trivial⟩, ⟨⟨rfl, .inr ⟨rfl, rfl⟩⟩, ⟨rfl, .inr ⟨rfl, rfl⟩⟩, trivial⟩, rfl⟩
  · conv => whnf
    first
      | refine caseb (fun _ => ?_) (fun h => absurd (of_decide_eq_false h) (by omega))
      | refine caseb (fun h => absurd (of_decide_eq_true h) (by omega)) (fun _ => ?_)
      | refine caseb (fun _ => ?_) (fun h => absurd (beq_eq_false_iff_ne.1 h) (by omega))
      | refine caseb (fun h => absurd (eq_of_beq h) (by omega)) (fun _ => ?_)
    repeat
      conv => whnf
      first
        | refine ⟨_, by assumption, ?_⟩
        | refine ⟨(Nat.le_of_ble_eq_true rfl), _, by assumption, ?_⟩
        | refine ⟨by kernel_rfl, ?_⟩
        | exact rfl
        | exact ⟨Nat.le_of_ble_eq_true rfl, rfl⟩
        | refine ⟨by decide, ?_⟩
theorem shows_ok (sh : List Int) (ch : Bool) (tx : List Int) (ns : List (Option (Rat × Nat))) (h1 : sh.length ≤ 1000) (h2 : tx.length ≤ 100000) (h3 : ns.length ≤ 100000) (ho : ∀ o ∈ ns, okX o ∧ Sz (valX o) 100000) :
    AC Tryz.prog 20 [AA sh ch tx ns true, .val (.int .i64 0), PA sh ch tx (ns.map valX), .val (.int .i64 0)] (.pure (.val (.bool true))) := by
  refine AC.of_body TTok Tryz.func20 rfl (enter_of Tryz.func20 (by kernel_rfl) (by kernel_rfl)) (noidF (AA_noid _ _ _ _ _) (.val _) (PA_noid _ _ _ _) (.val _)) (.val _) (Nat.le_of_ble_eq_true rfl) ?_
  have hP := Plain_ok sh ch tx ns h1 h2 h3 ho
  have hS := PSame_ok sh ch tx (ns.map valX) h1 h2 (by rw [List.length_map]; exact h3)
  unfold AA PA at *
  repeat
    conv => whnf
    first
      | refine ⟨_, by assumption, ?_⟩
      | refine ⟨(Nat.le_of_ble_eq_true rfl), _, by assumption, ?_⟩
      | refine ⟨by kernel_rfl, ?_⟩
      | exact rfl
      | exact ⟨Nat.le_of_ble_eq_true rfl, rfl⟩
      | refine ⟨by decide, ?_⟩
/-- The shape that two arrays make together. -/
def fitS (sa sb : List Int) (la lb : Nat) : List Int × Bool × Bool × Int :=
  if sa = sb then (sa, false, false, 0)
  else if la = 1 ∧ (lb ≠ 1 ∨ sa.length < sb.length) then (sb, true, false, 0)
  else if lb = 1 then (sa, false, true, 0)
  else if sa.length ≠ sb.length then ([], false, false, 23) else ([], false, false, 24)
def FV (x : List Int × Bool × Bool × Int) : AV := .tup [.sl 1 (irows .i64 x.1) false, .val (.bool x.2.1), .val (.bool x.2.2.1), .val (.int .i64 x.2.2.2)]
theorem FV_noid (x : List Int × Bool × Bool × Int) : NoId (FV x) := .tup _ (noidF (noid_sl _ _ _) (.val _) (.val _) (.val _))
theorem le_tup4 {a b c d a' : AV} (h1 : AVle a a') : AVle (.tup [a, b, c, d]) (.tup [a', b, c, d]) :=
  .tup _ _ rfl (fun i x y hx hy => by
    match i with
    | 0 => cases hx; cases hy; exact h1
    | 1 => cases hx; cases hy; exact .refl _
    | 2 => cases hx; cases hy; exact .refl _
    | 3 => cases hx; cases hy; exact .refl _
    | (i + 4) => cases hx)
theorem FV_err {P : Program} {f : FuncId} {args : List AV} {e : Int} (h : AC P f args (.pure (.tup [.sl 0 [] true, .val (.bool false), .val (.bool false), .val (.int .i64 e)]))) : AC P f args (.pure (FV ([], false, false, e))) :=
  AC.le_res h (le_tup4 (le_nil 1)) (FV_noid _)
theorem FE_noid (e : Int) : NoId (.tup [.sl 0 [] true, .val (.bool false), .val (.bool false), .val (.int .i64 e)]) := .tup _ (noidF (.sl _ _ _ (fun r hr => nomatch hr)) (.val _) (.val _) (.val _))

section
variable (sa sb : List Int) (ca cb : Bool) (ta tb : List Int)
theorem Fit_ok (na nb : List (Option (Rat × Nat))) (h1 : sa.length ≤ 1000) (h2 : sb.length ≤ 1000) (h3 : ta.length ≤ 100000) (h4 : tb.length ≤ 100000) (h5 : na.length ≤ 100000) (h6 : nb.length ≤ 100000) :
    AC Tryz.prog 21 [AA sa ca ta na true, AA sb cb tb nb true] (.pure (FV (fitS sa sb (ta.length + na.length) (tb.length + nb.length)))) := by
  have hLa := ALen_ok sa ca ta na true (by omega) (by omega)
  have hLb := ALen_ok sb cb tb nb true (by omega) (by omega)
  have hSa := Shape_ok sa ca ta na (by omega)
  have hSb := Shape_ok sb cb tb nb (by omega)
  have hRa := Rank_ok sa ca ta na (by omega)
  have hRb := Rank_ok sb cb tb nb (by omega)
  have hE := ShSame_ok sa sb (by omega) (by omega)
  have nd := noid2 (AA_noid sa ca ta na true) (AA_noid sb cb tb nb true)
  generalize ta.length + na.length = la at *
  generalize tb.length + nb.length = lb at *
  unfold fitS
  unfold AA at *
  by_cases hs : sa = sb
  · rw [if_pos hs]
    rw [decide_eq_true hs] at hE
    refine AC.of_body TTok Tryz.func21 rfl (enter_of Tryz.func21 (by kernel_rfl) (by kernel_rfl)) nd (FV_noid _) (Nat.le_of_ble_eq_true rfl) ?_
    repeat
      conv => whnf
      first
        | refine ⟨_, by assumption, ?_⟩
        | refine ⟨(Nat.le_of_ble_eq_true rfl), _, by assumption, ?_⟩
        | refine ⟨by kernel_rfl, ?_⟩
        | exact rfl
        | exact ⟨Nat.le_of_ble_eq_true rfl, rfl⟩
        | refine ⟨by decide, ?_⟩
        | refine caseb (fun _ => ?_) (fun h => absurd (of_decide_eq_false h) (by omega))
        | refine caseb (fun h => absurd (of_decide_eq_true h) (by omega)) (fun _ => ?_)
        | refine caseb (fun _ => ?_) (fun h => absurd (beq_eq_false_iff_ne.1 h) (by omega))
        | refine caseb (fun h => absurd (eq_of_beq h) (by omega)) (fun _ => ?_)
        | refine caseb (fun h => absurd (bne_iff_ne.1 h) (by omega)) (fun _ => ?_)
        | refine caseb (fun _ => ?_) (fun h => absurd (bne_eq_false_iff_eq.1 h) (by omega))
  · rw [if_neg hs]
    rw [decide_eq_false hs] at hE
    by_cases hla : la = 1
    · by_cases hx : lb ≠ 1 ∨ sa.length < sb.length
      · rw [if_pos ⟨hla, hx⟩]
        refine AC.of_body TTok Tryz.func21 rfl (enter_of Tryz.func21 (by kernel_rfl) (by kernel_rfl)) nd (FV_noid _) (Nat.le_of_ble_eq_true rfl) ?_
        by_cases hlb : lb = 1
        · have hx' := hx.resolve_left (fun h => h hlb)
          repeat
            conv => whnf
            first
              | refine ⟨_, by assumption, ?_⟩
              | refine ⟨(Nat.le_of_ble_eq_true rfl), _, by assumption, ?_⟩
              | refine ⟨by kernel_rfl, ?_⟩
              | exact rfl
              | exact ⟨Nat.le_of_ble_eq_true rfl, rfl⟩
              | refine ⟨by decide, ?_⟩
              | refine caseb (fun _ => ?_) (fun h => absurd (of_decide_eq_false h) (by omega))
              | refine caseb (fun h => absurd (of_decide_eq_true h) (by omega)) (fun _ => ?_)
              | refine caseb (fun _ => ?_) (fun h => absurd (beq_eq_false_iff_ne.1 h) (by omega))
              | refine caseb (fun h => absurd (eq_of_beq h) (by omega)) (fun _ => ?_)
              | refine caseb (fun h => absurd (bne_iff_ne.1 h) (by omega)) (fun _ => ?_)
              | refine caseb (fun _ => ?_) (fun h => absurd (bne_eq_false_iff_eq.1 h) (by omega))
        · repeat
            conv => whnf
            first
              | refine ⟨_, by assumption, ?_⟩
              | refine ⟨(Nat.le_of_ble_eq_true rfl), _, by assumption, ?_⟩
              | refine ⟨by kernel_rfl, ?_⟩
              | exact rfl
              | exact ⟨Nat.le_of_ble_eq_true rfl, rfl⟩
              | refine ⟨by decide, ?_⟩
              | refine caseb (fun _ => ?_) (fun h => absurd (of_decide_eq_false h) (by omega))
              | refine caseb (fun h => absurd (of_decide_eq_true h) (by omega)) (fun _ => ?_)
              | refine caseb (fun _ => ?_) (fun h => absurd (beq_eq_false_iff_ne.1 h) (by omega))
              | refine caseb (fun h => absurd (eq_of_beq h) (by omega)) (fun _ => ?_)
              | refine caseb (fun h => absurd (bne_iff_ne.1 h) (by omega)) (fun _ => ?_)
              | refine caseb (fun _ => ?_) (fun h => absurd (bne_eq_false_iff_eq.1 h) (by omega))
      · rw [if_neg (fun h => hx h.2)]
        have hlb : lb = 1 := Decidable.byContradiction fun h => hx (.inl h)
        rw [if_pos hlb]
        have hx' : ¬ sa.length < sb.length := fun h => hx (.inr h)
        refine AC.of_body TTok Tryz.func21 rfl (enter_of Tryz.func21 (by kernel_rfl) (by kernel_rfl)) nd (FV_noid _) (Nat.le_of_ble_eq_true rfl) ?_
        repeat
          conv => whnf
          first
            | refine ⟨_, by assumption, ?_⟩
            | refine ⟨(Nat.le_of_ble_eq_true rfl), _, by assumption, ?_⟩
            | refine ⟨by kernel_rfl, ?_⟩
            | exact rfl
            | exact ⟨Nat.le_of_ble_eq_true rfl, rfl⟩
            | refine ⟨by decide, ?_⟩
            | refine caseb (fun _ => ?_) (fun h => absurd (of_decide_eq_false h) (by omega))
            | refine caseb (fun h => absurd (of_decide_eq_true h) (by omega)) (fun _ => ?_)
            | refine caseb (fun _ => ?_) (fun h => absurd (beq_eq_false_iff_ne.1 h) (by omega))
            | refine caseb (fun h => absurd (eq_of_beq h) (by omega)) (fun _ => ?_)
            | refine caseb (fun h => absurd (bne_iff_ne.1 h) (by omega)) (fun _ => ?_)
            | refine caseb (fun _ => ?_) (fun h => absurd (bne_eq_false_iff_eq.1 h) (by omega))
    · rw [if_neg (fun h => hla h.1)]
      by_cases hlb : lb = 1
      · rw [if_pos hlb]
        refine AC.of_body TTok Tryz.func21 rfl (enter_of Tryz.func21 (by kernel_rfl) (by kernel_rfl)) nd (FV_noid _) (Nat.le_of_ble_eq_true rfl) ?_
        repeat
          conv => whnf
          first
            | refine ⟨_, by assumption, ?_⟩
            | refine ⟨(Nat.le_of_ble_eq_true rfl), _, by assumption, ?_⟩
            | refine ⟨by kernel_rfl, ?_⟩
            | exact rfl
            | exact ⟨Nat.le_of_ble_eq_true rfl, rfl⟩
            | refine ⟨by decide, ?_⟩
            | refine caseb (fun _ => ?_) (fun h => absurd (of_decide_eq_false h) (by omega))
            | refine caseb (fun h => absurd (of_decide_eq_true h) (by omega)) (fun _ => ?_)
            | refine caseb (fun _ => ?_) (fun h => absurd (beq_eq_false_iff_ne.1 h) (by omega))
            | refine caseb (fun h => absurd (eq_of_beq h) (by omega)) (fun _ => ?_)
            | refine caseb (fun h => absurd (bne_iff_ne.1 h) (by omega)) (fun _ => ?_)
            | refine caseb (fun _ => ?_) (fun h => absurd (bne_eq_false_iff_eq.1 h) (by omega))
      · rw [if_neg hlb]
        by_cases hr : sa.length ≠ sb.length
        · rw [if_pos hr]
          refine FV_err ?_
          refine AC.of_body TTok Tryz.func21 rfl (enter_of Tryz.func21 (by kernel_rfl) (by kernel_rfl)) nd (FE_noid _) (Nat.le_of_ble_eq_true rfl) ?_
          repeat
            conv => whnf
            first
              | refine ⟨_, by assumption, ?_⟩
              | refine ⟨(Nat.le_of_ble_eq_true rfl), _, by assumption, ?_⟩
              | refine ⟨by kernel_rfl, ?_⟩
              | exact rfl
              | exact ⟨Nat.le_of_ble_eq_true rfl, rfl⟩
              | refine ⟨by decide, ?_⟩
              | refine caseb (fun _ => ?_) (fun h => absurd (of_decide_eq_false h) (by omega))
              | refine caseb (fun h => absurd (of_decide_eq_true h) (by omega)) (fun _ => ?_)
              | refine caseb (fun _ => ?_) (fun h => absurd (beq_eq_false_iff_ne.1 h) (by omega))
              | refine caseb (fun h => absurd (eq_of_beq h) (by omega)) (fun _ => ?_)
              | refine caseb (fun h => absurd (bne_iff_ne.1 h) (by omega)) (fun _ => ?_)
              | refine caseb (fun _ => ?_) (fun h => absurd (bne_eq_false_iff_eq.1 h) (by omega))
        · rw [if_neg hr]
          refine FV_err ?_
          refine AC.of_body TTok Tryz.func21 rfl (enter_of Tryz.func21 (by kernel_rfl) (by kernel_rfl)) nd (FE_noid _) (Nat.le_of_ble_eq_true rfl) ?_
          repeat
            conv => whnf
            first
              | refine ⟨_, by assumption, ?_⟩
              | refine ⟨(Nat.le_of_ble_eq_true rfl), _, by assumption, ?_⟩
              | refine ⟨by kernel_rfl, ?_⟩
              | exact rfl
              | exact ⟨Nat.le_of_ble_eq_true rfl, rfl⟩
              | refine ⟨by decide, ?_⟩
              | refine caseb (fun _ => ?_) (fun h => absurd (of_decide_eq_false h) (by omega))
              | refine caseb (fun h => absurd (of_decide_eq_true h) (by omega)) (fun _ => ?_)
              | refine caseb (fun _ => ?_) (fun h => absurd (beq_eq_false_iff_ne.1 h) (by omega))
              | refine caseb (fun h => absurd (eq_of_beq h) (by omega)) (fun _ => ?_)
              | refine caseb (fun h => absurd (bne_iff_ne.1 h) (by omega)) (fun _ => ?_)
              | refine caseb (fun _ => ?_) (fun h => absurd (bne_eq_false_iff_eq.1 h) (by omega))
theorem RFit_ok (na nb : List Rat) (h1 : sa.length ≤ 1000) (h2 : sb.length ≤ 1000) (h3 : ta.length ≤ 100000) (h4 : tb.length ≤ 100000) (h5 : na.length ≤ 100000) (h6 : nb.length ≤ 100000) :
    AC Tryz.prog 22 [PA sa ca ta na, PA sb cb tb nb] (.pure (FV (fitS sa sb (ta.length + na.length) (tb.length + nb.length)))) := by
  have hLa := RLen_ok sa ca ta na (by omega) (by omega)
  have hLb := RLen_ok sb cb tb nb (by omega) (by omega)
  have hE := IntsSame_ok sa sb (by omega) (by omega)
  have nd := noid2 (PA_noid sa ca ta na) (PA_noid sb cb tb nb)
  have l1 := irows_len .i64 sa
  have l2 := irows_len .i64 sb
  generalize ta.length + na.length = la at *
  generalize tb.length + nb.length = lb at *
  unfold fitS
  unfold PA at *
  by_cases hs : sa = sb
  · rw [if_pos hs]
    rw [decide_eq_true hs] at hE
    refine AC.of_body TTok Tryz.func22 rfl (enter_of Tryz.func22 (by kernel_rfl) (by kernel_rfl)) nd (FV_noid _) (Nat.le_of_ble_eq_true rfl) ?_
    repeat
      conv => whnf
      first
        | refine ⟨_, by assumption, ?_⟩
        | refine ⟨(Nat.le_of_ble_eq_true rfl), _, by assumption, ?_⟩
        | refine ⟨by kernel_rfl, ?_⟩
        | exact rfl
        | exact ⟨Nat.le_of_ble_eq_true rfl, rfl⟩
        | refine ⟨by decide, ?_⟩
        | refine caseb (fun _ => ?_) (fun h => absurd (of_decide_eq_false h) (by omega))
        | refine caseb (fun h => absurd (of_decide_eq_true h) (by omega)) (fun _ => ?_)
        | refine caseb (fun _ => ?_) (fun h => absurd (beq_eq_false_iff_ne.1 h) (by omega))
        | refine caseb (fun h => absurd (eq_of_beq h) (by omega)) (fun _ => ?_)
        | refine caseb (fun h => absurd (bne_iff_ne.1 h) (by omega)) (fun _ => ?_)
        | refine caseb (fun _ => ?_) (fun h => absurd (bne_eq_false_iff_eq.1 h) (by omega))
  · rw [if_neg hs]
    rw [decide_eq_false hs] at hE
    by_cases hla : la = 1
    · by_cases hx : lb ≠ 1 ∨ sa.length < sb.length
      · rw [if_pos ⟨hla, hx⟩]
        refine AC.of_body TTok Tryz.func22 rfl (enter_of Tryz.func22 (by kernel_rfl) (by kernel_rfl)) nd (FV_noid _) (Nat.le_of_ble_eq_true rfl) ?_
        by_cases hlb : lb = 1
        · have hx' := hx.resolve_left (fun h => h hlb)
          repeat
            conv => whnf
            first
              | refine ⟨_, by assumption, ?_⟩
              | refine ⟨(Nat.le_of_ble_eq_true rfl), _, by assumption, ?_⟩
              | refine ⟨by kernel_rfl, ?_⟩
              | exact rfl
              | exact ⟨Nat.le_of_ble_eq_true rfl, rfl⟩
              | refine ⟨by decide, ?_⟩
              | refine caseb (fun _ => ?_) (fun h => absurd (of_decide_eq_false h) (by omega))
              | refine caseb (fun h => absurd (of_decide_eq_true h) (by omega)) (fun _ => ?_)
              | refine caseb (fun _ => ?_) (fun h => absurd (beq_eq_false_iff_ne.1 h) (by omega))
              | refine caseb (fun h => absurd (eq_of_beq h) (by omega)) (fun _ => ?_)
              | refine caseb (fun h => absurd (bne_iff_ne.1 h) (by omega)) (fun _ => ?_)
              | refine caseb (fun _ => ?_) (fun h => absurd (bne_eq_false_iff_eq.1 h) (by omega))
        · repeat
            conv => whnf
            first
              | refine ⟨_, by assumption, ?_⟩
              | refine ⟨(Nat.le_of_ble_eq_true rfl), _, by assumption, ?_⟩
              | refine ⟨by kernel_rfl, ?_⟩
              | exact rfl
              | exact ⟨Nat.le_of_ble_eq_true rfl, rfl⟩
              | refine ⟨by decide, ?_⟩
              | refine caseb (fun _ => ?_) (fun h => absurd (of_decide_eq_false h) (by omega))
              | refine caseb (fun h => absurd (of_decide_eq_true h) (by omega)) (fun _ => ?_)
              | refine caseb (fun _ => ?_) (fun h => absurd (beq_eq_false_iff_ne.1 h) (by omega))
              | refine caseb (fun h => absurd (eq_of_beq h) (by omega)) (fun _ => ?_)
              | refine caseb (fun h => absurd (bne_iff_ne.1 h) (by omega)) (fun _ => ?_)
              | refine caseb (fun _ => ?_) (fun h => absurd (bne_eq_false_iff_eq.1 h) (by omega))
      · rw [if_neg (fun h => hx h.2)]
        have hlb : lb = 1 := Decidable.byContradiction fun h => hx (.inl h)
        rw [if_pos hlb]
        have hx' : ¬ sa.length < sb.length := fun h => hx (.inr h)
        refine AC.of_body TTok Tryz.func22 rfl (enter_of Tryz.func22 (by kernel_rfl) (by kernel_rfl)) nd (FV_noid _) (Nat.le_of_ble_eq_true rfl) ?_
        repeat
          conv => whnf
          first
            | refine ⟨_, by assumption, ?_⟩
            | refine ⟨(Nat.le_of_ble_eq_true rfl), _, by assumption, ?_⟩
            | refine ⟨by kernel_rfl, ?_⟩
            | exact rfl
            | exact ⟨Nat.le_of_ble_eq_true rfl, rfl⟩
            | refine ⟨by decide, ?_⟩
            | refine caseb (fun _ => ?_) (fun h => absurd (of_decide_eq_false h) (by omega))
            | refine caseb (fun h => absurd (of_decide_eq_true h) (by omega)) (fun _ => ?_)
            | refine caseb (fun _ => ?_) (fun h => absurd (beq_eq_false_iff_ne.1 h) (by omega))
            | refine caseb (fun h => absurd (eq_of_beq h) (by omega)) (fun _ => ?_)
            | refine caseb (fun h => absurd (bne_iff_ne.1 h) (by omega)) (fun _ => ?_)
            | refine caseb (fun _ => ?_) (fun h => absurd (bne_eq_false_iff_eq.1 h) (by omega))
    · rw [if_neg (fun h => hla h.1)]
      by_cases hlb : lb = 1
      · rw [if_pos hlb]
        refine AC.of_body TTok Tryz.func22 rfl (enter_of Tryz.func22 (by kernel_rfl) (by kernel_rfl)) nd (FV_noid _) (Nat.le_of_ble_eq_true rfl) ?_
        repeat
          conv => whnf
          first
            | refine ⟨_, by assumption, ?_⟩
            | refine ⟨(Nat.le_of_ble_eq_true rfl), _, by assumption, ?_⟩
            | refine ⟨by kernel_rfl, ?_⟩
            | exact rfl
            | exact ⟨Nat.le_of_ble_eq_true rfl, rfl⟩
            | refine ⟨by decide, ?_⟩
            | refine caseb (fun _ => ?_) (fun h => absurd (of_decide_eq_false h) (by omega))
            | refine caseb (fun h => absurd (of_decide_eq_true h) (by omega)) (fun _ => ?_)
            | refine caseb (fun _ => ?_) (fun h => absurd (beq_eq_false_iff_ne.1 h) (by omega))
            | refine caseb (fun h => absurd (eq_of_beq h) (by omega)) (fun _ => ?_)
            | refine caseb (fun h => absurd (bne_iff_ne.1 h) (by omega)) (fun _ => ?_)
            | refine caseb (fun _ => ?_) (fun h => absurd (bne_eq_false_iff_eq.1 h) (by omega))
      · rw [if_neg hlb]
        by_cases hr : sa.length ≠ sb.length
        · rw [if_pos hr]
          refine FV_err ?_
          refine AC.of_body TTok Tryz.func22 rfl (enter_of Tryz.func22 (by kernel_rfl) (by kernel_rfl)) nd (FE_noid _) (Nat.le_of_ble_eq_true rfl) ?_
          repeat
            conv => whnf
            first
              | refine ⟨_, by assumption, ?_⟩
              | refine ⟨(Nat.le_of_ble_eq_true rfl), _, by assumption, ?_⟩
              | refine ⟨by kernel_rfl, ?_⟩
              | exact rfl
              | exact ⟨Nat.le_of_ble_eq_true rfl, rfl⟩
              | refine ⟨by decide, ?_⟩
              | refine caseb (fun _ => ?_) (fun h => absurd (of_decide_eq_false h) (by omega))
              | refine caseb (fun h => absurd (of_decide_eq_true h) (by omega)) (fun _ => ?_)
              | refine caseb (fun _ => ?_) (fun h => absurd (beq_eq_false_iff_ne.1 h) (by omega))
              | refine caseb (fun h => absurd (eq_of_beq h) (by omega)) (fun _ => ?_)
              | refine caseb (fun h => absurd (bne_iff_ne.1 h) (by omega)) (fun _ => ?_)
              | refine caseb (fun _ => ?_) (fun h => absurd (bne_eq_false_iff_eq.1 h) (by omega))
        · rw [if_neg hr]
          refine FV_err ?_
          refine AC.of_body TTok Tryz.func22 rfl (enter_of Tryz.func22 (by kernel_rfl) (by kernel_rfl)) nd (FE_noid _) (Nat.le_of_ble_eq_true rfl) ?_
          repeat
            conv => whnf
            first
              | refine ⟨_, by assumption, ?_⟩
              | refine ⟨(Nat.le_of_ble_eq_true rfl), _, by assumption, ?_⟩
              | refine ⟨by kernel_rfl, ?_⟩
              | exact rfl
              | exact ⟨Nat.le_of_ble_eq_true rfl, rfl⟩
              | refine ⟨by decide, ?_⟩
              | refine caseb (fun _ => ?_) (fun h => absurd (of_decide_eq_false h) (by omega))
              | refine caseb (fun h => absurd (of_decide_eq_true h) (by omega)) (fun _ => ?_)
              | refine caseb (fun _ => ?_) (fun h => absurd (beq_eq_false_iff_ne.1 h) (by omega))
              | refine caseb (fun h => absurd (eq_of_beq h) (by omega)) (fun _ => ?_)
              | refine caseb (fun h => absurd (bne_iff_ne.1 h) (by omega)) (fun _ => ?_)
              | refine caseb (fun _ => ?_) (fun h => absurd (bne_eq_false_iff_eq.1 h) (by omega))
end
end Go.Proofs.YtclamnmpleiakaaGreat

/- Functions of one number: their signs, how large an answer may be, the truth turned about. -/
set_option linter.unusedVariables false
namespace Go.Proofs.YtclamnmpleiakaaGreat
open Go Go.AL NM

def isOne (c : Int) : Prop := c = 43 ∨ c = 45 ∨ c = 215 ∨ c = 247 ∨ c = 8968 ∨ c = 8970 ∨ c = 124 ∨ c = 42 ∨ c = 33 ∨ c = 126 ∨ c = 9055 ∨ c = 9675
instance (c : Int) : Decidable (isOne c) := inferInstanceAs (Decidable (_ ∨ _ ∨ _ ∨ _ ∨ _ ∨ _ ∨ _ ∨ _ ∨ _ ∨ _ ∨ _ ∨ _))
/-- A number, if it is of at most so many limbs. -/
def withQ (x : Rat) (most : Int) : Rat × Int := if most < (qLimbs x.num x.den : Nat) then (0, 26) else (x, 0)
/-- The truth turned about. -/
def notQ (x : Rat) : Rat × Int := if x = 0 then (1, 0) else if x = 1 then (0, 0) else (0, 22)
end Go.Proofs.YtclamnmpleiakaaGreat

/- Functions of one number: the product of all whole numbers up to one. -/
set_option linter.unusedVariables false
namespace Go.Proofs.YtclamnmpleiakaaGreat
open Go Go.AL NM

def fac : Nat → Nat
  | 0 => 1
  | i + 1 => fac i * (i + 1)
def natQm (q : Rat) : Prop := q.den = 1 ∧ 0 ≤ q.num
instance (q : Rat) : Decidable (natQm q) := inferInstanceAs (Decidable (_ ∧ _))
/-- The product of all whole numbers from 1 up to a number. -/
def facQ (x : Rat) (most : Int) : Rat × Int := if natQm x then withQ (((fac x.num.toNat : Nat) : Int) : Rat) most else (0, 22)
end Go.Proofs.YtclamnmpleiakaaGreat

/- Functions of one number: all of them. -/
set_option linter.unusedVariables false
namespace Go.Proofs.YtclamnmpleiakaaGreat
open Go Go.AL NM

/-- What a function makes of one number. -/
def monoQ (c : Int) (x : Rat) (most : Int) : Rat × Int :=
  if c = 43 then withQ x most
  else if c = 45 then withQ (-x) most
  else if c = 215 then withQ ((sigW x.num : Int) : Rat) most
  else if c = 247 then (if x = 0 then (0, 22) else withQ (1 / x) most)
  else if c = 8968 then withQ ((x.ceil : Int) : Rat) most
  else if c = 8970 then withQ ((x.floor : Int) : Rat) most
  else if c = 124 then withQ (if x.num < 0 then -x else x) most
  else if c = 33 then facQ x most
  else if c = 126 then notQ x
  else if isOne c then (0, 22) else (0, 20)
end Go.Proofs.YtclamnmpleiakaaGreat

/- Functions of one number: the document's. -/
set_option linter.unusedVariables false
namespace Go.Proofs.YtclamnmpleiakaaGreat
open Go Go.AL NM

end Go.Proofs.YtclamnmpleiakaaGreat

/- Arrays: a function of each element (the program's contract). -/
set_option linter.unusedVariables false
namespace Go.Proofs.YtclamnmpleiakaaGreat
open Go Go.AL NM

/-- The first error of a list's elements (0: none). -/
def firstE : List (Rat × Int) → Int
  | [] => 0
  | x :: l => if x.2 = 0 then firstE l else x.2
theorem firstE_zero {l : List (Rat × Int)} (h : ∀ x ∈ l, x.2 = 0) : firstE l = 0 := by
  induction l with
  | nil => rfl
  | cons x l ih =>
    show (if x.2 = 0 then firstE l else x.2) = 0
    rw [if_pos (h x List.mem_cons_self), ih (fun y hy => h y (List.mem_cons_of_mem _ hy))]
theorem firstE_at {l : List (Rat × Int)} {i : Nat} (hi : i < l.length) (h : ∀ x ∈ l.take i, x.2 = 0) (hn : l[i].2 ≠ 0) : firstE l = l[i].2 := by
  induction l generalizing i with
  | nil => exact absurd hi (Nat.not_lt_zero _)
  | cons x l ih =>
    show (if x.2 = 0 then firstE l else x.2) = _
    cases i with
    | zero =>
      have hn : x.2 ≠ 0 := hn
      rw [if_neg hn]; rfl
    | succ i =>
      rw [if_pos (h x (by simp))]
      exact ih (by simpa using hi) (fun y hy => h y (by simp [hy])) hn
/-- What an array's element by element function comes to. -/
def resA (sh : List Int) (E : Int) (l : List (Option (Rat × Nat))) : AV := if E = 0 then .tup [AA sh false [] l true, .val (.int .i64 0)] else .tup [AA [] false [] [] false, .val (.int .i64 E)]
theorem resA_err {P : Program} {f : FuncId} {args : List AV} {e : Int} (sh : List Int) (l : List (Option (Rat × Nat))) (he : e ≠ 0) (h : AC P f args (.pure (.tup [AZ, .val (.int .i64 e)]))) : AC P f args (.pure (resA sh e l)) := by
  unfold resA
  rw [if_neg he]
  exact AC.le_res h (.tup2 AZ_le (.refl _)) (.tup _ (noid2 (AA_noid _ _ _ _ _) (.val _)))
theorem AZt_noid (e : Int) : NoId (.tup [AZ, .val (.int .i64 e)]) := .tup _ (noid2 AZ_noid (.val _))
theorem set_mid {α : Type} (a : List α) (x y : α) (b : List α) : (a ++ x :: b).set a.length y = a ++ y :: b := by
  rw [List.set_append_right _ _ (Nat.le_refl _), Nat.sub_self]; rfl

section
variable (c : Int) (sh : List Int) (ch : Bool) (tx : List Int) (qs : List Rat) (most : Int)
def oneE : Int := if isOne c then (if ch = true ∧ 0 < tx.length + qs.length then 22 else firstE (qs.map fun q => monoQ c q most)) else 20
end
end Go.Proofs.YtclamnmpleiakaaGreat

/- Arrays: a function of each element (the program's contract: the loop). -/
set_option linter.unusedVariables false
namespace Go.Proofs.YtclamnmpleiakaaGreat
open Go Go.AL NM

theorem pick_all {α β : Type} [Inhabited β] {l : List α} {p : α → β → Prop} (h : ∀ a ∈ l, ∃ b, p a b) : ∃ f : α → β, ∀ a ∈ l, p a (f a) := by
  classical
  exact ⟨fun a => if ha : a ∈ l then Classical.choose (h a ha) else default, fun a ha => by show p a (if ha : a ∈ l then Classical.choose (h a ha) else default); rw [dif_pos ha]; exact Classical.choose_spec (h a ha)⟩

end Go.Proofs.YtclamnmpleiakaaGreat

/- Arrays: a function of each element (the document's contract). -/
set_option linter.unusedVariables false
namespace Go.Proofs.YtclamnmpleiakaaGreat
open Go Go.AL NM

def resP (sh : List Int) (E : Int) (l : List Rat) : AV := if E = 0 then .tup [PA sh false [] l, .val (.int .i64 0)] else .tup [PA [] false [] [], .val (.int .i64 E)]
end Go.Proofs.YtclamnmpleiakaaGreat

/- Functions of two numbers: their signs. -/
set_option linter.unusedVariables false
namespace Go.Proofs.YtclamnmpleiakaaGreat
open Go Go.AL NM

def isCmp (c : Int) : Prop := c = 60 ∨ c = 8804 ∨ c = 61 ∨ c = 8805 ∨ c = 62 ∨ c = 8800
instance (c : Int) : Decidable (isCmp c) := inferInstanceAs (Decidable (_ ∨ _ ∨ _ ∨ _ ∨ _ ∨ _))
def isJdg (c : Int) : Prop := c = 8743 ∨ c = 8744 ∨ c = 9074 ∨ c = 9073
instance (c : Int) : Decidable (isJdg c) := inferInstanceAs (Decidable (_ ∨ _ ∨ _ ∨ _))
def isRec (c : Int) : Prop := c = 43 ∨ c = 45 ∨ c = 215 ∨ c = 247 ∨ c = 8968 ∨ c = 8970 ∨ c = 124 ∨ c = 42 ∨ c = 33 ∨ c = 9055 ∨ c = 9675
instance (c : Int) : Decidable (isRec c) := inferInstanceAs (Decidable (_ ∨ _ ∨ _ ∨ _ ∨ _ ∨ _ ∨ _ ∨ _ ∨ _ ∨ _ ∨ _))
def isTwo (c : Int) : Prop := isRec c ∨ isCmp c ∨ isJdg c
instance (c : Int) : Decidable (isTwo c) := inferInstanceAs (Decidable (_ ∨ _))
theorem compares_ok (c : Int) : AC Tryz.prog 91 [.val (.int .i32 c)] (.pure (.val (.bool (decide (isCmp c))))) := by
  refine AC.of_body TTok Tryz.func91 rfl (enter_of Tryz.func91 (by kernel_rfl) (by kernel_rfl)) (noid1 (.val _)) (.val _) (Nat.le_of_ble_eq_true rfl) ?_
  by_cases h0 : c = 60
  · subst h0
    rw [decide_eq_true (show isCmp 60 by decide)]
    repeat
      conv => whnf
      first
        | refine ⟨_, by assumption, ?_⟩
        | refine ⟨(Nat.le_of_ble_eq_true rfl), _, by assumption, ?_⟩
        | refine ⟨by kernel_rfl, ?_⟩
        | exact rfl
        | exact ⟨Nat.le_of_ble_eq_true rfl, rfl⟩
        | refine ⟨by decide, ?_⟩
  by_cases h1 : c = 8804
  · subst h1
    rw [decide_eq_true (show isCmp 8804 by decide)]
    repeat
      conv => whnf
      first
        | refine ⟨_, by assumption, ?_⟩
        | refine ⟨(Nat.le_of_ble_eq_true rfl), _, by assumption, ?_⟩
        | refine ⟨by kernel_rfl, ?_⟩
        | exact rfl
        | exact ⟨Nat.le_of_ble_eq_true rfl, rfl⟩
        | refine ⟨by decide, ?_⟩
  by_cases h2 : c = 61
  · subst h2
    rw [decide_eq_true (show isCmp 61 by decide)]
    repeat
      conv => whnf
      first
        | refine ⟨_, by assumption, ?_⟩
        | refine ⟨(Nat.le_of_ble_eq_true rfl), _, by assumption, ?_⟩
        | refine ⟨by kernel_rfl, ?_⟩
        | exact rfl
        | exact ⟨Nat.le_of_ble_eq_true rfl, rfl⟩
        | refine ⟨by decide, ?_⟩
  by_cases h3 : c = 8805
  · subst h3
    rw [decide_eq_true (show isCmp 8805 by decide)]
    repeat
      conv => whnf
      first
        | refine ⟨_, by assumption, ?_⟩
        | refine ⟨(Nat.le_of_ble_eq_true rfl), _, by assumption, ?_⟩
        | refine ⟨by kernel_rfl, ?_⟩
        | exact rfl
        | exact ⟨Nat.le_of_ble_eq_true rfl, rfl⟩
        | refine ⟨by decide, ?_⟩
  by_cases h4 : c = 62
  · subst h4
    rw [decide_eq_true (show isCmp 62 by decide)]
    repeat
      conv => whnf
      first
        | refine ⟨_, by assumption, ?_⟩
        | refine ⟨(Nat.le_of_ble_eq_true rfl), _, by assumption, ?_⟩
        | refine ⟨by kernel_rfl, ?_⟩
        | exact rfl
        | exact ⟨Nat.le_of_ble_eq_true rfl, rfl⟩
        | refine ⟨by decide, ?_⟩
  by_cases h5 : c = 8800
  · subst h5
    rw [decide_eq_true (show isCmp 8800 by decide)]
    repeat
      conv => whnf
      first
        | refine ⟨_, by assumption, ?_⟩
        | refine ⟨(Nat.le_of_ble_eq_true rfl), _, by assumption, ?_⟩
        | refine ⟨by kernel_rfl, ?_⟩
        | exact rfl
        | exact ⟨Nat.le_of_ble_eq_true rfl, rfl⟩
        | refine ⟨by decide, ?_⟩
  have e0 : (c == 60) = false := beq_false_of_ne h0
  have e1 : (c == 8804) = false := beq_false_of_ne h1
  have e2 : (c == 61) = false := beq_false_of_ne h2
  have e3 : (c == 8805) = false := beq_false_of_ne h3
  have e4 : (c == 62) = false := beq_false_of_ne h4
  have e5 : (c == 8800) = false := beq_false_of_ne h5
  rw [decide_eq_false (show ¬ isCmp c by unfold isCmp; omega)]
  conv => whnf
  refine caseb (fun h => Bool.noConfusion ((e0).symm.trans h)) (fun _ => ?_)
  conv => whnf
  refine caseb (fun h => Bool.noConfusion ((e1).symm.trans h)) (fun _ => ?_)
  conv => whnf
  refine caseb (fun h => Bool.noConfusion ((e2).symm.trans h)) (fun _ => ?_)
  conv => whnf
  refine caseb (fun h => Bool.noConfusion ((e3).symm.trans h)) (fun _ => ?_)
  conv => whnf
  refine caseb (fun h => Bool.noConfusion ((e4).symm.trans h)) (fun _ => ?_)
  conv => whnf
  refine caseb (fun h => Bool.noConfusion ((e5).symm.trans h)) (fun _ => ?_)
  repeat
    conv => whnf
    first
      | refine ⟨_, by assumption, ?_⟩
      | refine ⟨(Nat.le_of_ble_eq_true rfl), _, by assumption, ?_⟩
      | refine ⟨by kernel_rfl, ?_⟩
      | exact rfl
      | exact ⟨Nat.le_of_ble_eq_true rfl, rfl⟩
      | refine ⟨by decide, ?_⟩
theorem judges_ok (c : Int) : AC Tryz.prog 92 [.val (.int .i32 c)] (.pure (.val (.bool (decide (isJdg c))))) := by
  refine AC.of_body TTok Tryz.func92 rfl (enter_of Tryz.func92 (by kernel_rfl) (by kernel_rfl)) (noid1 (.val _)) (.val _) (Nat.le_of_ble_eq_true rfl) ?_
  by_cases h0 : c = 8743
  · subst h0
    rw [decide_eq_true (show isJdg 8743 by decide)]
    repeat
      conv => whnf
      first
        | refine ⟨_, by assumption, ?_⟩
        | refine ⟨(Nat.le_of_ble_eq_true rfl), _, by assumption, ?_⟩
        | refine ⟨by kernel_rfl, ?_⟩
        | exact rfl
        | exact ⟨Nat.le_of_ble_eq_true rfl, rfl⟩
        | refine ⟨by decide, ?_⟩
  by_cases h1 : c = 8744
  · subst h1
    rw [decide_eq_true (show isJdg 8744 by decide)]
    repeat
      conv => whnf
      first
        | refine ⟨_, by assumption, ?_⟩
        | refine ⟨(Nat.le_of_ble_eq_true rfl), _, by assumption, ?_⟩
        | refine ⟨by kernel_rfl, ?_⟩
        | exact rfl
        | exact ⟨Nat.le_of_ble_eq_true rfl, rfl⟩
        | refine ⟨by decide, ?_⟩
  by_cases h2 : c = 9074
  · subst h2
    rw [decide_eq_true (show isJdg 9074 by decide)]
    repeat
      conv => whnf
      first
        | refine ⟨_, by assumption, ?_⟩
        | refine ⟨(Nat.le_of_ble_eq_true rfl), _, by assumption, ?_⟩
        | refine ⟨by kernel_rfl, ?_⟩
        | exact rfl
        | exact ⟨Nat.le_of_ble_eq_true rfl, rfl⟩
        | refine ⟨by decide, ?_⟩
  by_cases h3 : c = 9073
  · subst h3
    rw [decide_eq_true (show isJdg 9073 by decide)]
    repeat
      conv => whnf
      first
        | refine ⟨_, by assumption, ?_⟩
        | refine ⟨(Nat.le_of_ble_eq_true rfl), _, by assumption, ?_⟩
        | refine ⟨by kernel_rfl, ?_⟩
        | exact rfl
        | exact ⟨Nat.le_of_ble_eq_true rfl, rfl⟩
        | refine ⟨by decide, ?_⟩
  have e0 : (c == 8743) = false := beq_false_of_ne h0
  have e1 : (c == 8744) = false := beq_false_of_ne h1
  have e2 : (c == 9074) = false := beq_false_of_ne h2
  have e3 : (c == 9073) = false := beq_false_of_ne h3
  rw [decide_eq_false (show ¬ isJdg c by unfold isJdg; omega)]
  conv => whnf
  refine caseb (fun h => Bool.noConfusion ((e0).symm.trans h)) (fun _ => ?_)
  conv => whnf
  refine caseb (fun h => Bool.noConfusion ((e1).symm.trans h)) (fun _ => ?_)
  conv => whnf
  refine caseb (fun h => Bool.noConfusion ((e2).symm.trans h)) (fun _ => ?_)
  conv => whnf
  refine caseb (fun h => Bool.noConfusion ((e3).symm.trans h)) (fun _ => ?_)
  repeat
    conv => whnf
    first
      | refine ⟨_, by assumption, ?_⟩
      | refine ⟨(Nat.le_of_ble_eq_true rfl), _, by assumption, ?_⟩
      | refine ⟨by kernel_rfl, ?_⟩
      | exact rfl
      | exact ⟨Nat.le_of_ble_eq_true rfl, rfl⟩
      | refine ⟨by decide, ?_⟩
theorem reckons_ok (c : Int) : AC Tryz.prog 90 [.val (.int .i32 c)] (.pure (.val (.bool (decide (isRec c))))) := by
  refine AC.of_body TTok Tryz.func90 rfl (enter_of Tryz.func90 (by kernel_rfl) (by kernel_rfl)) (noid1 (.val _)) (.val _) (Nat.le_of_ble_eq_true rfl) ?_
  by_cases h0 : c = 43
  · subst h0
    rw [decide_eq_true (show isRec 43 by decide)]
    repeat
      conv => whnf
      first
        | refine ⟨_, by assumption, ?_⟩
        | refine ⟨(Nat.le_of_ble_eq_true rfl), _, by assumption, ?_⟩
        | refine ⟨by kernel_rfl, ?_⟩
        | exact rfl
        | exact ⟨Nat.le_of_ble_eq_true rfl, rfl⟩
        | refine ⟨by decide, ?_⟩
  by_cases h1 : c = 45
  · subst h1
    rw [decide_eq_true (show isRec 45 by decide)]
    repeat
      conv => whnf
      first
        | refine ⟨_, by assumption, ?_⟩
        | refine ⟨(Nat.le_of_ble_eq_true rfl), _, by assumption, ?_⟩
        | refine ⟨by kernel_rfl, ?_⟩
        | exact rfl
        | exact ⟨Nat.le_of_ble_eq_true rfl, rfl⟩
        | refine ⟨by decide, ?_⟩
  by_cases h2 : c = 215
  · subst h2
    rw [decide_eq_true (show isRec 215 by decide)]
    repeat
      conv => whnf
      first
        | refine ⟨_, by assumption, ?_⟩
        | refine ⟨(Nat.le_of_ble_eq_true rfl), _, by assumption, ?_⟩
        | refine ⟨by kernel_rfl, ?_⟩
        | exact rfl
        | exact ⟨Nat.le_of_ble_eq_true rfl, rfl⟩
        | refine ⟨by decide, ?_⟩
  by_cases h3 : c = 247
  · subst h3
    rw [decide_eq_true (show isRec 247 by decide)]
    repeat
      conv => whnf
      first
        | refine ⟨_, by assumption, ?_⟩
        | refine ⟨(Nat.le_of_ble_eq_true rfl), _, by assumption, ?_⟩
        | refine ⟨by kernel_rfl, ?_⟩
        | exact rfl
        | exact ⟨Nat.le_of_ble_eq_true rfl, rfl⟩
        | refine ⟨by decide, ?_⟩
  by_cases h4 : c = 8968
  · subst h4
    rw [decide_eq_true (show isRec 8968 by decide)]
    repeat
      conv => whnf
      first
        | refine ⟨_, by assumption, ?_⟩
        | refine ⟨(Nat.le_of_ble_eq_true rfl), _, by assumption, ?_⟩
        | refine ⟨by kernel_rfl, ?_⟩
        | exact rfl
        | exact ⟨Nat.le_of_ble_eq_true rfl, rfl⟩
        | refine ⟨by decide, ?_⟩
  by_cases h5 : c = 8970
  · subst h5
    rw [decide_eq_true (show isRec 8970 by decide)]
    repeat
      conv => whnf
      first
        | refine ⟨_, by assumption, ?_⟩
        | refine ⟨(Nat.le_of_ble_eq_true rfl), _, by assumption, ?_⟩
        | refine ⟨by kernel_rfl, ?_⟩
        | exact rfl
        | exact ⟨Nat.le_of_ble_eq_true rfl, rfl⟩
        | refine ⟨by decide, ?_⟩
  by_cases h6 : c = 124
  · subst h6
    rw [decide_eq_true (show isRec 124 by decide)]
    repeat
      conv => whnf
      first
        | refine ⟨_, by assumption, ?_⟩
        | refine ⟨(Nat.le_of_ble_eq_true rfl), _, by assumption, ?_⟩
        | refine ⟨by kernel_rfl, ?_⟩
        | exact rfl
        | exact ⟨Nat.le_of_ble_eq_true rfl, rfl⟩
        | refine ⟨by decide, ?_⟩
  by_cases h7 : c = 42
  · subst h7
    rw [decide_eq_true (show isRec 42 by decide)]
    repeat
      conv => whnf
      first
        | refine ⟨_, by assumption, ?_⟩
        | refine ⟨(Nat.le_of_ble_eq_true rfl), _, by assumption, ?_⟩
        | refine ⟨by kernel_rfl, ?_⟩
        | exact rfl
        | exact ⟨Nat.le_of_ble_eq_true rfl, rfl⟩
        | refine ⟨by decide, ?_⟩
  by_cases h8 : c = 33
  · subst h8
    rw [decide_eq_true (show isRec 33 by decide)]
    repeat
      conv => whnf
      first
        | refine ⟨_, by assumption, ?_⟩
        | refine ⟨(Nat.le_of_ble_eq_true rfl), _, by assumption, ?_⟩
        | refine ⟨by kernel_rfl, ?_⟩
        | exact rfl
        | exact ⟨Nat.le_of_ble_eq_true rfl, rfl⟩
        | refine ⟨by decide, ?_⟩
  by_cases h9 : c = 9055
  · subst h9
    rw [decide_eq_true (show isRec 9055 by decide)]
    repeat
      conv => whnf
      first
        | refine ⟨_, by assumption, ?_⟩
        | refine ⟨(Nat.le_of_ble_eq_true rfl), _, by assumption, ?_⟩
        | refine ⟨by kernel_rfl, ?_⟩
        | exact rfl
        | exact ⟨Nat.le_of_ble_eq_true rfl, rfl⟩
        | refine ⟨by decide, ?_⟩
  by_cases h10 : c = 9675
  · subst h10
    rw [decide_eq_true (show isRec 9675 by decide)]
    repeat
      conv => whnf
      first
        | refine ⟨_, by assumption, ?_⟩
        | refine ⟨(Nat.le_of_ble_eq_true rfl), _, by assumption, ?_⟩
        | refine ⟨by kernel_rfl, ?_⟩
        | exact rfl
        | exact ⟨Nat.le_of_ble_eq_true rfl, rfl⟩
        | refine ⟨by decide, ?_⟩
  have e0 : (c == 43) = false := beq_false_of_ne h0
  have e1 : (c == 45) = false := beq_false_of_ne h1
  have e2 : (c == 215) = false := beq_false_of_ne h2
  have e3 : (c == 247) = false := beq_false_of_ne h3
  have e4 : (c == 8968) = false := beq_false_of_ne h4
  have e5 : (c == 8970) = false := beq_false_of_ne h5
  have e6 : (c == 124) = false := beq_false_of_ne h6
  have e7 : (c == 42) = false := beq_false_of_ne h7
  have e8 : (c == 33) = false := beq_false_of_ne h8
  have e9 : (c == 9055) = false := beq_false_of_ne h9
  have e10 : (c == 9675) = false := beq_false_of_ne h10
  rw [decide_eq_false (show ¬ isRec c by unfold isRec; omega)]
  conv => whnf
  refine caseb (fun h => Bool.noConfusion ((e0).symm.trans h)) (fun _ => ?_)
  conv => whnf
  refine caseb (fun h => Bool.noConfusion ((e1).symm.trans h)) (fun _ => ?_)
  conv => whnf
  refine caseb (fun h => Bool.noConfusion ((e2).symm.trans h)) (fun _ => ?_)
  conv => whnf
  refine caseb (fun h => Bool.noConfusion ((e3).symm.trans h)) (fun _ => ?_)
  conv => whnf
  refine caseb (fun h => Bool.noConfusion ((e4).symm.trans h)) (fun _ => ?_)
  conv => whnf
  refine caseb (fun h => Bool.noConfusion ((e5).symm.trans h)) (fun _ => ?_)
  conv => whnf
  refine caseb (fun h => Bool.noConfusion ((e6).symm.trans h)) (fun _ => ?_)
  conv => whnf
  refine caseb (fun h => Bool.noConfusion ((e7).symm.trans h)) (fun _ => ?_)
  conv => whnf
  refine caseb (fun h => Bool.noConfusion ((e8).symm.trans h)) (fun _ => ?_)
  conv => whnf
  refine caseb (fun h => Bool.noConfusion ((e9).symm.trans h)) (fun _ => ?_)
  conv => whnf
  refine caseb (fun h => Bool.noConfusion ((e10).symm.trans h)) (fun _ => ?_)
  repeat
    conv => whnf
    first
      | refine ⟨_, by assumption, ?_⟩
      | refine ⟨(Nat.le_of_ble_eq_true rfl), _, by assumption, ?_⟩
      | refine ⟨by kernel_rfl, ?_⟩
      | exact rfl
      | exact ⟨Nat.le_of_ble_eq_true rfl, rfl⟩
      | refine ⟨by decide, ?_⟩
theorem Has_ok (c : Int) : AC Tryz.prog 48 [.val (.int .i32 c)] (.pure (.val (.bool (decide (isTwo c))))) := by
  refine AC.of_body TTok Tryz.func48 rfl (enter_of Tryz.func48 (by kernel_rfl) (by kernel_rfl)) (noid1 (.val _)) (.val _) (Nat.le_of_ble_eq_true rfl) ?_
  have hR := reckons_ok c
  have hC := compares_ok c
  have hJ := judges_ok c
  rw [show decide (isTwo c) = (decide (isRec c) || (decide (isCmp c) || decide (isJdg c))) by
    by_cases h1 : isRec c
    · rw [decide_eq_true h1, decide_eq_true (show isTwo c from .inl h1)]; rfl
    · by_cases h2 : isCmp c
      · rw [decide_eq_true h2, decide_eq_true (show isTwo c from .inr (.inl h2)), Bool.true_or, Bool.or_true]
      · by_cases h3 : isJdg c
        · rw [decide_eq_true h3, decide_eq_true (show isTwo c from .inr (.inr h3)), Bool.or_true, Bool.or_true]
        · rw [decide_eq_false h1, decide_eq_false h2, decide_eq_false h3, decide_eq_false (show ¬ isTwo c from fun h => h.elim h1 (fun h => h.elim h2 h3))]; rfl]
  generalize decide (isRec c) = r at *
  generalize decide (isCmp c) = s at *
  generalize decide (isJdg c) = t at *
  cases r
  · cases s
    · repeat
        conv => whnf
        first
          | refine ⟨_, by assumption, ?_⟩
          | refine ⟨(Nat.le_of_ble_eq_true rfl), _, by assumption, ?_⟩
          | refine ⟨by kernel_rfl, ?_⟩
          | exact rfl
          | exact ⟨Nat.le_of_ble_eq_true rfl, rfl⟩
          | refine ⟨by decide, ?_⟩
    · repeat
        conv => whnf
        first
          | refine ⟨_, by assumption, ?_⟩
          | refine ⟨(Nat.le_of_ble_eq_true rfl), _, by assumption, ?_⟩
          | refine ⟨by kernel_rfl, ?_⟩
          | exact rfl
          | exact ⟨Nat.le_of_ble_eq_true rfl, rfl⟩
          | refine ⟨by decide, ?_⟩
  · repeat
      conv => whnf
      first
        | refine ⟨_, by assumption, ?_⟩
        | refine ⟨(Nat.le_of_ble_eq_true rfl), _, by assumption, ?_⟩
        | refine ⟨by kernel_rfl, ?_⟩
        | exact rfl
        | exact ⟨Nat.le_of_ble_eq_true rfl, rfl⟩
        | refine ⟨by decide, ?_⟩
def signs : List Int := [43, 45, 215, 247, 8968, 8970, 124, 42, 33, 9055, 9675, 60, 8804, 61, 8805, 62, 8800, 8743, 8744, 9074, 9073]
end Go.Proofs.YtclamnmpleiakaaGreat

/- Functions of two numbers: orders and truths. -/
set_option linter.unusedVariables false
namespace Go.Proofs.YtclamnmpleiakaaGreat
open Go Go.AL NM

/-- What a sign tells of an order. -/
def cmpS (c n : Int) : Bool :=
  if c = 60 then decide (n < 0) else if c = 8804 then decide (n ≤ 0) else if c = 61 then n == 0 else if c = 8805 then decide (n ≥ 0) else if c = 62 then decide (n > 0) else n != 0

theorem Compare_ok (c n : Int) : AC Tryz.prog 95 [.val (.int .i32 c), .val (.int .i64 n)] (.pure (.val (.bool (cmpS c n)))) := by
  refine AC.of_body TTok Tryz.func95 rfl (enter_of Tryz.func95 (by kernel_rfl) (by kernel_rfl)) (noid2 (.val _) (.val _)) (.val _) (Nat.le_of_ble_eq_true rfl) ?_
  by_cases h0 : c = 60
  · subst h0
    rw [show cmpS 60 n = decide (n < 0) from rfl]
    repeat
      conv => whnf
      first
        | refine ⟨_, by assumption, ?_⟩
        | refine ⟨(Nat.le_of_ble_eq_true rfl), _, by assumption, ?_⟩
        | refine ⟨by kernel_rfl, ?_⟩
        | exact rfl
        | exact ⟨Nat.le_of_ble_eq_true rfl, rfl⟩
        | refine ⟨by decide, ?_⟩
  by_cases h1 : c = 8804
  · subst h1
    rw [show cmpS 8804 n = decide (n ≤ 0) from rfl]
    repeat
      conv => whnf
      first
        | refine ⟨_, by assumption, ?_⟩
        | refine ⟨(Nat.le_of_ble_eq_true rfl), _, by assumption, ?_⟩
        | refine ⟨by kernel_rfl, ?_⟩
        | exact rfl
        | exact ⟨Nat.le_of_ble_eq_true rfl, rfl⟩
        | refine ⟨by decide, ?_⟩
  by_cases h2 : c = 61
  · subst h2
    rw [show cmpS 61 n = (n == 0) from rfl]
    repeat
      conv => whnf
      first
        | refine ⟨_, by assumption, ?_⟩
        | refine ⟨(Nat.le_of_ble_eq_true rfl), _, by assumption, ?_⟩
        | refine ⟨by kernel_rfl, ?_⟩
        | exact rfl
        | exact ⟨Nat.le_of_ble_eq_true rfl, rfl⟩
        | refine ⟨by decide, ?_⟩
  by_cases h3 : c = 8805
  · subst h3
    rw [show cmpS 8805 n = decide (n ≥ 0) from rfl]
    repeat
      conv => whnf
      first
        | refine ⟨_, by assumption, ?_⟩
        | refine ⟨(Nat.le_of_ble_eq_true rfl), _, by assumption, ?_⟩
        | refine ⟨by kernel_rfl, ?_⟩
        | exact rfl
        | exact ⟨Nat.le_of_ble_eq_true rfl, rfl⟩
        | refine ⟨by decide, ?_⟩
  by_cases h4 : c = 62
  · subst h4
    rw [show cmpS 62 n = decide (n > 0) from rfl]
    repeat
      conv => whnf
      first
        | refine ⟨_, by assumption, ?_⟩
        | refine ⟨(Nat.le_of_ble_eq_true rfl), _, by assumption, ?_⟩
        | refine ⟨by kernel_rfl, ?_⟩
        | exact rfl
        | exact ⟨Nat.le_of_ble_eq_true rfl, rfl⟩
        | refine ⟨by decide, ?_⟩
  have e0 : (c == 60) = false := beq_false_of_ne h0
  have e1 : (c == 8804) = false := beq_false_of_ne h1
  have e2 : (c == 61) = false := beq_false_of_ne h2
  have e3 : (c == 8805) = false := beq_false_of_ne h3
  have e4 : (c == 62) = false := beq_false_of_ne h4
  rw [show cmpS c n = (n != 0) by unfold cmpS; rw [if_neg h0, if_neg h1, if_neg h2, if_neg h3, if_neg h4]]
  conv => whnf
  refine caseb (fun h => Bool.noConfusion ((e0).symm.trans h)) (fun _ => ?_)
  conv => whnf
  refine caseb (fun h => Bool.noConfusion ((e1).symm.trans h)) (fun _ => ?_)
  conv => whnf
  refine caseb (fun h => Bool.noConfusion ((e2).symm.trans h)) (fun _ => ?_)
  conv => whnf
  refine caseb (fun h => Bool.noConfusion ((e3).symm.trans h)) (fun _ => ?_)
  conv => whnf
  refine caseb (fun h => Bool.noConfusion ((e4).symm.trans h)) (fun _ => ?_)
  repeat
    conv => whnf
    first
      | refine ⟨_, by assumption, ?_⟩
      | refine ⟨(Nat.le_of_ble_eq_true rfl), _, by assumption, ?_⟩
      | refine ⟨by kernel_rfl, ?_⟩
      | exact rfl
      | exact ⟨Nat.le_of_ble_eq_true rfl, rfl⟩
      | refine ⟨by decide, ?_⟩
/-- Truths as numbers. -/
def tq (t : Bool) : Rat := if t then 1 else 0
def td (t : Bool) : Nat := if t then 1 else 0
theorem td_dn (t : Bool) : dn (td t) = (tq t).den := by cases t <;> rfl
theorem truth_ok (t : Bool) : AC Tryz.prog 94 [.val (.bool t)] (.pure (RA (tq t).num (td t))) := by
  cases t
  · refine AC.le_res (v := RZ) ?_ RZ_le (RA_noid _ _)
    refine AC.of_body TTok Tryz.func94 rfl (enter_of Tryz.func94 (by kernel_rfl) (by kernel_rfl)) (noid1 (.val _)) RZ_noid (Nat.le_of_ble_eq_true rfl) ?_
    unfold RZ
    repeat
      conv => whnf
      first
        | refine ⟨_, by assumption, ?_⟩
        | refine ⟨(Nat.le_of_ble_eq_true rfl), _, by assumption, ?_⟩
        | refine ⟨by kernel_rfl, ?_⟩
        | exact rfl
        | exact ⟨Nat.le_of_ble_eq_true rfl, rfl⟩
        | refine ⟨by decide, ?_⟩
  · show AC Tryz.prog 94 [.val (.bool true)] (.pure (RA 1 1))
    refine AC.of_body TTok Tryz.func94 rfl (enter_of Tryz.func94 (by kernel_rfl) (by kernel_rfl)) (noid1 (.val _)) (RA_noid _ _) (Nat.le_of_ble_eq_true rfl) ?_
    have hF := RatFrom_ok 1 (by decide)
    unfold RA at *
    repeat
      conv => whnf
      first
        | refine ⟨_, by assumption, ?_⟩
        | refine ⟨(Nat.le_of_ble_eq_true rfl), _, by assumption, ?_⟩
        | refine ⟨by kernel_rfl, ?_⟩
        | exact rfl
        | exact ⟨Nat.le_of_ble_eq_true rfl, rfl⟩
        | refine ⟨by decide, ?_⟩
/-- A truth that a number is. -/
def bitQ (q : Rat) : Option Bool := if q = 0 then some false else if q = 1 then some true else none
def jdgB (c : Int) (x y : Bool) : Bool := if c = 8743 then x && y else if c = 8744 then x || y else if c = 9074 then !(x && y) else !(x || y)
theorem bit_int {q : Rat} (t : Bool) (h : bitQ q = some t) : q = (if t then 1 else 0) := by
  unfold bitQ at h
  split at h
  · cases h; assumption
  · split at h
    · cases h; assumption
    · cases h
def intV (q : Rat) : Int := if fitQ q.num q.den then q.num else 0
theorem intV_fit (q : Rat) : fit (intV q) := by
  unfold intV
  split
  · rename_i h; exact h.2
  · decide
theorem intV_none {q : Rat} (hb : bitQ q = none) : decide (fitQ q.num q.den) = false ∨ intV q < 0 ∨ 1 < intV q := by
  unfold intV
  by_cases h : fitQ q.num q.den
  · rw [if_pos h]
    right
    have : q = (q.num : Rat) := Rat.ext rfl h.1
    unfold bitQ at hb
    have n0 : q.num ≠ 0 := fun e => by rw [if_pos (Rat.num_eq_zero.1 e)] at hb; cases hb
    have n1 : q.num ≠ 1 := fun e => by
      rw [e] at this
      by_cases h0 : q = 0
      · rw [if_pos h0] at hb; cases hb
      · rw [if_neg h0, if_pos (show q = 1 from this)] at hb; cases hb
    omega
  · exact .inl (decide_eq_false h)
theorem intV_bit (q : Rat) (t : Bool) (ht : bitQ q = some t) : decide (fitQ q.num q.den) = true ∧ intV q = if t then 1 else 0 := by
  rw [bit_int t ht]
  cases t
  · exact ⟨rfl, rfl⟩
  · exact ⟨rfl, rfl⟩
theorem int_prog (q : Rat) (i : Nat) (hi : dn i = q.den) (lq : Sz q 1000) : ∃ (v : Int) (ok : Bool), fit v ∧ (bitQ q = none → ok = false ∨ v < 0 ∨ 1 < v) ∧ (∀ t, bitQ q = some t → ok = true ∧ v = if t then 1 else 0) ∧
    AC Tryz.prog 69 [RA q.num i] (.pure (.tup [.val (.int .i64 v), .val (.bool ok)])) := by
  have h1 := RInt_ok q.num i
  rw [hi] at h1
  exact ⟨intV q, _, intV_fit q, intV_none, intV_bit q, h1⟩
/-- What a judging function makes of two numbers. -/
def judgeQ (c : Int) (a b : Rat) : Rat × Int :=
  match bitQ a, bitQ b with
  | some x, some y => (tq (jdgB c x y), 0)
  | _, _ => (0, 22)

theorem jcases {a b : Rat} {v w : Int} {ok is : Bool} (nv : bitQ a = none → ok = false ∨ v < 0 ∨ 1 < v) (nw : bitQ b = none → is = false ∨ w < 0 ∨ 1 < w) (h : bitQ a = none ∨ bitQ b = none) :
    ok = false ∨ (ok = true ∧ is = false) ∨ (ok = true ∧ is = true ∧ ((v < 0 ∨ 1 < v) ∨ (0 ≤ v ∧ v ≤ 1 ∧ (w < 0 ∨ 1 < w)))) := by
  cases ok
  · exact .inl rfl
  · cases is
    · exact .inr (.inl ⟨rfl, rfl⟩)
    · refine .inr (.inr ⟨rfl, rfl, ?_⟩)
      rcases h with h | h
      · rcases nv h with h' | h'
        · cases h'
        · exact .inl h'
      · rcases nw h with h' | h'
        · cases h'
        · by_cases h2 : v < 0 ∨ 1 < v
          · exact .inl h2
          · exact .inr ⟨by omega, by omega, h'⟩
theorem judge_bad (c : Int) (a b : Rat) (i j : Nat) (hi : dn i = a.den) (hj : dn j = b.den) (la : Sz a 1000) (lb : Sz b 1000) (h : bitQ a = none ∨ bitQ b = none) : AC Tryz.prog 97 [.val (.int .i32 c), RA a.num i, RA b.num j] (.pure (.tup [RA 0 0, .val (.int .i64 22)])) := by
  obtain ⟨v, ok, fv, nv, _, A1⟩ := int_prog a i hi la
  obtain ⟨w, is, fw, nw, _, B1⟩ := int_prog b j hj lb
  have cs := jcases nv nw h
  refine AC.le_res (v := .tup [RZ, .val (.int .i64 22)]) ?_ (.tup2 RZ_le (.refl _)) (.tup _ (noid2 (RA_noid _ _) (.val _)))
  refine AC.of_body TTok Tryz.func97 rfl (enter_of Tryz.func97 (by kernel_rfl) (by kernel_rfl)) (noid3 (.val _) (RA_noid _ _) (RA_noid _ _)) (.tup _ (noid2 RZ_noid (.val _))) (Nat.le_of_ble_eq_true rfl) ?_
  unfold RA RZ at *
  rcases cs with rfl | ⟨rfl, rfl⟩ | ⟨rfl, rfl, hv | ⟨v0, v1, hw⟩⟩
  · repeat
      conv => whnf
      first
        | refine ⟨_, by assumption, ?_⟩
        | refine ⟨(Nat.le_of_ble_eq_true rfl), _, by assumption, ?_⟩
        | refine ⟨by kernel_rfl, ?_⟩
        | exact rfl
        | exact ⟨Nat.le_of_ble_eq_true rfl, rfl⟩
        | refine ⟨by decide, ?_⟩
  · repeat
      conv => whnf
      first
        | refine ⟨_, by assumption, ?_⟩
        | refine ⟨(Nat.le_of_ble_eq_true rfl), _, by assumption, ?_⟩
        | refine ⟨by kernel_rfl, ?_⟩
        | exact rfl
        | exact ⟨Nat.le_of_ble_eq_true rfl, rfl⟩
        | refine ⟨by decide, ?_⟩
  · by_cases h0 : v < 0
    · have f1 : decide (v < 0) = true := decide_eq_true h0
      conv => whnf
      refine ⟨_, A1, ?_⟩
      conv => whnf
      refine ⟨_, B1, ?_⟩
      conv => whnf
      refine caseb (fun _ => ?_) (fun h => Bool.noConfusion ((f1).symm.trans h))
      repeat
        conv => whnf
        first
          | refine ⟨_, by assumption, ?_⟩
          | refine ⟨(Nat.le_of_ble_eq_true rfl), _, by assumption, ?_⟩
          | refine ⟨by kernel_rfl, ?_⟩
          | exact rfl
          | exact ⟨Nat.le_of_ble_eq_true rfl, rfl⟩
          | refine ⟨by decide, ?_⟩
    · have f1 : decide (v < 0) = false := decide_eq_false h0
      have f2 : decide (v > 1) = true := decide_eq_true (by omega)
      conv => whnf
      refine ⟨_, A1, ?_⟩
      conv => whnf
      refine ⟨_, B1, ?_⟩
      conv => whnf
      refine caseb (fun h => Bool.noConfusion ((f1).symm.trans h)) (fun _ => ?_)
      conv => whnf
      refine caseb (fun _ => ?_) (fun h => Bool.noConfusion ((f2).symm.trans h))
      repeat
        conv => whnf
        first
          | refine ⟨_, by assumption, ?_⟩
          | refine ⟨(Nat.le_of_ble_eq_true rfl), _, by assumption, ?_⟩
          | refine ⟨by kernel_rfl, ?_⟩
          | exact rfl
          | exact ⟨Nat.le_of_ble_eq_true rfl, rfl⟩
          | refine ⟨by decide, ?_⟩
  · have f1 : decide (v < 0) = false := decide_eq_false (by omega)
    have f2 : decide (v > 1) = false := decide_eq_false (by omega)
    by_cases h0 : w < 0
    · have f3 : decide (w < 0) = true := decide_eq_true h0
      conv => whnf
      refine ⟨_, A1, ?_⟩
      conv => whnf
      refine ⟨_, B1, ?_⟩
      conv => whnf
      refine caseb (fun h => Bool.noConfusion ((f1).symm.trans h)) (fun _ => ?_)
      conv => whnf
      refine caseb (fun h => Bool.noConfusion ((f2).symm.trans h)) (fun _ => ?_)
      conv => whnf
      refine caseb (fun _ => ?_) (fun h => Bool.noConfusion ((f3).symm.trans h))
      repeat
        conv => whnf
        first
          | refine ⟨_, by assumption, ?_⟩
          | refine ⟨(Nat.le_of_ble_eq_true rfl), _, by assumption, ?_⟩
          | refine ⟨by kernel_rfl, ?_⟩
          | exact rfl
          | exact ⟨Nat.le_of_ble_eq_true rfl, rfl⟩
          | refine ⟨by decide, ?_⟩
    · have f3 : decide (w < 0) = false := decide_eq_false h0
      have f4 : decide (w > 1) = true := decide_eq_true (by omega)
      conv => whnf
      refine ⟨_, A1, ?_⟩
      conv => whnf
      refine ⟨_, B1, ?_⟩
      conv => whnf
      refine caseb (fun h => Bool.noConfusion ((f1).symm.trans h)) (fun _ => ?_)
      conv => whnf
      refine caseb (fun h => Bool.noConfusion ((f2).symm.trans h)) (fun _ => ?_)
      conv => whnf
      refine caseb (fun h => Bool.noConfusion ((f3).symm.trans h)) (fun _ => ?_)
      conv => whnf
      refine caseb (fun _ => ?_) (fun h => Bool.noConfusion ((f4).symm.trans h))
      repeat
        conv => whnf
        first
          | refine ⟨_, by assumption, ?_⟩
          | refine ⟨(Nat.le_of_ble_eq_true rfl), _, by assumption, ?_⟩
          | refine ⟨by kernel_rfl, ?_⟩
          | exact rfl
          | exact ⟨Nat.le_of_ble_eq_true rfl, rfl⟩
          | refine ⟨by decide, ?_⟩
set_option maxRecDepth 100000 in
theorem judge_good (c : Int) (hc : isJdg c) (a b : Rat) (i j : Nat) (hi : dn i = a.den) (hj : dn j = b.den) (la : Sz a 1000) (lb : Sz b 1000) (x y : Bool) (hx : bitQ a = some x) (hy : bitQ b = some y) :
    AC Tryz.prog 97 [.val (.int .i32 c), RA a.num i, RA b.num j] (.pure (.tup [RA (tq (jdgB c x y)).num (td (jdgB c x y)), .val (.int .i64 0)])) := by
  obtain ⟨v, ok, _, _, nv, A1⟩ := int_prog a i hi la
  obtain ⟨w, is, _, _, nw, B1⟩ := int_prog b j hj lb
  obtain ⟨rfl, rfl⟩ := nv x hx
  obtain ⟨rfl, rfl⟩ := nw y hy
  have T0 := truth_ok false
  have T1 := truth_ok true
  refine AC.of_body TTok Tryz.func97 rfl (enter_of Tryz.func97 (by kernel_rfl) (by kernel_rfl)) (noid3 (.val _) (RA_noid _ _) (RA_noid _ _)) (.tup _ (noid2 (RA_noid _ _) (.val _))) (Nat.le_of_ble_eq_true rfl) ?_
  clear hx hy nv nw
  unfold RA at *
  cases x <;> cases y <;> rcases hc with rfl | rfl | rfl | rfl
  all_goals
    repeat
      conv => whnf
      first
        | refine ⟨_, by assumption, ?_⟩
        | refine ⟨(Nat.le_of_ble_eq_true rfl), _, by assumption, ?_⟩
        | refine ⟨by kernel_rfl, ?_⟩
        | exact rfl
        | exact ⟨Nat.le_of_ble_eq_true rfl, rfl⟩
        | refine ⟨by decide, ?_⟩
theorem judge_ok (c : Int) (hc : isJdg c) (a b : Rat) (i j : Nat) (hi : dn i = a.den) (hj : dn j = b.den) (la : Sz a 1000) (lb : Sz b 1000) : ∃ d, dn d = (judgeQ c a b).1.den ∧
    AC Tryz.prog 97 [.val (.int .i32 c), RA a.num i, RA b.num j] (.pure (.tup [RA (judgeQ c a b).1.num d, .val (.int .i64 (judgeQ c a b).2)])) := by
  unfold judgeQ
  cases hx : bitQ a with
  | none => exact ⟨0, rfl, judge_bad c a b i j hi hj la lb (.inl hx)⟩
  | some x =>
    cases hy : bitQ b with
    | none => exact ⟨0, rfl, judge_bad c a b i j hi hj la lb (.inr hy)⟩
    | some y => exact ⟨_, td_dn _, judge_good c hc a b i j hi hj la lb x y hx hy⟩
end Go.Proofs.YtclamnmpleiakaaGreat

/- Functions of two numbers: powers. -/
set_option linter.unusedVariables false
namespace Go.Proofs.YtclamnmpleiakaaGreat
open Go Go.AL NM

/-- A number to another one, or why not. -/
def powerQ (a b : Rat) (most : Int) : Rat × Int :=
  if b.den ≠ 1 ∨ (a = 0 ∧ b.num < 0) then (0, 22)
  else if limQ a ∧ b.num ≠ 0 then (if a.num < 0 ∧ b.num.natAbs % 2 = 0 then -a else a, 0)
  else if ¬ fit b.num then (0, 26)
  else ((powQ a b.num most).1, if (powQ a b.num most).2 then 0 else 26)

theorem sig_lit (t : Int) : (t < 0 ∧ sigW t = -1) ∨ (t = 0 ∧ sigW t = 0) ∨ (0 < t ∧ sigW t = 1) := by
  unfold sigW
  rcases Int.lt_trichotomy t 0 with h | h | h
  · left; rw [if_neg (by omega), if_pos h]; exact ⟨h, rfl⟩
  · right; left; rw [if_pos h]; exact ⟨h, rfl⟩
  · right; right; rw [if_neg (by omega), if_neg (by omega)]; exact ⟨h, rfl⟩
theorem RZ22 {P : Program} {f : FuncId} {args : List AV} {e : Int} (h : AC P f args (.pure (.tup [RZ, .val (.int .i64 e)]))) : AC P f args (.pure (.tup [RA 0 0, .val (.int .i64 e)])) :=
  AC.le_res h (.tup2 RZ_le (.refl _)) (.tup _ (noid2 (RA_noid _ _) (.val _)))

theorem Power_ok (a b : Rat) (i j : Nat) (most : Int) (hi : dn i = a.den) (hj : dn j = b.den) (hm : most ≤ 200) (la : Sz a 99) : ∃ d, dn d = (powerQ a b most).1.den ∧ AC Tryz.prog 141 [RA a.num i, RA b.num j, .val (.int .i64 most)] (.pure (.tup [RA (powerQ a b most).1.num d, .val (.int .i64 (powerQ a b most).2)])) := by
  have hW := IsWhole_ok b.num j
  have hSa := RaSign_ok a.num i
  have hSb := RaSign_ok b.num j
  have hL := Limited_ok a.num i
  have hT := RTop_ok b.num j
  have hE := Even_ok b.num.natAbs
  have hM := QMinus_ok a.num i
  have hI := RInt_ok b.num j
  rw [hj] at hW hI
  rw [hi] at hL hM
  unfold powerQ
  by_cases hd : b.den = 1
  rotate_left
  · rw [if_pos (.inl hd)]
    rw [decide_eq_false hd] at hW
    refine ⟨0, rfl, RZ22 ?_⟩
    refine AC.of_body TTok Tryz.func141 rfl (enter_of Tryz.func141 (by kernel_rfl) (by kernel_rfl)) (noid3 (RA_noid _ _) (RA_noid _ _) (.val _)) (.tup _ (noid2 RZ_noid (.val _))) (Nat.le_of_ble_eq_true rfl) ?_
    unfold RA RZ at *
    repeat
      conv => whnf
      first
        | refine ⟨_, by assumption, ?_⟩
        | refine ⟨(Nat.le_of_ble_eq_true rfl), _, by assumption, ?_⟩
        | refine ⟨by kernel_rfl, ?_⟩
        | exact rfl
        | exact ⟨Nat.le_of_ble_eq_true rfl, rfl⟩
        | refine ⟨by decide, ?_⟩
  rw [decide_eq_true hd] at hW
  by_cases hz : a = 0 ∧ b.num < 0
  · rw [if_pos (.inr hz)]
    rw [show sigW a.num = 0 by rw [hz.1]; rfl] at hSa
    rw [show sigW b.num = -1 by unfold sigW; rw [if_neg (by omega), if_pos hz.2]] at hSb
    refine ⟨0, rfl, RZ22 ?_⟩
    refine AC.of_body TTok Tryz.func141 rfl (enter_of Tryz.func141 (by kernel_rfl) (by kernel_rfl)) (noid3 (RA_noid _ _) (RA_noid _ _) (.val _)) (.tup _ (noid2 RZ_noid (.val _))) (Nat.le_of_ble_eq_true rfl) ?_
    unfold RA RZ at *
    repeat
      conv => whnf
      first
        | refine ⟨_, by assumption, ?_⟩
        | refine ⟨(Nat.le_of_ble_eq_true rfl), _, by assumption, ?_⟩
        | refine ⟨by kernel_rfl, ?_⟩
        | exact rfl
        | exact ⟨Nat.le_of_ble_eq_true rfl, rfl⟩
        | refine ⟨by decide, ?_⟩
  rw [if_neg (fun h => h.elim (fun h => h hd) hz)]
  have hz' : ¬ (a.num = 0 ∧ b.num < 0) := fun h => hz ⟨Rat.num_eq_zero.1 h.1, h.2⟩
  by_cases hl : limQ a ∧ b.num ≠ 0
  · have hb0 := hl.2
    rw [if_pos hl]
    rw [decide_eq_true (show a.den = 1 ∧ (a.num.natAbs = 0 ∨ a.num.natAbs = 1) from hl.1)] at hL
    by_cases he : a.num < 0 ∧ b.num.natAbs % 2 = 0
    · rw [if_pos he]
      rw [show sigW a.num = -1 by unfold sigW; rw [if_neg (by omega), if_pos he.1]] at hSa
      rw [decide_eq_true he.2] at hE
      refine ⟨a.den, dn_self a.den_nz, ?_⟩
      refine AC.of_body TTok Tryz.func141 rfl (enter_of Tryz.func141 (by kernel_rfl) (by kernel_rfl)) (noid3 (RA_noid _ _) (RA_noid _ _) (.val _)) (.tup _ (noid2 (RA_noid _ _) (.val _))) (Nat.le_of_ble_eq_true rfl) ?_
      have hM' : AC Tryz.prog 105 [RA a.num i] (.pure (RA (-a).num a.den)) := hM
      clear hM
      rcases sig_lit b.num with ⟨_, e⟩ | ⟨e0, _⟩ | ⟨_, e⟩
      · rw [e] at hSb
        unfold RA WI natA at *
        repeat
          conv => whnf
          first
            | refine ⟨_, by assumption, ?_⟩
            | refine ⟨(Nat.le_of_ble_eq_true rfl), _, by assumption, ?_⟩
            | refine ⟨by kernel_rfl, ?_⟩
            | exact rfl
            | exact ⟨Nat.le_of_ble_eq_true rfl, rfl⟩
            | refine ⟨by decide, ?_⟩
      · exact absurd e0 hb0
      · rw [e] at hSb
        unfold RA WI natA at *
        repeat
          conv => whnf
          first
            | refine ⟨_, by assumption, ?_⟩
            | refine ⟨(Nat.le_of_ble_eq_true rfl), _, by assumption, ?_⟩
            | refine ⟨by kernel_rfl, ?_⟩
            | exact rfl
            | exact ⟨Nat.le_of_ble_eq_true rfl, rfl⟩
            | refine ⟨by decide, ?_⟩
    · rw [if_neg he]
      refine ⟨i, hi, ?_⟩
      refine AC.of_body TTok Tryz.func141 rfl (enter_of Tryz.func141 (by kernel_rfl) (by kernel_rfl)) (noid3 (RA_noid _ _) (RA_noid _ _) (.val _)) (.tup _ (noid2 (RA_noid _ _) (.val _))) (Nat.le_of_ble_eq_true rfl) ?_
      rcases sig_lit a.num with ⟨h1, e1⟩ | ⟨h1, e1⟩ | ⟨h1, e1⟩ <;> rcases sig_lit b.num with ⟨h2, e2⟩ | ⟨h2, e2⟩ | ⟨h2, e2⟩
      all_goals first
        | (exfalso; omega)
        | skip
      all_goals
        rw [e1] at hSa
        rw [e2] at hSb
        first
          | rw [decide_eq_false (show ¬ b.num.natAbs % 2 = 0 from fun h => he ⟨h1, h⟩)] at hE
          | skip
        unfold RA WI natA at *
        repeat
          conv => whnf
          first
            | refine ⟨_, by assumption, ?_⟩
            | refine ⟨(Nat.le_of_ble_eq_true rfl), _, by assumption, ?_⟩
            | refine ⟨by kernel_rfl, ?_⟩
            | exact rfl
            | exact ⟨Nat.le_of_ble_eq_true rfl, rfl⟩
            | refine ⟨by decide, ?_⟩
  rw [if_neg hl]
  have hs : (if decide (a.den = 1 ∧ (a.num.natAbs = 0 ∨ a.num.natAbs = 1)) = true then b.num else 0) = 0 := by
    split
    · rename_i h
      have h' := of_decide_eq_true h
      exact Decidable.of_not_not (fun hb => hl ⟨h', hb⟩)
    · rfl
  by_cases hf : fit b.num
  rotate_left
  · rw [if_pos hf]
    refine ⟨0, rfl, RZ22 ?_⟩
    rw [if_neg (fun h : fitQ b.num b.den => hf h.2), decide_eq_false (fun h : fitQ b.num b.den => hf h.2)] at hI
    refine AC.of_body TTok Tryz.func141 rfl (enter_of Tryz.func141 (by kernel_rfl) (by kernel_rfl)) (noid3 (RA_noid _ _) (RA_noid _ _) (.val _)) (.tup _ (noid2 RZ_noid (.val _))) (Nat.le_of_ble_eq_true rfl) ?_
    generalize decide (a.den = 1 ∧ (a.num.natAbs = 0 ∨ a.num.natAbs = 1)) = s at *
    rcases sig_lit a.num with ⟨h1, e1⟩ | ⟨h1, e1⟩ | ⟨h1, e1⟩ <;> rcases sig_lit b.num with ⟨h2, e2⟩ | ⟨h2, e2⟩ | ⟨h2, e2⟩ <;> cases s
    all_goals simp only [Bool.false_eq_true, if_false, if_true] at hs
    all_goals first
      | (exfalso; omega)
      | skip
    all_goals
      rw [e1] at hSa
      rw [e2] at hSb
      unfold RA RZ at *
      repeat
        conv => whnf
        first
          | refine ⟨_, by assumption, ?_⟩
          | refine ⟨(Nat.le_of_ble_eq_true rfl), _, by assumption, ?_⟩
          | refine ⟨by kernel_rfl, ?_⟩
          | exact rfl
          | exact ⟨Nat.le_of_ble_eq_true rfl, rfl⟩
          | refine ⟨by decide, ?_⟩
  rw [if_neg (fun h => h hf)]
  have hfq : fitQ b.num b.den := ⟨hd, hf⟩
  rw [if_pos hfq, decide_eq_true hfq] at hI
  obtain ⟨d, hd', hP, _⟩ := pow_both a i b.num most hi hf hm la
  refine ⟨d, hd', ?_⟩
  refine AC.of_body TTok Tryz.func141 rfl (enter_of Tryz.func141 (by kernel_rfl) (by kernel_rfl)) (noid3 (RA_noid _ _) (RA_noid _ _) (.val _)) (.tup _ (noid2 (RA_noid _ _) (.val _))) (Nat.le_of_ble_eq_true rfl) ?_
  revert hP
  generalize (powQ a b.num most).1 = r
  generalize (powQ a b.num most).2 = g
  intro hP
  generalize decide (a.den = 1 ∧ (a.num.natAbs = 0 ∨ a.num.natAbs = 1)) = s at *
  rcases sig_lit a.num with ⟨h1, e1⟩ | ⟨h1, e1⟩ | ⟨h1, e1⟩ <;> rcases sig_lit b.num with ⟨h2, e2⟩ | ⟨h2, e2⟩ | ⟨h2, e2⟩ <;> cases s <;> cases g
  all_goals simp only [Bool.false_eq_true, if_false, if_true] at hs
  all_goals first
    | (exfalso; omega)
    | skip
  all_goals
    rw [e1] at hSa
    rw [e2] at hSb
    unfold RA at *
    repeat
      conv => whnf
      first
        | refine ⟨_, by assumption, ?_⟩
        | refine ⟨(Nat.le_of_ble_eq_true rfl), _, by assumption, ?_⟩
        | refine ⟨by kernel_rfl, ?_⟩
        | exact rfl
        | exact ⟨Nat.le_of_ble_eq_true rfl, rfl⟩
        | refine ⟨by decide, ?_⟩

end Go.Proofs.YtclamnmpleiakaaGreat

/- Functions of two numbers: the document's powers. -/
set_option linter.unusedVariables false
namespace Go.Proofs.YtclamnmpleiakaaGreat
open Go Go.AL NM

end Go.Proofs.YtclamnmpleiakaaGreat

/- Functions of two numbers: how many ways there are. -/
set_option linter.unusedVariables false
namespace Go.Proofs.YtclamnmpleiakaaGreat
open Go Go.AL NM

/-- How many ways, factor by factor. -/
def chs (r : Nat) : Nat → Nat
  | 0 => 1
  | i + 1 => chs r i * (r + (i + 1)) / (i + 1)
theorem chs_succ (r i : Nat) : chs r (i + 1) = chs r i * (r + (i + 1)) / (i + 1) := rfl
theorem chs_mono1 (r i : Nat) : chs r i ≤ chs r (i + 1) := by
  rw [chs_succ, Nat.le_div_iff_mul_le (by omega)]
  exact Nat.mul_le_mul_left _ (by omega)
theorem chs_mono (r : Nat) {i j : Nat} (h : i ≤ j) : chs r i ≤ chs r j := by
  induction h with
  | refl => exact Nat.le_refl _
  | step _ ih => exact Nat.le_trans ih (chs_mono1 r _)
theorem chs_big (r : Nat) : ∀ i, i ≤ r → 2 ^ i ≤ chs r i
  | 0, _ => Nat.le_refl _
  | i + 1, h => by
    have ih := chs_big r i (by omega)
    rw [chs_succ, Nat.le_div_iff_mul_le (by omega), Nat.pow_succ, Nat.mul_assoc]
    exact Nat.mul_le_mul ih (by omega)
theorem chs_bound {r i : Nat} (h : i ≤ r) (hl : (limbs (chs r i)).length ≤ 200) : i ≤ 6400 := by
  have h1 := chs_big r i h
  have h2 := val_lt (limbs_lim (chs r i))
  rw [val_limbs, pow32] at h2
  have h3 : 2 ^ i < 2 ^ (32 * (limbs (chs r i)).length) := Nat.lt_of_le_of_lt h1 h2
  have := (Nat.pow_lt_pow_iff_right (by decide : 1 < 2)).1 h3
  omega

/-- Is it fewer limbs than may be? -/
def chsOk (k r : Nat) (most : Int) : Prop := k = 0 ∨ ((limbs (chs r k)).length : Int) ≤ most
instance (k r : Nat) (most : Int) : Decidable (chsOk k r most) := inferInstanceAs (Decidable (_ ∨ _))
def natQ (q : Rat) : Prop := q.den = 1 ∧ 0 ≤ q.num
instance (q : Rat) : Decidable (natQ q) := inferInstanceAs (Decidable (_ ∧ _))
/-- How many ways there are to take so many of others, or why not. -/
def chooseQ (a b : Rat) (most : Int) : Rat × Int :=
  if ¬ (natQ a ∧ natQ b) then (0, 22)
  else if b.num < a.num then (0, 0)
  else if chsOk (min a.num (b.num - a.num)).toNat (max a.num (b.num - a.num)).toNat most then (((chs (max a.num (b.num - a.num)).toNat (min a.num (b.num - a.num)).toNat : Nat) : Int), 0)
  else (0, 26)

theorem int_of {q : Rat} (h : q.den = 1) : q = ((q.num : Int) : Rat) := Rat.ext rfl h
theorem sub_int {a b : Rat} (ha : a.den = 1) (hb : b.den = 1) : (b + -a).num = b.num - a.num ∧ (b + -a).den = 1 := by
  have e : b + -a = ((b.num - a.num : Int) : Rat) := by
    rw [Rat.intCast_sub, ← int_of ha, ← int_of hb, Rat.sub_eq_add_neg]
  rw [e]
  exact ⟨rfl, rfl⟩
theorem floor_nat (x i : Nat) (hi : 0 < i) (hx : (limbs x).length < 1000000) (hl : (limbs i).length < 1000000) : ∃ r, AC Tryz.prog 152 [WI (x : Int), WI (i : Int)] (.pure (.tup [WI ((x / i : Nat) : Int), WI r, .val (.bool true)])) := by
  have h := Floor_ok (x : Int) (i : Int) (by omega) (by rw [Int.natAbs_natCast]; omega) (by rw [Int.natAbs_natCast]; omega) (DivMod_ok _ _ (by rw [Int.natAbs_natCast]; exact hi) (by rw [Int.natAbs_natCast]; omega) (by rw [Int.natAbs_natCast]; omega))
  rw [flQ_ediv _ _ (by omega)] at h
  exact ⟨_, h⟩

theorem Choose_none (a b : Rat) (i j : Nat) (most : Int) (hi : dn i = a.den) (hj : dn j = b.den) (h : ¬ (natQ a ∧ natQ b)) : AC Tryz.prog 142 [RA a.num i, RA b.num j, .val (.int .i64 most)] (.pure (.tup [RA 0 0, .val (.int .i64 22)])) := by
  refine RZ22 ?_
  have hWa := IsWhole_ok a.num i
  have hWb := IsWhole_ok b.num j
  have hSa := RaSign_ok a.num i
  have hSb := RaSign_ok b.num j
  rw [hi] at hWa
  rw [hj] at hWb
  refine AC.of_body TTok Tryz.func142 rfl (enter_of Tryz.func142 (by kernel_rfl) (by kernel_rfl)) (noid3 (RA_noid _ _) (RA_noid _ _) (.val _)) (.tup _ (noid2 RZ_noid (.val _))) (Nat.le_of_ble_eq_true rfl) ?_
  by_cases da : a.den = 1
  · rw [decide_eq_true da] at hWa
    by_cases db : b.den = 1
    · rw [decide_eq_true db] at hWb
      by_cases na : a.num < 0
      · rw [show sigW a.num = -1 by unfold sigW; rw [if_neg (by omega), if_pos na]] at hSa
        unfold RA RZ at *
        repeat
          conv => whnf
          first
            | refine ⟨_, by assumption, ?_⟩
            | refine ⟨(Nat.le_of_ble_eq_true rfl), _, by assumption, ?_⟩
            | refine ⟨by kernel_rfl, ?_⟩
            | exact rfl
            | exact ⟨Nat.le_of_ble_eq_true rfl, rfl⟩
            | refine ⟨by decide, ?_⟩
      · have nb : b.num < 0 := Decidable.of_not_not (fun hb => h ⟨⟨da, by omega⟩, ⟨db, by omega⟩⟩)
        rw [show sigW b.num = -1 by unfold sigW; rw [if_neg (by omega), if_pos nb]] at hSb
        rcases sig_lit a.num with ⟨h1, e1⟩ | ⟨h1, e1⟩ | ⟨h1, e1⟩
        · omega
        · rw [e1] at hSa
          unfold RA RZ at *
          repeat
            conv => whnf
            first
              | refine ⟨_, by assumption, ?_⟩
              | refine ⟨(Nat.le_of_ble_eq_true rfl), _, by assumption, ?_⟩
              | refine ⟨by kernel_rfl, ?_⟩
              | exact rfl
              | exact ⟨Nat.le_of_ble_eq_true rfl, rfl⟩
              | refine ⟨by decide, ?_⟩
        · rw [e1] at hSa
          unfold RA RZ at *
          repeat
            conv => whnf
            first
              | refine ⟨_, by assumption, ?_⟩
              | refine ⟨(Nat.le_of_ble_eq_true rfl), _, by assumption, ?_⟩
              | refine ⟨by kernel_rfl, ?_⟩
              | exact rfl
              | exact ⟨Nat.le_of_ble_eq_true rfl, rfl⟩
              | refine ⟨by decide, ?_⟩
    · rw [decide_eq_false db] at hWb
      unfold RA RZ at *
      repeat
        conv => whnf
        first
          | refine ⟨_, by assumption, ?_⟩
          | refine ⟨(Nat.le_of_ble_eq_true rfl), _, by assumption, ?_⟩
          | refine ⟨by kernel_rfl, ?_⟩
          | exact rfl
          | exact ⟨Nat.le_of_ble_eq_true rfl, rfl⟩
          | refine ⟨by decide, ?_⟩
  · rw [decide_eq_false da] at hWa
    unfold RA RZ at *
    repeat
      conv => whnf
      first
        | refine ⟨_, by assumption, ?_⟩
        | refine ⟨(Nat.le_of_ble_eq_true rfl), _, by assumption, ?_⟩
        | refine ⟨by kernel_rfl, ?_⟩
        | exact rfl
        | exact ⟨Nat.le_of_ble_eq_true rfl, rfl⟩
        | refine ⟨by decide, ?_⟩

section
variable (a b : Rat) (i j : Nat) (most : Int) (hi : dn i = a.den) (hj : dn j = b.den) (hm : most ≤ 200) (la : Sz a 90) (lb : Sz b 90) (na : natQ a) (nb : natQ b)
include hi hj la lb na nb
theorem Choose_less (h : b.num < a.num) : AC Tryz.prog 142 [RA a.num i, RA b.num j, .val (.int .i64 most)] (.pure (.tup [RA 0 0, .val (.int .i64 0)])) := by
  refine RZ22 ?_
  have hWa := IsWhole_ok a.num i
  have hWb := IsWhole_ok b.num j
  have hSa := RaSign_ok a.num i
  have hSb := RaSign_ok b.num j
  have hM := QMinus_ok a.num i
  have hP := QPlus1 b (-a) j a.den hj (dn_den a) (lb.mono (by decide)) ((Sz_neg la).mono (by decide))
  have hSr := RaSign_ok (b + -a).num (b + -a).den
  rw [hi, decide_eq_true na.1] at hWa
  rw [hj, decide_eq_true nb.1] at hWb
  rw [hi] at hM
  have hM : AC Tryz.prog 105 [RA a.num i] (.pure (RA (-a).num a.den)) := hM
  have e1 : sigW a.num = 0 ∨ sigW a.num = 1 := by
    rcases sig_lit a.num with ⟨h1, e1⟩ | ⟨h1, e1⟩ | ⟨h1, e1⟩
    · exact absurd na.2 (by omega)
    · exact .inl e1
    · exact .inr e1
  have e2 : sigW b.num = 0 ∨ sigW b.num = 1 := by
    rcases sig_lit b.num with ⟨h1, e1⟩ | ⟨h1, e1⟩ | ⟨h1, e1⟩
    · exact absurd nb.2 (by omega)
    · exact .inl e1
    · exact .inr e1
  obtain ⟨s1, s2⟩ := sub_int na.1 nb.1
  rw [show sigW (b + -a).num = -1 by unfold sigW; rw [if_neg (by omega), if_pos (by omega)]] at hSr
  refine AC.of_body TTok Tryz.func142 rfl (enter_of Tryz.func142 (by kernel_rfl) (by kernel_rfl)) (noid3 (RA_noid _ _) (RA_noid _ _) (.val _)) (.tup _ (noid2 RZ_noid (.val _))) (Nat.le_of_ble_eq_true rfl) ?_
  clear s1 s2
  revert hP hSr
  generalize b + -a = r
  intro hP hSr
  rcases e1 with e1 | e1 <;> rcases e2 with e2 | e2
  all_goals
    rw [e1] at hSa
    rw [e2] at hSb
    unfold RA RZ rowR at *
    repeat
      conv => whnf
      first
        | refine ⟨_, by assumption, ?_⟩
        | refine ⟨(Nat.le_of_ble_eq_true rfl), _, by assumption, ?_⟩
        | refine ⟨by kernel_rfl, ?_⟩
        | exact rfl
        | exact ⟨Nat.le_of_ble_eq_true rfl, rfl⟩
        | refine ⟨by decide, ?_⟩
include hm
theorem Choose_gen (h : a.num ≤ b.num) (res : AV) (hno : NoId res)
    (r1 : ¬ chsOk (min a.num (b.num - a.num)).toNat (max a.num (b.num - a.num)).toNat most → AV.tup [RZ, .val (.int .i64 26)] = res)
    (r2 : chsOk (min a.num (b.num - a.num)).toNat (max a.num (b.num - a.num)).toNat most → AV.tup [RA ((chs (max a.num (b.num - a.num)).toNat (min a.num (b.num - a.num)).toNat : Nat) : Int) 1, .val (.int .i64 0)] = res) :
    AC Tryz.prog 142 [RA a.num i, RA b.num j, .val (.int .i64 most)] (.pure res) := by
  have hWa := IsWhole_ok a.num i
  have hWb := IsWhole_ok b.num j
  have hSa := RaSign_ok a.num i
  have hSb := RaSign_ok b.num j
  have hM := QMinus_ok a.num i
  have hP := QPlus1 b (-a) j a.den hj (dn_den a) (lb.mono (by decide)) ((Sz_neg la).mono (by decide))
  have hSr := RaSign_ok (b + -a).num (b + -a).den
  rw [hi, decide_eq_true na.1] at hWa
  rw [hj, decide_eq_true nb.1] at hWb
  rw [hi] at hM
  have hM : AC Tryz.prog 105 [RA a.num i] (.pure (RA (-a).num a.den)) := hM
  have e1 : sigW a.num = 0 ∨ sigW a.num = 1 := by
    rcases sig_lit a.num with ⟨h1, e1⟩ | ⟨h1, e1⟩ | ⟨h1, e1⟩
    · exact absurd na.2 (by omega)
    · exact .inl e1
    · exact .inr e1
  have e2 : sigW b.num = 0 ∨ sigW b.num = 1 := by
    rcases sig_lit b.num with ⟨h1, e1⟩ | ⟨h1, e1⟩ | ⟨h1, e1⟩
    · exact absurd nb.2 (by omega)
    · exact .inl e1
    · exact .inr e1
  obtain ⟨s1, s2⟩ := sub_int na.1 nb.1
  have sR : Sz (b + -a) 361 := (Sz_add lb (Sz_neg la)).mono (by decide)
  have hC := QCmp_ok (b + -a) a (b + -a).den i (dn_den _) hi (sR.mono (by decide)) (la.mono (by decide))
  have eR : sigW (b + -a).num = 0 ∨ sigW (b + -a).num = 1 := by
    rcases sig_lit (b + -a).num with ⟨h1, e1⟩ | ⟨h1, e1⟩ | ⟨h1, e1⟩
    · omega
    · exact .inl e1
    · exact .inr e1
  refine AC.of_body TTok Tryz.func142 rfl (enter_of Tryz.func142 (by kernel_rfl) (by kernel_rfl)) (noid3 (RA_noid _ _) (RA_noid _ _) (.val _)) hno (Nat.le_of_ble_eq_true rfl) ?_
  have hlt : cmpQ (b + -a) a < 0 ↔ b.num - a.num < a.num := by
    rw [cmpQ_neg, Rat.lt_iff, s1, s2, na.1]
    simp
  have hdR : dn (b + -a).den = 1 := by rw [dn_den, s2]
  rw [na.1] at hi
  obtain ⟨dr, hdr⟩ : ∃ d, d = (b + -a).den := ⟨_, rfl⟩
  obtain ⟨nr, hnr⟩ : ∃ n, n = (b + -a).num := ⟨_, rfl⟩
  rw [← hdr] at hP hSr hC hdR
  rw [← hnr] at hP hSr hC eR s1
  have f1 : decide (sigW a.num < 0) = false := decide_eq_false (by rcases e1 with e | e <;> rw [e] <;> decide)
  have f2 : decide (sigW b.num < 0) = false := decide_eq_false (by rcases e2 with e | e <;> rw [e] <;> decide)
  have fR : decide (sigW nr < 0) = false := decide_eq_false (by rcases eR with e | e <;> rw [e] <;> decide)
  have lnr := sR.1
  rw [← hnr] at lnr
  clear sR e1 e2 eR
  have han := na.2
  have lan := la.1
  clear na nb la lb
  by_cases hs : b.num - a.num < a.num
  · have fs : decide (cmpQ (b + -a) a < 0) = true := decide_eq_true (hlt.2 hs)
    clear hlt
    generalize cmpQ (b + -a) a = cq at hC fs
    clear hnr hdr
    generalize (b + -a) = qr at hP hC
    generalize -a = qn at hM hP
    generalize sigW a.num = g1 at *
    generalize sigW b.num = g2 at *
    generalize sigW nr = g3 at *
    have hTop := RTop_ok a.num i
    have hI := RInt_ok nr dr
    rw [hdR] at hI
    obtain ⟨k, hk⟩ : ∃ k : Nat, nr = (k : Int) := ⟨(nr).toNat, by omega⟩
    obtain ⟨r, hr⟩ : ∃ r : Nat, a.num = (r : Int) := ⟨(a.num).toNat, by omega⟩
    rw [show (min a.num (b.num - a.num)).toNat = k by omega, show (max a.num (b.num - a.num)).toNat = r by omega] at r1 r2
    have hkr : k ≤ r := by omega
    have lr : (limbs r).length ≤ 400 := by
      have := lan
      rw [show r = (a.num).natAbs by omega]
      omega
    obtain ⟨v, ok, hI, hv⟩ : ∃ v ok, AC Tryz.prog 69 [RA nr dr] (.pure (.tup [.val (.int .i64 v), .val (.bool ok)])) ∧ ((ok = true ∧ v = (k : Int)) ∨ (ok = false ∧ 6500 < k)) := by
      by_cases hf : fit nr
      · rw [if_pos ⟨rfl, hf⟩, decide_eq_true (show fitQ nr 1 from ⟨rfl, hf⟩)] at hI
        exact ⟨_, _, hI, .inl ⟨rfl, hk⟩⟩
      · rw [if_neg (fun h => hf h.2), decide_eq_false (show ¬ fitQ nr 1 from fun h => hf h.2)] at hI
        exact ⟨_, _, hI, .inr ⟨rfl, by unfold fit at hf; omega⟩⟩
    have hF1 := From_ok 1 (by decide)
    have hWh := Whole_ok ((chs r k : Nat) : Int)
    unfold RA WI rowR at *
    conv => whnf
    refine ⟨_, hWa, ?_⟩
    conv => whnf
    refine ⟨_, hWb, ?_⟩
    conv => whnf
    refine ⟨_, hSa, ?_⟩
    conv => whnf
    refine caseb (fun h => Bool.noConfusion ((f1).symm.trans h)) (fun _ => ?_)
    conv => whnf
    refine ⟨_, hSb, ?_⟩
    conv => whnf
    refine caseb (fun h => Bool.noConfusion ((f2).symm.trans h)) (fun _ => ?_)
    conv => whnf
    refine ⟨_, hM, ?_⟩
    conv => whnf
    refine ⟨(Nat.le_of_ble_eq_true rfl), _, hP, ?_⟩
    conv => whnf
    refine ⟨by kernel_rfl, ?_⟩
    conv => whnf
    refine ⟨_, hSr, ?_⟩
    conv => whnf
    refine caseb (fun h => Bool.noConfusion ((fR).symm.trans h)) (fun _ => ?_)
    conv => whnf
    refine ⟨_, hC, ?_⟩
    conv => whnf
    refine caseb (fun _ => ?_) (fun h => Bool.noConfusion ((fs).symm.trans h))
    conv => whnf
    refine ⟨_, hI, ?_⟩
    conv => whnf
    refine ⟨_, hF1, ?_⟩
    conv => whnf
    refine SW.loopM TTok (fun j : Nat => [(2, .val (.int .i64 most)), (6, .lp 16 0), (8, .lp 216 0), (9, .val (.int .i64 v)), (10, .val (.bool ok)), (11, .lp 384 0), (12, .val (.int .i64 ((j : Int) + 1)))])
      (fun j => [(16, .cells 3 [[.sl 0 [] true, .val (.bool false), .sl 0 [] true]]), (216, .cells 3 [[.sl 1 (irows .u32 (limbs (a.num).natAbs)) false, .val (.bool (decide (a.num < 0))), .sl 1 (irows .u32 (limbs i)) false]]), (384, .cells 2 [[.sl 1 (irows .u32 (limbs ((chs r j : Nat) : Int).natAbs)) false, .val (.bool (decide (((chs r j : Nat) : Int) < 0)))]])]) 408 86 rfl (fun j => 6500 - j)
      (fun j => j ≤ k ∧ (j = 0 ∨ ((limbs (chs r j)).length : Int) ≤ most)) 0 [] ⟨Nat.zero_le _, .inl rfl⟩
      ⟨⟨rfl, rfl⟩, ⟨rfl, rfl⟩, ⟨rfl, rfl⟩, ⟨rfl, rfl⟩, ⟨rfl, rfl⟩, ⟨rfl, rfl⟩, ⟨rfl, rfl⟩, trivial⟩ ⟨⟨rfl, .inr ⟨rfl, rfl⟩⟩, ⟨rfl, .inr ⟨rfl, rfl⟩⟩, ⟨rfl, .inr ⟨rfl, rfl⟩⟩, trivial⟩ rfl ?_
    intro j hJ
    have hj1 : j ≤ k := hJ.1
    have hj2 : j = 0 ∨ ((limbs (chs r j)).length : Int) ≤ most := hJ.2
    clear hJ
    have lc : (limbs (chs r j)).length ≤ 200 := by
      rcases hj2 with h | h
      · subst h; exact Nat.le_trans (limbs_small (n := 1) (by decide)) (by decide)
      · omega
    have hjb := chs_bound (Nat.le_trans hj1 hkr) lc
    have lj : (limbs (j + 1)).length ≤ 1 := limbs_small (by omega)
    have hFr := From_ok ((j : Int) + 1) (by omega)
    have lrj := limbs_abs_add (r : Int) ((j : Int) + 1)
    rw [Int.natAbs_natCast, show ((j : Int) + 1).natAbs = j + 1 by omega] at lrj
    have hPl := Plus1 (r : Int) ((j : Int) + 1) (by rw [Int.natAbs_natCast]; omega) (by rw [show ((j : Int) + 1).natAbs = j + 1 by omega]; omega) (by omega)
    have lcr := limbs_abs_mul ((chs r j : Nat) : Int) ((r : Int) + ((j : Int) + 1))
    rw [Int.natAbs_natCast] at lcr
    have ec : ((chs r j : Nat) : Int) * ((r : Int) + ((j : Int) + 1)) = ((chs r j * (r + (j + 1)) : Nat) : Int) := by rw [Int.natCast_mul, Int.natCast_add, Int.natCast_add]; rfl
    have hTi := Times1 ((chs r j : Nat) : Int) ((r : Int) + ((j : Int) + 1)) (by rw [Int.natAbs_natCast]; omega) (by omega) (by omega)
    rw [ec] at hTi lcr
    rw [Int.natAbs_natCast] at lcr
    obtain ⟨w, hFl⟩ := floor_nat (chs r j * (r + (j + 1))) (j + 1) (by omega) (by omega) (by omega)
    rw [← chs_succ, show ((j + 1 : Nat) : Int) = (j : Int) + 1 from rfl] at hFl
    have hLim := Limbs_ok ((chs r (j + 1) : Nat) : Int).natAbs
    rw [← hr] at hPl hTi
    clear ec lcr lrj lj lc
    revert hPl hTi hFl
    generalize ((chs r j * (r + (j + 1)) : Nat) : Int) = y
    generalize a.num + ((j : Int) + 1) = z
    intro hPl hTi hFl
    unfold WI rowW natA at *
    rcases hv with ⟨rfl, rfl⟩ | ⟨rfl, hbig⟩
    · conv => whnf
      refine caseb (fun h4 => ?_) (fun h4 => ?_)
      · have h4' : (j : Int) + 1 ≤ (k : Int) := of_decide_eq_true h4
        conv => whnf
        refine ⟨_, hTop, ?_⟩
        conv => whnf
        refine ⟨_, hFr, ?_⟩
        conv => whnf
        refine ⟨(Nat.le_of_ble_eq_true rfl), _, hPl, ?_⟩
        conv => whnf
        refine ⟨(Nat.le_of_ble_eq_true rfl), _, hTi, ?_⟩
        conv => whnf
        refine ⟨_, hFr, ?_⟩
        conv => whnf
        refine ⟨_, hFl, ?_⟩
        conv => whnf
        refine ⟨by kernel_rfl, ?_⟩
        conv => whnf
        refine ⟨_, hLim, ?_⟩
        conv => whnf
        refine caseb (fun h5 => ?_) (fun h5 => ?_)
        · have h5' : ((limbs (chs r (j + 1))).length : Int) > most := of_decide_eq_true h5
          have hmo := limbs_len_mono (chs_mono r (show j + 1 ≤ k by omega))
          conv => whnf
          exact r1 (fun hc => by rcases hc with hc | hc <;> omega)
        · have h5' : ¬ ((limbs (chs r (j + 1))).length : Int) > most := of_decide_eq_false h5
          conv => whnf
          refine ⟨j + 1, [], (by show 6500 - (j + 1) < 6500 - j; omega), ⟨(by show j + 1 ≤ k; omega), .inr (by show ((limbs (chs r (j + 1))).length : Int) ≤ most; omega)⟩, ⟨⟨rfl, rfl⟩, ⟨rfl, rfl⟩, ⟨rfl, rfl⟩, ⟨rfl, rfl⟩, ⟨rfl, rfl⟩, ⟨rfl, rfl⟩, ⟨valI ?_, rfl⟩, trivial⟩, ⟨⟨rfl, .inr ⟨rfl, rfl⟩⟩, ⟨rfl, .inr ⟨rfl, rfl⟩⟩, ⟨rfl, .inr ⟨rfl, rfl⟩⟩, trivial⟩, rfl⟩
          show IntKind.i64.wrap ((j : Int) + 1 + 1) = ((j + 1 : Nat) : Int) + 1
          rw [IntWalk.i64_in _ (by omega)]; omega
      · have h4' : ¬ (j : Int) + 1 ≤ (k : Int) := of_decide_eq_false h4
        have hjk : j = k := by omega
        rw [hjk] at hj2 ⊢
        conv => whnf
        refine ⟨_, hWh, ?_⟩
        conv => whnf
        exact r2 (by rcases hj2 with h | h; exact .inl h; exact .inr h)
    · have h4' : (j : Int) + 1 ≤ (k : Int) := by omega
      conv => whnf
      refine ⟨_, hTop, ?_⟩
      conv => whnf
      refine ⟨_, hFr, ?_⟩
      conv => whnf
      refine ⟨(Nat.le_of_ble_eq_true rfl), _, hPl, ?_⟩
      conv => whnf
      refine ⟨(Nat.le_of_ble_eq_true rfl), _, hTi, ?_⟩
      conv => whnf
      refine ⟨_, hFr, ?_⟩
      conv => whnf
      refine ⟨_, hFl, ?_⟩
      conv => whnf
      refine ⟨by kernel_rfl, ?_⟩
      conv => whnf
      refine ⟨_, hLim, ?_⟩
      conv => whnf
      refine caseb (fun h5 => ?_) (fun h5 => ?_)
      · have h5' : ((limbs (chs r (j + 1))).length : Int) > most := of_decide_eq_true h5
        have hmo := limbs_len_mono (chs_mono r (show j + 1 ≤ k by omega))
        conv => whnf
        exact r1 (fun hc => by rcases hc with hc | hc <;> omega)
      · have h5' : ¬ ((limbs (chs r (j + 1))).length : Int) > most := of_decide_eq_false h5
        conv => whnf
        refine ⟨j + 1, [], (by show 6500 - (j + 1) < 6500 - j; omega), ⟨(by show j + 1 ≤ k; omega), .inr (by show ((limbs (chs r (j + 1))).length : Int) ≤ most; omega)⟩, ⟨⟨rfl, rfl⟩, ⟨rfl, rfl⟩, ⟨rfl, rfl⟩, ⟨rfl, rfl⟩, ⟨rfl, rfl⟩, ⟨rfl, rfl⟩, ⟨valI ?_, rfl⟩, trivial⟩, ⟨⟨rfl, .inr ⟨rfl, rfl⟩⟩, ⟨rfl, .inr ⟨rfl, rfl⟩⟩, ⟨rfl, .inr ⟨rfl, rfl⟩⟩, trivial⟩, rfl⟩
        show IntKind.i64.wrap ((j : Int) + 1 + 1) = ((j + 1 : Nat) : Int) + 1
        rw [IntWalk.i64_in _ (by omega)]; omega
  · have fs : decide (cmpQ (b + -a) a < 0) = false := decide_eq_false (fun h => hs (hlt.1 h))
    clear hlt
    generalize cmpQ (b + -a) a = cq at hC fs
    clear hnr hdr
    generalize (b + -a) = qr at hP hC
    generalize -a = qn at hM hP
    generalize sigW a.num = g1 at *
    generalize sigW b.num = g2 at *
    generalize sigW nr = g3 at *
    have hTop := RTop_ok nr dr
    have hI := RInt_ok a.num i
    rw [hi] at hI
    obtain ⟨k, hk⟩ : ∃ k : Nat, a.num = (k : Int) := ⟨(a.num).toNat, by omega⟩
    obtain ⟨r, hr⟩ : ∃ r : Nat, nr = (r : Int) := ⟨(nr).toNat, by omega⟩
    rw [show (min a.num (b.num - a.num)).toNat = k by omega, show (max a.num (b.num - a.num)).toNat = r by omega] at r1 r2
    have hkr : k ≤ r := by omega
    have lr : (limbs r).length ≤ 400 := by
      have := lnr
      rw [show r = (nr).natAbs by omega]
      omega
    obtain ⟨v, ok, hI, hv⟩ : ∃ v ok, AC Tryz.prog 69 [RA a.num i] (.pure (.tup [.val (.int .i64 v), .val (.bool ok)])) ∧ ((ok = true ∧ v = (k : Int)) ∨ (ok = false ∧ 6500 < k)) := by
      by_cases hf : fit a.num
      · rw [if_pos ⟨rfl, hf⟩, decide_eq_true (show fitQ a.num 1 from ⟨rfl, hf⟩)] at hI
        exact ⟨_, _, hI, .inl ⟨rfl, hk⟩⟩
      · rw [if_neg (fun h => hf h.2), decide_eq_false (show ¬ fitQ a.num 1 from fun h => hf h.2)] at hI
        exact ⟨_, _, hI, .inr ⟨rfl, by unfold fit at hf; omega⟩⟩
    have hF1 := From_ok 1 (by decide)
    have hWh := Whole_ok ((chs r k : Nat) : Int)
    unfold RA WI rowR at *
    conv => whnf
    refine ⟨_, hWa, ?_⟩
    conv => whnf
    refine ⟨_, hWb, ?_⟩
    conv => whnf
    refine ⟨_, hSa, ?_⟩
    conv => whnf
    refine caseb (fun h => Bool.noConfusion ((f1).symm.trans h)) (fun _ => ?_)
    conv => whnf
    refine ⟨_, hSb, ?_⟩
    conv => whnf
    refine caseb (fun h => Bool.noConfusion ((f2).symm.trans h)) (fun _ => ?_)
    conv => whnf
    refine ⟨_, hM, ?_⟩
    conv => whnf
    refine ⟨(Nat.le_of_ble_eq_true rfl), _, hP, ?_⟩
    conv => whnf
    refine ⟨by kernel_rfl, ?_⟩
    conv => whnf
    refine ⟨_, hSr, ?_⟩
    conv => whnf
    refine caseb (fun h => Bool.noConfusion ((fR).symm.trans h)) (fun _ => ?_)
    conv => whnf
    refine ⟨_, hC, ?_⟩
    conv => whnf
    refine caseb (fun h => Bool.noConfusion ((fs).symm.trans h)) (fun _ => ?_)
    conv => whnf
    refine ⟨_, hI, ?_⟩
    conv => whnf
    refine ⟨_, hF1, ?_⟩
    conv => whnf
    refine SW.loopM TTok (fun j : Nat => [(2, .val (.int .i64 most)), (6, .lp 16 0), (8, .lp 216 0), (9, .val (.int .i64 v)), (10, .val (.bool ok)), (11, .lp 352 0), (12, .val (.int .i64 ((j : Int) + 1)))])
      (fun j => [(16, .cells 3 [[.sl 0 [] true, .val (.bool false), .sl 0 [] true]]), (216, .cells 3 [[.sl 1 (irows .u32 (limbs (nr).natAbs)) false, .val (.bool (decide (nr < 0))), .sl 1 (irows .u32 (limbs dr)) false]]), (352, .cells 2 [[.sl 1 (irows .u32 (limbs ((chs r j : Nat) : Int).natAbs)) false, .val (.bool (decide (((chs r j : Nat) : Int) < 0)))]])]) 376 86 rfl (fun j => 6500 - j)
      (fun j => j ≤ k ∧ (j = 0 ∨ ((limbs (chs r j)).length : Int) ≤ most)) 0 [] ⟨Nat.zero_le _, .inl rfl⟩
      ⟨⟨rfl, rfl⟩, ⟨rfl, rfl⟩, ⟨rfl, rfl⟩, ⟨rfl, rfl⟩, ⟨rfl, rfl⟩, ⟨rfl, rfl⟩, ⟨rfl, rfl⟩, trivial⟩ ⟨⟨rfl, .inr ⟨rfl, rfl⟩⟩, ⟨rfl, .inr ⟨rfl, rfl⟩⟩, ⟨rfl, .inr ⟨rfl, rfl⟩⟩, trivial⟩ rfl ?_
    intro j hJ
    have hj1 : j ≤ k := hJ.1
    have hj2 : j = 0 ∨ ((limbs (chs r j)).length : Int) ≤ most := hJ.2
    clear hJ
    have lc : (limbs (chs r j)).length ≤ 200 := by
      rcases hj2 with h | h
      · subst h; exact Nat.le_trans (limbs_small (n := 1) (by decide)) (by decide)
      · omega
    have hjb := chs_bound (Nat.le_trans hj1 hkr) lc
    have lj : (limbs (j + 1)).length ≤ 1 := limbs_small (by omega)
    have hFr := From_ok ((j : Int) + 1) (by omega)
    have lrj := limbs_abs_add (r : Int) ((j : Int) + 1)
    rw [Int.natAbs_natCast, show ((j : Int) + 1).natAbs = j + 1 by omega] at lrj
    have hPl := Plus1 (r : Int) ((j : Int) + 1) (by rw [Int.natAbs_natCast]; omega) (by rw [show ((j : Int) + 1).natAbs = j + 1 by omega]; omega) (by omega)
    have lcr := limbs_abs_mul ((chs r j : Nat) : Int) ((r : Int) + ((j : Int) + 1))
    rw [Int.natAbs_natCast] at lcr
    have ec : ((chs r j : Nat) : Int) * ((r : Int) + ((j : Int) + 1)) = ((chs r j * (r + (j + 1)) : Nat) : Int) := by rw [Int.natCast_mul, Int.natCast_add, Int.natCast_add]; rfl
    have hTi := Times1 ((chs r j : Nat) : Int) ((r : Int) + ((j : Int) + 1)) (by rw [Int.natAbs_natCast]; omega) (by omega) (by omega)
    rw [ec] at hTi lcr
    rw [Int.natAbs_natCast] at lcr
    obtain ⟨w, hFl⟩ := floor_nat (chs r j * (r + (j + 1))) (j + 1) (by omega) (by omega) (by omega)
    rw [← chs_succ, show ((j + 1 : Nat) : Int) = (j : Int) + 1 from rfl] at hFl
    have hLim := Limbs_ok ((chs r (j + 1) : Nat) : Int).natAbs
    rw [← hr] at hPl hTi
    clear ec lcr lrj lj lc
    revert hPl hTi hFl
    generalize ((chs r j * (r + (j + 1)) : Nat) : Int) = y
    generalize nr + ((j : Int) + 1) = z
    intro hPl hTi hFl
    unfold WI rowW natA at *
    rcases hv with ⟨rfl, rfl⟩ | ⟨rfl, hbig⟩
    · conv => whnf
      refine caseb (fun h4 => ?_) (fun h4 => ?_)
      · have h4' : (j : Int) + 1 ≤ (k : Int) := of_decide_eq_true h4
        conv => whnf
        refine ⟨_, hTop, ?_⟩
        conv => whnf
        refine ⟨_, hFr, ?_⟩
        conv => whnf
        refine ⟨(Nat.le_of_ble_eq_true rfl), _, hPl, ?_⟩
        conv => whnf
        refine ⟨(Nat.le_of_ble_eq_true rfl), _, hTi, ?_⟩
        conv => whnf
        refine ⟨_, hFr, ?_⟩
        conv => whnf
        refine ⟨_, hFl, ?_⟩
        conv => whnf
        refine ⟨by kernel_rfl, ?_⟩
        conv => whnf
        refine ⟨_, hLim, ?_⟩
        conv => whnf
        refine caseb (fun h5 => ?_) (fun h5 => ?_)
        · have h5' : ((limbs (chs r (j + 1))).length : Int) > most := of_decide_eq_true h5
          have hmo := limbs_len_mono (chs_mono r (show j + 1 ≤ k by omega))
          conv => whnf
          exact r1 (fun hc => by rcases hc with hc | hc <;> omega)
        · have h5' : ¬ ((limbs (chs r (j + 1))).length : Int) > most := of_decide_eq_false h5
          conv => whnf
          refine ⟨j + 1, [], (by show 6500 - (j + 1) < 6500 - j; omega), ⟨(by show j + 1 ≤ k; omega), .inr (by show ((limbs (chs r (j + 1))).length : Int) ≤ most; omega)⟩, ⟨⟨rfl, rfl⟩, ⟨rfl, rfl⟩, ⟨rfl, rfl⟩, ⟨rfl, rfl⟩, ⟨rfl, rfl⟩, ⟨rfl, rfl⟩, ⟨valI ?_, rfl⟩, trivial⟩, ⟨⟨rfl, .inr ⟨rfl, rfl⟩⟩, ⟨rfl, .inr ⟨rfl, rfl⟩⟩, ⟨rfl, .inr ⟨rfl, rfl⟩⟩, trivial⟩, rfl⟩
          show IntKind.i64.wrap ((j : Int) + 1 + 1) = ((j + 1 : Nat) : Int) + 1
          rw [IntWalk.i64_in _ (by omega)]; omega
      · have h4' : ¬ (j : Int) + 1 ≤ (k : Int) := of_decide_eq_false h4
        have hjk : j = k := by omega
        rw [hjk] at hj2 ⊢
        conv => whnf
        refine ⟨_, hWh, ?_⟩
        conv => whnf
        exact r2 (by rcases hj2 with h | h; exact .inl h; exact .inr h)
    · have h4' : (j : Int) + 1 ≤ (k : Int) := by omega
      conv => whnf
      refine ⟨_, hTop, ?_⟩
      conv => whnf
      refine ⟨_, hFr, ?_⟩
      conv => whnf
      refine ⟨(Nat.le_of_ble_eq_true rfl), _, hPl, ?_⟩
      conv => whnf
      refine ⟨(Nat.le_of_ble_eq_true rfl), _, hTi, ?_⟩
      conv => whnf
      refine ⟨_, hFr, ?_⟩
      conv => whnf
      refine ⟨_, hFl, ?_⟩
      conv => whnf
      refine ⟨by kernel_rfl, ?_⟩
      conv => whnf
      refine ⟨_, hLim, ?_⟩
      conv => whnf
      refine caseb (fun h5 => ?_) (fun h5 => ?_)
      · have h5' : ((limbs (chs r (j + 1))).length : Int) > most := of_decide_eq_true h5
        have hmo := limbs_len_mono (chs_mono r (show j + 1 ≤ k by omega))
        conv => whnf
        exact r1 (fun hc => by rcases hc with hc | hc <;> omega)
      · have h5' : ¬ ((limbs (chs r (j + 1))).length : Int) > most := of_decide_eq_false h5
        conv => whnf
        refine ⟨j + 1, [], (by show 6500 - (j + 1) < 6500 - j; omega), ⟨(by show j + 1 ≤ k; omega), .inr (by show ((limbs (chs r (j + 1))).length : Int) ≤ most; omega)⟩, ⟨⟨rfl, rfl⟩, ⟨rfl, rfl⟩, ⟨rfl, rfl⟩, ⟨rfl, rfl⟩, ⟨rfl, rfl⟩, ⟨rfl, rfl⟩, ⟨valI ?_, rfl⟩, trivial⟩, ⟨⟨rfl, .inr ⟨rfl, rfl⟩⟩, ⟨rfl, .inr ⟨rfl, rfl⟩⟩, ⟨rfl, .inr ⟨rfl, rfl⟩⟩, trivial⟩, rfl⟩
        show IntKind.i64.wrap ((j : Int) + 1 + 1) = ((j + 1 : Nat) : Int) + 1
        rw [IntWalk.i64_in _ (by omega)]; omega
end

theorem Choose_ok (a b : Rat) (i j : Nat) (most : Int) (hi : dn i = a.den) (hj : dn j = b.den) (hm : most ≤ 200) (la : Sz a 90) (lb : Sz b 90) : ∃ d, dn d = (chooseQ a b most).1.den ∧
    AC Tryz.prog 142 [RA a.num i, RA b.num j, .val (.int .i64 most)] (.pure (.tup [RA (chooseQ a b most).1.num d, .val (.int .i64 (chooseQ a b most).2)])) := by
  unfold chooseQ
  by_cases hn : natQ a ∧ natQ b
  · rw [if_neg (fun h => h hn)]
    by_cases hl : b.num < a.num
    · rw [if_pos hl]
      exact ⟨0, rfl, Choose_less a b i j most hi hj la lb hn.1 hn.2 hl⟩
    · rw [if_neg hl]
      by_cases hc : chsOk (min a.num (b.num - a.num)).toNat (max a.num (b.num - a.num)).toNat most
      · rw [if_pos hc]
        exact ⟨1, rfl, Choose_gen a b i j most hi hj hm la lb hn.1 hn.2 (by omega) _ (.tup _ (noid2 (RA_noid _ _) (.val _))) (fun h => absurd hc h) (fun _ => rfl)⟩
      · rw [if_neg hc]
        exact ⟨0, rfl, RZ22 (Choose_gen a b i j most hi hj hm la lb hn.1 hn.2 (by omega) _ (.tup _ (noid2 RZ_noid (.val _))) (fun _ => rfl) (fun h => absurd h hc))⟩
  · rw [if_pos hn]
    exact ⟨0, rfl, Choose_none a b i j most hi hj hn⟩

end Go.Proofs.YtclamnmpleiakaaGreat

/- Functions of two numbers: the document's ways. -/
set_option linter.unusedVariables false
namespace Go.Proofs.YtclamnmpleiakaaGreat
open Go Go.AL NM

end Go.Proofs.YtclamnmpleiakaaGreat

/- Functions of two numbers: what reckons. -/
set_option linter.unusedVariables false
namespace Go.Proofs.YtclamnmpleiakaaGreat
open Go Go.AL NM

/-- What a reckoning function makes of two numbers. -/
def reckonQ (c : Int) (a b : Rat) (most : Int) : Rat × Int :=
  if c = 43 then (a + b, 0)
  else if c = 45 then (a + -b, 0)
  else if c = 215 then (a * b, 0)
  else if c = 247 then (if b ≠ 0 then (a / b, 0) else if a = 0 then (1, 0) else (0, 22))
  else if c = 8968 then (if a < b then b else a, 0)
  else if c = 8970 then (if a < b then a else b, 0)
  else if c = 124 then (restQ a b, 0)
  else if c = 42 then powerQ a b most
  else if c = 33 then chooseQ a b most
  else (0, 22)
theorem noid4 {a b c d : AV} (ha : NoId a) (hb : NoId b) (hc : NoId c) (hd : NoId d) : ∀ x ∈ [a, b, c, d], NoId x := by
  intro x hx
  simp only [List.mem_cons, List.not_mem_nil, or_false] at hx
  rcases hx with rfl | rfl | rfl | rfl <;> assumption
theorem sig_ne {q : Rat} (h : q ≠ 0) : (sigW q.num == 0) = false := beq_false_of_ne (by unfold sigW; rw [if_neg (num_ne h)]; split <;> decide)
theorem sig_z {q : Rat} (h : q = 0) : (sigW q.num == 0) = true := by rw [h]; rfl
theorem cmp_lt {a b : Rat} (h : a < b) : cmpQ a b = -1 := if_pos h
theorem cmp_ge {a b : Rat} (h : ¬ a < b) : decide (cmpQ a b < 0) = false := decide_eq_false (fun e => h (cmpQ_neg.1 e))


theorem Rec43 (a b : Rat) (i j : Nat) (most : Int) (hi : dn i = a.den) (hj : dn j = b.den) (hm : most ≤ 200) (la : Sz a 20) (lb : Sz b 20) : ∃ d, dn d = (reckonQ 43 a b most).1.den ∧ AC Tryz.prog 98 [.val (.int .i32 43), RA a.num i, RA b.num j, .val (.int .i64 most)] (.pure (.tup [RA (reckonQ 43 a b most).1.num d, .val (.int .i64 (reckonQ 43 a b most).2)])) := by
  rw [show reckonQ 43 a b most = (a + b, 0) from rfl]
  have hP := QPlus1 a b i j hi hj (la.mono (by decide)) (lb.mono (by decide))
  refine ⟨_, dn_den _, ?_⟩
  refine AC.of_body TTok Tryz.func98 rfl (enter_of Tryz.func98 (by kernel_rfl) (by kernel_rfl)) (noid4 (.val _) (RA_noid _ _) (RA_noid _ _) (.val _)) (.tup _ (noid2 (RA_noid _ _) (.val _))) (Nat.le_of_ble_eq_true rfl) ?_
  revert hP
  generalize a + b = r
  intro hP
  unfold RA rowR at *
  repeat
    conv => whnf
    first
      | refine ⟨_, by assumption, ?_⟩
      | refine ⟨(Nat.le_of_ble_eq_true rfl), _, by assumption, ?_⟩
      | refine ⟨by kernel_rfl, ?_⟩
      | exact rfl
      | exact ⟨Nat.le_of_ble_eq_true rfl, rfl⟩
      | refine ⟨by decide, ?_⟩

theorem Rec45 (a b : Rat) (i j : Nat) (most : Int) (hi : dn i = a.den) (hj : dn j = b.den) (hm : most ≤ 200) (la : Sz a 20) (lb : Sz b 20) : ∃ d, dn d = (reckonQ 45 a b most).1.den ∧ AC Tryz.prog 98 [.val (.int .i32 45), RA a.num i, RA b.num j, .val (.int .i64 most)] (.pure (.tup [RA (reckonQ 45 a b most).1.num d, .val (.int .i64 (reckonQ 45 a b most).2)])) := by
  rw [show reckonQ 45 a b most = (a + -b, 0) from rfl]
  have hM := QMinus_ok b.num j
  rw [hj] at hM
  have hM : AC Tryz.prog 105 [RA b.num j] (.pure (RA (-b).num b.den)) := hM
  have hP := QPlus1 a (-b) i b.den hi (dn_den b) (la.mono (by decide)) ((Sz_neg lb).mono (by decide))
  refine ⟨_, dn_den _, ?_⟩
  refine AC.of_body TTok Tryz.func98 rfl (enter_of Tryz.func98 (by kernel_rfl) (by kernel_rfl)) (noid4 (.val _) (RA_noid _ _) (RA_noid _ _) (.val _)) (.tup _ (noid2 (RA_noid _ _) (.val _))) (Nat.le_of_ble_eq_true rfl) ?_
  revert hP
  generalize a + -b = r
  intro hP
  generalize -b = nb at *
  unfold RA rowR at *
  repeat
    conv => whnf
    first
      | refine ⟨_, by assumption, ?_⟩
      | refine ⟨(Nat.le_of_ble_eq_true rfl), _, by assumption, ?_⟩
      | refine ⟨by kernel_rfl, ?_⟩
      | exact rfl
      | exact ⟨Nat.le_of_ble_eq_true rfl, rfl⟩
      | refine ⟨by decide, ?_⟩

theorem Rec215 (a b : Rat) (i j : Nat) (most : Int) (hi : dn i = a.den) (hj : dn j = b.den) (hm : most ≤ 200) (la : Sz a 20) (lb : Sz b 20) : ∃ d, dn d = (reckonQ 215 a b most).1.den ∧ AC Tryz.prog 98 [.val (.int .i32 215), RA a.num i, RA b.num j, .val (.int .i64 most)] (.pure (.tup [RA (reckonQ 215 a b most).1.num d, .val (.int .i64 (reckonQ 215 a b most).2)])) := by
  rw [show reckonQ 215 a b most = (a * b, 0) from rfl]
  have hP := QTimes1 a b i j hi hj (la.mono (by decide)) (lb.mono (by decide))
  refine ⟨_, dn_den _, ?_⟩
  refine AC.of_body TTok Tryz.func98 rfl (enter_of Tryz.func98 (by kernel_rfl) (by kernel_rfl)) (noid4 (.val _) (RA_noid _ _) (RA_noid _ _) (.val _)) (.tup _ (noid2 (RA_noid _ _) (.val _))) (Nat.le_of_ble_eq_true rfl) ?_
  revert hP
  generalize a * b = r
  intro hP
  unfold RA rowR at *
  repeat
    conv => whnf
    first
      | refine ⟨_, by assumption, ?_⟩
      | refine ⟨(Nat.le_of_ble_eq_true rfl), _, by assumption, ?_⟩
      | refine ⟨by kernel_rfl, ?_⟩
      | exact rfl
      | exact ⟨Nat.le_of_ble_eq_true rfl, rfl⟩
      | refine ⟨by decide, ?_⟩

theorem Rec247 (a b : Rat) (i j : Nat) (most : Int) (hi : dn i = a.den) (hj : dn j = b.den) (hm : most ≤ 200) (la : Sz a 20) (lb : Sz b 20) : ∃ d, dn d = (reckonQ 247 a b most).1.den ∧ AC Tryz.prog 98 [.val (.int .i32 247), RA a.num i, RA b.num j, .val (.int .i64 most)] (.pure (.tup [RA (reckonQ 247 a b most).1.num d, .val (.int .i64 (reckonQ 247 a b most).2)])) := by
  rw [show reckonQ 247 a b most = (if b ≠ 0 then (a / b, 0) else if a = 0 then (1, 0) else (0, 22)) from rfl]
  have hSa := RaSign_ok a.num i
  have hSb := RaSign_ok b.num j
  by_cases hb : b = 0
  · rw [if_neg (fun h => h hb)]
    have fb := sig_z hb
    by_cases ha : a = 0
    · rw [if_pos ha]
      have fa := sig_z ha
      have hF := RatFrom_ok 1 (by decide)
      refine ⟨1, rfl, ?_⟩
      show AC Tryz.prog 98 _ (.pure (.tup [RA 1 1, .val (.int .i64 0)]))
      refine AC.of_body TTok Tryz.func98 rfl (enter_of Tryz.func98 (by kernel_rfl) (by kernel_rfl)) (noid4 (.val _) (RA_noid _ _) (RA_noid _ _) (.val _)) (.tup _ (noid2 (RA_noid _ _) (.val _))) (Nat.le_of_ble_eq_true rfl) ?_
      generalize sigW a.num = s at *
      generalize sigW b.num = t at *
      unfold RA at *
      conv => whnf
      refine ⟨_, hSa, ?_⟩
      conv => whnf
      refine caseb (fun _ => ?_) (fun h => Bool.noConfusion ((fa).symm.trans h))
      conv => whnf
      refine ⟨_, hSb, ?_⟩
      conv => whnf
      refine caseb (fun _ => ?_) (fun h => Bool.noConfusion ((fb).symm.trans h))
      repeat
        conv => whnf
        first
          | refine ⟨_, by assumption, ?_⟩
          | refine ⟨(Nat.le_of_ble_eq_true rfl), _, by assumption, ?_⟩
          | refine ⟨by kernel_rfl, ?_⟩
          | exact rfl
          | exact ⟨Nat.le_of_ble_eq_true rfl, rfl⟩
          | refine ⟨by decide, ?_⟩
    · rw [if_neg ha]
      have fa := sig_ne ha
      have hB := By_zero a i j hi (by rw [hj, hb]) (la.mono (by decide))
      rw [← hb] at hB
      refine ⟨0, rfl, ?_⟩
      show AC Tryz.prog 98 _ (.pure (.tup [RA 0 0, .val (.int .i64 22)]))
      refine AC.of_body TTok Tryz.func98 rfl (enter_of Tryz.func98 (by kernel_rfl) (by kernel_rfl)) (noid4 (.val _) (RA_noid _ _) (RA_noid _ _) (.val _)) (.tup _ (noid2 (RA_noid _ _) (.val _))) (Nat.le_of_ble_eq_true rfl) ?_
      generalize sigW a.num = s at *
      unfold RA at *
      conv => whnf
      refine ⟨_, hSa, ?_⟩
      conv => whnf
      refine caseb (fun h => Bool.noConfusion ((fa).symm.trans h)) (fun _ => ?_)
      repeat
        conv => whnf
        first
          | refine ⟨_, by assumption, ?_⟩
          | refine ⟨(Nat.le_of_ble_eq_true rfl), _, by assumption, ?_⟩
          | refine ⟨by kernel_rfl, ?_⟩
          | exact rfl
          | exact ⟨Nat.le_of_ble_eq_true rfl, rfl⟩
          | refine ⟨by decide, ?_⟩
  · rw [if_pos hb]
    have fb := sig_ne hb
    have hB := By_ok a b i j hi hj (la.mono (by decide)) (lb.mono (by decide)) hb
    refine ⟨_, dn_den _, ?_⟩
    refine AC.of_body TTok Tryz.func98 rfl (enter_of Tryz.func98 (by kernel_rfl) (by kernel_rfl)) (noid4 (.val _) (RA_noid _ _) (RA_noid _ _) (.val _)) (.tup _ (noid2 (RA_noid _ _) (.val _))) (Nat.le_of_ble_eq_true rfl) ?_
    revert hB
    generalize a / b = r
    intro hB
    by_cases ha : a = 0
    · have fa := sig_z ha
      generalize sigW a.num = s at *
      generalize sigW b.num = t at *
      unfold RA at *
      conv => whnf
      refine ⟨_, hSa, ?_⟩
      conv => whnf
      refine caseb (fun _ => ?_) (fun h => Bool.noConfusion ((fa).symm.trans h))
      conv => whnf
      refine ⟨_, hSb, ?_⟩
      conv => whnf
      refine caseb (fun h => Bool.noConfusion ((fb).symm.trans h)) (fun _ => ?_)
      repeat
        conv => whnf
        first
          | refine ⟨_, by assumption, ?_⟩
          | refine ⟨(Nat.le_of_ble_eq_true rfl), _, by assumption, ?_⟩
          | refine ⟨by kernel_rfl, ?_⟩
          | exact rfl
          | exact ⟨Nat.le_of_ble_eq_true rfl, rfl⟩
          | refine ⟨by decide, ?_⟩
    · have fa := sig_ne ha
      generalize sigW a.num = s at *
      unfold RA at *
      conv => whnf
      refine ⟨_, hSa, ?_⟩
      conv => whnf
      refine caseb (fun h => Bool.noConfusion ((fa).symm.trans h)) (fun _ => ?_)
      repeat
        conv => whnf
        first
          | refine ⟨_, by assumption, ?_⟩
          | refine ⟨(Nat.le_of_ble_eq_true rfl), _, by assumption, ?_⟩
          | refine ⟨by kernel_rfl, ?_⟩
          | exact rfl
          | exact ⟨Nat.le_of_ble_eq_true rfl, rfl⟩
          | refine ⟨by decide, ?_⟩

theorem Rec8968 (a b : Rat) (i j : Nat) (most : Int) (hi : dn i = a.den) (hj : dn j = b.den) (hm : most ≤ 200) (la : Sz a 20) (lb : Sz b 20) : ∃ d, dn d = (reckonQ 8968 a b most).1.den ∧ AC Tryz.prog 98 [.val (.int .i32 8968), RA a.num i, RA b.num j, .val (.int .i64 most)] (.pure (.tup [RA (reckonQ 8968 a b most).1.num d, .val (.int .i64 (reckonQ 8968 a b most).2)])) := by
  rw [show reckonQ 8968 a b most = (if a < b then b else a, 0) from rfl]
  have hC := QCmp_ok a b i j hi hj (la.mono (by decide)) (lb.mono (by decide))
  by_cases h : a < b
  · rw [if_pos h]
    rw [cmp_lt h] at hC
    refine ⟨j, hj, ?_⟩
    refine AC.of_body TTok Tryz.func98 rfl (enter_of Tryz.func98 (by kernel_rfl) (by kernel_rfl)) (noid4 (.val _) (RA_noid _ _) (RA_noid _ _) (.val _)) (.tup _ (noid2 (RA_noid _ _) (.val _))) (Nat.le_of_ble_eq_true rfl) ?_
    unfold RA at *
    repeat
      conv => whnf
      first
        | refine ⟨_, by assumption, ?_⟩
        | refine ⟨(Nat.le_of_ble_eq_true rfl), _, by assumption, ?_⟩
        | refine ⟨by kernel_rfl, ?_⟩
        | exact rfl
        | exact ⟨Nat.le_of_ble_eq_true rfl, rfl⟩
        | refine ⟨by decide, ?_⟩
  · rw [if_neg h]
    have f1 := cmp_ge h
    refine ⟨i, hi, ?_⟩
    refine AC.of_body TTok Tryz.func98 rfl (enter_of Tryz.func98 (by kernel_rfl) (by kernel_rfl)) (noid4 (.val _) (RA_noid _ _) (RA_noid _ _) (.val _)) (.tup _ (noid2 (RA_noid _ _) (.val _))) (Nat.le_of_ble_eq_true rfl) ?_
    generalize cmpQ a b = s at *
    unfold RA at *
    conv => whnf
    refine ⟨_, hC, ?_⟩
    conv => whnf
    refine caseb (fun h => Bool.noConfusion ((f1).symm.trans h)) (fun _ => ?_)
    repeat
      conv => whnf
      first
        | refine ⟨_, by assumption, ?_⟩
        | refine ⟨(Nat.le_of_ble_eq_true rfl), _, by assumption, ?_⟩
        | refine ⟨by kernel_rfl, ?_⟩
        | exact rfl
        | exact ⟨Nat.le_of_ble_eq_true rfl, rfl⟩
        | refine ⟨by decide, ?_⟩

theorem Rec8970 (a b : Rat) (i j : Nat) (most : Int) (hi : dn i = a.den) (hj : dn j = b.den) (hm : most ≤ 200) (la : Sz a 20) (lb : Sz b 20) : ∃ d, dn d = (reckonQ 8970 a b most).1.den ∧ AC Tryz.prog 98 [.val (.int .i32 8970), RA a.num i, RA b.num j, .val (.int .i64 most)] (.pure (.tup [RA (reckonQ 8970 a b most).1.num d, .val (.int .i64 (reckonQ 8970 a b most).2)])) := by
  rw [show reckonQ 8970 a b most = (if a < b then a else b, 0) from rfl]
  have hC := QCmp_ok a b i j hi hj (la.mono (by decide)) (lb.mono (by decide))
  by_cases h : a < b
  · rw [if_pos h]
    rw [cmp_lt h] at hC
    refine ⟨i, hi, ?_⟩
    refine AC.of_body TTok Tryz.func98 rfl (enter_of Tryz.func98 (by kernel_rfl) (by kernel_rfl)) (noid4 (.val _) (RA_noid _ _) (RA_noid _ _) (.val _)) (.tup _ (noid2 (RA_noid _ _) (.val _))) (Nat.le_of_ble_eq_true rfl) ?_
    unfold RA at *
    repeat
      conv => whnf
      first
        | refine ⟨_, by assumption, ?_⟩
        | refine ⟨(Nat.le_of_ble_eq_true rfl), _, by assumption, ?_⟩
        | refine ⟨by kernel_rfl, ?_⟩
        | exact rfl
        | exact ⟨Nat.le_of_ble_eq_true rfl, rfl⟩
        | refine ⟨by decide, ?_⟩
  · rw [if_neg h]
    by_cases he : a = b
    · have hC0 : cmpQ a b = 0 := cmpQ_eq.2 he
      rw [hC0] at hC
      refine ⟨i, by rw [hi, he], ?_⟩
      rw [show RA b.num i = RA a.num i by rw [he]]
      refine AC.of_body TTok Tryz.func98 rfl (enter_of Tryz.func98 (by kernel_rfl) (by kernel_rfl)) (noid4 (.val _) (RA_noid _ _) (RA_noid _ _) (.val _)) (.tup _ (noid2 (RA_noid _ _) (.val _))) (Nat.le_of_ble_eq_true rfl) ?_
      unfold RA at *
      repeat
        conv => whnf
        first
          | refine ⟨_, by assumption, ?_⟩
          | refine ⟨(Nat.le_of_ble_eq_true rfl), _, by assumption, ?_⟩
          | refine ⟨by kernel_rfl, ?_⟩
          | exact rfl
          | exact ⟨Nat.le_of_ble_eq_true rfl, rfl⟩
          | refine ⟨by decide, ?_⟩
    · have hC1 : cmpQ a b = 1 := by unfold cmpQ; rw [if_neg h, if_neg he]
      rw [hC1] at hC
      refine ⟨j, hj, ?_⟩
      refine AC.of_body TTok Tryz.func98 rfl (enter_of Tryz.func98 (by kernel_rfl) (by kernel_rfl)) (noid4 (.val _) (RA_noid _ _) (RA_noid _ _) (.val _)) (.tup _ (noid2 (RA_noid _ _) (.val _))) (Nat.le_of_ble_eq_true rfl) ?_
      unfold RA at *
      repeat
        conv => whnf
        first
          | refine ⟨_, by assumption, ?_⟩
          | refine ⟨(Nat.le_of_ble_eq_true rfl), _, by assumption, ?_⟩
          | refine ⟨by kernel_rfl, ?_⟩
          | exact rfl
          | exact ⟨Nat.le_of_ble_eq_true rfl, rfl⟩
          | refine ⟨by decide, ?_⟩

theorem Rec124 (a b : Rat) (i j : Nat) (most : Int) (hi : dn i = a.den) (hj : dn j = b.den) (hm : most ≤ 200) (la : Sz a 20) (lb : Sz b 20) : ∃ d, dn d = (reckonQ 124 a b most).1.den ∧ AC Tryz.prog 98 [.val (.int .i32 124), RA a.num i, RA b.num j, .val (.int .i64 most)] (.pure (.tup [RA (reckonQ 124 a b most).1.num d, .val (.int .i64 (reckonQ 124 a b most).2)])) := by
  rw [show reckonQ 124 a b most = (restQ a b, 0) from rfl]
  by_cases h : a = 0
  · have hR := Rest_zero b i j (by rw [hi, h]) hj (lb.mono (by decide))
    rw [← h] at hR
    rw [show restQ a b = b from if_pos h]
    refine ⟨j, hj, ?_⟩
    refine AC.of_body TTok Tryz.func98 rfl (enter_of Tryz.func98 (by kernel_rfl) (by kernel_rfl)) (noid4 (.val _) (RA_noid _ _) (RA_noid _ _) (.val _)) (.tup _ (noid2 (RA_noid _ _) (.val _))) (Nat.le_of_ble_eq_true rfl) ?_
    unfold RA at *
    repeat
      conv => whnf
      first
        | refine ⟨_, by assumption, ?_⟩
        | refine ⟨(Nat.le_of_ble_eq_true rfl), _, by assumption, ?_⟩
        | refine ⟨by kernel_rfl, ?_⟩
        | exact rfl
        | exact ⟨Nat.le_of_ble_eq_true rfl, rfl⟩
        | refine ⟨by decide, ?_⟩
  · have hR := Rest_ok a b i j h hi hj la lb
    refine ⟨_, dn_den _, ?_⟩
    refine AC.of_body TTok Tryz.func98 rfl (enter_of Tryz.func98 (by kernel_rfl) (by kernel_rfl)) (noid4 (.val _) (RA_noid _ _) (RA_noid _ _) (.val _)) (.tup _ (noid2 (RA_noid _ _) (.val _))) (Nat.le_of_ble_eq_true rfl) ?_
    revert hR
    generalize restQ a b = r
    intro hR
    unfold RA at *
    repeat
      conv => whnf
      first
        | refine ⟨_, by assumption, ?_⟩
        | refine ⟨(Nat.le_of_ble_eq_true rfl), _, by assumption, ?_⟩
        | refine ⟨by kernel_rfl, ?_⟩
        | exact rfl
        | exact ⟨Nat.le_of_ble_eq_true rfl, rfl⟩
        | refine ⟨by decide, ?_⟩

theorem Rec42 (a b : Rat) (i j : Nat) (most : Int) (hi : dn i = a.den) (hj : dn j = b.den) (hm : most ≤ 200) (la : Sz a 20) (lb : Sz b 20) : ∃ d, dn d = (reckonQ 42 a b most).1.den ∧ AC Tryz.prog 98 [.val (.int .i32 42), RA a.num i, RA b.num j, .val (.int .i64 most)] (.pure (.tup [RA (reckonQ 42 a b most).1.num d, .val (.int .i64 (reckonQ 42 a b most).2)])) := by
  rw [show reckonQ 42 a b most = powerQ a b most from rfl]
  obtain ⟨d, hd, hP⟩ := Power_ok a b i j most hi hj hm (la.mono (by decide))
  refine ⟨d, hd, ?_⟩
  refine AC.of_body TTok Tryz.func98 rfl (enter_of Tryz.func98 (by kernel_rfl) (by kernel_rfl)) (noid4 (.val _) (RA_noid _ _) (RA_noid _ _) (.val _)) (.tup _ (noid2 (RA_noid _ _) (.val _))) (Nat.le_of_ble_eq_true rfl) ?_
  revert hP
  generalize (powerQ a b most).1 = r
  generalize (powerQ a b most).2 = e
  intro hP
  unfold RA at *
  repeat
    conv => whnf
    first
      | refine ⟨_, by assumption, ?_⟩
      | refine ⟨(Nat.le_of_ble_eq_true rfl), _, by assumption, ?_⟩
      | refine ⟨by kernel_rfl, ?_⟩
      | exact rfl
      | exact ⟨Nat.le_of_ble_eq_true rfl, rfl⟩
      | refine ⟨by decide, ?_⟩

theorem Rec33 (a b : Rat) (i j : Nat) (most : Int) (hi : dn i = a.den) (hj : dn j = b.den) (hm : most ≤ 200) (la : Sz a 20) (lb : Sz b 20) : ∃ d, dn d = (reckonQ 33 a b most).1.den ∧ AC Tryz.prog 98 [.val (.int .i32 33), RA a.num i, RA b.num j, .val (.int .i64 most)] (.pure (.tup [RA (reckonQ 33 a b most).1.num d, .val (.int .i64 (reckonQ 33 a b most).2)])) := by
  rw [show reckonQ 33 a b most = chooseQ a b most from rfl]
  obtain ⟨d, hd, hP⟩ := Choose_ok a b i j most hi hj hm (la.mono (by decide)) (lb.mono (by decide))
  refine ⟨d, hd, ?_⟩
  refine AC.of_body TTok Tryz.func98 rfl (enter_of Tryz.func98 (by kernel_rfl) (by kernel_rfl)) (noid4 (.val _) (RA_noid _ _) (RA_noid _ _) (.val _)) (.tup _ (noid2 (RA_noid _ _) (.val _))) (Nat.le_of_ble_eq_true rfl) ?_
  revert hP
  generalize (chooseQ a b most).1 = r
  generalize (chooseQ a b most).2 = e
  intro hP
  unfold RA at *
  repeat
    conv => whnf
    first
      | refine ⟨_, by assumption, ?_⟩
      | refine ⟨(Nat.le_of_ble_eq_true rfl), _, by assumption, ?_⟩
      | refine ⟨by kernel_rfl, ?_⟩
      | exact rfl
      | exact ⟨Nat.le_of_ble_eq_true rfl, rfl⟩
      | refine ⟨by decide, ?_⟩

theorem Rec9055 (a b : Rat) (i j : Nat) (most : Int) (hi : dn i = a.den) (hj : dn j = b.den) (hm : most ≤ 200) (la : Sz a 20) (lb : Sz b 20) : ∃ d, dn d = (reckonQ 9055 a b most).1.den ∧ AC Tryz.prog 98 [.val (.int .i32 9055), RA a.num i, RA b.num j, .val (.int .i64 most)] (.pure (.tup [RA (reckonQ 9055 a b most).1.num d, .val (.int .i64 (reckonQ 9055 a b most).2)])) := by
  refine ⟨0, rfl, RZ22 ?_⟩
  refine AC.of_body TTok Tryz.func98 rfl (enter_of Tryz.func98 (by kernel_rfl) (by kernel_rfl)) (noid4 (.val _) (RA_noid _ _) (RA_noid _ _) (.val _)) (.tup _ (noid2 RZ_noid (.val _))) (Nat.le_of_ble_eq_true rfl) ?_
  unfold RZ
  repeat
    conv => whnf
    first
      | refine ⟨_, by assumption, ?_⟩
      | refine ⟨(Nat.le_of_ble_eq_true rfl), _, by assumption, ?_⟩
      | refine ⟨by kernel_rfl, ?_⟩
      | exact rfl
      | exact ⟨Nat.le_of_ble_eq_true rfl, rfl⟩
      | refine ⟨by decide, ?_⟩

theorem Rec9675 (a b : Rat) (i j : Nat) (most : Int) (hi : dn i = a.den) (hj : dn j = b.den) (hm : most ≤ 200) (la : Sz a 20) (lb : Sz b 20) : ∃ d, dn d = (reckonQ 9675 a b most).1.den ∧ AC Tryz.prog 98 [.val (.int .i32 9675), RA a.num i, RA b.num j, .val (.int .i64 most)] (.pure (.tup [RA (reckonQ 9675 a b most).1.num d, .val (.int .i64 (reckonQ 9675 a b most).2)])) := by
  refine ⟨0, rfl, RZ22 ?_⟩
  refine AC.of_body TTok Tryz.func98 rfl (enter_of Tryz.func98 (by kernel_rfl) (by kernel_rfl)) (noid4 (.val _) (RA_noid _ _) (RA_noid _ _) (.val _)) (.tup _ (noid2 RZ_noid (.val _))) (Nat.le_of_ble_eq_true rfl) ?_
  unfold RZ
  repeat
    conv => whnf
    first
      | refine ⟨_, by assumption, ?_⟩
      | refine ⟨(Nat.le_of_ble_eq_true rfl), _, by assumption, ?_⟩
      | refine ⟨by kernel_rfl, ?_⟩
      | exact rfl
      | exact ⟨Nat.le_of_ble_eq_true rfl, rfl⟩
      | refine ⟨by decide, ?_⟩

theorem Reckon_ok (a b : Rat) (i j : Nat) (most : Int) (hi : dn i = a.den) (hj : dn j = b.den) (hm : most ≤ 200) (la : Sz a 20) (lb : Sz b 20) (c : Int) (hc : isRec c) : ∃ d, dn d = (reckonQ c a b most).1.den ∧ AC Tryz.prog 98 [.val (.int .i32 c), RA a.num i, RA b.num j, .val (.int .i64 most)] (.pure (.tup [RA (reckonQ c a b most).1.num d, .val (.int .i64 (reckonQ c a b most).2)])) := by
  rcases hc with rfl | rfl | rfl | rfl | rfl | rfl | rfl | rfl | rfl | rfl | rfl
  · exact Rec43 a b i j most hi hj hm la lb
  · exact Rec45 a b i j most hi hj hm la lb
  · exact Rec215 a b i j most hi hj hm la lb
  · exact Rec247 a b i j most hi hj hm la lb
  · exact Rec8968 a b i j most hi hj hm la lb
  · exact Rec8970 a b i j most hi hj hm la lb
  · exact Rec124 a b i j most hi hj hm la lb
  · exact Rec42 a b i j most hi hj hm la lb
  · exact Rec33 a b i j most hi hj hm la lb
  · exact Rec9055 a b i j most hi hj hm la lb
  · exact Rec9675 a b i j most hi hj hm la lb

end Go.Proofs.YtclamnmpleiakaaGreat

/- Functions of two numbers: all of them. -/
set_option linter.unusedVariables false
namespace Go.Proofs.YtclamnmpleiakaaGreat
open Go Go.AL NM

/-- What a function makes of two numbers. -/
def twoQ (c : Int) (a b : Rat) (most : Int) : Rat × Int :=
  if isCmp c then (tq (cmpS c (cmpQ a b)), 0)
  else if isJdg c then judgeQ c a b
  else if ¬ isRec c then (0, 20)
  else if (reckonQ c a b most).2 ≠ 0 then (0, (reckonQ c a b most).2)
  else if most < (qLimbs (reckonQ c a b most).1.num (reckonQ c a b most).1.den : Nat) then (0, 26)
  else ((reckonQ c a b most).1, 0)

section
variable (c : Int) (a b : Rat) (i j : Nat) (most : Int) (hi : dn i = a.den) (hj : dn j = b.den) (hm : most ≤ 200) (la : Sz a 20) (lb : Sz b 20)
include hi hj hm la lb
theorem Two_ok : ∃ d, dn d = (twoQ c a b most).1.den ∧ AC Tryz.prog 52 [.val (.int .i32 c), RA a.num i, RA b.num j, .val (.int .i64 most)] (.pure (.tup [RA (twoQ c a b most).1.num d, .val (.int .i64 (twoQ c a b most).2)])) := by
  unfold twoQ
  have hC := compares_ok c
  have hJ := judges_ok c
  have hR := reckons_ok c
  by_cases h1 : isCmp c
  · rw [if_pos h1]
    rw [decide_eq_true h1] at hC
    have hQ := QCmp_ok a b i j hi hj (la.mono (by decide)) (lb.mono (by decide))
    have hS := Compare_ok c (cmpQ a b)
    have hT := truth_ok (cmpS c (cmpQ a b))
    refine ⟨_, td_dn _, ?_⟩
    refine AC.of_body TTok Tryz.func52 rfl (enter_of Tryz.func52 (by kernel_rfl) (by kernel_rfl)) (noid4 (.val _) (RA_noid _ _) (RA_noid _ _) (.val _)) (.tup _ (noid2 (RA_noid _ _) (.val _))) (Nat.le_of_ble_eq_true rfl) ?_
    revert hQ hS hT
    generalize cmpS c (cmpQ a b) = t
    generalize cmpQ a b = n
    intro hQ hS hT
    generalize td t = e at *
    generalize (tq t).num = f at *
    unfold RA at *
    repeat
      conv => whnf
      first
        | refine ⟨_, by assumption, ?_⟩
        | refine ⟨(Nat.le_of_ble_eq_true rfl), _, by assumption, ?_⟩
        | refine ⟨by kernel_rfl, ?_⟩
        | exact rfl
        | exact ⟨Nat.le_of_ble_eq_true rfl, rfl⟩
        | refine ⟨by decide, ?_⟩
  rw [if_neg h1]
  rw [decide_eq_false h1] at hC
  by_cases h2 : isJdg c
  · rw [if_pos h2]
    rw [decide_eq_true h2] at hJ
    obtain ⟨d, hd, hP⟩ := judge_ok c h2 a b i j hi hj (la.mono (by decide)) (lb.mono (by decide))
    refine ⟨d, hd, ?_⟩
    refine AC.of_body TTok Tryz.func52 rfl (enter_of Tryz.func52 (by kernel_rfl) (by kernel_rfl)) (noid4 (.val _) (RA_noid _ _) (RA_noid _ _) (.val _)) (.tup _ (noid2 (RA_noid _ _) (.val _))) (Nat.le_of_ble_eq_true rfl) ?_
    revert hP
    generalize (judgeQ c a b).1 = r
    generalize (judgeQ c a b).2 = e
    intro hP
    unfold RA at *
    repeat
      conv => whnf
      first
        | refine ⟨_, by assumption, ?_⟩
        | refine ⟨(Nat.le_of_ble_eq_true rfl), _, by assumption, ?_⟩
        | refine ⟨by kernel_rfl, ?_⟩
        | exact rfl
        | exact ⟨Nat.le_of_ble_eq_true rfl, rfl⟩
        | refine ⟨by decide, ?_⟩
  rw [if_neg h2]
  rw [decide_eq_false h2] at hJ
  by_cases h3 : isRec c
  rotate_left
  · rw [if_pos h3]
    rw [decide_eq_false h3] at hR
    refine ⟨0, rfl, RZ22 ?_⟩
    refine AC.of_body TTok Tryz.func52 rfl (enter_of Tryz.func52 (by kernel_rfl) (by kernel_rfl)) (noid4 (.val _) (RA_noid _ _) (RA_noid _ _) (.val _)) (.tup _ (noid2 RZ_noid (.val _))) (Nat.le_of_ble_eq_true rfl) ?_
    unfold RA RZ at *
    repeat
      conv => whnf
      first
        | refine ⟨_, by assumption, ?_⟩
        | refine ⟨(Nat.le_of_ble_eq_true rfl), _, by assumption, ?_⟩
        | refine ⟨by kernel_rfl, ?_⟩
        | exact rfl
        | exact ⟨Nat.le_of_ble_eq_true rfl, rfl⟩
        | refine ⟨by decide, ?_⟩
  rw [if_neg (fun h => h h3)]
  rw [decide_eq_true h3] at hR
  obtain ⟨d, hd, hP⟩ := Reckon_ok a b i j most hi hj hm la lb c h3
  have hL := QLimbs_ok (reckonQ c a b most).1.num d
  rw [hd] at hL
  revert hd hP hL
  generalize (reckonQ c a b most).1 = r
  generalize (reckonQ c a b most).2 = e
  intro hd hP hL
  by_cases he : e = 0
  rotate_left
  · rw [if_pos he]
    have f1 : (e == 0) = false := beq_false_of_ne he
    have f2 : (e != 0) = true := by rw [bne, f1]; rfl
    refine ⟨0, rfl, RZ22 ?_⟩
    refine AC.of_body TTok Tryz.func52 rfl (enter_of Tryz.func52 (by kernel_rfl) (by kernel_rfl)) (noid4 (.val _) (RA_noid _ _) (RA_noid _ _) (.val _)) (.tup _ (noid2 RZ_noid (.val _))) (Nat.le_of_ble_eq_true rfl) ?_
    unfold RA RZ at *
    conv => whnf
    refine ⟨_, hC, ?_⟩
    conv => whnf
    refine ⟨_, hJ, ?_⟩
    conv => whnf
    refine ⟨_, hR, ?_⟩
    conv => whnf
    refine ⟨_, hP, ?_⟩
    conv => whnf
    refine caseb (fun h => Bool.noConfusion ((f1).symm.trans h)) (fun _ => ?_)
    conv => whnf
    refine caseb (fun _ => ?_) (fun h => Bool.noConfusion ((f2).symm.trans h))
    repeat
      conv => whnf
      first
        | refine ⟨_, by assumption, ?_⟩
        | refine ⟨(Nat.le_of_ble_eq_true rfl), _, by assumption, ?_⟩
        | refine ⟨by kernel_rfl, ?_⟩
        | exact rfl
        | exact ⟨Nat.le_of_ble_eq_true rfl, rfl⟩
        | refine ⟨by decide, ?_⟩
  rw [if_neg (fun h => h he)]
  subst he
  by_cases hq : most < (qLimbs r.num r.den : Nat)
  · rw [if_pos hq]
    have f1 : decide (((qLimbs r.num r.den : Nat) : Int) > most) = true := decide_eq_true hq
    refine ⟨0, rfl, RZ22 ?_⟩
    refine AC.of_body TTok Tryz.func52 rfl (enter_of Tryz.func52 (by kernel_rfl) (by kernel_rfl)) (noid4 (.val _) (RA_noid _ _) (RA_noid _ _) (.val _)) (.tup _ (noid2 RZ_noid (.val _))) (Nat.le_of_ble_eq_true rfl) ?_
    generalize ((qLimbs r.num r.den : Nat) : Int) = n at *
    unfold RA RZ at *
    conv => whnf
    refine ⟨_, hC, ?_⟩
    conv => whnf
    refine ⟨_, hJ, ?_⟩
    conv => whnf
    refine ⟨_, hR, ?_⟩
    conv => whnf
    refine ⟨_, hP, ?_⟩
    conv => whnf
    refine ⟨_, hL, ?_⟩
    conv => whnf
    refine caseb (fun _ => ?_) (fun h => Bool.noConfusion ((f1).symm.trans h))
    repeat
      conv => whnf
      first
        | refine ⟨_, by assumption, ?_⟩
        | refine ⟨(Nat.le_of_ble_eq_true rfl), _, by assumption, ?_⟩
        | refine ⟨by kernel_rfl, ?_⟩
        | exact rfl
        | exact ⟨Nat.le_of_ble_eq_true rfl, rfl⟩
        | refine ⟨by decide, ?_⟩
  · rw [if_neg hq]
    have f1 : decide (((qLimbs r.num r.den : Nat) : Int) > most) = false := decide_eq_false hq
    refine ⟨d, hd, ?_⟩
    refine AC.of_body TTok Tryz.func52 rfl (enter_of Tryz.func52 (by kernel_rfl) (by kernel_rfl)) (noid4 (.val _) (RA_noid _ _) (RA_noid _ _) (.val _)) (.tup _ (noid2 (RA_noid _ _) (.val _))) (Nat.le_of_ble_eq_true rfl) ?_
    generalize ((qLimbs r.num r.den : Nat) : Int) = n at *
    unfold RA at *
    conv => whnf
    refine ⟨_, hC, ?_⟩
    conv => whnf
    refine ⟨_, hJ, ?_⟩
    conv => whnf
    refine ⟨_, hR, ?_⟩
    conv => whnf
    refine ⟨_, hP, ?_⟩
    conv => whnf
    refine ⟨_, hL, ?_⟩
    conv => whnf
    refine caseb (fun h => Bool.noConfusion ((f1).symm.trans h)) (fun _ => ?_)
    repeat
      conv => whnf
      first
        | refine ⟨_, by assumption, ?_⟩
        | refine ⟨(Nat.le_of_ble_eq_true rfl), _, by assumption, ?_⟩
        | refine ⟨by kernel_rfl, ?_⟩
        | exact rfl
        | exact ⟨Nat.le_of_ble_eq_true rfl, rfl⟩
        | refine ⟨by decide, ?_⟩
end
end Go.Proofs.YtclamnmpleiakaaGreat

/- Arrays: two of them, element by element: the shape that they make together (plain laws); elements (contracts). -/
set_option linter.unusedVariables false
namespace Go.Proofs.YtclamnmpleiakaaGreat
open Go Go.AL NM

theorem kinds_len {sh : List Int} {ch : Bool} {a b : Nat} (h : kinds sh ch a b) : ((a + b : Nat) : Int) = cntI sh ∧ (if ch then a else b) = a + b := by
  unfold kinds at h
  cases ch with
  | true =>
    have h : (a : Int) = cntI sh ∧ b = 0 := h
    exact ⟨by omega, by show a = a + b; omega⟩
  | false =>
    have h : (b : Int) = cntI sh ∧ a = 0 := h
    exact ⟨by omega, by show b = a + b; omega⟩
/-- An index of one of two arrays: the first one's alone, if it is one for all. -/
def ix (one : Bool) (i : Nat) : Nat := if one then 0 else i
theorem fit_idx {sa sb : List Int} {la lb : Nat} (ha : (la : Int) = cntI sa) (hb : (lb : Int) = cntI sb) (va : vS sa) (vb : vS sb) (he : (fitS sa sb la lb).2.2.2 = 0) :
    vS (fitS sa sb la lb).1 ∧ (cntI (fitS sa sb la lb).1 = la ∨ cntI (fitS sa sb la lb).1 = lb) ∧ ∀ i : Nat, (i : Int) < cntI (fitS sa sb la lb).1 → ix (fitS sa sb la lb).2.1 i < la ∧ ix (fitS sa sb la lb).2.2.1 i < lb := by
  unfold fitS at *
  by_cases hs : sa = sb
  · rw [if_pos hs] at he ⊢
    subst hs
    exact ⟨va, .inl ha.symm, fun i hi => ⟨by have hi : (i : Int) < cntI sa := hi; show i < la; omega, by have hi : (i : Int) < cntI sa := hi; show i < lb; omega⟩⟩
  · rw [if_neg hs] at he ⊢
    by_cases h1 : la = 1 ∧ (lb ≠ 1 ∨ sa.length < sb.length)
    · rw [if_pos h1] at he ⊢
      exact ⟨vb, .inr hb.symm, fun i hi => ⟨by show 0 < la; omega, by have hi : (i : Int) < cntI sb := hi; show i < lb; omega⟩⟩
    · rw [if_neg h1] at he ⊢
      by_cases h2 : lb = 1
      · rw [if_pos h2] at he ⊢
        exact ⟨va, .inl ha.symm, fun i hi => ⟨by have hi : (i : Int) < cntI sa := hi; show i < la; omega, by show 0 < lb; omega⟩⟩
      · rw [if_neg h2] at he
        split at he
        · exact absurd he (by decide)
        · exact absurd he (by decide)
theorem RatX_ok (sh : List Int) (ch : Bool) (tx : List Int) (qs : List Rat) (k : Nat) (hk : k < qs.length) (hb : qs.length ≤ 1000) : AC Tryz.prog 53 [AA sh ch tx (qs.map ofX) true, .val (.int .i64 (k : Int))] (.pure (RA (qs.getD k 0).num (qs.getD k 0).den)) := by
  have h := RatI_ok sh ch tx (qs.map ofX) true k (by rw [List.length_map]; exact hk) (by rw [List.length_map]; omega)
  rw [List.getElem_map] at h
  rw [List.getD_eq_getElem?_getD, List.getElem?_eq_getElem hk]
  exact h
theorem RuneX_ok (sh : List Int) (ch : Bool) (tx : List Int) (ns : List (Option (Rat × Nat))) (k : Nat) (hk : k < tx.length) (hb : tx.length ≤ 1000) : AC Tryz.prog 93 [AA sh ch tx ns true, .val (.int .i64 (k : Int))] (.pure (.val (.int .i32 (tx.getD k 0)))) := by
  have h := RuneI_ok sh ch tx ns true k hk (by omega)
  rw [List.getD_eq_getElem?_getD, List.getElem?_eq_getElem hk]
  exact h
theorem atX_ok (i : Nat) (one : Bool) : AC Tryz.prog 54 [.val (.int .i64 (i : Int)), .val (.bool one)] (.pure (.val (.int .i64 ((ix one i : Nat) : Int)))) := by
  have h := at_ok (i : Int) one
  cases one
  · exact h
  · exact h
/-- What two elements come to. -/
def elemF (c : Int) (ca cb : Bool) (ta tb : List Int) (qa qb : List Rat) (one two : Bool) (most : Int) (i : Nat) : Rat × Int :=
  if ca = true ∨ cb = true then
    if c = 61 ∨ c = 8800 then (if (ca && cb && decide (ta.getD (ix one i) 0 = tb.getD (ix two i) 0)) = decide (c = 61) then 1 else 0, 0) else (0, 22)
  else twoQ c (qa.getD (ix one i) 0) (qb.getD (ix two i) 0) most
end Go.Proofs.YtclamnmpleiakaaGreat

/- Arrays: a function of two, element by element: numbers (the program's contract). -/
set_option linter.unusedVariables false
namespace Go.Proofs.YtclamnmpleiakaaGreat
open Go Go.AL NM

theorem rep_drop {α : Type} (x : α) (n i : Nat) (h : i < n) : (List.replicate (n - i) x) = x :: List.replicate (n - (i + 1)) x := by
  rw [show n - i = (n - (i + 1)) + 1 by omega, List.replicate_succ]

theorem rowsM_noid (l : List (Option (Rat × Nat))) (k : Nat) : ∀ r ∈ l.map rowX ++ List.replicate k (rowX none), ∀ x ∈ r, NoId x := by
  intro r hr
  rcases List.mem_append.1 hr with h | h
  · exact rowsX_noid l r h
  · refine rowsX_noid [none] r ?_
    rw [(List.mem_replicate.1 h).2]
    exact List.mem_singleton.2 rfl

theorem Two_loop (c : Int) (hc : isTwo c) (sa sb : List Int) (ta tb : List Int) (qa qb : List Rat) (most : Int) (s : List Int) (one two : Bool) (n : Nat) (hn : n ≤ 1000) (hv : vS s) (hcn : cntI s = (n : Int))
    (hfit : AC Tryz.prog 21 [AA sa false ta (qa.map ofX) true, AA sb false tb (qb.map ofX) true] (.pure (FV (s, one, two, 0))))
    (hix : ∀ i : Nat, i < n → ix one i < qa.length ∧ ix two i < qb.length) (la : qa.length ≤ 1000) (lb : qb.length ≤ 1000)
    (D : Nat → Nat) (f : Nat → Rat × Int)
    (hD : ∀ i < n, dn (D i) = (f i).1.den ∧ AC Tryz.prog 52 [.val (.int .i32 c), RA (qa.getD (ix one i) 0).num (qa.getD (ix one i) 0).den, RA (qb.getD (ix two i) 0).num (qb.getD (ix two i) 0).den, .val (.int .i64 most)] (.pure (.tup [RA (f i).1.num (D i), .val (.int .i64 (f i).2)])))
    (E : Int) (hE : E = firstE ((List.range n).map f)) :
    AC Tryz.prog 18 [.val (.int .i32 c), AA sa false ta (qa.map ofX) true, AA sb false tb (qb.map ofX) true, .val (.int .i64 most)] (.pure (if E = 0 then .tup [AA s false [] ((List.range n).map fun i => some ((f i).1, D i)) true, .val (.int .i64 0)] else .tup [AZ, .val (.int .i64 E)])) := by
  have hH := Has_ok c
  rw [decide_eq_true hc] at hH
  have hIa := IsChar_ok sa false ta (qa.map ofX) true
  have hIb := IsChar_ok sb false tb (qb.map ofX) true
  have hC := Count_ok s (by have := hv.1; omega)
  rw [CNT_good hv, hcn] at hC
  obtain ⟨Y, hY⟩ : ∃ Y : List (Option (Rat × Nat)), Y = (List.range n).map fun i => some ((f i).1, D i) := ⟨_, rfl⟩
  rw [← hY]
  have l1 : Y.length = n := by rw [hY, List.length_map, List.length_range]
  have hYi : ∀ i (h : i < n), Y[i]'(by omega) = some ((f i).1, D i) := fun i h => by subst hY; rw [List.getElem_map, List.getElem_range]
  have hN := Nums_ok s Y hv (by rw [l1]; exact hcn) (by omega)
  obtain ⟨res, hres⟩ : ∃ res : AV, res = if E = 0 then .tup [AA s false [] Y true, .val (.int .i64 0)] else .tup [AZ, .val (.int .i64 E)] := ⟨_, rfl⟩
  rw [← hres]
  have hnr : NoId res := by
    rw [hres]; split
    · exact .tup _ (noid2 (AA_noid _ _ _ _ _) (.val _))
    · exact AZt_noid _
  refine AC.of_body TTok Tryz.func18 rfl (enter_of Tryz.func18 (by kernel_rfl) (by kernel_rfl)) (noidF (.val _) (AA_noid _ _ _ _ _) (AA_noid _ _ _ _ _) (.val _)) hnr (Nat.le_of_ble_eq_true rfl) ?_
  have lrep : ∀ k, (List.replicate k (rowX none)).length = k := fun k => List.length_replicate
  have hA1 : ∀ i < n, AC Tryz.prog 53 [AA sa false ta (qa.map ofX) true, .val (.int .i64 ((ix one i : Nat) : Int))] (.pure (RA (qa.getD (ix one i) 0).num (qa.getD (ix one i) 0).den)) := fun i hi => RatX_ok sa false ta qa _ (hix i hi).1 la
  have hB1 : ∀ i < n, AC Tryz.prog 53 [AA sb false tb (qb.map ofX) true, .val (.int .i64 ((ix two i : Nat) : Int))] (.pure (RA (qb.getD (ix two i) 0).num (qb.getD (ix two i) 0).den)) := fun i hi => RatX_ok sb false tb qb _ (hix i hi).2 lb
  unfold FV AA at hfit
  unfold AA at hIa hIb hA1 hB1 ⊢
  have start : ∀ (P : Prop), P → P := fun _ h => h
  by_cases hn0 : n = 0
  · subst hn0
    have hY0 : Y = [] := List.length_eq_zero_iff.1 l1
    have hE0 : E = 0 := by rw [hE]; rfl
    rw [if_pos hE0] at hres
    subst hres
    rw [hY0] at hN ⊢
    conv => whnf
    refine ⟨_, hH, ?_⟩
    conv => whnf
    refine ⟨_, hfit, ?_⟩
    conv => whnf
    refine ⟨_, hC, ?_⟩
    conv => whnf
    refine ⟨by decide, ?_⟩
    conv => whnf
    refine SW.loopM TTok (fun _ : Unit => [(8, .lp 16 0), (10, .sl 1 (irows .i64 s) false), (16, .own 312 0 0), (65, .val (.int .i64 0)), (66, .val (.int .i64 0))]) (fun _ => [(16, .cells 5 [[.sl 0 [] true, .val (.bool false), .sl 0 [] true, .sl 0 [] true, .val (.bool false)]]), (312, .cells 3 [])]) 352 101 rfl (fun _ => 0) (fun _ => True) () [] trivial
      ⟨⟨rfl, rfl⟩, ⟨rfl, rfl⟩, ⟨rfl, rfl⟩, ⟨rfl, rfl⟩, ⟨rfl, rfl⟩, trivial⟩ ⟨⟨rfl, .inr ⟨rfl, rfl⟩⟩, ⟨rfl, .inr ⟨rfl, rfl⟩⟩, trivial⟩ rfl ?_
    intro _ _
    unfold AA at hN ⊢
    conv => whnf
    refine ⟨Nat.le_refl _, _, hN, ?_⟩
    repeat
      conv => whnf
      first
        | refine ⟨_, by assumption, ?_⟩
        | refine ⟨(Nat.le_of_ble_eq_true rfl), _, by assumption, ?_⟩
        | refine ⟨by kernel_rfl, ?_⟩
        | exact rfl
        | exact ⟨Nat.le_of_ble_eq_true rfl, rfl⟩
        | refine ⟨by decide, ?_⟩
  · conv => whnf
    refine ⟨_, hH, ?_⟩
    conv => whnf
    refine ⟨_, hfit, ?_⟩
    conv => whnf
    refine ⟨_, hC, ?_⟩
    conv => whnf
    first
      | refine caseb (fun _ => ?_) (fun h => absurd (of_decide_eq_false h) (by omega))
      | refine caseb (fun h => absurd (of_decide_eq_true h) (by omega)) (fun _ => ?_)
      | refine caseb (fun _ => ?_) (fun h => absurd (beq_eq_false_iff_ne.1 h) (by omega))
      | refine caseb (fun h => absurd (eq_of_beq h) (by omega)) (fun _ => ?_)
    conv => whnf
    refine ⟨_, hIa, ?_⟩
    conv => whnf
    refine ⟨_, hIb, ?_⟩
    conv => whnf
    refine ⟨by show 0 ≤ (n:Int) ∧ (n:Int) ≤ n ∧ (n:Int) * 56 ≤ 140737488355328; omega, ?_⟩
    conv => whnf
    refine SW.loopM TTok (fun i : Nat => [(0, .val (.int .i32 c)), (3, .val (.int .i64 most)), (5, .lp 0 0), (6, .lp 8 0), (8, .lp 16 0), (10, .sl 1 (irows .i64 s) false), (11, .val (.bool one)), (12, .val (.bool two)), (16, .own 312 0 n), (65, .val (.int .i64 (n : Int))), (66, .val (.int .i64 (i : Int)))])
      (fun i => [(0, .cells 5 [[.sl 1 (irows .i64 sa) false, .val (.bool false), .sl 1 (irows .i32 ta) false, .sl 3 ((qa.map ofX).map rowX) false, .val (.bool true)]]), (8, .cells 5 [[.sl 1 (irows .i64 sb) false, .val (.bool false), .sl 1 (irows .i32 tb) false, .sl 3 ((qb.map ofX).map rowX) false, .val (.bool true)]]), (16, .cells 5 [[.sl 0 [] true, .val (.bool false), .sl 0 [] true, .sl 0 [] true, .val (.bool false)]]), (312, .cells 3 ((Y.take i).map rowX ++ List.replicate (n - i) (rowX none)))]) 352 101 rfl (fun i => n - i) (fun i => i ≤ n ∧ ∀ j < i, (f j).2 = 0) 0 [] ⟨Nat.zero_le _, fun x hx => absurd hx (Nat.not_lt_zero _)⟩
      ⟨⟨rfl, rfl⟩, ⟨rfl, rfl⟩, ⟨rfl, rfl⟩, ⟨rfl, rfl⟩, ⟨rfl, rfl⟩, ⟨rfl, rfl⟩, ⟨rfl, rfl⟩, ⟨rfl, rfl⟩, ⟨rfl, rfl⟩, ⟨rfl, rfl⟩, ⟨rfl, rfl⟩, trivial⟩ ⟨⟨rfl, .inr ⟨rfl, rfl⟩⟩, ⟨rfl, .inr ⟨rfl, rfl⟩⟩, ⟨rfl, .inr ⟨rfl, rfl⟩⟩, ⟨rfl, .inl ⟨rfl, rowsM_noid _ _⟩⟩, trivial⟩ rfl ?_
    intro i hJ
    have hi : i ≤ n := hJ.1
    have hz : ∀ j < i, (f j).2 = 0 := hJ.2
    clear hJ
    have ltk : ((Y.take i).map rowX).length = i := by rw [List.length_map, List.length_take]; omega
    have lr : ((Y.take i).map rowX ++ List.replicate (n - i) (rowX none)).length = n := by
      rw [List.length_append, ltk, List.length_replicate]; omega
    by_cases hlt : i < n
    · have eI : IntKind.i64.wrap ((i : Int) + 1) = ((i + 1 : Nat) : Int) := by rw [IntWalk.i64_in _ (by omega)]; omega
      have hA := hA1 i hlt
      have hB := hB1 i hlt
      have hta := atX_ok i one
      have htb := atX_ok i two
      obtain ⟨d1, d2⟩ := hD i hlt
      have hset : ((Y.take i).map rowX ++ List.replicate (n - i) (rowX none)).set i (rowX (some ((f i).1, D i))) = (Y.take (i + 1)).map rowX ++ List.replicate (n - (i + 1)) (rowX none) := by
        rw [rep_drop _ n i hlt, take_snoc (show i < Y.length by omega), hYi i hlt]
        have := set_mid ((Y.take i).map rowX) (rowX none) (rowX (some ((f i).1, D i))) (List.replicate (n - (i + 1)) (rowX none))
        rw [ltk] at this
        rw [this]; simp
      by_cases he : (f i).2 = 0
      · rw [he] at d2
        unfold RA at d2 hA hB
        conv => whnf
        first
          | refine caseb (fun _ => ?_) (fun h => absurd (of_decide_eq_false h) (by omega))
          | refine caseb (fun h => absurd (of_decide_eq_true h) (by omega)) (fun _ => ?_)
          | refine caseb (fun _ => ?_) (fun h => absurd (beq_eq_false_iff_ne.1 h) (by omega))
          | refine caseb (fun h => absurd (eq_of_beq h) (by omega)) (fun _ => ?_)
        conv => whnf
        refine ⟨_, hta, ?_⟩
        conv => whnf
        refine ⟨_, hA, ?_⟩
        conv => whnf
        refine ⟨_, htb, ?_⟩
        conv => whnf
        refine ⟨_, hB, ?_⟩
        conv => whnf
        refine ⟨_, d2, ?_⟩
        conv => whnf
        refine ⟨by kernel_rfl, ?_⟩
        conv => whnf
        refine ⟨by omega, ?_⟩
        conv => whnf
        refine ⟨by rw [Nat.zero_add, Int.toNat_natCast]; omega, ?_⟩
        conv => whnf
        refine ⟨i + 1, [], (by show n - (i + 1) < n - i; omega), ⟨hlt, fun j hj => ?_⟩, ⟨⟨rfl, rfl⟩, ⟨rfl, rfl⟩, ⟨rfl, rfl⟩, ⟨rfl, rfl⟩, ⟨rfl, rfl⟩, ⟨rfl, rfl⟩, ⟨rfl, rfl⟩, ⟨rfl, rfl⟩, ⟨rfl, rfl⟩, ⟨rfl, rfl⟩, ⟨valI eI, rfl⟩, trivial⟩, ⟨⟨rfl, .inr ⟨rfl, rfl⟩⟩, ⟨rfl, .inr ⟨rfl, rfl⟩⟩, ⟨rfl, .inr ⟨rfl, rfl⟩⟩, ⟨rfl, .inl ⟨celE ?_, rowsM_noid _ _⟩⟩, trivial⟩, rfl⟩
        · by_cases hji : j = i
          · rw [hji]; exact he
          · exact hz j (by omega)
        · rw [← hset]
          show List.set _ (0 + (i : Int).toNat) _ = _
          rw [Nat.zero_add, Int.toNat_natCast]
          rfl
      · have hEe : E = (f i).2 := by
          rw [hE]
          have := firstE_at (l := (List.range n).map f) (i := i) (by rw [List.length_map, List.length_range]; exact hlt) (fun x hx => by
            rw [← List.map_take] at hx
            obtain ⟨q, hq, rfl⟩ := List.mem_map.1 hx
            refine hz q ?_
            rw [List.take_range] at hq
            have := List.mem_range.1 hq
            omega) (by rw [List.getElem_map, List.getElem_range]; exact he)
          rw [this, List.getElem_map, List.getElem_range]
        rw [if_neg (by rw [hEe]; exact he), hEe] at hres
        subst hres
        unfold RA at d2 hA hB
        conv => whnf
        first
          | refine caseb (fun _ => ?_) (fun h => absurd (of_decide_eq_false h) (by omega))
          | refine caseb (fun h => absurd (of_decide_eq_true h) (by omega)) (fun _ => ?_)
          | refine caseb (fun _ => ?_) (fun h => absurd (beq_eq_false_iff_ne.1 h) (by omega))
          | refine caseb (fun h => absurd (eq_of_beq h) (by omega)) (fun _ => ?_)
        conv => whnf
        refine ⟨_, hta, ?_⟩
        conv => whnf
        refine ⟨_, hA, ?_⟩
        conv => whnf
        refine ⟨_, htb, ?_⟩
        conv => whnf
        refine ⟨_, hB, ?_⟩
        conv => whnf
        refine ⟨_, d2, ?_⟩
        conv => whnf
        refine ⟨by kernel_rfl, ?_⟩
        conv => whnf
        first
          | refine caseb (fun h => absurd (bne_iff_ne.1 h) (by omega)) (fun _ => ?_)
          | refine caseb (fun _ => ?_) (fun h => absurd (bne_eq_false_iff_eq.1 h) (by omega))
        repeat
          conv => whnf
          first
            | refine ⟨_, by assumption, ?_⟩
            | refine ⟨(Nat.le_of_ble_eq_true rfl), _, by assumption, ?_⟩
            | refine ⟨by kernel_rfl, ?_⟩
            | exact rfl
            | exact ⟨Nat.le_of_ble_eq_true rfl, rfl⟩
            | refine ⟨by decide, ?_⟩
    · have hie : i = n := by omega
      have hE0 : E = 0 := by
        rw [hE]
        refine firstE_zero (fun x hx => ?_)
        obtain ⟨q, hq, rfl⟩ := List.mem_map.1 hx
        exact hz q (by have := List.mem_range.1 hq; omega)
      rw [if_pos hE0] at hres
      subst hres
      have e1 : (Y.take i).map rowX ++ List.replicate (n - i) (rowX none) = Y.map rowX := by
        rw [hie, List.take_of_length_le (by omega), Nat.sub_self, List.replicate_zero, List.append_nil]
      rw [e1]
      have key : List.take n (List.drop 0 (Y.map rowX)) = Y.map rowX := by rw [List.drop_zero, List.take_of_length_le (by rw [List.length_map]; omega)]
      conv => whnf
      first
        | refine caseb (fun _ => ?_) (fun h => absurd (of_decide_eq_false h) (by omega))
        | refine caseb (fun h => absurd (of_decide_eq_true h) (by omega)) (fun _ => ?_)
        | refine caseb (fun _ => ?_) (fun h => absurd (beq_eq_false_iff_ne.1 h) (by omega))
        | refine caseb (fun h => absurd (eq_of_beq h) (by omega)) (fun _ => ?_)
      conv => whnf
      rw [key]
      have lY : (Y.map rowX).length = n := by rw [List.length_map]; exact l1
      unfold AA at *
      refine ⟨by show 0 + n ≤ (Y.map rowX).length; omega, _, hN, ?_⟩
      repeat
        conv => whnf
        first
          | refine ⟨_, by assumption, ?_⟩
          | refine ⟨(Nat.le_of_ble_eq_true rfl), _, by assumption, ?_⟩
          | refine ⟨by kernel_rfl, ?_⟩
          | exact rfl
          | exact ⟨Nat.le_of_ble_eq_true rfl, rfl⟩
          | refine ⟨by decide, ?_⟩
end Go.Proofs.YtclamnmpleiakaaGreat

/- Arrays: characters compared, element by element (the program's contract). -/
set_option linter.unusedVariables false
namespace Go.Proofs.YtclamnmpleiakaaGreat
open Go Go.AL NM

/-- Whether two elements are the same character. -/
def smE (ca cb : Bool) (ta tb : List Int) (one two : Bool) (i : Nat) : Bool := ca && cb && decide (ta.getD (ix one i) 0 = tb.getD (ix two i) 0)
def chE (c : Int) (ca cb : Bool) (ta tb : List Int) (one two : Bool) (i : Nat) : Option (Rat × Nat) := if smE ca cb ta tb one two i = decide (c = 61) then some (1, 1) else none
theorem noid6 {a b c d e f : AV} (h1 : NoId a) (h2 : NoId b) (h3 : NoId c) (h4 : NoId d) (h5 : NoId e) (h6 : NoId f) : ∀ x ∈ [a, b, c, d, e, f], NoId x := by
  intro x hx
  simp only [List.mem_cons, List.not_mem_nil, or_false] at hx
  rcases hx with rfl | rfl | rfl | rfl | rfl | rfl <;> assumption

theorem chars_61 (sa sb : List Int) (ca cb : Bool) (ta tb : List Int) (na nb : List (Option (Rat × Nat))) (s : List Int) (one two : Bool) (n : Nat) (hn : n ≤ 5000) (hv : vS s) (hcn : cntI s = (n : Int))
    (hix : ∀ i : Nat, i < n → (ca = true → ix one i < ta.length) ∧ (cb = true → ix two i < tb.length)) (la : ta.length ≤ 1000) (lb : tb.length ≤ 1000) :
    AC Tryz.prog 51 [.val (.int .i32 61), AA sa ca ta na true, AA sb cb tb nb true, .sl 1 (irows .i64 s) false, .val (.bool one), .val (.bool two)] (.pure (.tup [AA s false [] ((List.range n).map (chE 61 ca cb ta tb one two)) true, .val (.int .i64 0)])) := by
  have hIa := IsChar_ok sa ca ta na true
  have hIb := IsChar_ok sb cb tb nb true
  have hC := Count_ok s (by have := hv.1; omega)
  rw [CNT_good hv, hcn] at hC
  obtain ⟨Y, hY⟩ : ∃ Y : List (Option (Rat × Nat)), Y = (List.range n).map (chE 61 ca cb ta tb one two) := ⟨_, rfl⟩
  rw [← hY]
  have l1 : Y.length = n := by rw [hY, List.length_map, List.length_range]
  have hYi : ∀ i (h : i < n), Y[i]'(by omega) = chE 61 ca cb ta tb one two i := fun i h => by subst hY; rw [List.getElem_map, List.getElem_range]
  have hN := Nums_ok s Y hv (by rw [l1]; exact hcn) (by omega)
  have hF := RatFrom_ok 1 (by decide)
  refine AC.of_body TTok Tryz.func51 rfl (enter_of Tryz.func51 (by kernel_rfl) (by kernel_rfl)) (noid6 (.val _) (AA_noid _ _ _ _ _) (AA_noid _ _ _ _ _) (noid_sl _ _ _) (.val _) (.val _)) (.tup _ (noid2 (AA_noid _ _ _ _ _) (.val _))) (Nat.le_of_ble_eq_true rfl) ?_
  have hA1 : ∀ i < n, ca = true → AC Tryz.prog 93 [AA sa ca ta na true, .val (.int .i64 ((ix one i : Nat) : Int))] (.pure (.val (.int .i32 (ta.getD (ix one i) 0)))) := fun i hi h => RuneX_ok sa ca ta na _ ((hix i hi).1 h) la
  have hB1 : ∀ i < n, cb = true → AC Tryz.prog 93 [AA sb cb tb nb true, .val (.int .i64 ((ix two i : Nat) : Int))] (.pure (.val (.int .i32 (tb.getD (ix two i) 0)))) := fun i hi h => RuneX_ok sb cb tb nb _ ((hix i hi).2 h) lb
  have u1 : AA sa ca ta na true = .agg [.sl 1 (irows .i64 sa) false, .val (.bool ca), .sl 1 (irows .i32 ta) false, .sl 3 (na.map rowX) false, .val (.bool true)] := rfl
  have u2 : AA sb cb tb nb true = .agg [.sl 1 (irows .i64 sb) false, .val (.bool cb), .sl 1 (irows .i32 tb) false, .sl 3 (nb.map rowX) false, .val (.bool true)] := rfl
  rw [u1] at hIa hA1 ⊢
  rw [u2] at hIb hB1 ⊢
  unfold RA at hF
  conv => whnf
  refine ⟨_, hC, ?_⟩
  conv => whnf
  refine ⟨by show 0 ≤ (n:Int) ∧ (n:Int) ≤ n ∧ (n:Int) * 56 ≤ 140737488355328; omega, ?_⟩
  conv => whnf
  refine SW.loopM TTok (fun i : Nat => [(0, .val (.int .i32 61)), (3, .sl 1 (irows .i64 s) false), (4, .val (.bool one)), (5, .val (.bool two)), (7, .lp 0 0), (8, .lp 8 0), (12, .lp 16 0), (16, .own 144 0 n), (36, .val (.int .i64 (n : Int))), (37, .val (.int .i64 (i : Int)))])
      (fun i => [(0, .cells 5 [[.sl 1 (irows .i64 sa) false, .val (.bool ca), .sl 1 (irows .i32 ta) false, .sl 3 (na.map rowX) false, .val (.bool true)]]), (8, .cells 5 [[.sl 1 (irows .i64 sb) false, .val (.bool cb), .sl 1 (irows .i32 tb) false, .sl 3 (nb.map rowX) false, .val (.bool true)]]), (16, .cells 5 [[.sl 0 [] true, .val (.bool false), .sl 0 [] true, .sl 0 [] true, .val (.bool false)]]), (144, .cells 3 ((Y.take i).map rowX ++ List.replicate (n - i) (rowX none)))]) 184 75 rfl (fun i => n - i) (fun i => i ≤ n) 0 [] (Nat.zero_le _)
      ⟨⟨rfl, rfl⟩, ⟨rfl, rfl⟩, ⟨rfl, rfl⟩, ⟨rfl, rfl⟩, ⟨rfl, rfl⟩, ⟨rfl, rfl⟩, ⟨rfl, rfl⟩, ⟨rfl, rfl⟩, ⟨rfl, rfl⟩, ⟨rfl, rfl⟩, trivial⟩ ⟨⟨rfl, .inr ⟨rfl, rfl⟩⟩, ⟨rfl, .inr ⟨rfl, rfl⟩⟩, ⟨rfl, .inr ⟨rfl, rfl⟩⟩, ⟨rfl, .inl ⟨rfl, rowsM_noid _ _⟩⟩, trivial⟩ rfl ?_
  intro i hJ
  have hi : i ≤ n := hJ
  clear hJ
  have ltk : ((Y.take i).map rowX).length = i := by rw [List.length_map, List.length_take]; omega
  have lr : ((Y.take i).map rowX ++ List.replicate (n - i) (rowX none)).length = n := by
    rw [List.length_append, ltk, List.length_replicate]; omega
  by_cases hlt : i < n
  · have eI : IntKind.i64.wrap ((i : Int) + 1) = ((i + 1 : Nat) : Int) := by rw [IntWalk.i64_in _ (by omega)]; omega
    have hA := hA1 i hlt
    have hB := hB1 i hlt
    have hta := atX_ok i one
    have htb := atX_ok i two
    have hset : ∀ o, chE 61 ca cb ta tb one two i = o → ((Y.take i).map rowX ++ List.replicate (n - i) (rowX none)).set i (rowX o) = (Y.take (i + 1)).map rowX ++ List.replicate (n - (i + 1)) (rowX none) := fun o ho => by
      rw [rep_drop _ n i hlt, take_snoc (show i < Y.length by omega), hYi i hlt, ho]
      have := set_mid ((Y.take i).map rowX) (rowX none) (rowX o) (List.replicate (n - (i + 1)) (rowX none))
      rw [ltk] at this
      rw [this]; simp
    have hstay : chE 61 ca cb ta tb one two i = none → (Y.take i).map rowX ++ List.replicate (n - i) (rowX none) = (Y.take (i + 1)).map rowX ++ List.replicate (n - (i + 1)) (rowX none) := fun ho => by
      rw [rep_drop _ n i hlt, take_snoc (show i < Y.length by omega), hYi i hlt, ho]; simp
    obtain ⟨x, hx⟩ : ∃ x, x = ta.getD (ix one i) 0 := ⟨_, rfl⟩
    obtain ⟨y, hy⟩ : ∃ y, y = tb.getD (ix two i) 0 := ⟨_, rfl⟩
    rw [← hx] at hA
    rw [← hy] at hB
    cases ca
    · cases cb
      · conv => whnf
        first
          | refine caseb (fun _ => ?_) (fun h => absurd (of_decide_eq_false h) (by omega))
          | refine caseb (fun h => absurd (of_decide_eq_true h) (by omega)) (fun _ => ?_)
          | refine caseb (fun _ => ?_) (fun h => absurd (beq_eq_false_iff_ne.1 h) (by omega))
          | refine caseb (fun h => absurd (eq_of_beq h) (by omega)) (fun _ => ?_)
        conv => whnf
        refine ⟨_, hIa, ?_⟩
        conv => whnf
        refine ⟨by kernel_rfl, ?_⟩
        conv => whnf
        refine ⟨i + 1, [], (by show n - (i + 1) < n - i; omega), hlt, ⟨⟨rfl, rfl⟩, ⟨rfl, rfl⟩, ⟨rfl, rfl⟩, ⟨rfl, rfl⟩, ⟨rfl, rfl⟩, ⟨rfl, rfl⟩, ⟨rfl, rfl⟩, ⟨rfl, rfl⟩, ⟨rfl, rfl⟩, ⟨valI eI, rfl⟩, trivial⟩, ⟨⟨rfl, .inr ⟨rfl, rfl⟩⟩, ⟨rfl, .inr ⟨rfl, rfl⟩⟩, ⟨rfl, .inr ⟨rfl, rfl⟩⟩, ⟨rfl, .inl ⟨celE ?_, rowsM_noid _ _⟩⟩, trivial⟩, rfl⟩
        exact hstay (by unfold chE smE; simp)
      · conv => whnf
        first
          | refine caseb (fun _ => ?_) (fun h => absurd (of_decide_eq_false h) (by omega))
          | refine caseb (fun h => absurd (of_decide_eq_true h) (by omega)) (fun _ => ?_)
          | refine caseb (fun _ => ?_) (fun h => absurd (beq_eq_false_iff_ne.1 h) (by omega))
          | refine caseb (fun h => absurd (eq_of_beq h) (by omega)) (fun _ => ?_)
        conv => whnf
        refine ⟨_, hIa, ?_⟩
        conv => whnf
        refine ⟨by kernel_rfl, ?_⟩
        conv => whnf
        refine ⟨i + 1, [], (by show n - (i + 1) < n - i; omega), hlt, ⟨⟨rfl, rfl⟩, ⟨rfl, rfl⟩, ⟨rfl, rfl⟩, ⟨rfl, rfl⟩, ⟨rfl, rfl⟩, ⟨rfl, rfl⟩, ⟨rfl, rfl⟩, ⟨rfl, rfl⟩, ⟨rfl, rfl⟩, ⟨valI eI, rfl⟩, trivial⟩, ⟨⟨rfl, .inr ⟨rfl, rfl⟩⟩, ⟨rfl, .inr ⟨rfl, rfl⟩⟩, ⟨rfl, .inr ⟨rfl, rfl⟩⟩, ⟨rfl, .inl ⟨celE ?_, rowsM_noid _ _⟩⟩, trivial⟩, rfl⟩
        exact hstay (by unfold chE smE; simp)
    · cases cb
      · conv => whnf
        first
          | refine caseb (fun _ => ?_) (fun h => absurd (of_decide_eq_false h) (by omega))
          | refine caseb (fun h => absurd (of_decide_eq_true h) (by omega)) (fun _ => ?_)
          | refine caseb (fun _ => ?_) (fun h => absurd (beq_eq_false_iff_ne.1 h) (by omega))
          | refine caseb (fun h => absurd (eq_of_beq h) (by omega)) (fun _ => ?_)
        conv => whnf
        refine ⟨_, hIa, ?_⟩
        conv => whnf
        refine ⟨_, hIb, ?_⟩
        conv => whnf
        refine ⟨by kernel_rfl, ?_⟩
        conv => whnf
        refine ⟨i + 1, [], (by show n - (i + 1) < n - i; omega), hlt, ⟨⟨rfl, rfl⟩, ⟨rfl, rfl⟩, ⟨rfl, rfl⟩, ⟨rfl, rfl⟩, ⟨rfl, rfl⟩, ⟨rfl, rfl⟩, ⟨rfl, rfl⟩, ⟨rfl, rfl⟩, ⟨rfl, rfl⟩, ⟨valI eI, rfl⟩, trivial⟩, ⟨⟨rfl, .inr ⟨rfl, rfl⟩⟩, ⟨rfl, .inr ⟨rfl, rfl⟩⟩, ⟨rfl, .inr ⟨rfl, rfl⟩⟩, ⟨rfl, .inl ⟨celE ?_, rowsM_noid _ _⟩⟩, trivial⟩, rfl⟩
        exact hstay (by unfold chE smE; simp)
      · replace hA := hA rfl
        replace hB := hB rfl
        by_cases hxy : x = y
        · have hs : ((x == y) == true) = true := by simp [hxy]
          conv => whnf
          first
            | refine caseb (fun _ => ?_) (fun h => absurd (of_decide_eq_false h) (by omega))
            | refine caseb (fun h => absurd (of_decide_eq_true h) (by omega)) (fun _ => ?_)
            | refine caseb (fun _ => ?_) (fun h => absurd (beq_eq_false_iff_ne.1 h) (by omega))
            | refine caseb (fun h => absurd (eq_of_beq h) (by omega)) (fun _ => ?_)
          conv => whnf
          refine ⟨_, hIa, ?_⟩
          conv => whnf
          refine ⟨_, hIb, ?_⟩
          conv => whnf
          refine ⟨_, hta, ?_⟩
          conv => whnf
          refine ⟨_, hA, ?_⟩
          conv => whnf
          refine ⟨_, htb, ?_⟩
          conv => whnf
          refine ⟨_, hB, ?_⟩
          conv => whnf
          refine ⟨by kernel_rfl, ?_⟩
          conv => whnf
          refine caseb (fun _ => ?_) (fun h => Bool.noConfusion ((hs).symm.trans h))
          conv => whnf
          refine ⟨_, hF, ?_⟩
          conv => whnf
          refine ⟨by omega, ?_⟩
          conv => whnf
          refine ⟨by rw [Nat.zero_add, Int.toNat_natCast]; omega, ?_⟩
          conv => whnf
          refine ⟨i + 1, [], (by show n - (i + 1) < n - i; omega), hlt, ⟨⟨rfl, rfl⟩, ⟨rfl, rfl⟩, ⟨rfl, rfl⟩, ⟨rfl, rfl⟩, ⟨rfl, rfl⟩, ⟨rfl, rfl⟩, ⟨rfl, rfl⟩, ⟨rfl, rfl⟩, ⟨rfl, rfl⟩, ⟨valI eI, rfl⟩, trivial⟩, ⟨⟨rfl, .inr ⟨rfl, rfl⟩⟩, ⟨rfl, .inr ⟨rfl, rfl⟩⟩, ⟨rfl, .inr ⟨rfl, rfl⟩⟩, ⟨rfl, .inl ⟨celE ?_, rowsM_noid _ _⟩⟩, trivial⟩, rfl⟩
          rw [← hset (some (1, 1)) (by unfold chE smE; rw [← hx, ← hy]; simp [hxy])]
          show List.set _ (0 + (i : Int).toNat) _ = _
          rw [Nat.zero_add, Int.toNat_natCast]
          rfl
        · have hs : ((x == y) == true) = false := by simp [hxy]
          conv => whnf
          first
            | refine caseb (fun _ => ?_) (fun h => absurd (of_decide_eq_false h) (by omega))
            | refine caseb (fun h => absurd (of_decide_eq_true h) (by omega)) (fun _ => ?_)
            | refine caseb (fun _ => ?_) (fun h => absurd (beq_eq_false_iff_ne.1 h) (by omega))
            | refine caseb (fun h => absurd (eq_of_beq h) (by omega)) (fun _ => ?_)
          conv => whnf
          refine ⟨_, hIa, ?_⟩
          conv => whnf
          refine ⟨_, hIb, ?_⟩
          conv => whnf
          refine ⟨_, hta, ?_⟩
          conv => whnf
          refine ⟨_, hA, ?_⟩
          conv => whnf
          refine ⟨_, htb, ?_⟩
          conv => whnf
          refine ⟨_, hB, ?_⟩
          conv => whnf
          refine ⟨by kernel_rfl, ?_⟩
          conv => whnf
          refine caseb (fun h => Bool.noConfusion ((hs).symm.trans h)) (fun _ => ?_)
          conv => whnf
          refine ⟨i + 1, [], (by show n - (i + 1) < n - i; omega), hlt, ⟨⟨rfl, rfl⟩, ⟨rfl, rfl⟩, ⟨rfl, rfl⟩, ⟨rfl, rfl⟩, ⟨rfl, rfl⟩, ⟨rfl, rfl⟩, ⟨rfl, rfl⟩, ⟨rfl, rfl⟩, ⟨rfl, rfl⟩, ⟨valI eI, rfl⟩, trivial⟩, ⟨⟨rfl, .inr ⟨rfl, rfl⟩⟩, ⟨rfl, .inr ⟨rfl, rfl⟩⟩, ⟨rfl, .inr ⟨rfl, rfl⟩⟩, ⟨rfl, .inl ⟨celE ?_, rowsM_noid _ _⟩⟩, trivial⟩, rfl⟩
          exact hstay (by unfold chE smE; rw [← hx, ← hy]; simp [hxy])
  · have hie : i = n := by omega
    have e1 : (Y.take i).map rowX ++ List.replicate (n - i) (rowX none) = Y.map rowX := by
      rw [hie, List.take_of_length_le (by omega), Nat.sub_self, List.replicate_zero, List.append_nil]
    rw [e1]
    have key : List.take n (List.drop 0 (Y.map rowX)) = Y.map rowX := by rw [List.drop_zero, List.take_of_length_le (by rw [List.length_map]; omega)]
    conv => whnf
    first
      | refine caseb (fun _ => ?_) (fun h => absurd (of_decide_eq_false h) (by omega))
      | refine caseb (fun h => absurd (of_decide_eq_true h) (by omega)) (fun _ => ?_)
      | refine caseb (fun _ => ?_) (fun h => absurd (beq_eq_false_iff_ne.1 h) (by omega))
      | refine caseb (fun h => absurd (eq_of_beq h) (by omega)) (fun _ => ?_)
    conv => whnf
    rw [key]
    have lY : (Y.map rowX).length = n := by rw [List.length_map]; exact l1
    unfold AA at *
    refine ⟨by show 0 + n ≤ (Y.map rowX).length; omega, _, hN, ?_⟩
    repeat
      conv => whnf
      first
        | refine ⟨_, by assumption, ?_⟩
        | refine ⟨(Nat.le_of_ble_eq_true rfl), _, by assumption, ?_⟩
        | refine ⟨by kernel_rfl, ?_⟩
        | exact rfl
        | exact ⟨Nat.le_of_ble_eq_true rfl, rfl⟩
        | refine ⟨by decide, ?_⟩

theorem chars_8800 (sa sb : List Int) (ca cb : Bool) (ta tb : List Int) (na nb : List (Option (Rat × Nat))) (s : List Int) (one two : Bool) (n : Nat) (hn : n ≤ 5000) (hv : vS s) (hcn : cntI s = (n : Int))
    (hix : ∀ i : Nat, i < n → (ca = true → ix one i < ta.length) ∧ (cb = true → ix two i < tb.length)) (la : ta.length ≤ 1000) (lb : tb.length ≤ 1000) :
    AC Tryz.prog 51 [.val (.int .i32 8800), AA sa ca ta na true, AA sb cb tb nb true, .sl 1 (irows .i64 s) false, .val (.bool one), .val (.bool two)] (.pure (.tup [AA s false [] ((List.range n).map (chE 8800 ca cb ta tb one two)) true, .val (.int .i64 0)])) := by
  have hIa := IsChar_ok sa ca ta na true
  have hIb := IsChar_ok sb cb tb nb true
  have hC := Count_ok s (by have := hv.1; omega)
  rw [CNT_good hv, hcn] at hC
  obtain ⟨Y, hY⟩ : ∃ Y : List (Option (Rat × Nat)), Y = (List.range n).map (chE 8800 ca cb ta tb one two) := ⟨_, rfl⟩
  rw [← hY]
  have l1 : Y.length = n := by rw [hY, List.length_map, List.length_range]
  have hYi : ∀ i (h : i < n), Y[i]'(by omega) = chE 8800 ca cb ta tb one two i := fun i h => by subst hY; rw [List.getElem_map, List.getElem_range]
  have hN := Nums_ok s Y hv (by rw [l1]; exact hcn) (by omega)
  have hF := RatFrom_ok 1 (by decide)
  refine AC.of_body TTok Tryz.func51 rfl (enter_of Tryz.func51 (by kernel_rfl) (by kernel_rfl)) (noid6 (.val _) (AA_noid _ _ _ _ _) (AA_noid _ _ _ _ _) (noid_sl _ _ _) (.val _) (.val _)) (.tup _ (noid2 (AA_noid _ _ _ _ _) (.val _))) (Nat.le_of_ble_eq_true rfl) ?_
  have hA1 : ∀ i < n, ca = true → AC Tryz.prog 93 [AA sa ca ta na true, .val (.int .i64 ((ix one i : Nat) : Int))] (.pure (.val (.int .i32 (ta.getD (ix one i) 0)))) := fun i hi h => RuneX_ok sa ca ta na _ ((hix i hi).1 h) la
  have hB1 : ∀ i < n, cb = true → AC Tryz.prog 93 [AA sb cb tb nb true, .val (.int .i64 ((ix two i : Nat) : Int))] (.pure (.val (.int .i32 (tb.getD (ix two i) 0)))) := fun i hi h => RuneX_ok sb cb tb nb _ ((hix i hi).2 h) lb
  have u1 : AA sa ca ta na true = .agg [.sl 1 (irows .i64 sa) false, .val (.bool ca), .sl 1 (irows .i32 ta) false, .sl 3 (na.map rowX) false, .val (.bool true)] := rfl
  have u2 : AA sb cb tb nb true = .agg [.sl 1 (irows .i64 sb) false, .val (.bool cb), .sl 1 (irows .i32 tb) false, .sl 3 (nb.map rowX) false, .val (.bool true)] := rfl
  rw [u1] at hIa hA1 ⊢
  rw [u2] at hIb hB1 ⊢
  unfold RA at hF
  conv => whnf
  refine ⟨_, hC, ?_⟩
  conv => whnf
  refine ⟨by show 0 ≤ (n:Int) ∧ (n:Int) ≤ n ∧ (n:Int) * 56 ≤ 140737488355328; omega, ?_⟩
  conv => whnf
  refine SW.loopM TTok (fun i : Nat => [(0, .val (.int .i32 8800)), (3, .sl 1 (irows .i64 s) false), (4, .val (.bool one)), (5, .val (.bool two)), (7, .lp 0 0), (8, .lp 8 0), (12, .lp 16 0), (16, .own 144 0 n), (36, .val (.int .i64 (n : Int))), (37, .val (.int .i64 (i : Int)))])
      (fun i => [(0, .cells 5 [[.sl 1 (irows .i64 sa) false, .val (.bool ca), .sl 1 (irows .i32 ta) false, .sl 3 (na.map rowX) false, .val (.bool true)]]), (8, .cells 5 [[.sl 1 (irows .i64 sb) false, .val (.bool cb), .sl 1 (irows .i32 tb) false, .sl 3 (nb.map rowX) false, .val (.bool true)]]), (16, .cells 5 [[.sl 0 [] true, .val (.bool false), .sl 0 [] true, .sl 0 [] true, .val (.bool false)]]), (144, .cells 3 ((Y.take i).map rowX ++ List.replicate (n - i) (rowX none)))]) 184 75 rfl (fun i => n - i) (fun i => i ≤ n) 0 [] (Nat.zero_le _)
      ⟨⟨rfl, rfl⟩, ⟨rfl, rfl⟩, ⟨rfl, rfl⟩, ⟨rfl, rfl⟩, ⟨rfl, rfl⟩, ⟨rfl, rfl⟩, ⟨rfl, rfl⟩, ⟨rfl, rfl⟩, ⟨rfl, rfl⟩, ⟨rfl, rfl⟩, trivial⟩ ⟨⟨rfl, .inr ⟨rfl, rfl⟩⟩, ⟨rfl, .inr ⟨rfl, rfl⟩⟩, ⟨rfl, .inr ⟨rfl, rfl⟩⟩, ⟨rfl, .inl ⟨rfl, rowsM_noid _ _⟩⟩, trivial⟩ rfl ?_
  intro i hJ
  have hi : i ≤ n := hJ
  clear hJ
  have ltk : ((Y.take i).map rowX).length = i := by rw [List.length_map, List.length_take]; omega
  have lr : ((Y.take i).map rowX ++ List.replicate (n - i) (rowX none)).length = n := by
    rw [List.length_append, ltk, List.length_replicate]; omega
  by_cases hlt : i < n
  · have eI : IntKind.i64.wrap ((i : Int) + 1) = ((i + 1 : Nat) : Int) := by rw [IntWalk.i64_in _ (by omega)]; omega
    have hA := hA1 i hlt
    have hB := hB1 i hlt
    have hta := atX_ok i one
    have htb := atX_ok i two
    have hset : ∀ o, chE 8800 ca cb ta tb one two i = o → ((Y.take i).map rowX ++ List.replicate (n - i) (rowX none)).set i (rowX o) = (Y.take (i + 1)).map rowX ++ List.replicate (n - (i + 1)) (rowX none) := fun o ho => by
      rw [rep_drop _ n i hlt, take_snoc (show i < Y.length by omega), hYi i hlt, ho]
      have := set_mid ((Y.take i).map rowX) (rowX none) (rowX o) (List.replicate (n - (i + 1)) (rowX none))
      rw [ltk] at this
      rw [this]; simp
    have hstay : chE 8800 ca cb ta tb one two i = none → (Y.take i).map rowX ++ List.replicate (n - i) (rowX none) = (Y.take (i + 1)).map rowX ++ List.replicate (n - (i + 1)) (rowX none) := fun ho => by
      rw [rep_drop _ n i hlt, take_snoc (show i < Y.length by omega), hYi i hlt, ho]; simp
    obtain ⟨x, hx⟩ : ∃ x, x = ta.getD (ix one i) 0 := ⟨_, rfl⟩
    obtain ⟨y, hy⟩ : ∃ y, y = tb.getD (ix two i) 0 := ⟨_, rfl⟩
    rw [← hx] at hA
    rw [← hy] at hB
    cases ca
    · cases cb
      · conv => whnf
        first
          | refine caseb (fun _ => ?_) (fun h => absurd (of_decide_eq_false h) (by omega))
          | refine caseb (fun h => absurd (of_decide_eq_true h) (by omega)) (fun _ => ?_)
          | refine caseb (fun _ => ?_) (fun h => absurd (beq_eq_false_iff_ne.1 h) (by omega))
          | refine caseb (fun h => absurd (eq_of_beq h) (by omega)) (fun _ => ?_)
        conv => whnf
        refine ⟨_, hIa, ?_⟩
        conv => whnf
        refine ⟨by kernel_rfl, ?_⟩
        conv => whnf
        refine ⟨_, hF, ?_⟩
        conv => whnf
        refine ⟨by omega, ?_⟩
        conv => whnf
        refine ⟨by rw [Nat.zero_add, Int.toNat_natCast]; omega, ?_⟩
        conv => whnf
        refine ⟨i + 1, [], (by show n - (i + 1) < n - i; omega), hlt, ⟨⟨rfl, rfl⟩, ⟨rfl, rfl⟩, ⟨rfl, rfl⟩, ⟨rfl, rfl⟩, ⟨rfl, rfl⟩, ⟨rfl, rfl⟩, ⟨rfl, rfl⟩, ⟨rfl, rfl⟩, ⟨rfl, rfl⟩, ⟨valI eI, rfl⟩, trivial⟩, ⟨⟨rfl, .inr ⟨rfl, rfl⟩⟩, ⟨rfl, .inr ⟨rfl, rfl⟩⟩, ⟨rfl, .inr ⟨rfl, rfl⟩⟩, ⟨rfl, .inl ⟨celE ?_, rowsM_noid _ _⟩⟩, trivial⟩, rfl⟩
        rw [← hset (some (1, 1)) (by unfold chE smE; simp)]
        show List.set _ (0 + (i : Int).toNat) _ = _
        rw [Nat.zero_add, Int.toNat_natCast]
        rfl
      · conv => whnf
        first
          | refine caseb (fun _ => ?_) (fun h => absurd (of_decide_eq_false h) (by omega))
          | refine caseb (fun h => absurd (of_decide_eq_true h) (by omega)) (fun _ => ?_)
          | refine caseb (fun _ => ?_) (fun h => absurd (beq_eq_false_iff_ne.1 h) (by omega))
          | refine caseb (fun h => absurd (eq_of_beq h) (by omega)) (fun _ => ?_)
        conv => whnf
        refine ⟨_, hIa, ?_⟩
        conv => whnf
        refine ⟨by kernel_rfl, ?_⟩
        conv => whnf
        refine ⟨_, hF, ?_⟩
        conv => whnf
        refine ⟨by omega, ?_⟩
        conv => whnf
        refine ⟨by rw [Nat.zero_add, Int.toNat_natCast]; omega, ?_⟩
        conv => whnf
        refine ⟨i + 1, [], (by show n - (i + 1) < n - i; omega), hlt, ⟨⟨rfl, rfl⟩, ⟨rfl, rfl⟩, ⟨rfl, rfl⟩, ⟨rfl, rfl⟩, ⟨rfl, rfl⟩, ⟨rfl, rfl⟩, ⟨rfl, rfl⟩, ⟨rfl, rfl⟩, ⟨rfl, rfl⟩, ⟨valI eI, rfl⟩, trivial⟩, ⟨⟨rfl, .inr ⟨rfl, rfl⟩⟩, ⟨rfl, .inr ⟨rfl, rfl⟩⟩, ⟨rfl, .inr ⟨rfl, rfl⟩⟩, ⟨rfl, .inl ⟨celE ?_, rowsM_noid _ _⟩⟩, trivial⟩, rfl⟩
        rw [← hset (some (1, 1)) (by unfold chE smE; simp)]
        show List.set _ (0 + (i : Int).toNat) _ = _
        rw [Nat.zero_add, Int.toNat_natCast]
        rfl
    · cases cb
      · conv => whnf
        first
          | refine caseb (fun _ => ?_) (fun h => absurd (of_decide_eq_false h) (by omega))
          | refine caseb (fun h => absurd (of_decide_eq_true h) (by omega)) (fun _ => ?_)
          | refine caseb (fun _ => ?_) (fun h => absurd (beq_eq_false_iff_ne.1 h) (by omega))
          | refine caseb (fun h => absurd (eq_of_beq h) (by omega)) (fun _ => ?_)
        conv => whnf
        refine ⟨_, hIa, ?_⟩
        conv => whnf
        refine ⟨_, hIb, ?_⟩
        conv => whnf
        refine ⟨by kernel_rfl, ?_⟩
        conv => whnf
        refine ⟨_, hF, ?_⟩
        conv => whnf
        refine ⟨by omega, ?_⟩
        conv => whnf
        refine ⟨by rw [Nat.zero_add, Int.toNat_natCast]; omega, ?_⟩
        conv => whnf
        refine ⟨i + 1, [], (by show n - (i + 1) < n - i; omega), hlt, ⟨⟨rfl, rfl⟩, ⟨rfl, rfl⟩, ⟨rfl, rfl⟩, ⟨rfl, rfl⟩, ⟨rfl, rfl⟩, ⟨rfl, rfl⟩, ⟨rfl, rfl⟩, ⟨rfl, rfl⟩, ⟨rfl, rfl⟩, ⟨valI eI, rfl⟩, trivial⟩, ⟨⟨rfl, .inr ⟨rfl, rfl⟩⟩, ⟨rfl, .inr ⟨rfl, rfl⟩⟩, ⟨rfl, .inr ⟨rfl, rfl⟩⟩, ⟨rfl, .inl ⟨celE ?_, rowsM_noid _ _⟩⟩, trivial⟩, rfl⟩
        rw [← hset (some (1, 1)) (by unfold chE smE; simp)]
        show List.set _ (0 + (i : Int).toNat) _ = _
        rw [Nat.zero_add, Int.toNat_natCast]
        rfl
      · replace hA := hA rfl
        replace hB := hB rfl
        by_cases hxy : x = y
        · have hs : ((x == y) == false) = false := by simp [hxy]
          conv => whnf
          first
            | refine caseb (fun _ => ?_) (fun h => absurd (of_decide_eq_false h) (by omega))
            | refine caseb (fun h => absurd (of_decide_eq_true h) (by omega)) (fun _ => ?_)
            | refine caseb (fun _ => ?_) (fun h => absurd (beq_eq_false_iff_ne.1 h) (by omega))
            | refine caseb (fun h => absurd (eq_of_beq h) (by omega)) (fun _ => ?_)
          conv => whnf
          refine ⟨_, hIa, ?_⟩
          conv => whnf
          refine ⟨_, hIb, ?_⟩
          conv => whnf
          refine ⟨_, hta, ?_⟩
          conv => whnf
          refine ⟨_, hA, ?_⟩
          conv => whnf
          refine ⟨_, htb, ?_⟩
          conv => whnf
          refine ⟨_, hB, ?_⟩
          conv => whnf
          refine ⟨by kernel_rfl, ?_⟩
          conv => whnf
          refine caseb (fun h => Bool.noConfusion ((hs).symm.trans h)) (fun _ => ?_)
          conv => whnf
          refine ⟨i + 1, [], (by show n - (i + 1) < n - i; omega), hlt, ⟨⟨rfl, rfl⟩, ⟨rfl, rfl⟩, ⟨rfl, rfl⟩, ⟨rfl, rfl⟩, ⟨rfl, rfl⟩, ⟨rfl, rfl⟩, ⟨rfl, rfl⟩, ⟨rfl, rfl⟩, ⟨rfl, rfl⟩, ⟨valI eI, rfl⟩, trivial⟩, ⟨⟨rfl, .inr ⟨rfl, rfl⟩⟩, ⟨rfl, .inr ⟨rfl, rfl⟩⟩, ⟨rfl, .inr ⟨rfl, rfl⟩⟩, ⟨rfl, .inl ⟨celE ?_, rowsM_noid _ _⟩⟩, trivial⟩, rfl⟩
          exact hstay (by unfold chE smE; rw [← hx, ← hy]; simp [hxy])
        · have hs : ((x == y) == false) = true := by simp [hxy]
          conv => whnf
          first
            | refine caseb (fun _ => ?_) (fun h => absurd (of_decide_eq_false h) (by omega))
            | refine caseb (fun h => absurd (of_decide_eq_true h) (by omega)) (fun _ => ?_)
            | refine caseb (fun _ => ?_) (fun h => absurd (beq_eq_false_iff_ne.1 h) (by omega))
            | refine caseb (fun h => absurd (eq_of_beq h) (by omega)) (fun _ => ?_)
          conv => whnf
          refine ⟨_, hIa, ?_⟩
          conv => whnf
          refine ⟨_, hIb, ?_⟩
          conv => whnf
          refine ⟨_, hta, ?_⟩
          conv => whnf
          refine ⟨_, hA, ?_⟩
          conv => whnf
          refine ⟨_, htb, ?_⟩
          conv => whnf
          refine ⟨_, hB, ?_⟩
          conv => whnf
          refine ⟨by kernel_rfl, ?_⟩
          conv => whnf
          refine caseb (fun _ => ?_) (fun h => Bool.noConfusion ((hs).symm.trans h))
          conv => whnf
          refine ⟨_, hF, ?_⟩
          conv => whnf
          refine ⟨by omega, ?_⟩
          conv => whnf
          refine ⟨by rw [Nat.zero_add, Int.toNat_natCast]; omega, ?_⟩
          conv => whnf
          refine ⟨i + 1, [], (by show n - (i + 1) < n - i; omega), hlt, ⟨⟨rfl, rfl⟩, ⟨rfl, rfl⟩, ⟨rfl, rfl⟩, ⟨rfl, rfl⟩, ⟨rfl, rfl⟩, ⟨rfl, rfl⟩, ⟨rfl, rfl⟩, ⟨rfl, rfl⟩, ⟨rfl, rfl⟩, ⟨valI eI, rfl⟩, trivial⟩, ⟨⟨rfl, .inr ⟨rfl, rfl⟩⟩, ⟨rfl, .inr ⟨rfl, rfl⟩⟩, ⟨rfl, .inr ⟨rfl, rfl⟩⟩, ⟨rfl, .inl ⟨celE ?_, rowsM_noid _ _⟩⟩, trivial⟩, rfl⟩
          rw [← hset (some (1, 1)) (by unfold chE smE; rw [← hx, ← hy]; simp [hxy])]
          show List.set _ (0 + (i : Int).toNat) _ = _
          rw [Nat.zero_add, Int.toNat_natCast]
          rfl
  · have hie : i = n := by omega
    have e1 : (Y.take i).map rowX ++ List.replicate (n - i) (rowX none) = Y.map rowX := by
      rw [hie, List.take_of_length_le (by omega), Nat.sub_self, List.replicate_zero, List.append_nil]
    rw [e1]
    have key : List.take n (List.drop 0 (Y.map rowX)) = Y.map rowX := by rw [List.drop_zero, List.take_of_length_le (by rw [List.length_map]; omega)]
    conv => whnf
    first
      | refine caseb (fun _ => ?_) (fun h => absurd (of_decide_eq_false h) (by omega))
      | refine caseb (fun h => absurd (of_decide_eq_true h) (by omega)) (fun _ => ?_)
      | refine caseb (fun _ => ?_) (fun h => absurd (beq_eq_false_iff_ne.1 h) (by omega))
      | refine caseb (fun h => absurd (eq_of_beq h) (by omega)) (fun _ => ?_)
    conv => whnf
    rw [key]
    have lY : (Y.map rowX).length = n := by rw [List.length_map]; exact l1
    unfold AA at *
    refine ⟨by show 0 + n ≤ (Y.map rowX).length; omega, _, hN, ?_⟩
    repeat
      conv => whnf
      first
        | refine ⟨_, by assumption, ?_⟩
        | refine ⟨(Nat.le_of_ble_eq_true rfl), _, by assumption, ?_⟩
        | refine ⟨by kernel_rfl, ?_⟩
        | exact rfl
        | exact ⟨Nat.le_of_ble_eq_true rfl, rfl⟩
        | refine ⟨by decide, ?_⟩

end Go.Proofs.YtclamnmpleiakaaGreat

/- Arrays: what a function of two comes to, element by element (the program's contract). -/
set_option linter.unusedVariables false
namespace Go.Proofs.YtclamnmpleiakaaGreat
open Go Go.AL NM

section
variable (c : Int) (sa sb : List Int) (ca cb : Bool) (ta tb : List Int)
theorem Two_not (h : ¬ isTwo c) (na nb : List (Option (Rat × Nat))) (most : Int) : AC Tryz.prog 18 [.val (.int .i32 c), AA sa ca ta na true, AA sb cb tb nb true, .val (.int .i64 most)] (.pure (.tup [AZ, .val (.int .i64 20)])) := by
  have hH := Has_ok c
  rw [decide_eq_false h] at hH
  refine AC.of_body TTok Tryz.func18 rfl (enter_of Tryz.func18 (by kernel_rfl) (by kernel_rfl)) (noidF (.val _) (AA_noid _ _ _ _ _) (AA_noid _ _ _ _ _) (.val _)) (AZt_noid _) (Nat.le_of_ble_eq_true rfl) ?_
  unfold AA
  repeat
    conv => whnf
    first
      | refine ⟨_, by assumption, ?_⟩
      | refine ⟨(Nat.le_of_ble_eq_true rfl), _, by assumption, ?_⟩
      | refine ⟨by kernel_rfl, ?_⟩
      | exact rfl
      | exact ⟨Nat.le_of_ble_eq_true rfl, rfl⟩
      | refine ⟨by decide, ?_⟩
theorem Two_unfit (h : isTwo c) (na nb : List (Option (Rat × Nat))) (most : Int) (x : List Int × Bool × Bool × Int) (he : x.2.2.2 ≠ 0) (hF : AC Tryz.prog 21 [AA sa ca ta na true, AA sb cb tb nb true] (.pure (FV x))) :
    AC Tryz.prog 18 [.val (.int .i32 c), AA sa ca ta na true, AA sb cb tb nb true, .val (.int .i64 most)] (.pure (.tup [AZ, .val (.int .i64 x.2.2.2)])) := by
  have hH := Has_ok c
  rw [decide_eq_true h] at hH
  obtain ⟨s, one, two, e⟩ := x
  refine AC.of_body TTok Tryz.func18 rfl (enter_of Tryz.func18 (by kernel_rfl) (by kernel_rfl)) (noidF (.val _) (AA_noid _ _ _ _ _) (AA_noid _ _ _ _ _) (.val _)) (AZt_noid _) (Nat.le_of_ble_eq_true rfl) ?_
  unfold FV at hF
  have he : e ≠ 0 := he
  have hF : AC Tryz.prog 21 [AA sa ca ta na true, AA sb cb tb nb true] (.pure (.tup [.sl 1 (irows .i64 s) false, .val (.bool one), .val (.bool two), .val (.int .i64 e)])) := hF
  unfold AA at *
  conv => whnf
  refine ⟨_, hH, ?_⟩
  conv => whnf
  refine ⟨_, hF, ?_⟩
  conv => whnf
  first
    | refine caseb (fun h => absurd (bne_iff_ne.1 h) (by omega)) (fun _ => ?_)
    | refine caseb (fun _ => ?_) (fun h => absurd (bne_eq_false_iff_eq.1 h) (by omega))
  repeat
    conv => whnf
    first
      | refine ⟨_, by assumption, ?_⟩
      | refine ⟨(Nat.le_of_ble_eq_true rfl), _, by assumption, ?_⟩
      | refine ⟨by kernel_rfl, ?_⟩
      | exact rfl
      | exact ⟨Nat.le_of_ble_eq_true rfl, rfl⟩
      | refine ⟨by decide, ?_⟩
theorem Two_nil (h : isTwo c) (na nb : List (Option (Rat × Nat))) (most : Int) (s : List Int) (one two : Bool) (hv : vS s) (hcn : cntI s = 0) (hF : AC Tryz.prog 21 [AA sa ca ta na true, AA sb cb tb nb true] (.pure (FV (s, one, two, 0)))) :
    AC Tryz.prog 18 [.val (.int .i32 c), AA sa ca ta na true, AA sb cb tb nb true, .val (.int .i64 most)] (.pure (.tup [AA s false [] [] true, .val (.int .i64 0)])) := by
  have hH := Has_ok c
  rw [decide_eq_true h] at hH
  have hC := Count_ok s (by have := hv.1; omega)
  rw [CNT_good hv, hcn] at hC
  have hN := Nums_ok s [] hv (by rw [hcn]; rfl) (by decide)
  refine AC.of_body TTok Tryz.func18 rfl (enter_of Tryz.func18 (by kernel_rfl) (by kernel_rfl)) (noidF (.val _) (AA_noid _ _ _ _ _) (AA_noid _ _ _ _ _) (.val _)) (.tup _ (noid2 (AA_noid _ _ _ _ _) (.val _))) (Nat.le_of_ble_eq_true rfl) ?_
  unfold FV AA at hF
  unfold AA
  conv => whnf
  refine ⟨_, hH, ?_⟩
  conv => whnf
  refine ⟨_, hF, ?_⟩
  conv => whnf
  refine ⟨_, hC, ?_⟩
  conv => whnf
  refine ⟨by decide, ?_⟩
  conv => whnf
  refine SW.loopM TTok (fun _ : Unit => [(8, .lp 16 0), (10, .sl 1 (irows .i64 s) false), (16, .own 312 0 0), (65, .val (.int .i64 0)), (66, .val (.int .i64 0))]) (fun _ => [(16, .cells 5 [[.sl 0 [] true, .val (.bool false), .sl 0 [] true, .sl 0 [] true, .val (.bool false)]]), (312, .cells 3 [])]) 352 101 rfl (fun _ => 0) (fun _ => True) () [] trivial
    ⟨⟨rfl, rfl⟩, ⟨rfl, rfl⟩, ⟨rfl, rfl⟩, ⟨rfl, rfl⟩, ⟨rfl, rfl⟩, trivial⟩ ⟨⟨rfl, .inr ⟨rfl, rfl⟩⟩, ⟨rfl, .inr ⟨rfl, rfl⟩⟩, trivial⟩ rfl ?_
  intro _ _
  unfold AA at hN
  conv => whnf
  refine ⟨Nat.le_refl _, _, hN, ?_⟩
  repeat
    conv => whnf
    first
      | refine ⟨_, by assumption, ?_⟩
      | refine ⟨(Nat.le_of_ble_eq_true rfl), _, by assumption, ?_⟩
      | refine ⟨by kernel_rfl, ?_⟩
      | exact rfl
      | exact ⟨Nat.le_of_ble_eq_true rfl, rfl⟩
      | refine ⟨by decide, ?_⟩
theorem Two_chars (h : isTwo c) (hch : ca = true ∨ cb = true) (na nb : List (Option (Rat × Nat))) (most : Int) (s : List Int) (one two : Bool) (n : Nat) (hn : 0 < n) (hv : vS s) (hcn : cntI s = (n : Int)) (hF : AC Tryz.prog 21 [AA sa ca ta na true, AA sb cb tb nb true] (.pure (FV (s, one, two, 0))))
    (e : Int) (k1 k3 k4 : Nat) (l1 l3 l4 : List (List AV)) (z1 z3 z4 : Bool) (v2 v5 : Value) (hnr : NoId (.tup [.agg [.sl k1 l1 z1, .val v2, .sl k3 l3 z3, .sl k4 l4 z4, .val v5], .val (.int .i64 e)]))
    (hX : AC Tryz.prog 51 [.val (.int .i32 c), AA sa ca ta na true, AA sb cb tb nb true, .sl 1 (irows .i64 s) false, .val (.bool one), .val (.bool two)] (.pure (.tup [.agg [.sl k1 l1 z1, .val v2, .sl k3 l3 z3, .sl k4 l4 z4, .val v5], .val (.int .i64 e)]))) :
    AC Tryz.prog 18 [.val (.int .i32 c), AA sa ca ta na true, AA sb cb tb nb true, .val (.int .i64 most)] (.pure (.tup [.agg [.sl k1 l1 z1, .val v2, .sl k3 l3 z3, .sl k4 l4 z4, .val v5], .val (.int .i64 e)])) := by
  have hH := Has_ok c
  rw [decide_eq_true h] at hH
  have hC := Count_ok s (by have := hv.1; omega)
  rw [CNT_good hv, hcn] at hC
  have hIa := IsChar_ok sa ca ta na true
  have hIb := IsChar_ok sb cb tb nb true
  refine AC.of_body TTok Tryz.func18 rfl (enter_of Tryz.func18 (by kernel_rfl) (by kernel_rfl)) (noidF (.val _) (AA_noid _ _ _ _ _) (AA_noid _ _ _ _ _) (.val _)) hnr (Nat.le_of_ble_eq_true rfl) ?_
  unfold FV AA at hF
  unfold AA at *
  cases ca
  · have hcb : cb = true := hch.resolve_left Bool.false_ne_true
    subst hcb
    conv => whnf
    refine ⟨_, hH, ?_⟩
    conv => whnf
    refine ⟨_, hF, ?_⟩
    conv => whnf
    refine ⟨_, hC, ?_⟩
    conv => whnf
    first
      | refine caseb (fun _ => ?_) (fun h => absurd (of_decide_eq_false h) (by omega))
      | refine caseb (fun h => absurd (of_decide_eq_true h) (by omega)) (fun _ => ?_)
      | refine caseb (fun _ => ?_) (fun h => absurd (beq_eq_false_iff_ne.1 h) (by omega))
      | refine caseb (fun h => absurd (eq_of_beq h) (by omega)) (fun _ => ?_)
    conv => whnf
    refine ⟨_, hIa, ?_⟩
    conv => whnf
    refine ⟨_, hIb, ?_⟩
    conv => whnf
    refine ⟨_, hX, ?_⟩
    repeat
      conv => whnf
      first
        | refine ⟨_, by assumption, ?_⟩
        | refine ⟨(Nat.le_of_ble_eq_true rfl), _, by assumption, ?_⟩
        | refine ⟨by kernel_rfl, ?_⟩
        | exact rfl
        | exact ⟨Nat.le_of_ble_eq_true rfl, rfl⟩
        | refine ⟨by decide, ?_⟩
  · conv => whnf
    refine ⟨_, hH, ?_⟩
    conv => whnf
    refine ⟨_, hF, ?_⟩
    conv => whnf
    refine ⟨_, hC, ?_⟩
    conv => whnf
    first
      | refine caseb (fun _ => ?_) (fun h => absurd (of_decide_eq_false h) (by omega))
      | refine caseb (fun h => absurd (of_decide_eq_true h) (by omega)) (fun _ => ?_)
      | refine caseb (fun _ => ?_) (fun h => absurd (beq_eq_false_iff_ne.1 h) (by omega))
      | refine caseb (fun h => absurd (eq_of_beq h) (by omega)) (fun _ => ?_)
    conv => whnf
    refine ⟨_, hIa, ?_⟩
    conv => whnf
    refine ⟨_, hX, ?_⟩
    repeat
      conv => whnf
      first
        | refine ⟨_, by assumption, ?_⟩
        | refine ⟨(Nat.le_of_ble_eq_true rfl), _, by assumption, ?_⟩
        | refine ⟨by kernel_rfl, ?_⟩
        | exact rfl
        | exact ⟨Nat.le_of_ble_eq_true rfl, rfl⟩
        | refine ⟨by decide, ?_⟩
theorem chars_not (h1 : c ≠ 61) (h2 : c ≠ 8800) (na nb : List (Option (Rat × Nat))) (s : List Int) (one two : Bool) :
    AC Tryz.prog 51 [.val (.int .i32 c), AA sa ca ta na true, AA sb cb tb nb true, .sl 1 (irows .i64 s) false, .val (.bool one), .val (.bool two)] (.pure (.tup [AZ, .val (.int .i64 22)])) := by
  refine AC.of_body TTok Tryz.func51 rfl (enter_of Tryz.func51 (by kernel_rfl) (by kernel_rfl)) (noid6 (.val _) (AA_noid _ _ _ _ _) (AA_noid _ _ _ _ _) (noid_sl _ _ _) (.val _) (.val _)) (AZt_noid _) (Nat.le_of_ble_eq_true rfl) ?_
  unfold AA
  conv => whnf
  first
    | refine caseb (fun h => absurd (bne_iff_ne.1 h) (by omega)) (fun _ => ?_)
    | refine caseb (fun _ => ?_) (fun h => absurd (bne_eq_false_iff_eq.1 h) (by omega))
  conv => whnf
  first
    | refine caseb (fun h => absurd (bne_iff_ne.1 h) (by omega)) (fun _ => ?_)
    | refine caseb (fun _ => ?_) (fun h => absurd (bne_eq_false_iff_eq.1 h) (by omega))
  repeat
    conv => whnf
    first
      | refine ⟨_, by assumption, ?_⟩
      | refine ⟨(Nat.le_of_ble_eq_true rfl), _, by assumption, ?_⟩
      | refine ⟨by kernel_rfl, ?_⟩
      | exact rfl
      | exact ⟨Nat.le_of_ble_eq_true rfl, rfl⟩
      | refine ⟨by decide, ?_⟩
end
end Go.Proofs.YtclamnmpleiakaaGreat

/- Arrays: what a function of two comes to: all cases (the program's contract). -/
set_option linter.unusedVariables false
namespace Go.Proofs.YtclamnmpleiakaaGreat
open Go Go.AL NM

/-- The first error of a function of two arrays (0: none). -/
def twoE (c : Int) (sa sb : List Int) (ca cb : Bool) (ta tb : List Int) (qa qb : List Rat) (most : Int) : Int :=
  if isTwo c then (if (fitS sa sb (ta.length + qa.length) (tb.length + qb.length)).2.2.2 ≠ 0 then (fitS sa sb (ta.length + qa.length) (tb.length + qb.length)).2.2.2
    else firstE ((List.range (cntI (fitS sa sb (ta.length + qa.length) (tb.length + qb.length)).1).toNat).map (elemF c ca cb ta tb qa qb (fitS sa sb (ta.length + qa.length) (tb.length + qb.length)).2.1 (fitS sa sb (ta.length + qa.length) (tb.length + qb.length)).2.2.1 most))) else 20
/-- Its elements. -/
def twoV (c : Int) (sa sb : List Int) (ca cb : Bool) (ta tb : List Int) (qa qb : List Rat) (most : Int) : List Rat :=
  (List.range (cntI (fitS sa sb (ta.length + qa.length) (tb.length + qb.length)).1).toNat).map fun i => (elemF c ca cb ta tb qa qb (fitS sa sb (ta.length + qa.length) (tb.length + qb.length)).2.1 (fitS sa sb (ta.length + qa.length) (tb.length + qb.length)).2.2.1 most i).1
theorem chE_val (c : Int) (hc : c = 61 ∨ c = 8800) (ca cb : Bool) (hch : ca = true ∨ cb = true) (ta tb : List Int) (qa qb : List Rat) (one two : Bool) (most : Int) (i : Nat) :
    valX (chE c ca cb ta tb one two i) = (elemF c ca cb ta tb qa qb one two most i).1 ∧ okX (chE c ca cb ta tb one two i) := by
  unfold chE elemF smE
  rw [if_pos hch, if_pos hc]
  by_cases h : (ca && cb && decide (ta.getD (ix one i) 0 = tb.getD (ix two i) 0)) = decide (c = 61)
  · rw [if_pos h, if_pos h]
    exact ⟨rfl, rfl⟩
  · rw [if_neg h, if_neg h]
    exact ⟨rfl, trivial⟩
theorem chars_ok (c : Int) (hc : c = 61 ∨ c = 8800) (sa sb : List Int) (ca cb : Bool) (ta tb : List Int) (na nb : List (Option (Rat × Nat))) (s : List Int) (one two : Bool) (n : Nat) (hn : n ≤ 5000) (hv : vS s) (hcn : cntI s = (n : Int))
    (hix : ∀ i : Nat, i < n → (ca = true → ix one i < ta.length) ∧ (cb = true → ix two i < tb.length)) (la : ta.length ≤ 1000) (lb : tb.length ≤ 1000) :
    AC Tryz.prog 51 [.val (.int .i32 c), AA sa ca ta na true, AA sb cb tb nb true, .sl 1 (irows .i64 s) false, .val (.bool one), .val (.bool two)] (.pure (.tup [AA s false [] ((List.range n).map (chE c ca cb ta tb one two)) true, .val (.int .i64 0)])) := by
  rcases hc with rfl | rfl
  · exact chars_61 sa sb ca cb ta tb na nb s one two n hn hv hcn hix la lb
  · exact chars_8800 sa sb ca cb ta tb na nb s one two n hn hv hcn hix la lb

theorem PTwo_ok (c : Int) (sa sb : List Int) (ca cb : Bool) (ta tb : List Int) (qa qb : List Rat) (most : Int) (hm : most ≤ 200) (hva : vS sa) (hvb : vS sb) (hka : kinds sa ca ta.length qa.length) (hkb : kinds sb cb tb.length qb.length)
    (h1 : ta.length ≤ 500) (h2 : tb.length ≤ 500) (h3 : qa.length ≤ 500) (h4 : qb.length ≤ 500) (hQa : ∀ q ∈ qa, Sz q 5) (hQb : ∀ q ∈ qb, Sz q 5) :
    ∃ l : List (Option (Rat × Nat)), (twoE c sa sb ca cb ta tb qa qb most = 0 → l.map valX = twoV c sa sb ca cb ta tb qa qb most) ∧ (∀ o ∈ l, okX o) ∧ l.length ≤ 5000 ∧
      AC Tryz.prog 18 [.val (.int .i32 c), AA sa ca ta (qa.map ofX) true, AA sb cb tb (qb.map ofX) true, .val (.int .i64 most)] (.pure (resA (fitS sa sb (ta.length + qa.length) (tb.length + qb.length)).1 (twoE c sa sb ca cb ta tb qa qb most) l)) := by
  have hF := Fit_ok sa sb ca cb ta tb (qa.map ofX) (qb.map ofX) (by have := hva.1; omega) (by have := hvb.1; omega) (by omega) (by omega) (by rw [List.length_map]; omega) (by rw [List.length_map]; omega)
  rw [List.length_map, List.length_map] at hF
  obtain ⟨ka1, ka2⟩ := kinds_len hka
  obtain ⟨kb1, kb2⟩ := kinds_len hkb
  have hI := fit_idx ka1 kb1 hva hvb
  unfold twoE twoV
  generalize hx : fitS sa sb (ta.length + qa.length) (tb.length + qb.length) = x at hF hI ⊢
  by_cases hc : isTwo c
  · rw [if_pos hc]
    by_cases he : x.2.2.2 = 0
    · obtain ⟨v1, v2, v3⟩ := hI he
      obtain ⟨s, one, two, e⟩ := x
      have he : e = 0 := he
      subst he
      have v1 : vS s := v1
      have v2 : cntI s = ((ta.length + qa.length : Nat) : Int) ∨ cntI s = ((tb.length + qb.length : Nat) : Int) := v2
      have v3 : ∀ i : Nat, (i : Int) < cntI s → ix one i < ta.length + qa.length ∧ ix two i < tb.length + qb.length := v3
      obtain ⟨n, hn⟩ : ∃ n : Nat, cntI s = (n : Int) := by rcases v2 with h | h <;> exact ⟨_, h⟩
      have hn5 : n ≤ 1000 := by omega
      rw [if_neg (fun h => h rfl)]
      show ∃ l : List (Option (Rat × Nat)), (firstE ((List.range (cntI s).toNat).map (elemF c ca cb ta tb qa qb one two most)) = 0 → l.map valX = (List.range (cntI s).toNat).map fun i => (elemF c ca cb ta tb qa qb one two most i).1) ∧ (∀ o ∈ l, okX o) ∧ l.length ≤ 5000 ∧
        AC Tryz.prog 18 _ (.pure (resA s (firstE ((List.range (cntI s).toNat).map (elemF c ca cb ta tb qa qb one two most))) l))
      rw [hn, Int.toNat_natCast]
      rw [hn] at v3
      by_cases hn0 : n = 0
      · subst hn0
        refine ⟨[], fun _ => rfl, fun o ho => (nomatch ho), Nat.zero_le _, ?_⟩
        show AC Tryz.prog 18 _ (.pure (resA s 0 []))
        unfold resA
        rw [if_pos rfl]
        exact Two_nil c sa sb ca cb ta tb hc _ _ most s one two v1 hn hF
      · by_cases hch : ca = true ∨ cb = true
        · by_cases hcc : c = 61 ∨ c = 8800
          · have hz : firstE ((List.range n).map (elemF c ca cb ta tb qa qb one two most)) = 0 := firstE_zero (fun y hy => by
              obtain ⟨i, _, rfl⟩ := List.mem_map.1 hy
              unfold elemF
              rw [if_pos hch, if_pos hcc])
            refine ⟨(List.range n).map (chE c ca cb ta tb one two), fun _ => ?_, fun o ho => ?_, by rw [List.length_map, List.length_range]; omega, ?_⟩
            · rw [List.map_map]
              exact List.map_congr_left (fun i _ => (chE_val c hcc ca cb hch ta tb qa qb one two most i).1)
            · obtain ⟨i, _, rfl⟩ := List.mem_map.1 ho
              exact (chE_val c hcc ca cb hch ta tb qa qb one two most i).2
            · rw [hz]
              unfold resA
              rw [if_pos rfl]
              have hX := chars_ok c hcc sa sb ca cb ta tb (qa.map ofX) (qb.map ofX) s one two n (by omega) v1 hn (fun i hi => ⟨fun h => by
                have := (v3 i (by omega)).1
                rw [h, if_pos rfl] at ka2
                omega, fun h => by
                have := (v3 i (by omega)).2
                rw [h, if_pos rfl] at kb2
                omega⟩) (by omega) (by omega)
              unfold AA at hX ⊢
              exact Two_chars c sa sb ca cb ta tb hc hch _ _ most s one two n (by omega) v1 hn hF 0 1 1 3 _ _ _ _ _ _ _ _ (.tup _ (noid2 (AA_noid _ _ _ _ _) (.val _))) hX
          · have hz : firstE ((List.range n).map (elemF c ca cb ta tb qa qb one two most)) = 22 := by
              have he22 : ∀ i, (elemF c ca cb ta tb qa qb one two most i).2 = 22 := fun i => by
                unfold elemF
                rw [if_pos hch, if_neg hcc]
              have := firstE_at (l := (List.range n).map (elemF c ca cb ta tb qa qb one two most)) (i := 0) (by rw [List.length_map, List.length_range]; omega) (fun y hy => nomatch hy) (by rw [List.getElem_map, he22]; decide)
              rw [this, List.getElem_map, he22]
            refine ⟨[], fun h => absurd (hz.symm.trans h) (by decide), fun o ho => (nomatch ho), Nat.zero_le _, ?_⟩
            rw [hz]
            have hX := chars_not c sa sb ca cb ta tb (fun h => hcc (.inl h)) (fun h => hcc (.inr h)) (qa.map ofX) (qb.map ofX) s one two
            exact resA_err s _ (by decide) (Two_chars c sa sb ca cb ta tb hc hch _ _ most s one two n (by omega) v1 hn hF 22 0 0 0 _ _ _ _ _ _ _ _ (AZt_noid _) hX)
        · have hca : ca = false := by cases ca with | false => rfl | true => exact absurd (.inl rfl) hch
          have hcb : cb = false := by cases cb with | false => rfl | true => exact absurd (.inr rfl) hch
          subst hca hcb
          have ka2 : qa.length = ta.length + qa.length := ka2
          have kb2 : qb.length = tb.length + qb.length := kb2
          have hix : ∀ i : Nat, i < n → ix one i < qa.length ∧ ix two i < qb.length := fun i hi => by
            have := v3 i (by omega)
            omega
          have hel : ∀ i, elemF c false false ta tb qa qb one two most i = twoQ c (qa.getD (ix one i) 0) (qb.getD (ix two i) 0) most := fun i => by
            unfold elemF
            rw [if_neg hch]
          obtain ⟨D, hD⟩ := pick_all (l := List.range n) (p := fun i d => dn d = (elemF c false false ta tb qa qb one two most i).1.den ∧ AC Tryz.prog 52 [.val (.int .i32 c), RA (qa.getD (ix one i) 0).num (qa.getD (ix one i) 0).den, RA (qb.getD (ix two i) 0).num (qb.getD (ix two i) 0).den, .val (.int .i64 most)] (.pure (.tup [RA (elemF c false false ta tb qa qb one two most i).1.num d, .val (.int .i64 (elemF c false false ta tb qa qb one two most i).2)]))) (fun i hi => by
            have hi := List.mem_range.1 hi
            obtain ⟨i1, i2⟩ := hix i hi
            rw [hel]
            refine Two_ok c _ _ _ _ most (dn_den _) (dn_den _) hm ?_ ?_
            · rw [List.getD_eq_getElem?_getD, List.getElem?_eq_getElem i1]
              exact (hQa _ (List.getElem_mem i1)).mono (by decide)
            · rw [List.getD_eq_getElem?_getD, List.getElem?_eq_getElem i2]
              exact (hQb _ (List.getElem_mem i2)).mono (by decide))
          have hL := Two_loop c hc sa sb ta tb qa qb most s one two n hn5 v1 hn hF hix (by omega) (by omega) D (elemF c false false ta tb qa qb one two most) (fun i hi => hD i (List.mem_range.2 hi)) _ rfl
          refine ⟨(List.range n).map fun i => some ((elemF c false false ta tb qa qb one two most i).1, D i), fun _ => by rw [List.map_map]; rfl, fun o ho => ?_, by rw [List.length_map, List.length_range]; omega, ?_⟩
          · obtain ⟨i, hi, rfl⟩ := List.mem_map.1 ho
            exact (hD i hi).1
          · unfold resA
            by_cases hE : firstE ((List.range n).map (elemF c false false ta tb qa qb one two most)) = 0
            · rw [if_pos hE] at hL ⊢
              exact hL
            · rw [if_neg hE] at hL ⊢
              exact AC.le_res hL (.tup2 AZ_le (.refl _)) (.tup _ (noid2 (AA_noid _ _ _ _ _) (.val _)))
    · rw [if_pos he]
      refine ⟨[], fun h => absurd h he, fun o ho => (nomatch ho), Nat.zero_le _, ?_⟩
      exact resA_err _ _ he (Two_unfit c sa sb ca cb ta tb hc _ _ most x he hF)
  · rw [if_neg hc]
    exact ⟨[], fun h => absurd h (by decide), fun o ho => (nomatch ho), Nat.zero_le _, resA_err _ _ (by decide) (Two_not c sa sb ca cb ta tb hc _ _ most)⟩
end Go.Proofs.YtclamnmpleiakaaGreat

/- Arrays: an element of an array, a function of two elements (the document's contracts). -/
set_option linter.unusedVariables false
namespace Go.Proofs.YtclamnmpleiakaaGreat
open Go Go.AL NM

def PE (ch : Bool) (x : Int) (q : Rat) : AV := if ch then PA [] true [x] [] else PA [] false [] [q]
/-- What two elements come to, alone. -/
def pairV (c : Int) (ca cb : Bool) (x y : Int) (p q : Rat) (most : Int) : Rat × Int :=
  if ca = true ∨ cb = true then
    if c = 61 ∨ c = 8800 then (if (ca && cb && decide (x = y)) = decide (c = 61) then 1 else 0, 0) else (0, 22)
  else twoQ c p q most
def pairR (r : Rat × Int) : AV := .tup [RN r.1.num r.1.den, .val (.int .i64 r.2)]
section
variable (c : Int) (ca cb : Bool) (x y : Int) (p q : Rat) (most : Int) (hm : most ≤ 200) (lp : Sz p 5) (lq : Sz q 5)
include hm lp lq
end
end Go.Proofs.YtclamnmpleiakaaGreat

/- Arrays: a function of two, element by element (the document's contract). -/
set_option linter.unusedVariables false
namespace Go.Proofs.YtclamnmpleiakaaGreat
open Go Go.AL NM

def PEt (ch : Bool) (x : Int) : List (List AV) := if ch then [[.val (.int .i32 x)]] else []
def PEn (ch : Bool) (q : Rat) : List (List AV) := if ch then [] else [rowN q]
end Go.Proofs.YtclamnmpleiakaaGreat

/- Arrays: a function of two, element by element: all cases (the document's contract). -/
set_option linter.unusedVariables false
namespace Go.Proofs.YtclamnmpleiakaaGreat
open Go Go.AL NM

end Go.Proofs.YtclamnmpleiakaaGreat

/- Arrays: the chapter's examples (contracts). -/
set_option linter.unusedVariables false
namespace Go.Proofs.YtclamnmpleiakaaGreat
open Go Go.AL NM

theorem light14_ok (sh : List Int) (ch : Bool) (tx : List Int) (L : List TX) (r : Bool) (h : AC Tryz.prog 26 [PB sh ch tx L, .val (.int .i64 150)] (.pure (.val (.bool r)))) : AC Tryz.prog 16 [PB sh ch tx L] (.pure (.val (.bool r))) := by
  refine AC.of_body TTok Tryz.func16 rfl (enter_of Tryz.func16 (by kernel_rfl) (by kernel_rfl)) (noid1 (PB_noid _ _ _ _)) (.val _) (Nat.le_of_ble_eq_true rfl) ?_
  unfold PB at *
  repeat
    conv => whnf
    first
      | refine ⟨_, by assumption, ?_⟩
      | refine ⟨(Nat.le_of_ble_eq_true rfl), _, by assumption, ?_⟩
      | refine ⟨by kernel_rfl, ?_⟩
      | exact rfl
      | exact ⟨Nat.le_of_ble_eq_true rfl, rfl⟩
      | refine ⟨by decide, ?_⟩
theorem w1E : twoE 43 [2] [] false false [] [] [1, 2] [10] 4 = 0 := by decide +kernel
theorem w1V : twoV 43 [2] [] false false [] [] [1, 2] [10] 4 = [11, 12] := by decide +kernel
theorem w2E : twoE 61 [2] [] true true [97, 98] [98] [] [] 4 = 0 := by decide +kernel
theorem w2V : twoV 61 [2] [] true true [97, 98] [98] [] [] 4 = [0, 1] := by decide +kernel
theorem sz_nat (n : Nat) (h : n < 4294967296) : Sz ((n : Int) : Rat) 1 := Sz_small (by
  show ((n : Int)).natAbs < _
  rw [Int.natAbs_natCast]; exact h) (by show (1 : Nat) < 4294967296; decide)
theorem awake14_ok : AC Tryz.prog 17 [] (.pure (.val (.bool true))) := by
  obtain ⟨l1, a1, b1, c1, P1⟩ := PTwo_ok 43 [2] [] false false [] [] [1, 2] [10] 4 (by decide) (by decide) (by decide) (by unfold kinds; decide) (by unfold kinds; decide) (by decide) (by decide) (by decide) (by decide)
    (fun q hq => by
      simp only [List.mem_cons, List.not_mem_nil, or_false] at hq
      rcases hq with rfl | rfl
      · exact (sz_nat 1 (by decide)).mono (by decide)
      · exact (sz_nat 2 (by decide)).mono (by decide)) (fun q hq => by
      simp only [List.mem_cons, List.not_mem_nil, or_false] at hq
      subst hq
      exact (sz_nat 10 (by decide)).mono (by decide))
  obtain ⟨l2, a2, b2, c2, P2⟩ := PTwo_ok 61 [2] [] true true [97, 98] [98] [] [] 4 (by decide) (by decide) (by decide) (by unfold kinds; decide) (by unfold kinds; decide) (by decide) (by decide) (by decide) (by decide) (fun q hq => nomatch hq) (fun q hq => nomatch hq)
  have a1 := a1 w1E
  have a2 := a2 w2E
  rw [w1V] at a1
  rw [w2V] at a2
  rw [w1E] at P1
  rw [w2E] at P2
  have s1 : (fitS [2] [] (([] : List Int).length + ([1, 2] : List Rat).length) (([] : List Int).length + ([10] : List Rat).length)).1 = [2] := by decide +kernel
  have s2 : (fitS [2] [] (([97, 98] : List Int).length + ([] : List Rat).length) (([98] : List Int).length + ([] : List Rat).length)).1 = [2] := by decide +kernel
  rw [s1] at P1
  rw [s2] at P2
  have I1 := AInts_ok [1, 2] (by decide) (fun n hn => by simp at hn; rcases hn with rfl | rfl <;> exact ⟨by decide, by decide⟩)
  have I2 := AInt_ok 10 (by decide)
  have I3 := Text_ok' [97, 98] (by decide)
  have I4 := Char_ok 98
  have R1 := RInts_ok [11, 12] (by decide) (fun n hn => by simp at hn; rcases hn with rfl | rfl <;> exact ⟨by decide, by decide⟩)
  have R2 := RInts_ok [0, 1] (by decide) (fun n hn => by simp at hn; rcases hn with rfl | rfl <;> exact ⟨by decide, by decide⟩)
  have H1 := shows_ok [2] false [] l1 (by decide) (by decide) (by omega) (fun o ho => ⟨b1 o ho, by
    have : valX o ∈ l1.map valX := List.mem_map_of_mem ho
    rw [a1] at this
    simp only [List.mem_cons, List.not_mem_nil, or_false] at this
    rcases this with h | h <;> rw [h]
    · exact (sz_nat 11 (by decide)).mono (by decide)
    · exact (sz_nat 12 (by decide)).mono (by decide)⟩)
  have H2 := shows_ok [2] false [] l2 (by decide) (by decide) (by omega) (fun o ho => ⟨b2 o ho, by
    have : valX o ∈ l2.map valX := List.mem_map_of_mem ho
    rw [a2] at this
    simp only [List.mem_cons, List.not_mem_nil, or_false] at this
    rcases this with h | h <;> rw [h]
    · exact (sz_nat 0 (by decide)).mono (by decide)
    · exact (sz_nat 1 (by decide)).mono (by decide)⟩)
  rw [a1] at H1
  rw [a2] at H2
  have e1 : ([1, 2] : List Int).map intX = ([1, 2] : List Rat).map ofX := rfl
  have e2 : [some (((10 : Int) : Rat), 1)] = ([10] : List Rat).map ofX := rfl
  have e3 : ([11, 12] : List Int).map (fun n : Int => (n : Rat)) = ([11, 12] : List Rat) := rfl
  have e4 : ([0, 1] : List Int).map (fun n : Int => (n : Rat)) = ([0, 1] : List Rat) := rfl
  rw [e1] at I1
  rw [e2] at I2
  rw [e3] at R1
  rw [e4] at R2
  clear a1 a2 b1 b2 c1 c2 e1 e2 e3 e4 s1 s2
  unfold resA at P1 P2
  rw [if_pos rfl] at P1 P2
  generalize ([1, 2] : List Rat).map ofX = z1 at *
  generalize ([10] : List Rat).map ofX = z2 at *
  generalize ([11, 12] : List Rat) = z3 at *
  generalize ([0, 1] : List Rat) = z4 at *
  refine AC.of_body TTok Tryz.func17 rfl (enter_of Tryz.func17 (by kernel_rfl) (by kernel_rfl)) (fun x hx => nomatch hx) (.val _) (Nat.le_of_ble_eq_true rfl) ?_
  unfold AA PA at *
  conv => whnf
  refine ⟨(Nat.le_of_ble_eq_true rfl), _, I1, ?_⟩
  conv => whnf
  refine ⟨_, I2, ?_⟩
  conv => whnf
  refine ⟨_, P1, ?_⟩
  conv => whnf
  refine ⟨(Nat.le_of_ble_eq_true rfl), _, I3, ?_⟩
  conv => whnf
  refine ⟨_, I4, ?_⟩
  conv => whnf
  refine ⟨_, P2, ?_⟩
  conv => whnf
  refine ⟨(Nat.le_of_ble_eq_true rfl), _, R1, ?_⟩
  conv => whnf
  refine ⟨_, H1, ?_⟩
  conv => whnf
  refine ⟨(Nat.le_of_ble_eq_true rfl), _, R2, ?_⟩
  conv => whnf
  refine ⟨_, H2, ?_⟩
  repeat
    conv => whnf
    first
      | refine ⟨_, by assumption, ?_⟩
      | refine ⟨(Nat.le_of_ble_eq_true rfl), _, by assumption, ?_⟩
      | refine ⟨by kernel_rfl, ?_⟩
      | exact rfl
      | exact ⟨Nat.le_of_ble_eq_true rfl, rfl⟩
      | refine ⟨by decide, ?_⟩
end Go.Proofs.YtclamnmpleiakaaGreat

/- Arrays: an argument that is an array as the page speaks of it (opened). -/
set_option linter.unusedVariables false
namespace Go.Proofs.YtclamnmpleiakaaGreat
open Go Go.AL NM

theorem uP4 : Tryz.prog.underlying 4 = some .bool := by kernel_rfl
theorem uP9 : Tryz.prog.underlying 9 = some .string := by kernel_rfl
theorem uP3 : Tryz.prog.underlying 3 = some (.int .i64) := by kernel_rfl
theorem uP21 : Tryz.prog.underlying 21 = some (.int .i32) := by kernel_rfl
theorem uP22 : Tryz.prog.underlying 22 = some (.slice 3) := by kernel_rfl
theorem uP23 : Tryz.prog.underlying 23 = some (.slice 21) := by kernel_rfl
theorem uP24 : Tryz.prog.underlying 24 = some (.slice 94) := by kernel_rfl
theorem uP94 : Tryz.prog.underlying 94 = some (.struct (Tryz.prog.fieldsOf 94)) := by kernel_rfl
theorem uP26 : Tryz.prog.underlying 26 = some (.struct (Tryz.prog.fieldsOf 26)) := by kernel_rfl
theorem opNum : Opens Tryz.prog 94 (fun xs => ∃ b s t, xs = [.val (.bool b), .val (.string s), .val (.string t)] ∧ s.size ≤ maxLen ∧ t.size ≤ maxLen) := by
  have h := opens_struct (l := [(0, 4), (1, 9), (2, 9)]) (n := 3) uP94 (by kernel_rfl) (by kernel_rfl) (.cons _ _ 0 1 3 _ _ (by kernel_rfl) (opens_bool uP4) (.cons _ _ 1 1 3 _ _ (by kernel_rfl) (opens_str uP9) (.cons _ _ 2 1 3 _ _ (by kernel_rfl) (opens_str uP9) (.nil 3))))
  refine h.mono ?_
  rintro xs ⟨a, b, rfl, ⟨x, rfl⟩, c, d, rfl, ⟨y, rfl, hy⟩, e, f, rfl, ⟨z, rfl, hz⟩, rfl⟩
  exact ⟨x, y, z, rfl, hy, hz⟩
theorem opInts : Opens Tryz.prog 22 (fun xs => ∃ L : List Int, xs = [.sl 1 (irows .i64 L) false] ∧ L.length < 9223372036854775808) := by
  refine (opens_slice (c := 1) uP22 (by kernel_rfl) (Nat.le_of_ble_eq_true rfl) (opens_int uP3)).mono ?_
  rintro xs ⟨rows, rfl, hl, hr⟩
  have key : ∀ rows : List (List AV), (∀ r ∈ rows, r.length = 1 ∧ ∃ n, r = [.val (.int .i64 n)] ∧ (Lit.int .i64 n).wf = true) → ∃ L : List Int, rows = irows .i64 L := by
    intro rows
    induction rows with
    | nil => exact fun _ => ⟨[], rfl⟩
    | cons r rows ih =>
      intro h
      obtain ⟨_, n, hn, _⟩ := h r List.mem_cons_self
      obtain ⟨L, hL⟩ := ih (fun r hr => h r (List.mem_cons_of_mem _ hr))
      exact ⟨n :: L, by rw [hn, hL]; rfl⟩
  obtain ⟨L, rfl⟩ := key rows hr
  refine ⟨L, rfl, ?_⟩
  rw [irows_len] at hl
  unfold maxLen at hl
  omega
theorem opRunes : Opens Tryz.prog 23 (fun xs => ∃ L : List Int, xs = [.sl 1 (irows .i32 L) false] ∧ L.length < 9223372036854775808) := by
  refine (opens_slice (c := 1) uP23 (by kernel_rfl) (Nat.le_of_ble_eq_true rfl) (opens_int uP21)).mono ?_
  rintro xs ⟨rows, rfl, hl, hr⟩
  have key : ∀ rows : List (List AV), (∀ r ∈ rows, r.length = 1 ∧ ∃ n, r = [.val (.int .i32 n)] ∧ (Lit.int .i32 n).wf = true) → ∃ L : List Int, rows = irows .i32 L := by
    intro rows
    induction rows with
    | nil => exact fun _ => ⟨[], rfl⟩
    | cons r rows ih =>
      intro h
      obtain ⟨_, n, hn, _⟩ := h r List.mem_cons_self
      obtain ⟨L, hL⟩ := ih (fun r hr => h r (List.mem_cons_of_mem _ hr))
      exact ⟨n :: L, by rw [hn, hL]; rfl⟩
  obtain ⟨L, rfl⟩ := key rows hr
  refine ⟨L, rfl, ?_⟩
  rw [irows_len] at hl
  unfold maxLen at hl
  omega
/-- What is known of the numbers of such an argument. -/
def GN (L : List TX) : Prop := ∀ x ∈ L, bytX x ∧ x.2.1.length < 9223372036854775808 ∧ x.2.2.length < 9223372036854775808
theorem bytesL_len (s : ByteArray) : (bytesL s).length = s.size := by unfold bytesL; rw [List.length_map, Array.length_toList]; rfl
theorem opNums : Opens Tryz.prog 24 (fun xs => ∃ L : List TX, xs = [.sl 3 (L.map rowB) false] ∧ L.length < 9223372036854775808 ∧ GN L) := by
  refine (opens_slice (c := 3) uP24 (by kernel_rfl) (Nat.le_of_ble_eq_true rfl) opNum).mono ?_
  rintro xs ⟨rows, rfl, hl, hr⟩
  have key : ∀ rows : List (List AV), (∀ r ∈ rows, r.length = 3 ∧ ∃ b s t, r = [.val (.bool b), .val (.string s), .val (.string t)] ∧ s.size ≤ maxLen ∧ t.size ≤ maxLen) → ∃ L : List TX, rows = L.map rowB ∧ GN L := by
    intro rows
    induction rows with
    | nil => exact fun _ => ⟨[], rfl, fun x hx => nomatch hx⟩
    | cons r rows ih =>
      intro h
      obtain ⟨_, b, s, t, hn, hs, ht⟩ := h r List.mem_cons_self
      obtain ⟨L, hL, hG⟩ := ih (fun r hr => h r (List.mem_cons_of_mem _ hr))
      refine ⟨(b, bytesL s, bytesL t) :: L, ?_, fun x hx => ?_⟩
      · rw [hn, hL]
        show _ = rowB (b, bytesL s, bytesL t) :: L.map rowB
        unfold rowB
        rw [strL_bytesL, strL_bytesL]
      · rcases List.mem_cons.1 hx with rfl | hx
        · have l1 := bytesL_len s
          have l2 := bytesL_len t
          unfold maxLen at hs ht
          exact ⟨⟨bytesL_byt s, bytesL_byt t⟩, by show (bytesL s).length < _; omega, by show (bytesL t).length < _; omega⟩
        · exact hG x hx
  obtain ⟨L, rfl, hG⟩ := key rows hr
  refine ⟨L, rfl, ?_, hG⟩
  rw [List.length_map] at hl
  unfold maxLen at hl
  omega
theorem opPlain : Opens Tryz.prog 26 (fun xs => ∃ sh ch tx L, xs = [.sl 1 (irows .i64 sh) false, .val (.bool ch), .sl 1 (irows .i32 tx) false, .sl 3 (L.map rowB) false] ∧ sh.length < 9223372036854775808 ∧ tx.length < 9223372036854775808 ∧ L.length < 9223372036854775808 ∧ GN L) := by
  have h := opens_struct (l := [(0, 22), (1, 4), (2, 23), (3, 24)]) (n := 4) uP26 (by kernel_rfl) (by kernel_rfl) (.cons _ _ 0 1 4 _ _ (by kernel_rfl) opInts (.cons _ _ 1 1 4 _ _ (by kernel_rfl) (opens_bool uP4) (.cons _ _ 2 1 4 _ _ (by kernel_rfl) opRunes (.cons _ _ 3 1 4 _ _ (by kernel_rfl) opNums (.nil 4)))))
  refine h.mono ?_
  rintro xs ⟨a, b, rfl, ⟨sh, rfl, h1⟩, c, d, rfl, ⟨ch, rfl⟩, e, f, rfl, ⟨tx, rfl, h2⟩, g, i, rfl, ⟨L, rfl, h3, h4⟩, rfl⟩
  exact ⟨sh, ch, tx, L, rfl, h1, h2, h3, h4⟩
end Go.Proofs.YtclamnmpleiakaaGreat

/- Arrays: light ones: what is read of them. -/
set_option linter.unusedVariables false
namespace Go.Proofs.YtclamnmpleiakaaGreat
open Go Go.AL NM

/-- What is read of a light array. -/
def Lite (sh : List Int) (ch : Bool) (tx : List Int) (L : List TX) (most : Nat) (qs : List Rat) : Prop :=
  PB sh ch tx L = PA sh ch tx qs ∧ vS sh ∧ kinds sh ch tx.length qs.length ∧ tx.length ≤ most ∧ qs.length ≤ most ∧ ∀ q ∈ qs, QR q
theorem lite_ok (sh : List Int) (ch : Bool) (tx : List Int) (L : List TX) (most : Nat) (hm : most ≤ 1000) (z : sh.length < 9223372036854775808 ∧ tx.length < 9223372036854775808 ∧ L.length < 9223372036854775808 ∧ GN L) :
    ∃ r : Bool, AC Tryz.prog 26 [PB sh ch tx L, .val (.int .i64 (most : Int))] (.pure (.val (.bool r))) ∧ (r = true → ∃ qs, Lite sh ch tx L most qs) := by
  obtain ⟨z1, z2, z3, z4⟩ := z
  obtain ⟨r, hr, hP⟩ := Light_ok sh ch tx L (most : Int) (by omega) z1 z2 z3 z4
  refine ⟨r, hP, fun h => ?_⟩
  obtain ⟨g1, g2, g3, g4, g5, g6⟩ := hr h
  refine ⟨L.map qX, PB_PA g6, g4, by rw [List.length_map]; exact g5, by omega, by rw [List.length_map]; omega, fun q hq => ?_⟩
  obtain ⟨x, hx, rfl⟩ := List.mem_map.1 hq
  exact ⟨_, _, _, g6 x hx, (z4 x hx).1.1, (z4 x hx).1.2, (g3 x hx).1, (g3 x hx).2, rfl⟩
theorem lite14 (sh : List Int) (ch : Bool) (tx : List Int) (L : List TX) (z : sh.length < 9223372036854775808 ∧ tx.length < 9223372036854775808 ∧ L.length < 9223372036854775808 ∧ GN L) :
    ∃ r : Bool, AC Tryz.prog 16 [PB sh ch tx L] (.pure (.val (.bool r))) ∧ (r = true → ∃ qs, Lite sh ch tx L 150 qs) := by
  obtain ⟨r, h, hr⟩ := lite_ok sh ch tx L 150 (by decide) z
  exact ⟨r, light14_ok sh ch tx L r h, hr⟩
end Go.Proofs.YtclamnmpleiakaaGreat

/- The statement PervadeFits: the walk through the law. -/
set_option linter.unusedVariables false
namespace Go.Proofs.YtclamnmpleiakaaGreat.pervadeFits
open Go Go.AL NM

section
variable (sa sb : List Int) (ca cb : Bool) (ta tb : List Int)
theorem bad1 (La Lb : List TX) (h1 : AC Tryz.prog 16 [PB sa ca ta La] (.pure (.val (.bool false)))) : AC Tryz.prog 6 [PB sa ca ta La, PB sb cb tb Lb] (.pure (.val (.bool true))) := by
  refine AC.of_body TTok Tryz.func6 rfl (enter_of Tryz.func6 (by kernel_rfl) (by kernel_rfl)) (noid2 (PB_noid _ _ _ _) (PB_noid _ _ _ _)) (.val _) (Nat.le_of_ble_eq_true rfl) ?_
  have hA := awake14_ok
  unfold PB at *
  repeat
    conv => whnf
    first
      | refine ⟨_, by assumption, ?_⟩
      | refine ⟨(Nat.le_of_ble_eq_true rfl), _, by assumption, ?_⟩
      | refine ⟨by kernel_rfl, ?_⟩
      | exact rfl
      | exact ⟨Nat.le_of_ble_eq_true rfl, rfl⟩
      | refine ⟨by decide, ?_⟩
theorem bad2 (La Lb : List TX) (h1 : AC Tryz.prog 16 [PB sa ca ta La] (.pure (.val (.bool true)))) (h2 : AC Tryz.prog 16 [PB sb cb tb Lb] (.pure (.val (.bool false)))) : AC Tryz.prog 6 [PB sa ca ta La, PB sb cb tb Lb] (.pure (.val (.bool true))) := by
  refine AC.of_body TTok Tryz.func6 rfl (enter_of Tryz.func6 (by kernel_rfl) (by kernel_rfl)) (noid2 (PB_noid _ _ _ _) (PB_noid _ _ _ _)) (.val _) (Nat.le_of_ble_eq_true rfl) ?_
  have hA := awake14_ok
  unfold PB at *
  conv => whnf
  refine ⟨_, h1, ?_⟩
  conv => whnf
  refine ⟨_, h2, ?_⟩
  repeat
    conv => whnf
    first
      | refine ⟨_, by assumption, ?_⟩
      | refine ⟨(Nat.le_of_ble_eq_true rfl), _, by assumption, ?_⟩
      | refine ⟨by kernel_rfl, ?_⟩
      | exact rfl
      | exact ⟨Nat.le_of_ble_eq_true rfl, rfl⟩
      | refine ⟨by decide, ?_⟩
theorem good (qa qb : List Rat) (h1 : AC Tryz.prog 16 [PA sa ca ta qa] (.pure (.val (.bool true)))) (h2 : AC Tryz.prog 16 [PA sb cb tb qb] (.pure (.val (.bool true))))
    (va : vS sa) (vb : vS sb) (ka : kinds sa ca ta.length qa.length) (kb : kinds sb cb tb.length qb.length) (ta1 : ta.length ≤ 150) (tb1 : tb.length ≤ 150) (qa1 : qa.length ≤ 150) (qb1 : qb.length ≤ 150) (Qa : ∀ q ∈ qa, QR q) (Qb : ∀ q ∈ qb, QR q) :
    AC Tryz.prog 6 [PA sa ca ta qa, PA sb cb tb qb] (.pure (.val (.bool true))) := by
  refine AC.of_body TTok Tryz.func6 rfl (enter_of Tryz.func6 (by kernel_rfl) (by kernel_rfl)) (noid2 (PA_noid _ _ _ _) (PA_noid _ _ _ _)) (.val _) (Nat.le_of_ble_eq_true rfl) ?_
  have hA := awake14_ok
  have o1 := LOf_ok sa ca ta qa va ka Qa (by omega) (by omega)
  have o2 := LOf_ok sb cb tb qb vb kb Qb (by omega) (by omega)
  have s1 := va.1
  have s2 := vb.1
  have f1 := Fit_ok sa sb ca cb ta tb (qa.map ofX) (qb.map ofX) (by omega) (by omega) (by omega) (by omega) (by rw [List.length_map]; omega) (by rw [List.length_map]; omega)
  have f2 := RFit_ok sa sb ca cb ta tb qa qb (by omega) (by omega) (by omega) (by omega) (by omega) (by omega)
  rw [List.length_map, List.length_map] at f1
  have hx8 : (fitS sa sb (ta.length + qa.length) (tb.length + qb.length)).1.length ≤ 8 := by
    unfold fitS
    split
    · exact s1
    split
    · exact s2
    split
    · exact s1
    split <;> exact Nat.zero_le _
  generalize fitS sa sb (ta.length + qa.length) (tb.length + qb.length) = x at *
  obtain ⟨s, one, two, e⟩ := x
  have hx8 : s.length ≤ 8 := hx8
  have hS := IntsSame_ok s s (by omega) (by omega)
  rw [decide_eq_true rfl] at hS
  have f1 : AC Tryz.prog 21 [AA sa ca ta (qa.map ofX) true, AA sb cb tb (qb.map ofX) true] (.pure (.tup [.sl 1 (irows .i64 s) false, .val (.bool one), .val (.bool two), .val (.int .i64 e)])) := f1
  have f2 : AC Tryz.prog 22 [PA sa ca ta qa, PA sb cb tb qb] (.pure (.tup [.sl 1 (irows .i64 s) false, .val (.bool one), .val (.bool two), .val (.int .i64 e)])) := f2
  unfold PA AA at *
  conv => whnf
  refine ⟨_, h1, ?_⟩
  conv => whnf
  refine ⟨_, h2, ?_⟩
  conv => whnf
  refine ⟨_, o1, ?_⟩
  conv => whnf
  refine ⟨_, o2, ?_⟩
  conv => whnf
  refine ⟨_, f1, ?_⟩
  conv => whnf
  refine ⟨by kernel_rfl, ?_⟩
  conv => whnf
  refine ⟨_, f2, ?_⟩
  conv => whnf
  refine ⟨_, hS, ?_⟩
  conv => whnf
  refine caseb (fun _ => ?_) (fun h => Bool.noConfusion ((bool_self _).symm.trans h))
  conv => whnf
  refine caseb (fun _ => ?_) (fun h => Bool.noConfusion ((bool_self _).symm.trans h))
  conv => whnf
  refine caseb (fun _ => ?_) (fun h => Bool.noConfusion ((int_self _).symm.trans h))
  repeat
    conv => whnf
    first
      | refine ⟨_, by assumption, ?_⟩
      | refine ⟨(Nat.le_of_ble_eq_true rfl), _, by assumption, ?_⟩
      | refine ⟨by kernel_rfl, ?_⟩
      | exact rfl
      | exact ⟨Nat.le_of_ble_eq_true rfl, rfl⟩
      | refine ⟨by decide, ?_⟩
end
theorem holds (sa : List Int) (ca : Bool) (ta : List Int) (La : List TX) (sb : List Int) (cb : Bool) (tb : List Int) (Lb : List TX)
    (za : sa.length < 9223372036854775808 ∧ ta.length < 9223372036854775808 ∧ La.length < 9223372036854775808 ∧ GN La) (zb : sb.length < 9223372036854775808 ∧ tb.length < 9223372036854775808 ∧ Lb.length < 9223372036854775808 ∧ GN Lb) :
    AC Tryz.prog 6 [PB sa ca ta La, PB sb cb tb Lb] (.pure (.val (.bool true))) := by
  obtain ⟨r, h1, ha⟩ := lite14 sa ca ta La za
  obtain ⟨u, h2, hb⟩ := lite14 sb cb tb Lb zb
  cases r
  · exact bad1 sa sb ca cb ta tb La Lb h1
  cases u
  · exact bad2 sa sb ca cb ta tb La Lb h1 h2
  obtain ⟨qa, ea, va, ka, ta1, qa1, Qa⟩ := ha rfl
  obtain ⟨qb, eb, vb, kb, tb1, qb1, Qb⟩ := hb rfl
  rw [ea] at h1 ⊢
  rw [eb] at h2 ⊢
  exact good sa sb ca cb ta tb qa qb h1 h2 va vb ka kb ta1 tb1 qa1 qb1 Qa Qb
end Go.Proofs.YtclamnmpleiakaaGreat.pervadeFits
