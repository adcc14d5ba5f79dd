/- Arrays: characters compared, element by element (the program's contract). -/
import Derived.Test.YtclamnmpleiakaaGreatB5
import Derived.Test.YtclamnmpleiakaaGreatB2
set_option linter.unusedVariables false
namespace Go.Proofs.YtclamnmpleiakaaGreat
open Go Go.AL NM

/-- Whether two elements are the same character. -/
def smE (ca cb : Bool) (ta tb : List Int) (one two : Bool) (i : Nat) : Bool := ca && cb && decide (ta.getD (ix one i) 0 = tb.getD (ix two i) 0)
def chE (c : Int) (ca cb : Bool) (ta tb : List Int) (one two : Bool) (i : Nat) : Option (Rat × Nat) := if smE ca cb ta tb one two i = decide (c = 61) then some (1, 1) else none
theorem noid6 {a b c d e f : AV} (h1 : NoId a) (h2 : NoId b) (h3 : NoId c) (h4 : NoId d) (h5 : NoId e) (h6 : NoId f) : ∀ x ∈ [a, b, c, d, e, f], NoId x := by
  intro x hx
  simp only [List.mem_cons, List.not_mem_nil, or_false] at hx
  rcases hx with rfl | rfl | rfl | rfl | rfl | rfl <;> assumption

theorem chars_61 (sa sb : List Int) (ca cb : Bool) (ta tb : List Int) (na nb : List (Option (Rat × Nat))) (s : List Int) (one two : Bool) (n : Nat) (hn : n ≤ 5000) (hv : vS s) (hcn : cntI s = (n : Int))
    (hix : ∀ i : Nat, i < n → (ca = true → ix one i < ta.length) ∧ (cb = true → ix two i < tb.length)) (la : ta.length ≤ 1000) (lb : tb.length ≤ 1000) :
    AC Tryz.prog 51 [.val (.int .i32 61), AA sa ca ta na true, AA sb cb tb nb true, .sl 1 (irows .i64 s) false, .val (.bool one), .val (.bool two)] (.pure (.tup [AA s false [] ((List.range n).map (chE 61 ca cb ta tb one two)) true, .val (.int .i64 0)])) := by
  have hIa := IsChar_ok sa ca ta na true
  have hIb := IsChar_ok sb cb tb nb true
  have hC := Count_ok s (by have := hv.1; omega)
  rw [CNT_good hv, hcn] at hC
  obtain ⟨Y, hY⟩ : ∃ Y : List (Option (Rat × Nat)), Y = (List.range n).map (chE 61 ca cb ta tb one two) := ⟨_, rfl⟩
  rw [← hY]
  have l1 : Y.length = n := by rw [hY, List.length_map, List.length_range]
  have hYi : ∀ i (h : i < n), Y[i]'(by omega) = chE 61 ca cb ta tb one two i := fun i h => by subst hY; rw [List.getElem_map, List.getElem_range]
  have hN := Nums_ok s Y hv (by rw [l1]; exact hcn) (by omega)
  have hF := RatFrom_ok 1 (by decide)
  refine AC.of_body TTok Tryz.func51 rfl (enter_of Tryz.func51 (by kernel_rfl) (by kernel_rfl)) (noid6 (.val _) (AA_noid _ _ _ _ _) (AA_noid _ _ _ _ _) (noid_sl _ _ _) (.val _) (.val _)) (.tup _ (noid2 (AA_noid _ _ _ _ _) (.val _))) (Nat.le_of_ble_eq_true rfl) ?_
  have hA1 : ∀ i < n, ca = true → AC Tryz.prog 93 [AA sa ca ta na true, .val (.int .i64 ((ix one i : Nat) : Int))] (.pure (.val (.int .i32 (ta.getD (ix one i) 0)))) := fun i hi h => RuneX_ok sa ca ta na _ ((hix i hi).1 h) la
  have hB1 : ∀ i < n, cb = true → AC Tryz.prog 93 [AA sb cb tb nb true, .val (.int .i64 ((ix two i : Nat) : Int))] (.pure (.val (.int .i32 (tb.getD (ix two i) 0)))) := fun i hi h => RuneX_ok sb cb tb nb _ ((hix i hi).2 h) lb
  have u1 : AA sa ca ta na true = .agg [.sl 1 (irows .i64 sa) false, .val (.bool ca), .sl 1 (irows .i32 ta) false, .sl 3 (na.map rowX) false, .val (.bool true)] := rfl
  have u2 : AA sb cb tb nb true = .agg [.sl 1 (irows .i64 sb) false, .val (.bool cb), .sl 1 (irows .i32 tb) false, .sl 3 (nb.map rowX) false, .val (.bool true)] := rfl
  rw [u1] at hIa hA1 ⊢
  rw [u2] at hIb hB1 ⊢
  unfold RA at hF
  conv => whnf
  refine ⟨_, hC, ?_⟩
  conv => whnf
  refine ⟨by show 0 ≤ (n:Int) ∧ (n:Int) ≤ n ∧ (n:Int) * 56 ≤ 140737488355328; omega, ?_⟩
  conv => whnf
  refine SW.loopM TTok (fun i : Nat => [(0, .val (.int .i32 61)), (3, .sl 1 (irows .i64 s) false), (4, .val (.bool one)), (5, .val (.bool two)), (7, .lp 0 0), (8, .lp 8 0), (12, .lp 16 0), (16, .own 144 0 n), (36, .val (.int .i64 (n : Int))), (37, .val (.int .i64 (i : Int)))])
      (fun i => [(0, .cells 5 [[.sl 1 (irows .i64 sa) false, .val (.bool ca), .sl 1 (irows .i32 ta) false, .sl 3 (na.map rowX) false, .val (.bool true)]]), (8, .cells 5 [[.sl 1 (irows .i64 sb) false, .val (.bool cb), .sl 1 (irows .i32 tb) false, .sl 3 (nb.map rowX) false, .val (.bool true)]]), (16, .cells 5 [[.sl 0 [] true, .val (.bool false), .sl 0 [] true, .sl 0 [] true, .val (.bool false)]]), (144, .cells 3 ((Y.take i).map rowX ++ List.replicate (n - i) (rowX none)))]) 184 75 rfl (fun i => n - i) (fun i => i ≤ n) 0 [] (Nat.zero_le _)
      ⟨⟨rfl, rfl⟩, ⟨rfl, rfl⟩, ⟨rfl, rfl⟩, ⟨rfl, rfl⟩, ⟨rfl, rfl⟩, ⟨rfl, rfl⟩, ⟨rfl, rfl⟩, ⟨rfl, rfl⟩, ⟨rfl, rfl⟩, ⟨rfl, rfl⟩, trivial⟩ ⟨⟨rfl, .inr ⟨rfl, rfl⟩⟩, ⟨rfl, .inr ⟨rfl, rfl⟩⟩, ⟨rfl, .inr ⟨rfl, rfl⟩⟩, ⟨rfl, .inl ⟨rfl, rowsM_noid _ _⟩⟩, trivial⟩ rfl ?_
  intro i hJ
  have hi : i ≤ n := hJ
  clear hJ
  have ltk : ((Y.take i).map rowX).length = i := by rw [List.length_map, List.length_take]; omega
  have lr : ((Y.take i).map rowX ++ List.replicate (n - i) (rowX none)).length = n := by
    rw [List.length_append, ltk, List.length_replicate]; omega
  by_cases hlt : i < n
  · have eI : IntKind.i64.wrap ((i : Int) + 1) = ((i + 1 : Nat) : Int) := by rw [IntWalk.i64_in _ (by omega)]; omega
    have hA := hA1 i hlt
    have hB := hB1 i hlt
    have hta := atX_ok i one
    have htb := atX_ok i two
    have hset : ∀ o, chE 61 ca cb ta tb one two i = o → ((Y.take i).map rowX ++ List.replicate (n - i) (rowX none)).set i (rowX o) = (Y.take (i + 1)).map rowX ++ List.replicate (n - (i + 1)) (rowX none) := fun o ho => by
      rw [rep_drop _ n i hlt, take_snoc (show i < Y.length by omega), hYi i hlt, ho]
      have := set_mid ((Y.take i).map rowX) (rowX none) (rowX o) (List.replicate (n - (i + 1)) (rowX none))
      rw [ltk] at this
      rw [this]; simp
    have hstay : chE 61 ca cb ta tb one two i = none → (Y.take i).map rowX ++ List.replicate (n - i) (rowX none) = (Y.take (i + 1)).map rowX ++ List.replicate (n - (i + 1)) (rowX none) := fun ho => by
      rw [rep_drop _ n i hlt, take_snoc (show i < Y.length by omega), hYi i hlt, ho]; simp
    obtain ⟨x, hx⟩ : ∃ x, x = ta.getD (ix one i) 0 := ⟨_, rfl⟩
    obtain ⟨y, hy⟩ : ∃ y, y = tb.getD (ix two i) 0 := ⟨_, rfl⟩
    rw [← hx] at hA
    rw [← hy] at hB
    cases ca
    · cases cb
      · conv => whnf
        first
          | refine caseb (fun _ => ?_) (fun h => absurd (of_decide_eq_false h) (by omega))
          | refine caseb (fun h => absurd (of_decide_eq_true h) (by omega)) (fun _ => ?_)
          | refine caseb (fun _ => ?_) (fun h => absurd (beq_eq_false_iff_ne.1 h) (by omega))
          | refine caseb (fun h => absurd (eq_of_beq h) (by omega)) (fun _ => ?_)
        conv => whnf
        refine ⟨_, hIa, ?_⟩
        conv => whnf
        refine ⟨by kernel_rfl, ?_⟩
        conv => whnf
        refine ⟨i + 1, [], (by show n - (i + 1) < n - i; omega), hlt, ⟨⟨rfl, rfl⟩, ⟨rfl, rfl⟩, ⟨rfl, rfl⟩, ⟨rfl, rfl⟩, ⟨rfl, rfl⟩, ⟨rfl, rfl⟩, ⟨rfl, rfl⟩, ⟨rfl, rfl⟩, ⟨rfl, rfl⟩, ⟨valI eI, rfl⟩, trivial⟩, ⟨⟨rfl, .inr ⟨rfl, rfl⟩⟩, ⟨rfl, .inr ⟨rfl, rfl⟩⟩, ⟨rfl, .inr ⟨rfl, rfl⟩⟩, ⟨rfl, .inl ⟨celE ?_, rowsM_noid _ _⟩⟩, trivial⟩, rfl⟩
        exact hstay (by unfold chE smE; simp)
      · conv => whnf
        first
          | refine caseb (fun _ => ?_) (fun h => absurd (of_decide_eq_false h) (by omega))
          | refine caseb (fun h => absurd (of_decide_eq_true h) (by omega)) (fun _ => ?_)
          | refine caseb (fun _ => ?_) (fun h => absurd (beq_eq_false_iff_ne.1 h) (by omega))
          | refine caseb (fun h => absurd (eq_of_beq h) (by omega)) (fun _ => ?_)
        conv => whnf
        refine ⟨_, hIa, ?_⟩
        conv => whnf
        refine ⟨by kernel_rfl, ?_⟩
        conv => whnf
        refine ⟨i + 1, [], (by show n - (i + 1) < n - i; omega), hlt, ⟨⟨rfl, rfl⟩, ⟨rfl, rfl⟩, ⟨rfl, rfl⟩, ⟨rfl, rfl⟩, ⟨rfl, rfl⟩, ⟨rfl, rfl⟩, ⟨rfl, rfl⟩, ⟨rfl, rfl⟩, ⟨rfl, rfl⟩, ⟨valI eI, rfl⟩, trivial⟩, ⟨⟨rfl, .inr ⟨rfl, rfl⟩⟩, ⟨rfl, .inr ⟨rfl, rfl⟩⟩, ⟨rfl, .inr ⟨rfl, rfl⟩⟩, ⟨rfl, .inl ⟨celE ?_, rowsM_noid _ _⟩⟩, trivial⟩, rfl⟩
        exact hstay (by unfold chE smE; simp)
    · cases cb
      · conv => whnf
        first
          | refine caseb (fun _ => ?_) (fun h => absurd (of_decide_eq_false h) (by omega))
          | refine caseb (fun h => absurd (of_decide_eq_true h) (by omega)) (fun _ => ?_)
          | refine caseb (fun _ => ?_) (fun h => absurd (beq_eq_false_iff_ne.1 h) (by omega))
          | refine caseb (fun h => absurd (eq_of_beq h) (by omega)) (fun _ => ?_)
        conv => whnf
        refine ⟨_, hIa, ?_⟩
        conv => whnf
        refine ⟨_, hIb, ?_⟩
        conv => whnf
        refine ⟨by kernel_rfl, ?_⟩
        conv => whnf
        refine ⟨i + 1, [], (by show n - (i + 1) < n - i; omega), hlt, ⟨⟨rfl, rfl⟩, ⟨rfl, rfl⟩, ⟨rfl, rfl⟩, ⟨rfl, rfl⟩, ⟨rfl, rfl⟩, ⟨rfl, rfl⟩, ⟨rfl, rfl⟩, ⟨rfl, rfl⟩, ⟨rfl, rfl⟩, ⟨valI eI, rfl⟩, trivial⟩, ⟨⟨rfl, .inr ⟨rfl, rfl⟩⟩, ⟨rfl, .inr ⟨rfl, rfl⟩⟩, ⟨rfl, .inr ⟨rfl, rfl⟩⟩, ⟨rfl, .inl ⟨celE ?_, rowsM_noid _ _⟩⟩, trivial⟩, rfl⟩
        exact hstay (by unfold chE smE; simp)
      · replace hA := hA rfl
        replace hB := hB rfl
        by_cases hxy : x = y
        · have hs : ((x == y) == true) = true := by simp [hxy]
          conv => whnf
          first
            | refine caseb (fun _ => ?_) (fun h => absurd (of_decide_eq_false h) (by omega))
            | refine caseb (fun h => absurd (of_decide_eq_true h) (by omega)) (fun _ => ?_)
            | refine caseb (fun _ => ?_) (fun h => absurd (beq_eq_false_iff_ne.1 h) (by omega))
            | refine caseb (fun h => absurd (eq_of_beq h) (by omega)) (fun _ => ?_)
          conv => whnf
          refine ⟨_, hIa, ?_⟩
          conv => whnf
          refine ⟨_, hIb, ?_⟩
          conv => whnf
          refine ⟨_, hta, ?_⟩
          conv => whnf
          refine ⟨_, hA, ?_⟩
          conv => whnf
          refine ⟨_, htb, ?_⟩
          conv => whnf
          refine ⟨_, hB, ?_⟩
          conv => whnf
          refine ⟨by kernel_rfl, ?_⟩
          conv => whnf
          refine caseb (fun _ => ?_) (fun h => Bool.noConfusion ((hs).symm.trans h))
          conv => whnf
          refine ⟨_, hF, ?_⟩
          conv => whnf
          refine ⟨by omega, ?_⟩
          conv => whnf
          refine ⟨by rw [Nat.zero_add, Int.toNat_natCast]; omega, ?_⟩
          conv => whnf
          refine ⟨i + 1, [], (by show n - (i + 1) < n - i; omega), hlt, ⟨⟨rfl, rfl⟩, ⟨rfl, rfl⟩, ⟨rfl, rfl⟩, ⟨rfl, rfl⟩, ⟨rfl, rfl⟩, ⟨rfl, rfl⟩, ⟨rfl, rfl⟩, ⟨rfl, rfl⟩, ⟨rfl, rfl⟩, ⟨valI eI, rfl⟩, trivial⟩, ⟨⟨rfl, .inr ⟨rfl, rfl⟩⟩, ⟨rfl, .inr ⟨rfl, rfl⟩⟩, ⟨rfl, .inr ⟨rfl, rfl⟩⟩, ⟨rfl, .inl ⟨celE ?_, rowsM_noid _ _⟩⟩, trivial⟩, rfl⟩
          rw [← hset (some (1, 1)) (by unfold chE smE; rw [← hx, ← hy]; simp [hxy])]
          show List.set _ (0 + (i : Int).toNat) _ = _
          rw [Nat.zero_add, Int.toNat_natCast]
          rfl
        · have hs : ((x == y) == true) = false := by simp [hxy]
          conv => whnf
          first
            | refine caseb (fun _ => ?_) (fun h => absurd (of_decide_eq_false h) (by omega))
            | refine caseb (fun h => absurd (of_decide_eq_true h) (by omega)) (fun _ => ?_)
            | refine caseb (fun _ => ?_) (fun h => absurd (beq_eq_false_iff_ne.1 h) (by omega))
            | refine caseb (fun h => absurd (eq_of_beq h) (by omega)) (fun _ => ?_)
          conv => whnf
          refine ⟨_, hIa, ?_⟩
          conv => whnf
          refine ⟨_, hIb, ?_⟩
          conv => whnf
          refine ⟨_, hta, ?_⟩
          conv => whnf
          refine ⟨_, hA, ?_⟩
          conv => whnf
          refine ⟨_, htb, ?_⟩
          conv => whnf
          refine ⟨_, hB, ?_⟩
          conv => whnf
          refine ⟨by kernel_rfl, ?_⟩
          conv => whnf
          refine caseb (fun h => Bool.noConfusion ((hs).symm.trans h)) (fun _ => ?_)
          conv => whnf
          refine ⟨i + 1, [], (by show n - (i + 1) < n - i; omega), hlt, ⟨⟨rfl, rfl⟩, ⟨rfl, rfl⟩, ⟨rfl, rfl⟩, ⟨rfl, rfl⟩, ⟨rfl, rfl⟩, ⟨rfl, rfl⟩, ⟨rfl, rfl⟩, ⟨rfl, rfl⟩, ⟨rfl, rfl⟩, ⟨valI eI, rfl⟩, trivial⟩, ⟨⟨rfl, .inr ⟨rfl, rfl⟩⟩, ⟨rfl, .inr ⟨rfl, rfl⟩⟩, ⟨rfl, .inr ⟨rfl, rfl⟩⟩, ⟨rfl, .inl ⟨celE ?_, rowsM_noid _ _⟩⟩, trivial⟩, rfl⟩
          exact hstay (by unfold chE smE; rw [← hx, ← hy]; simp [hxy])
  · have hie : i = n := by omega
    have e1 : (Y.take i).map rowX ++ List.replicate (n - i) (rowX none) = Y.map rowX := by
      rw [hie, List.take_of_length_le (by omega), Nat.sub_self, List.replicate_zero, List.append_nil]
    rw [e1]
    have key : List.take n (List.drop 0 (Y.map rowX)) = Y.map rowX := by rw [List.drop_zero, List.take_of_length_le (by rw [List.length_map]; omega)]
    conv => whnf
    first
      | refine caseb (fun _ => ?_) (fun h => absurd (of_decide_eq_false h) (by omega))
      | refine caseb (fun h => absurd (of_decide_eq_true h) (by omega)) (fun _ => ?_)
      | refine caseb (fun _ => ?_) (fun h => absurd (beq_eq_false_iff_ne.1 h) (by omega))
      | refine caseb (fun h => absurd (eq_of_beq h) (by omega)) (fun _ => ?_)
    conv => whnf
    rw [key]
    have lY : (Y.map rowX).length = n := by rw [List.length_map]; exact l1
    unfold AA at *
    refine ⟨by show 0 + n ≤ (Y.map rowX).length; omega, _, hN, ?_⟩
    repeat
      conv => whnf
      first
        | refine ⟨_, by assumption, ?_⟩
        | refine ⟨(Nat.le_of_ble_eq_true rfl), _, by assumption, ?_⟩
        | refine ⟨by kernel_rfl, ?_⟩
        | exact rfl
        | exact ⟨Nat.le_of_ble_eq_true rfl, rfl⟩
        | refine ⟨by decide, ?_⟩

theorem chars_8800 (sa sb : List Int) (ca cb : Bool) (ta tb : List Int) (na nb : List (Option (Rat × Nat))) (s : List Int) (one two : Bool) (n : Nat) (hn : n ≤ 5000) (hv : vS s) (hcn : cntI s = (n : Int))
    (hix : ∀ i : Nat, i < n → (ca = true → ix one i < ta.length) ∧ (cb = true → ix two i < tb.length)) (la : ta.length ≤ 1000) (lb : tb.length ≤ 1000) :
    AC Tryz.prog 51 [.val (.int .i32 8800), AA sa ca ta na true, AA sb cb tb nb true, .sl 1 (irows .i64 s) false, .val (.bool one), .val (.bool two)] (.pure (.tup [AA s false [] ((List.range n).map (chE 8800 ca cb ta tb one two)) true, .val (.int .i64 0)])) := by
  have hIa := IsChar_ok sa ca ta na true
  have hIb := IsChar_ok sb cb tb nb true
  have hC := Count_ok s (by have := hv.1; omega)
  rw [CNT_good hv, hcn] at hC
  obtain ⟨Y, hY⟩ : ∃ Y : List (Option (Rat × Nat)), Y = (List.range n).map (chE 8800 ca cb ta tb one two) := ⟨_, rfl⟩
  rw [← hY]
  have l1 : Y.length = n := by rw [hY, List.length_map, List.length_range]
  have hYi : ∀ i (h : i < n), Y[i]'(by omega) = chE 8800 ca cb ta tb one two i := fun i h => by subst hY; rw [List.getElem_map, List.getElem_range]
  have hN := Nums_ok s Y hv (by rw [l1]; exact hcn) (by omega)
  have hF := RatFrom_ok 1 (by decide)
  refine AC.of_body TTok Tryz.func51 rfl (enter_of Tryz.func51 (by kernel_rfl) (by kernel_rfl)) (noid6 (.val _) (AA_noid _ _ _ _ _) (AA_noid _ _ _ _ _) (noid_sl _ _ _) (.val _) (.val _)) (.tup _ (noid2 (AA_noid _ _ _ _ _) (.val _))) (Nat.le_of_ble_eq_true rfl) ?_
  have hA1 : ∀ i < n, ca = true → AC Tryz.prog 93 [AA sa ca ta na true, .val (.int .i64 ((ix one i : Nat) : Int))] (.pure (.val (.int .i32 (ta.getD (ix one i) 0)))) := fun i hi h => RuneX_ok sa ca ta na _ ((hix i hi).1 h) la
  have hB1 : ∀ i < n, cb = true → AC Tryz.prog 93 [AA sb cb tb nb true, .val (.int .i64 ((ix two i : Nat) : Int))] (.pure (.val (.int .i32 (tb.getD (ix two i) 0)))) := fun i hi h => RuneX_ok sb cb tb nb _ ((hix i hi).2 h) lb
  have u1 : AA sa ca ta na true = .agg [.sl 1 (irows .i64 sa) false, .val (.bool ca), .sl 1 (irows .i32 ta) false, .sl 3 (na.map rowX) false, .val (.bool true)] := rfl
  have u2 : AA sb cb tb nb true = .agg [.sl 1 (irows .i64 sb) false, .val (.bool cb), .sl 1 (irows .i32 tb) false, .sl 3 (nb.map rowX) false, .val (.bool true)] := rfl
  rw [u1] at hIa hA1 ⊢
  rw [u2] at hIb hB1 ⊢
  unfold RA at hF
  conv => whnf
  refine ⟨_, hC, ?_⟩
  conv => whnf
  refine ⟨by show 0 ≤ (n:Int) ∧ (n:Int) ≤ n ∧ (n:Int) * 56 ≤ 140737488355328; omega, ?_⟩
  conv => whnf
  refine SW.loopM TTok (fun i : Nat => [(0, .val (.int .i32 8800)), (3, .sl 1 (irows .i64 s) false), (4, .val (.bool one)), (5, .val (.bool two)), (7, .lp 0 0), (8, .lp 8 0), (12, .lp 16 0), (16, .own 144 0 n), (36, .val (.int .i64 (n : Int))), (37, .val (.int .i64 (i : Int)))])
      (fun i => [(0, .cells 5 [[.sl 1 (irows .i64 sa) false, .val (.bool ca), .sl 1 (irows .i32 ta) false, .sl 3 (na.map rowX) false, .val (.bool true)]]), (8, .cells 5 [[.sl 1 (irows .i64 sb) false, .val (.bool cb), .sl 1 (irows .i32 tb) false, .sl 3 (nb.map rowX) false, .val (.bool true)]]), (16, .cells 5 [[.sl 0 [] true, .val (.bool false), .sl 0 [] true, .sl 0 [] true, .val (.bool false)]]), (144, .cells 3 ((Y.take i).map rowX ++ List.replicate (n - i) (rowX none)))]) 184 75 rfl (fun i => n - i) (fun i => i ≤ n) 0 [] (Nat.zero_le _)
      ⟨⟨rfl, rfl⟩, ⟨rfl, rfl⟩, ⟨rfl, rfl⟩, ⟨rfl, rfl⟩, ⟨rfl, rfl⟩, ⟨rfl, rfl⟩, ⟨rfl, rfl⟩, ⟨rfl, rfl⟩, ⟨rfl, rfl⟩, ⟨rfl, rfl⟩, trivial⟩ ⟨⟨rfl, .inr ⟨rfl, rfl⟩⟩, ⟨rfl, .inr ⟨rfl, rfl⟩⟩, ⟨rfl, .inr ⟨rfl, rfl⟩⟩, ⟨rfl, .inl ⟨rfl, rowsM_noid _ _⟩⟩, trivial⟩ rfl ?_
  intro i hJ
  have hi : i ≤ n := hJ
  clear hJ
  have ltk : ((Y.take i).map rowX).length = i := by rw [List.length_map, List.length_take]; omega
  have lr : ((Y.take i).map rowX ++ List.replicate (n - i) (rowX none)).length = n := by
    rw [List.length_append, ltk, List.length_replicate]; omega
  by_cases hlt : i < n
  · have eI : IntKind.i64.wrap ((i : Int) + 1) = ((i + 1 : Nat) : Int) := by rw [IntWalk.i64_in _ (by omega)]; omega
    have hA := hA1 i hlt
    have hB := hB1 i hlt
    have hta := atX_ok i one
    have htb := atX_ok i two
    have hset : ∀ o, chE 8800 ca cb ta tb one two i = o → ((Y.take i).map rowX ++ List.replicate (n - i) (rowX none)).set i (rowX o) = (Y.take (i + 1)).map rowX ++ List.replicate (n - (i + 1)) (rowX none) := fun o ho => by
      rw [rep_drop _ n i hlt, take_snoc (show i < Y.length by omega), hYi i hlt, ho]
      have := set_mid ((Y.take i).map rowX) (rowX none) (rowX o) (List.replicate (n - (i + 1)) (rowX none))
      rw [ltk] at this
      rw [this]; simp
    have hstay : chE 8800 ca cb ta tb one two i = none → (Y.take i).map rowX ++ List.replicate (n - i) (rowX none) = (Y.take (i + 1)).map rowX ++ List.replicate (n - (i + 1)) (rowX none) := fun ho => by
      rw [rep_drop _ n i hlt, take_snoc (show i < Y.length by omega), hYi i hlt, ho]; simp
    obtain ⟨x, hx⟩ : ∃ x, x = ta.getD (ix one i) 0 := ⟨_, rfl⟩
    obtain ⟨y, hy⟩ : ∃ y, y = tb.getD (ix two i) 0 := ⟨_, rfl⟩
    rw [← hx] at hA
    rw [← hy] at hB
    cases ca
    · cases cb
      · conv => whnf
        first
          | refine caseb (fun _ => ?_) (fun h => absurd (of_decide_eq_false h) (by omega))
          | refine caseb (fun h => absurd (of_decide_eq_true h) (by omega)) (fun _ => ?_)
          | refine caseb (fun _ => ?_) (fun h => absurd (beq_eq_false_iff_ne.1 h) (by omega))
          | refine caseb (fun h => absurd (eq_of_beq h) (by omega)) (fun _ => ?_)
        conv => whnf
        refine ⟨_, hIa, ?_⟩
        conv => whnf
        refine ⟨by kernel_rfl, ?_⟩
        conv => whnf
        refine ⟨_, hF, ?_⟩
        conv => whnf
        refine ⟨by omega, ?_⟩
        conv => whnf
        refine ⟨by rw [Nat.zero_add, Int.toNat_natCast]; omega, ?_⟩
        conv => whnf
        refine ⟨i + 1, [], (by show n - (i + 1) < n - i; omega), hlt, ⟨⟨rfl, rfl⟩, ⟨rfl, rfl⟩, ⟨rfl, rfl⟩, ⟨rfl, rfl⟩, ⟨rfl, rfl⟩, ⟨rfl, rfl⟩, ⟨rfl, rfl⟩, ⟨rfl, rfl⟩, ⟨rfl, rfl⟩, ⟨valI eI, rfl⟩, trivial⟩, ⟨⟨rfl, .inr ⟨rfl, rfl⟩⟩, ⟨rfl, .inr ⟨rfl, rfl⟩⟩, ⟨rfl, .inr ⟨rfl, rfl⟩⟩, ⟨rfl, .inl ⟨celE ?_, rowsM_noid _ _⟩⟩, trivial⟩, rfl⟩
        rw [← hset (some (1, 1)) (by unfold chE smE; simp)]
        show List.set _ (0 + (i : Int).toNat) _ = _
        rw [Nat.zero_add, Int.toNat_natCast]
        rfl
      · conv => whnf
        first
          | refine caseb (fun _ => ?_) (fun h => absurd (of_decide_eq_false h) (by omega))
          | refine caseb (fun h => absurd (of_decide_eq_true h) (by omega)) (fun _ => ?_)
          | refine caseb (fun _ => ?_) (fun h => absurd (beq_eq_false_iff_ne.1 h) (by omega))
          | refine caseb (fun h => absurd (eq_of_beq h) (by omega)) (fun _ => ?_)
        conv => whnf
        refine ⟨_, hIa, ?_⟩
        conv => whnf
        refine ⟨by kernel_rfl, ?_⟩
        conv => whnf
        refine ⟨_, hF, ?_⟩
        conv => whnf
        refine ⟨by omega, ?_⟩
        conv => whnf
        refine ⟨by rw [Nat.zero_add, Int.toNat_natCast]; omega, ?_⟩
        conv => whnf
        refine ⟨i + 1, [], (by show n - (i + 1) < n - i; omega), hlt, ⟨⟨rfl, rfl⟩, ⟨rfl, rfl⟩, ⟨rfl, rfl⟩, ⟨rfl, rfl⟩, ⟨rfl, rfl⟩, ⟨rfl, rfl⟩, ⟨rfl, rfl⟩, ⟨rfl, rfl⟩, ⟨rfl, rfl⟩, ⟨valI eI, rfl⟩, trivial⟩, ⟨⟨rfl, .inr ⟨rfl, rfl⟩⟩, ⟨rfl, .inr ⟨rfl, rfl⟩⟩, ⟨rfl, .inr ⟨rfl, rfl⟩⟩, ⟨rfl, .inl ⟨celE ?_, rowsM_noid _ _⟩⟩, trivial⟩, rfl⟩
        rw [← hset (some (1, 1)) (by unfold chE smE; simp)]
        show List.set _ (0 + (i : Int).toNat) _ = _
        rw [Nat.zero_add, Int.toNat_natCast]
        rfl
    · cases cb
      · conv => whnf
        first
          | refine caseb (fun _ => ?_) (fun h => absurd (of_decide_eq_false h) (by omega))
          | refine caseb (fun h => absurd (of_decide_eq_true h) (by omega)) (fun _ => ?_)
          | refine caseb (fun _ => ?_) (fun h => absurd (beq_eq_false_iff_ne.1 h) (by omega))
          | refine caseb (fun h => absurd (eq_of_beq h) (by omega)) (fun _ => ?_)
        conv => whnf
        refine ⟨_, hIa, ?_⟩
        conv => whnf
        refine ⟨_, hIb, ?_⟩
        conv => whnf
        refine ⟨by kernel_rfl, ?_⟩
        conv => whnf
        refine ⟨_, hF, ?_⟩
        conv => whnf
        refine ⟨by omega, ?_⟩
        conv => whnf
        refine ⟨by rw [Nat.zero_add, Int.toNat_natCast]; omega, ?_⟩
        conv => whnf
        refine ⟨i + 1, [], (by show n - (i + 1) < n - i; omega), hlt, ⟨⟨rfl, rfl⟩, ⟨rfl, rfl⟩, ⟨rfl, rfl⟩, ⟨rfl, rfl⟩, ⟨rfl, rfl⟩, ⟨rfl, rfl⟩, ⟨rfl, rfl⟩, ⟨rfl, rfl⟩, ⟨rfl, rfl⟩, ⟨valI eI, rfl⟩, trivial⟩, ⟨⟨rfl, .inr ⟨rfl, rfl⟩⟩, ⟨rfl, .inr ⟨rfl, rfl⟩⟩, ⟨rfl, .inr ⟨rfl, rfl⟩⟩, ⟨rfl, .inl ⟨celE ?_, rowsM_noid _ _⟩⟩, trivial⟩, rfl⟩
        rw [← hset (some (1, 1)) (by unfold chE smE; simp)]
        show List.set _ (0 + (i : Int).toNat) _ = _
        rw [Nat.zero_add, Int.toNat_natCast]
        rfl
      · replace hA := hA rfl
        replace hB := hB rfl
        by_cases hxy : x = y
        · have hs : ((x == y) == false) = false := by simp [hxy]
          conv => whnf
          first
            | refine caseb (fun _ => ?_) (fun h => absurd (of_decide_eq_false h) (by omega))
            | refine caseb (fun h => absurd (of_decide_eq_true h) (by omega)) (fun _ => ?_)
            | refine caseb (fun _ => ?_) (fun h => absurd (beq_eq_false_iff_ne.1 h) (by omega))
            | refine caseb (fun h => absurd (eq_of_beq h) (by omega)) (fun _ => ?_)
          conv => whnf
          refine ⟨_, hIa, ?_⟩
          conv => whnf
          refine ⟨_, hIb, ?_⟩
          conv => whnf
          refine ⟨_, hta, ?_⟩
          conv => whnf
          refine ⟨_, hA, ?_⟩
          conv => whnf
          refine ⟨_, htb, ?_⟩
          conv => whnf
          refine ⟨_, hB, ?_⟩
          conv => whnf
          refine ⟨by kernel_rfl, ?_⟩
          conv => whnf
          refine caseb (fun h => Bool.noConfusion ((hs).symm.trans h)) (fun _ => ?_)
          conv => whnf
          refine ⟨i + 1, [], (by show n - (i + 1) < n - i; omega), hlt, ⟨⟨rfl, rfl⟩, ⟨rfl, rfl⟩, ⟨rfl, rfl⟩, ⟨rfl, rfl⟩, ⟨rfl, rfl⟩, ⟨rfl, rfl⟩, ⟨rfl, rfl⟩, ⟨rfl, rfl⟩, ⟨rfl, rfl⟩, ⟨valI eI, rfl⟩, trivial⟩, ⟨⟨rfl, .inr ⟨rfl, rfl⟩⟩, ⟨rfl, .inr ⟨rfl, rfl⟩⟩, ⟨rfl, .inr ⟨rfl, rfl⟩⟩, ⟨rfl, .inl ⟨celE ?_, rowsM_noid _ _⟩⟩, trivial⟩, rfl⟩
          exact hstay (by unfold chE smE; rw [← hx, ← hy]; simp [hxy])
        · have hs : ((x == y) == false) = true := by simp [hxy]
          conv => whnf
          first
            | refine caseb (fun _ => ?_) (fun h => absurd (of_decide_eq_false h) (by omega))
            | refine caseb (fun h => absurd (of_decide_eq_true h) (by omega)) (fun _ => ?_)
            | refine caseb (fun _ => ?_) (fun h => absurd (beq_eq_false_iff_ne.1 h) (by omega))
            | refine caseb (fun h => absurd (eq_of_beq h) (by omega)) (fun _ => ?_)
          conv => whnf
          refine ⟨_, hIa, ?_⟩
          conv => whnf
          refine ⟨_, hIb, ?_⟩
          conv => whnf
          refine ⟨_, hta, ?_⟩
          conv => whnf
          refine ⟨_, hA, ?_⟩
          conv => whnf
          refine ⟨_, htb, ?_⟩
          conv => whnf
          refine ⟨_, hB, ?_⟩
          conv => whnf
          refine ⟨by kernel_rfl, ?_⟩
          conv => whnf
          refine caseb (fun _ => ?_) (fun h => Bool.noConfusion ((hs).symm.trans h))
          conv => whnf
          refine ⟨_, hF, ?_⟩
          conv => whnf
          refine ⟨by omega, ?_⟩
          conv => whnf
          refine ⟨by rw [Nat.zero_add, Int.toNat_natCast]; omega, ?_⟩
          conv => whnf
          refine ⟨i + 1, [], (by show n - (i + 1) < n - i; omega), hlt, ⟨⟨rfl, rfl⟩, ⟨rfl, rfl⟩, ⟨rfl, rfl⟩, ⟨rfl, rfl⟩, ⟨rfl, rfl⟩, ⟨rfl, rfl⟩, ⟨rfl, rfl⟩, ⟨rfl, rfl⟩, ⟨rfl, rfl⟩, ⟨valI eI, rfl⟩, trivial⟩, ⟨⟨rfl, .inr ⟨rfl, rfl⟩⟩, ⟨rfl, .inr ⟨rfl, rfl⟩⟩, ⟨rfl, .inr ⟨rfl, rfl⟩⟩, ⟨rfl, .inl ⟨celE ?_, rowsM_noid _ _⟩⟩, trivial⟩, rfl⟩
          rw [← hset (some (1, 1)) (by unfold chE smE; rw [← hx, ← hy]; simp [hxy])]
          show List.set _ (0 + (i : Int).toNat) _ = _
          rw [Nat.zero_add, Int.toNat_natCast]
          rfl
  · have hie : i = n := by omega
    have e1 : (Y.take i).map rowX ++ List.replicate (n - i) (rowX none) = Y.map rowX := by
      rw [hie, List.take_of_length_le (by omega), Nat.sub_self, List.replicate_zero, List.append_nil]
    rw [e1]
    have key : List.take n (List.drop 0 (Y.map rowX)) = Y.map rowX := by rw [List.drop_zero, List.take_of_length_le (by rw [List.length_map]; omega)]
    conv => whnf
    first
      | refine caseb (fun _ => ?_) (fun h => absurd (of_decide_eq_false h) (by omega))
      | refine caseb (fun h => absurd (of_decide_eq_true h) (by omega)) (fun _ => ?_)
      | refine caseb (fun _ => ?_) (fun h => absurd (beq_eq_false_iff_ne.1 h) (by omega))
      | refine caseb (fun h => absurd (eq_of_beq h) (by omega)) (fun _ => ?_)
    conv => whnf
    rw [key]
    have lY : (Y.map rowX).length = n := by rw [List.length_map]; exact l1
    unfold AA at *
    refine ⟨by show 0 + n ≤ (Y.map rowX).length; omega, _, hN, ?_⟩
    repeat
      conv => whnf
      first
        | refine ⟨_, by assumption, ?_⟩
        | refine ⟨(Nat.le_of_ble_eq_true rfl), _, by assumption, ?_⟩
        | refine ⟨by kernel_rfl, ?_⟩
        | exact rfl
        | exact ⟨Nat.le_of_ble_eq_true rfl, rfl⟩
        | refine ⟨by decide, ?_⟩

end Go.Proofs.YtclamnmpleiakaaGreat

/- Arrays: what a function of two comes to, element by element (the program's contract). -/
set_option linter.unusedVariables false
namespace Go.Proofs.YtclamnmpleiakaaGreat
open Go Go.AL NM

section
variable (c : Int) (sa sb : List Int) (ca cb : Bool) (ta tb : List Int)
theorem Two_not (h : ¬ isTwo c) (na nb : List (Option (Rat × Nat))) (most : Int) : AC Tryz.prog 18 [.val (.int .i32 c), AA sa ca ta na true, AA sb cb tb nb true, .val (.int .i64 most)] (.pure (.tup [AZ, .val (.int .i64 20)])) := by
  have hH := Has_ok c
  rw [decide_eq_false h] at hH
  refine AC.of_body TTok Tryz.func18 rfl (enter_of Tryz.func18 (by kernel_rfl) (by kernel_rfl)) (noidF (.val _) (AA_noid _ _ _ _ _) (AA_noid _ _ _ _ _) (.val _)) (AZt_noid _) (Nat.le_of_ble_eq_true rfl) ?_
  unfold AA
  repeat
    conv => whnf
    first
      | refine ⟨_, by assumption, ?_⟩
      | refine ⟨(Nat.le_of_ble_eq_true rfl), _, by assumption, ?_⟩
      | refine ⟨by kernel_rfl, ?_⟩
      | exact rfl
      | exact ⟨Nat.le_of_ble_eq_true rfl, rfl⟩
      | refine ⟨by decide, ?_⟩
theorem Two_unfit (h : isTwo c) (na nb : List (Option (Rat × Nat))) (most : Int) (x : List Int × Bool × Bool × Int) (he : x.2.2.2 ≠ 0) (hF : AC Tryz.prog 21 [AA sa ca ta na true, AA sb cb tb nb true] (.pure (FV x))) :
    AC Tryz.prog 18 [.val (.int .i32 c), AA sa ca ta na true, AA sb cb tb nb true, .val (.int .i64 most)] (.pure (.tup [AZ, .val (.int .i64 x.2.2.2)])) := by
  have hH := Has_ok c
  rw [decide_eq_true h] at hH
  obtain ⟨s, one, two, e⟩ := x
  refine AC.of_body TTok Tryz.func18 rfl (enter_of Tryz.func18 (by kernel_rfl) (by kernel_rfl)) (noidF (.val _) (AA_noid _ _ _ _ _) (AA_noid _ _ _ _ _) (.val _)) (AZt_noid _) (Nat.le_of_ble_eq_true rfl) ?_
  unfold FV at hF
  have he : e ≠ 0 := he
  have hF : AC Tryz.prog 21 [AA sa ca ta na true, AA sb cb tb nb true] (.pure (.tup [.sl 1 (irows .i64 s) false, .val (.bool one), .val (.bool two), .val (.int .i64 e)])) := hF
  unfold AA at *
  conv => whnf
  refine ⟨_, hH, ?_⟩
  conv => whnf
  refine ⟨_, hF, ?_⟩
  conv => whnf
  first
    | refine caseb (fun h => absurd (bne_iff_ne.1 h) (by omega)) (fun _ => ?_)
    | refine caseb (fun _ => ?_) (fun h => absurd (bne_eq_false_iff_eq.1 h) (by omega))
  repeat
    conv => whnf
    first
      | refine ⟨_, by assumption, ?_⟩
      | refine ⟨(Nat.le_of_ble_eq_true rfl), _, by assumption, ?_⟩
      | refine ⟨by kernel_rfl, ?_⟩
      | exact rfl
      | exact ⟨Nat.le_of_ble_eq_true rfl, rfl⟩
      | refine ⟨by decide, ?_⟩
theorem Two_nil (h : isTwo c) (na nb : List (Option (Rat × Nat))) (most : Int) (s : List Int) (one two : Bool) (hv : vS s) (hcn : cntI s = 0) (hF : AC Tryz.prog 21 [AA sa ca ta na true, AA sb cb tb nb true] (.pure (FV (s, one, two, 0)))) :
    AC Tryz.prog 18 [.val (.int .i32 c), AA sa ca ta na true, AA sb cb tb nb true, .val (.int .i64 most)] (.pure (.tup [AA s false [] [] true, .val (.int .i64 0)])) := by
  have hH := Has_ok c
  rw [decide_eq_true h] at hH
  have hC := Count_ok s (by have := hv.1; omega)
  rw [CNT_good hv, hcn] at hC
  have hN := Nums_ok s [] hv (by rw [hcn]; rfl) (by decide)
  refine AC.of_body TTok Tryz.func18 rfl (enter_of Tryz.func18 (by kernel_rfl) (by kernel_rfl)) (noidF (.val _) (AA_noid _ _ _ _ _) (AA_noid _ _ _ _ _) (.val _)) (.tup _ (noid2 (AA_noid _ _ _ _ _) (.val _))) (Nat.le_of_ble_eq_true rfl) ?_
  unfold FV AA at hF
  unfold AA
  conv => whnf
  refine ⟨_, hH, ?_⟩
  conv => whnf
  refine ⟨_, hF, ?_⟩
  conv => whnf
  refine ⟨_, hC, ?_⟩
  conv => whnf
  refine ⟨by decide, ?_⟩
  conv => whnf
  refine SW.loopM TTok (fun _ : Unit => [(8, .lp 16 0), (10, .sl 1 (irows .i64 s) false), (16, .own 312 0 0), (65, .val (.int .i64 0)), (66, .val (.int .i64 0))]) (fun _ => [(16, .cells 5 [[.sl 0 [] true, .val (.bool false), .sl 0 [] true, .sl 0 [] true, .val (.bool false)]]), (312, .cells 3 [])]) 352 101 rfl (fun _ => 0) (fun _ => True) () [] trivial
    ⟨⟨rfl, rfl⟩, ⟨rfl, rfl⟩, ⟨rfl, rfl⟩, ⟨rfl, rfl⟩, ⟨rfl, rfl⟩, trivial⟩ ⟨⟨rfl, .inr ⟨rfl, rfl⟩⟩, ⟨rfl, .inr ⟨rfl, rfl⟩⟩, trivial⟩ rfl ?_
  intro _ _
  unfold AA at hN
  conv => whnf
  refine ⟨Nat.le_refl _, _, hN, ?_⟩
  repeat
    conv => whnf
    first
      | refine ⟨_, by assumption, ?_⟩
      | refine ⟨(Nat.le_of_ble_eq_true rfl), _, by assumption, ?_⟩
      | refine ⟨by kernel_rfl, ?_⟩
      | exact rfl
      | exact ⟨Nat.le_of_ble_eq_true rfl, rfl⟩
      | refine ⟨by decide, ?_⟩
theorem Two_chars (h : isTwo c) (hch : ca = true ∨ cb = true) (na nb : List (Option (Rat × Nat))) (most : Int) (s : List Int) (one two : Bool) (n : Nat) (hn : 0 < n) (hv : vS s) (hcn : cntI s = (n : Int)) (hF : AC Tryz.prog 21 [AA sa ca ta na true, AA sb cb tb nb true] (.pure (FV (s, one, two, 0))))
    (e : Int) (k1 k3 k4 : Nat) (l1 l3 l4 : List (List AV)) (z1 z3 z4 : Bool) (v2 v5 : Value) (hnr : NoId (.tup [.agg [.sl k1 l1 z1, .val v2, .sl k3 l3 z3, .sl k4 l4 z4, .val v5], .val (.int .i64 e)]))
    (hX : AC Tryz.prog 51 [.val (.int .i32 c), AA sa ca ta na true, AA sb cb tb nb true, .sl 1 (irows .i64 s) false, .val (.bool one), .val (.bool two)] (.pure (.tup [.agg [.sl k1 l1 z1, .val v2, .sl k3 l3 z3, .sl k4 l4 z4, .val v5], .val (.int .i64 e)]))) :
    AC Tryz.prog 18 [.val (.int .i32 c), AA sa ca ta na true, AA sb cb tb nb true, .val (.int .i64 most)] (.pure (.tup [.agg [.sl k1 l1 z1, .val v2, .sl k3 l3 z3, .sl k4 l4 z4, .val v5], .val (.int .i64 e)])) := by
  have hH := Has_ok c
  rw [decide_eq_true h] at hH
  have hC := Count_ok s (by have := hv.1; omega)
  rw [CNT_good hv, hcn] at hC
  have hIa := IsChar_ok sa ca ta na true
  have hIb := IsChar_ok sb cb tb nb true
  refine AC.of_body TTok Tryz.func18 rfl (enter_of Tryz.func18 (by kernel_rfl) (by kernel_rfl)) (noidF (.val _) (AA_noid _ _ _ _ _) (AA_noid _ _ _ _ _) (.val _)) hnr (Nat.le_of_ble_eq_true rfl) ?_
  unfold FV AA at hF
  unfold AA at *
  cases ca
  · have hcb : cb = true := hch.resolve_left Bool.false_ne_true
    subst hcb
    conv => whnf
    refine ⟨_, hH, ?_⟩
    conv => whnf
    refine ⟨_, hF, ?_⟩
    conv => whnf
    refine ⟨_, hC, ?_⟩
    conv => whnf
    first
      | refine caseb (fun _ => ?_) (fun h => absurd (of_decide_eq_false h) (by omega))
      | refine caseb (fun h => absurd (of_decide_eq_true h) (by omega)) (fun _ => ?_)
      | refine caseb (fun _ => ?_) (fun h => absurd (beq_eq_false_iff_ne.1 h) (by omega))
      | refine caseb (fun h => absurd (eq_of_beq h) (by omega)) (fun _ => ?_)
    conv => whnf
    refine ⟨_, hIa, ?_⟩
    conv => whnf
    refine ⟨_, hIb, ?_⟩
    conv => whnf
    refine ⟨_, hX, ?_⟩
    repeat
      conv => whnf
      first
        | refine ⟨_, by assumption, ?_⟩
        | refine ⟨(Nat.le_of_ble_eq_true rfl), _, by assumption, ?_⟩
        | refine ⟨by kernel_rfl, ?_⟩
        | exact rfl
        | exact ⟨Nat.le_of_ble_eq_true rfl, rfl⟩
        | refine ⟨by decide, ?_⟩
  · conv => whnf
    refine ⟨_, hH, ?_⟩
    conv => whnf
    refine ⟨_, hF, ?_⟩
    conv => whnf
    refine ⟨_, hC, ?_⟩
    conv => whnf
    first
      | refine caseb (fun _ => ?_) (fun h => absurd (of_decide_eq_false h) (by omega))
      | refine caseb (fun h => absurd (of_decide_eq_true h) (by omega)) (fun _ => ?_)
      | refine caseb (fun _ => ?_) (fun h => absurd (beq_eq_false_iff_ne.1 h) (by omega))
      | refine caseb (fun h => absurd (eq_of_beq h) (by omega)) (fun _ => ?_)
    conv => whnf
    refine ⟨_, hIa, ?_⟩
    conv => whnf
    refine ⟨_, hX, ?_⟩
    repeat
      conv => whnf
      first
        | refine ⟨_, by assumption, ?_⟩
        | refine ⟨(Nat.le_of_ble_eq_true rfl), _, by assumption, ?_⟩
        | refine ⟨by kernel_rfl, ?_⟩
        | exact rfl
        | exact ⟨Nat.le_of_ble_eq_true rfl, rfl⟩
        | refine ⟨by decide, ?_⟩
theorem chars_not (h1 : c ≠ 61) (h2 : c ≠ 8800) (na nb : List (Option (Rat × Nat))) (s : List Int) (one two : Bool) :
    AC Tryz.prog 51 [.val (.int .i32 c), AA sa ca ta na true, AA sb cb tb nb true, .sl 1 (irows .i64 s) false, .val (.bool one), .val (.bool two)] (.pure (.tup [AZ, .val (.int .i64 22)])) := by
  refine AC.of_body TTok Tryz.func51 rfl (enter_of Tryz.func51 (by kernel_rfl) (by kernel_rfl)) (noid6 (.val _) (AA_noid _ _ _ _ _) (AA_noid _ _ _ _ _) (noid_sl _ _ _) (.val _) (.val _)) (AZt_noid _) (Nat.le_of_ble_eq_true rfl) ?_
  unfold AA
  conv => whnf
  first
    | refine caseb (fun h => absurd (bne_iff_ne.1 h) (by omega)) (fun _ => ?_)
    | refine caseb (fun _ => ?_) (fun h => absurd (bne_eq_false_iff_eq.1 h) (by omega))
  conv => whnf
  first
    | refine caseb (fun h => absurd (bne_iff_ne.1 h) (by omega)) (fun _ => ?_)
    | refine caseb (fun _ => ?_) (fun h => absurd (bne_eq_false_iff_eq.1 h) (by omega))
  repeat
    conv => whnf
    first
      | refine ⟨_, by assumption, ?_⟩
      | refine ⟨(Nat.le_of_ble_eq_true rfl), _, by assumption, ?_⟩
      | refine ⟨by kernel_rfl, ?_⟩
      | exact rfl
      | exact ⟨Nat.le_of_ble_eq_true rfl, rfl⟩
      | refine ⟨by decide, ?_⟩
end
end Go.Proofs.YtclamnmpleiakaaGreat

/- Arrays: what a function of two comes to: all cases (the program's contract). -/
set_option linter.unusedVariables false
namespace Go.Proofs.YtclamnmpleiakaaGreat
open Go Go.AL NM

/-- The first error of a function of two arrays (0: none). -/
def twoE (c : Int) (sa sb : List Int) (ca cb : Bool) (ta tb : List Int) (qa qb : List Rat) (most : Int) : Int :=
  if isTwo c then (if (fitS sa sb (ta.length + qa.length) (tb.length + qb.length)).2.2.2 ≠ 0 then (fitS sa sb (ta.length + qa.length) (tb.length + qb.length)).2.2.2
    else firstE ((List.range (cntI (fitS sa sb (ta.length + qa.length) (tb.length + qb.length)).1).toNat).map (elemF c ca cb ta tb qa qb (fitS sa sb (ta.length + qa.length) (tb.length + qb.length)).2.1 (fitS sa sb (ta.length + qa.length) (tb.length + qb.length)).2.2.1 most))) else 20
/-- Its elements. -/
def twoV (c : Int) (sa sb : List Int) (ca cb : Bool) (ta tb : List Int) (qa qb : List Rat) (most : Int) : List Rat :=
  (List.range (cntI (fitS sa sb (ta.length + qa.length) (tb.length + qb.length)).1).toNat).map fun i => (elemF c ca cb ta tb qa qb (fitS sa sb (ta.length + qa.length) (tb.length + qb.length)).2.1 (fitS sa sb (ta.length + qa.length) (tb.length + qb.length)).2.2.1 most i).1
theorem chE_val (c : Int) (hc : c = 61 ∨ c = 8800) (ca cb : Bool) (hch : ca = true ∨ cb = true) (ta tb : List Int) (qa qb : List Rat) (one two : Bool) (most : Int) (i : Nat) :
    valX (chE c ca cb ta tb one two i) = (elemF c ca cb ta tb qa qb one two most i).1 ∧ okX (chE c ca cb ta tb one two i) := by
  unfold chE elemF smE
  rw [if_pos hch, if_pos hc]
  by_cases h : (ca && cb && decide (ta.getD (ix one i) 0 = tb.getD (ix two i) 0)) = decide (c = 61)
  · rw [if_pos h, if_pos h]
    exact ⟨rfl, rfl⟩
  · rw [if_neg h, if_neg h]
    exact ⟨rfl, trivial⟩
theorem chars_ok (c : Int) (hc : c = 61 ∨ c = 8800) (sa sb : List Int) (ca cb : Bool) (ta tb : List Int) (na nb : List (Option (Rat × Nat))) (s : List Int) (one two : Bool) (n : Nat) (hn : n ≤ 5000) (hv : vS s) (hcn : cntI s = (n : Int))
    (hix : ∀ i : Nat, i < n → (ca = true → ix one i < ta.length) ∧ (cb = true → ix two i < tb.length)) (la : ta.length ≤ 1000) (lb : tb.length ≤ 1000) :
    AC Tryz.prog 51 [.val (.int .i32 c), AA sa ca ta na true, AA sb cb tb nb true, .sl 1 (irows .i64 s) false, .val (.bool one), .val (.bool two)] (.pure (.tup [AA s false [] ((List.range n).map (chE c ca cb ta tb one two)) true, .val (.int .i64 0)])) := by
  rcases hc with rfl | rfl
  · exact chars_61 sa sb ca cb ta tb na nb s one two n hn hv hcn hix la lb
  · exact chars_8800 sa sb ca cb ta tb na nb s one two n hn hv hcn hix la lb

theorem PTwo_ok (c : Int) (sa sb : List Int) (ca cb : Bool) (ta tb : List Int) (qa qb : List Rat) (most : Int) (hm : most ≤ 200) (hva : vS sa) (hvb : vS sb) (hka : kinds sa ca ta.length qa.length) (hkb : kinds sb cb tb.length qb.length)
    (h1 : ta.length ≤ 500) (h2 : tb.length ≤ 500) (h3 : qa.length ≤ 500) (h4 : qb.length ≤ 500) (hQa : ∀ q ∈ qa, Sz q 5) (hQb : ∀ q ∈ qb, Sz q 5) :
    ∃ l : List (Option (Rat × Nat)), (twoE c sa sb ca cb ta tb qa qb most = 0 → l.map valX = twoV c sa sb ca cb ta tb qa qb most) ∧ (∀ o ∈ l, okX o) ∧ l.length ≤ 5000 ∧
      AC Tryz.prog 18 [.val (.int .i32 c), AA sa ca ta (qa.map ofX) true, AA sb cb tb (qb.map ofX) true, .val (.int .i64 most)] (.pure (resA (fitS sa sb (ta.length + qa.length) (tb.length + qb.length)).1 (twoE c sa sb ca cb ta tb qa qb most) l)) := by
  have hF := Fit_ok sa sb ca cb ta tb (qa.map ofX) (qb.map ofX) (by have := hva.1; omega) (by have := hvb.1; omega) (by omega) (by omega) (by rw [List.length_map]; omega) (by rw [List.length_map]; omega)
  rw [List.length_map, List.length_map] at hF
  obtain ⟨ka1, ka2⟩ := kinds_len hka
  obtain ⟨kb1, kb2⟩ := kinds_len hkb
  have hI := fit_idx ka1 kb1 hva hvb
  unfold twoE twoV
  generalize hx : fitS sa sb (ta.length + qa.length) (tb.length + qb.length) = x at hF hI ⊢
  by_cases hc : isTwo c
  · rw [if_pos hc]
    by_cases he : x.2.2.2 = 0
    · obtain ⟨v1, v2, v3⟩ := hI he
      obtain ⟨s, one, two, e⟩ := x
      have he : e = 0 := he
      subst he
      have v1 : vS s := v1
      have v2 : cntI s = ((ta.length + qa.length : Nat) : Int) ∨ cntI s = ((tb.length + qb.length : Nat) : Int) := v2
      have v3 : ∀ i : Nat, (i : Int) < cntI s → ix one i < ta.length + qa.length ∧ ix two i < tb.length + qb.length := v3
      obtain ⟨n, hn⟩ : ∃ n : Nat, cntI s = (n : Int) := by rcases v2 with h | h <;> exact ⟨_, h⟩
      have hn5 : n ≤ 1000 := by omega
      rw [if_neg (fun h => h rfl)]
      show ∃ l : List (Option (Rat × Nat)), (firstE ((List.range (cntI s).toNat).map (elemF c ca cb ta tb qa qb one two most)) = 0 → l.map valX = (List.range (cntI s).toNat).map fun i => (elemF c ca cb ta tb qa qb one two most i).1) ∧ (∀ o ∈ l, okX o) ∧ l.length ≤ 5000 ∧
        AC Tryz.prog 18 _ (.pure (resA s (firstE ((List.range (cntI s).toNat).map (elemF c ca cb ta tb qa qb one two most))) l))
      rw [hn, Int.toNat_natCast]
      rw [hn] at v3
      by_cases hn0 : n = 0
      · subst hn0
        refine ⟨[], fun _ => rfl, fun o ho => (nomatch ho), Nat.zero_le _, ?_⟩
        show AC Tryz.prog 18 _ (.pure (resA s 0 []))
        unfold resA
        rw [if_pos rfl]
        exact Two_nil c sa sb ca cb ta tb hc _ _ most s one two v1 hn hF
      · by_cases hch : ca = true ∨ cb = true
        · by_cases hcc : c = 61 ∨ c = 8800
          · have hz : firstE ((List.range n).map (elemF c ca cb ta tb qa qb one two most)) = 0 := firstE_zero (fun y hy => by
              obtain ⟨i, _, rfl⟩ := List.mem_map.1 hy
              unfold elemF
              rw [if_pos hch, if_pos hcc])
            refine ⟨(List.range n).map (chE c ca cb ta tb one two), fun _ => ?_, fun o ho => ?_, by rw [List.length_map, List.length_range]; omega, ?_⟩
            · rw [List.map_map]
              exact List.map_congr_left (fun i _ => (chE_val c hcc ca cb hch ta tb qa qb one two most i).1)
            · obtain ⟨i, _, rfl⟩ := List.mem_map.1 ho
              exact (chE_val c hcc ca cb hch ta tb qa qb one two most i).2
            · rw [hz]
              unfold resA
              rw [if_pos rfl]
              have hX := chars_ok c hcc sa sb ca cb ta tb (qa.map ofX) (qb.map ofX) s one two n (by omega) v1 hn (fun i hi => ⟨fun h => by
                have := (v3 i (by omega)).1
                rw [h, if_pos rfl] at ka2
                omega, fun h => by
                have := (v3 i (by omega)).2
                rw [h, if_pos rfl] at kb2
                omega⟩) (by omega) (by omega)
              unfold AA at hX ⊢
              exact Two_chars c sa sb ca cb ta tb hc hch _ _ most s one two n (by omega) v1 hn hF 0 1 1 3 _ _ _ _ _ _ _ _ (.tup _ (noid2 (AA_noid _ _ _ _ _) (.val _))) hX
          · have hz : firstE ((List.range n).map (elemF c ca cb ta tb qa qb one two most)) = 22 := by
              have he22 : ∀ i, (elemF c ca cb ta tb qa qb one two most i).2 = 22 := fun i => by
                unfold elemF
                rw [if_pos hch, if_neg hcc]
              have := firstE_at (l := (List.range n).map (elemF c ca cb ta tb qa qb one two most)) (i := 0) (by rw [List.length_map, List.length_range]; omega) (fun y hy => nomatch hy) (by rw [List.getElem_map, he22]; decide)
              rw [this, List.getElem_map, he22]
            refine ⟨[], fun h => absurd (hz.symm.trans h) (by decide), fun o ho => (nomatch ho), Nat.zero_le _, ?_⟩
            rw [hz]
            have hX := chars_not c sa sb ca cb ta tb (fun h => hcc (.inl h)) (fun h => hcc (.inr h)) (qa.map ofX) (qb.map ofX) s one two
            exact resA_err s _ (by decide) (Two_chars c sa sb ca cb ta tb hc hch _ _ most s one two n (by omega) v1 hn hF 22 0 0 0 _ _ _ _ _ _ _ _ (AZt_noid _) hX)
        · have hca : ca = false := by cases ca with | false => rfl | true => exact absurd (.inl rfl) hch
          have hcb : cb = false := by cases cb with | false => rfl | true => exact absurd (.inr rfl) hch
          subst hca hcb
          have ka2 : qa.length = ta.length + qa.length := ka2
          have kb2 : qb.length = tb.length + qb.length := kb2
          have hix : ∀ i : Nat, i < n → ix one i < qa.length ∧ ix two i < qb.length := fun i hi => by
            have := v3 i (by omega)
            omega
          have hel : ∀ i, elemF c false false ta tb qa qb one two most i = twoQ c (qa.getD (ix one i) 0) (qb.getD (ix two i) 0) most := fun i => by
            unfold elemF
            rw [if_neg hch]
          obtain ⟨D, hD⟩ := pick_all (l := List.range n) (p := fun i d => dn d = (elemF c false false ta tb qa qb one two most i).1.den ∧ AC Tryz.prog 52 [.val (.int .i32 c), RA (qa.getD (ix one i) 0).num (qa.getD (ix one i) 0).den, RA (qb.getD (ix two i) 0).num (qb.getD (ix two i) 0).den, .val (.int .i64 most)] (.pure (.tup [RA (elemF c false false ta tb qa qb one two most i).1.num d, .val (.int .i64 (elemF c false false ta tb qa qb one two most i).2)]))) (fun i hi => by
            have hi := List.mem_range.1 hi
            obtain ⟨i1, i2⟩ := hix i hi
            rw [hel]
            refine Two_ok c _ _ _ _ most (dn_den _) (dn_den _) hm ?_ ?_
            · rw [List.getD_eq_getElem?_getD, List.getElem?_eq_getElem i1]
              exact (hQa _ (List.getElem_mem i1)).mono (by decide)
            · rw [List.getD_eq_getElem?_getD, List.getElem?_eq_getElem i2]
              exact (hQb _ (List.getElem_mem i2)).mono (by decide))
          have hL := Two_loop c hc sa sb ta tb qa qb most s one two n hn5 v1 hn hF hix (by omega) (by omega) D (elemF c false false ta tb qa qb one two most) (fun i hi => hD i (List.mem_range.2 hi)) _ rfl
          refine ⟨(List.range n).map fun i => some ((elemF c false false ta tb qa qb one two most i).1, D i), fun _ => by rw [List.map_map]; rfl, fun o ho => ?_, by rw [List.length_map, List.length_range]; omega, ?_⟩
          · obtain ⟨i, hi, rfl⟩ := List.mem_map.1 ho
            exact (hD i hi).1
          · unfold resA
            by_cases hE : firstE ((List.range n).map (elemF c false false ta tb qa qb one two most)) = 0
            · rw [if_pos hE] at hL ⊢
              exact hL
            · rw [if_neg hE] at hL ⊢
              exact AC.le_res hL (.tup2 AZ_le (.refl _)) (.tup _ (noid2 (AA_noid _ _ _ _ _) (.val _)))
    · rw [if_pos he]
      refine ⟨[], fun h => absurd h he, fun o ho => (nomatch ho), Nat.zero_le _, ?_⟩
      exact resA_err _ _ he (Two_unfit c sa sb ca cb ta tb hc _ _ most x he hF)
  · rw [if_neg hc]
    exact ⟨[], fun h => absurd h (by decide), fun o ho => (nomatch ho), Nat.zero_le _, resA_err _ _ (by decide) (Two_not c sa sb ca cb ta tb hc _ _ most)⟩
end Go.Proofs.YtclamnmpleiakaaGreat

/- Arrays: an element of an array, a function of two elements (the document's contracts). -/
set_option linter.unusedVariables false
namespace Go.Proofs.YtclamnmpleiakaaGreat
open Go Go.AL NM

def PE (ch : Bool) (x : Int) (q : Rat) : AV := if ch then PA [] true [x] [] else PA [] false [] [q]
theorem PE_noid (ch : Bool) (x : Int) (q : Rat) : NoId (PE ch x q) := by
  unfold PE; split <;> exact PA_noid _ _ _ _
theorem PE_le1 (x : Int) (q : Rat) : AVle (.agg [.sl 0 [] true, .val (.bool true), .sl 1 (irows .i32 [x]) false, .sl 0 [] true]) (PE true x q) := le_agg4 (le_nil 1) (.refl _) (.refl _) (le_nil 3)
theorem PE_le2 (q : Rat) (x : Int) : AVle (.agg [.sl 0 [] true, .val (.bool false), .sl 0 [] true, .sl 3 [rowN q] false]) (PE false x q) := le_agg4 (le_nil 1) (.refl _) (le_nil 1) (.refl _)
theorem element_ok (sh : List Int) (ch : Bool) (tx : List Int) (qs : List Rat) (i : Nat) (one : Bool) (hi : (if ch then tx.length else qs.length) ≤ 1000) (h : if ch then ix one i < tx.length else ix one i < qs.length) :
    AC Tryz.prog 59 [PA sh ch tx qs, .val (.int .i64 (i : Int)), .val (.bool one)] (.pure (PE ch (tx.getD (ix one i) 0) (qs.getD (ix one i) 0))) := by
  cases ch
  · have h : ix one i < qs.length := h
    have hi : qs.length ≤ 1000 := hi
    obtain ⟨q, hq⟩ : ∃ q, q = qs.getD (ix one i) 0 := ⟨_, rfl⟩
    have hg : (qs.map rowN)[ix one i]? = some [.val (.bool (decide (q.num < 0))), .val (.string (decS q.num.natAbs)), .val (.string (decS q.den))] := by
      rw [hq, List.getD_eq_getElem?_getD, List.getElem?_eq_getElem h, List.getElem?_map, List.getElem?_eq_getElem h]; rfl
    rw [← hq]
    have l1 : (qs.map rowN).length = qs.length := List.length_map _
    refine AC.le_res ?_ (PE_le2 q _) (PE_noid _ _ _)
    refine AC.of_body TTok Tryz.func59 rfl (enter_of Tryz.func59 (by kernel_rfl) (by kernel_rfl)) (noid3 (PA_noid _ _ _ _) (.val _) (.val _)) (.agg _ (noidF (.sl _ _ _ (fun r hr => nomatch hr)) (.val _) (.sl _ _ _ (fun r hr => nomatch hr)) (slN_noid [q]))) (Nat.le_of_ble_eq_true rfl) ?_
    unfold PA
    cases one
    · have hg : (qs.map rowN)[i]? = _ := hg
      have h : i < qs.length := h
      conv => whnf
      refine ⟨_, ⟨by omega, hg⟩, ?_⟩
      repeat
        conv => whnf
        first
          | refine ⟨_, by assumption, ?_⟩
          | refine ⟨(Nat.le_of_ble_eq_true rfl), _, by assumption, ?_⟩
          | refine ⟨by kernel_rfl, ?_⟩
          | exact rfl
          | exact ⟨Nat.le_of_ble_eq_true rfl, rfl⟩
          | refine ⟨by decide, ?_⟩
    · have hg : (qs.map rowN)[0]? = _ := hg
      have h : 0 < qs.length := h
      conv => whnf
      refine ⟨_, ⟨by omega, hg⟩, ?_⟩
      repeat
        conv => whnf
        first
          | refine ⟨_, by assumption, ?_⟩
          | refine ⟨(Nat.le_of_ble_eq_true rfl), _, by assumption, ?_⟩
          | refine ⟨by kernel_rfl, ?_⟩
          | exact rfl
          | exact ⟨Nat.le_of_ble_eq_true rfl, rfl⟩
          | refine ⟨by decide, ?_⟩
  · have h : ix one i < tx.length := h
    have hi : tx.length ≤ 1000 := hi
    obtain ⟨q, hq⟩ : ∃ q, q = tx.getD (ix one i) 0 := ⟨_, rfl⟩
    have hg : (irows .i32 tx)[ix one i]? = some [.val (.int .i32 q)] := irows_get .i32 tx (by
      rw [hq, List.getD_eq_getElem?_getD, List.getElem?_eq_getElem h]; rfl)
    rw [← hq]
    have l1 := irows_len .i32 tx
    refine AC.le_res ?_ (PE_le1 q _) (PE_noid _ _ _)
    refine AC.of_body TTok Tryz.func59 rfl (enter_of Tryz.func59 (by kernel_rfl) (by kernel_rfl)) (noid3 (PA_noid _ _ _ _) (.val _) (.val _)) (.agg _ (noidF (.sl _ _ _ (fun r hr => nomatch hr)) (.val _) (noid_sl _ _ _) (.sl _ _ _ (fun r hr => nomatch hr)))) (Nat.le_of_ble_eq_true rfl) ?_
    unfold PA
    cases one
    · have hg : (irows .i32 tx)[i]? = _ := hg
      have h : i < tx.length := h
      conv => whnf
      refine ⟨_, ⟨by omega, hg⟩, ?_⟩
      repeat
        conv => whnf
        first
          | refine ⟨_, by assumption, ?_⟩
          | refine ⟨(Nat.le_of_ble_eq_true rfl), _, by assumption, ?_⟩
          | refine ⟨by kernel_rfl, ?_⟩
          | exact rfl
          | exact ⟨Nat.le_of_ble_eq_true rfl, rfl⟩
          | refine ⟨by decide, ?_⟩
    · have hg : (irows .i32 tx)[0]? = _ := hg
      have h : 0 < tx.length := h
      conv => whnf
      refine ⟨_, ⟨by omega, hg⟩, ?_⟩
      repeat
        conv => whnf
        first
          | refine ⟨_, by assumption, ?_⟩
          | refine ⟨(Nat.le_of_ble_eq_true rfl), _, by assumption, ?_⟩
          | refine ⟨by kernel_rfl, ?_⟩
          | exact rfl
          | exact ⟨Nat.le_of_ble_eq_true rfl, rfl⟩
          | refine ⟨by decide, ?_⟩
/-- What two elements come to, alone. -/
def pairV (c : Int) (ca cb : Bool) (x y : Int) (p q : Rat) (most : Int) : Rat × Int :=
  if ca = true ∨ cb = true then
    if c = 61 ∨ c = 8800 then (if (ca && cb && decide (x = y)) = decide (c = 61) then 1 else 0, 0) else (0, 22)
  else twoQ c p q most
def pairR (r : Rat × Int) : AV := .tup [RN r.1.num r.1.den, .val (.int .i64 r.2)]
theorem pairR_noid (r : Rat × Int) : NoId (pairR r) := .tup _ (noid2 (RN_noid _ _) (.val _))
section
variable (c : Int) (ca cb : Bool) (x y : Int) (p q : Rat) (most : Int) (hm : most ≤ 200) (lp : Sz p 5) (lq : Sz q 5)
include hm lp lq
theorem pair_ok : AC Tryz.prog 58 [.val (.int .i32 c), PE ca x p, PE cb y q, .val (.int .i64 most)] (.pure (pairR (pairV c ca cb x y p q most))) := by
  have h2 := STwo_ok c p q most hm (lp.mono (by decide)) (lq.mono (by decide))
  have hZ := SZero_ok
  have hF := SFrom_ok 1 (by decide)
  have e1 : ∀ x p, PE false x p = .agg [.sl 1 [] false, .val (.bool false), .sl 1 [] false, .sl 3 [[.val (.bool (decide (p.num < 0))), .val (.string (decS p.num.natAbs)), .val (.string (decS p.den))]] false] := fun _ _ => rfl
  have e2 : ∀ x p, PE true x p = .agg [.sl 1 [] false, .val (.bool true), .sl 1 [[.val (.int .i32 x)]] false, .sl 3 [] false] := fun _ _ => rfl
  have nd : ∀ z ∈ [AV.val (.int .i32 c), PE ca x p, PE cb y q, .val (.int .i64 most)], NoId z := noidF (.val _) (PE_noid _ _ _) (PE_noid _ _ _) (.val _)
  unfold pairV
  cases ca
  · cases cb
    · rw [if_neg (fun h => by rcases h with h | h <;> exact Bool.false_ne_true h)]
      generalize twoQ c p q most = r at *
      refine AC.of_body TTok Tryz.func58 rfl (enter_of Tryz.func58 (by kernel_rfl) (by kernel_rfl)) nd (pairR_noid _) (Nat.le_of_ble_eq_true rfl) ?_
      unfold pairR
      rw [e1, e1]
      unfold RN at *
      conv => whnf
      refine ⟨_, ⟨by decide, rfl⟩, ?_⟩
      conv => whnf
      refine ⟨_, ⟨by decide, rfl⟩, ?_⟩
      conv => whnf
      refine ⟨_, h2, ?_⟩
      repeat
        conv => whnf
        first
          | refine ⟨_, by assumption, ?_⟩
          | refine ⟨(Nat.le_of_ble_eq_true rfl), _, by assumption, ?_⟩
          | refine ⟨by kernel_rfl, ?_⟩
          | exact rfl
          | exact ⟨Nat.le_of_ble_eq_true rfl, rfl⟩
          | refine ⟨by decide, ?_⟩
    · rw [if_pos (by decide)]
      by_cases h61 : c = 61
      · subst h61
        rw [if_pos (by decide)]
        rw [if_neg (by simp)]
        refine AC.of_body TTok Tryz.func58 rfl (enter_of Tryz.func58 (by kernel_rfl) (by kernel_rfl)) nd (pairR_noid _) (Nat.le_of_ble_eq_true rfl) ?_
        unfold pairR
        rw [e1, e2]
        unfold RN at *
        repeat
          conv => whnf
          first
            | refine ⟨_, by assumption, ?_⟩
            | refine ⟨(Nat.le_of_ble_eq_true rfl), _, by assumption, ?_⟩
            | refine ⟨by kernel_rfl, ?_⟩
            | exact rfl
            | exact ⟨Nat.le_of_ble_eq_true rfl, rfl⟩
            | refine ⟨by decide, ?_⟩
      · by_cases h88 : c = 8800
        · subst h88
          rw [if_pos (by decide)]
          rw [if_pos (by simp)]
          refine AC.of_body TTok Tryz.func58 rfl (enter_of Tryz.func58 (by kernel_rfl) (by kernel_rfl)) nd (pairR_noid _) (Nat.le_of_ble_eq_true rfl) ?_
          unfold pairR
          rw [e1, e2]
          unfold RN at *
          repeat
            conv => whnf
            first
              | refine ⟨_, by assumption, ?_⟩
              | refine ⟨(Nat.le_of_ble_eq_true rfl), _, by assumption, ?_⟩
              | refine ⟨by kernel_rfl, ?_⟩
              | exact rfl
              | exact ⟨Nat.le_of_ble_eq_true rfl, rfl⟩
              | refine ⟨by decide, ?_⟩
        · rw [if_neg (fun h => h.elim h61 h88)]
          refine AC.of_body TTok Tryz.func58 rfl (enter_of Tryz.func58 (by kernel_rfl) (by kernel_rfl)) nd (pairR_noid _) (Nat.le_of_ble_eq_true rfl) ?_
          unfold pairR
          rw [e1, e2]
          unfold RN at *
          conv => whnf
          first
            | refine caseb (fun h => absurd (bne_iff_ne.1 h) (by omega)) (fun _ => ?_)
            | refine caseb (fun _ => ?_) (fun h => absurd (bne_eq_false_iff_eq.1 h) (by omega))
          conv => whnf
          first
            | refine caseb (fun h => absurd (bne_iff_ne.1 h) (by omega)) (fun _ => ?_)
            | refine caseb (fun _ => ?_) (fun h => absurd (bne_eq_false_iff_eq.1 h) (by omega))
          repeat
            conv => whnf
            first
              | refine ⟨_, by assumption, ?_⟩
              | refine ⟨(Nat.le_of_ble_eq_true rfl), _, by assumption, ?_⟩
              | refine ⟨by kernel_rfl, ?_⟩
              | exact rfl
              | exact ⟨Nat.le_of_ble_eq_true rfl, rfl⟩
              | refine ⟨by decide, ?_⟩
  · cases cb
    · rw [if_pos (by decide)]
      by_cases h61 : c = 61
      · subst h61
        rw [if_pos (by decide)]
        rw [if_neg (by simp)]
        refine AC.of_body TTok Tryz.func58 rfl (enter_of Tryz.func58 (by kernel_rfl) (by kernel_rfl)) nd (pairR_noid _) (Nat.le_of_ble_eq_true rfl) ?_
        unfold pairR
        rw [e2, e1]
        unfold RN at *
        repeat
          conv => whnf
          first
            | refine ⟨_, by assumption, ?_⟩
            | refine ⟨(Nat.le_of_ble_eq_true rfl), _, by assumption, ?_⟩
            | refine ⟨by kernel_rfl, ?_⟩
            | exact rfl
            | exact ⟨Nat.le_of_ble_eq_true rfl, rfl⟩
            | refine ⟨by decide, ?_⟩
      · by_cases h88 : c = 8800
        · subst h88
          rw [if_pos (by decide)]
          rw [if_pos (by simp)]
          refine AC.of_body TTok Tryz.func58 rfl (enter_of Tryz.func58 (by kernel_rfl) (by kernel_rfl)) nd (pairR_noid _) (Nat.le_of_ble_eq_true rfl) ?_
          unfold pairR
          rw [e2, e1]
          unfold RN at *
          repeat
            conv => whnf
            first
              | refine ⟨_, by assumption, ?_⟩
              | refine ⟨(Nat.le_of_ble_eq_true rfl), _, by assumption, ?_⟩
              | refine ⟨by kernel_rfl, ?_⟩
              | exact rfl
              | exact ⟨Nat.le_of_ble_eq_true rfl, rfl⟩
              | refine ⟨by decide, ?_⟩
        · rw [if_neg (fun h => h.elim h61 h88)]
          refine AC.of_body TTok Tryz.func58 rfl (enter_of Tryz.func58 (by kernel_rfl) (by kernel_rfl)) nd (pairR_noid _) (Nat.le_of_ble_eq_true rfl) ?_
          unfold pairR
          rw [e2, e1]
          unfold RN at *
          conv => whnf
          first
            | refine caseb (fun h => absurd (bne_iff_ne.1 h) (by omega)) (fun _ => ?_)
            | refine caseb (fun _ => ?_) (fun h => absurd (bne_eq_false_iff_eq.1 h) (by omega))
          conv => whnf
          first
            | refine caseb (fun h => absurd (bne_iff_ne.1 h) (by omega)) (fun _ => ?_)
            | refine caseb (fun _ => ?_) (fun h => absurd (bne_eq_false_iff_eq.1 h) (by omega))
          repeat
            conv => whnf
            first
              | refine ⟨_, by assumption, ?_⟩
              | refine ⟨(Nat.le_of_ble_eq_true rfl), _, by assumption, ?_⟩
              | refine ⟨by kernel_rfl, ?_⟩
              | exact rfl
              | exact ⟨Nat.le_of_ble_eq_true rfl, rfl⟩
              | refine ⟨by decide, ?_⟩
    · rw [if_pos (by decide)]
      by_cases h61 : c = 61
      · subst h61
        rw [if_pos (by decide)]
        by_cases hxy : x = y
        · rw [if_pos (by simp [hxy])]
          refine AC.of_body TTok Tryz.func58 rfl (enter_of Tryz.func58 (by kernel_rfl) (by kernel_rfl)) nd (pairR_noid _) (Nat.le_of_ble_eq_true rfl) ?_
          unfold pairR
          rw [e2, e2]
          unfold RN at *
          have hs : ((x == y) == true) = true := by simp [hxy]
          conv => whnf
          refine ⟨_, ⟨by decide, rfl⟩, ?_⟩
          conv => whnf
          refine ⟨_, ⟨by decide, rfl⟩, ?_⟩
          conv => whnf
          refine ⟨by kernel_rfl, ?_⟩
          conv => whnf
          refine caseb (fun _ => ?_) (fun h => Bool.noConfusion ((hs).symm.trans h))
          repeat
            conv => whnf
            first
              | refine ⟨_, by assumption, ?_⟩
              | refine ⟨(Nat.le_of_ble_eq_true rfl), _, by assumption, ?_⟩
              | refine ⟨by kernel_rfl, ?_⟩
              | exact rfl
              | exact ⟨Nat.le_of_ble_eq_true rfl, rfl⟩
              | refine ⟨by decide, ?_⟩
        · rw [if_neg (by simp [hxy])]
          refine AC.of_body TTok Tryz.func58 rfl (enter_of Tryz.func58 (by kernel_rfl) (by kernel_rfl)) nd (pairR_noid _) (Nat.le_of_ble_eq_true rfl) ?_
          unfold pairR
          rw [e2, e2]
          unfold RN at *
          have hs : ((x == y) == true) = false := by simp [hxy]
          conv => whnf
          refine ⟨_, ⟨by decide, rfl⟩, ?_⟩
          conv => whnf
          refine ⟨_, ⟨by decide, rfl⟩, ?_⟩
          conv => whnf
          refine ⟨by kernel_rfl, ?_⟩
          conv => whnf
          refine caseb (fun h => Bool.noConfusion ((hs).symm.trans h)) (fun _ => ?_)
          repeat
            conv => whnf
            first
              | refine ⟨_, by assumption, ?_⟩
              | refine ⟨(Nat.le_of_ble_eq_true rfl), _, by assumption, ?_⟩
              | refine ⟨by kernel_rfl, ?_⟩
              | exact rfl
              | exact ⟨Nat.le_of_ble_eq_true rfl, rfl⟩
              | refine ⟨by decide, ?_⟩
      · by_cases h88 : c = 8800
        · subst h88
          rw [if_pos (by decide)]
          by_cases hxy : x = y
          · rw [if_neg (by simp [hxy])]
            refine AC.of_body TTok Tryz.func58 rfl (enter_of Tryz.func58 (by kernel_rfl) (by kernel_rfl)) nd (pairR_noid _) (Nat.le_of_ble_eq_true rfl) ?_
            unfold pairR
            rw [e2, e2]
            unfold RN at *
            have hs : ((x == y) == false) = false := by simp [hxy]
            conv => whnf
            refine ⟨_, ⟨by decide, rfl⟩, ?_⟩
            conv => whnf
            refine ⟨_, ⟨by decide, rfl⟩, ?_⟩
            conv => whnf
            refine ⟨by kernel_rfl, ?_⟩
            conv => whnf
            refine caseb (fun h => Bool.noConfusion ((hs).symm.trans h)) (fun _ => ?_)
            repeat
              conv => whnf
              first
                | refine ⟨_, by assumption, ?_⟩
                | refine ⟨(Nat.le_of_ble_eq_true rfl), _, by assumption, ?_⟩
                | refine ⟨by kernel_rfl, ?_⟩
                | exact rfl
                | exact ⟨Nat.le_of_ble_eq_true rfl, rfl⟩
                | refine ⟨by decide, ?_⟩
          · rw [if_pos (by simp [hxy])]
            refine AC.of_body TTok Tryz.func58 rfl (enter_of Tryz.func58 (by kernel_rfl) (by kernel_rfl)) nd (pairR_noid _) (Nat.le_of_ble_eq_true rfl) ?_
            unfold pairR
            rw [e2, e2]
            unfold RN at *
            have hs : ((x == y) == false) = true := by simp [hxy]
            conv => whnf
            refine ⟨_, ⟨by decide, rfl⟩, ?_⟩
            conv => whnf
            refine ⟨_, ⟨by decide, rfl⟩, ?_⟩
            conv => whnf
            refine ⟨by kernel_rfl, ?_⟩
            conv => whnf
            refine caseb (fun _ => ?_) (fun h => Bool.noConfusion ((hs).symm.trans h))
            repeat
              conv => whnf
              first
                | refine ⟨_, by assumption, ?_⟩
                | refine ⟨(Nat.le_of_ble_eq_true rfl), _, by assumption, ?_⟩
                | refine ⟨by kernel_rfl, ?_⟩
                | exact rfl
                | exact ⟨Nat.le_of_ble_eq_true rfl, rfl⟩
                | refine ⟨by decide, ?_⟩
        · rw [if_neg (fun h => h.elim h61 h88)]
          refine AC.of_body TTok Tryz.func58 rfl (enter_of Tryz.func58 (by kernel_rfl) (by kernel_rfl)) nd (pairR_noid _) (Nat.le_of_ble_eq_true rfl) ?_
          unfold pairR
          rw [e2, e2]
          unfold RN at *
          conv => whnf
          first
            | refine caseb (fun h => absurd (bne_iff_ne.1 h) (by omega)) (fun _ => ?_)
            | refine caseb (fun _ => ?_) (fun h => absurd (bne_eq_false_iff_eq.1 h) (by omega))
          conv => whnf
          first
            | refine caseb (fun h => absurd (bne_iff_ne.1 h) (by omega)) (fun _ => ?_)
            | refine caseb (fun _ => ?_) (fun h => absurd (bne_eq_false_iff_eq.1 h) (by omega))
          repeat
            conv => whnf
            first
              | refine ⟨_, by assumption, ?_⟩
              | refine ⟨(Nat.le_of_ble_eq_true rfl), _, by assumption, ?_⟩
              | refine ⟨by kernel_rfl, ?_⟩
              | exact rfl
              | exact ⟨Nat.le_of_ble_eq_true rfl, rfl⟩
              | refine ⟨by decide, ?_⟩
end
end Go.Proofs.YtclamnmpleiakaaGreat

/- Arrays: a function of two, element by element (the document's contract). -/
set_option linter.unusedVariables false
namespace Go.Proofs.YtclamnmpleiakaaGreat
open Go Go.AL NM

def PEt (ch : Bool) (x : Int) : List (List AV) := if ch then [[.val (.int .i32 x)]] else []
def PEn (ch : Bool) (q : Rat) : List (List AV) := if ch then [] else [rowN q]
theorem PE_eq (ch : Bool) (x : Int) (q : Rat) : PE ch x q = .agg [.sl 1 [] false, .val (.bool ch), .sl 1 (PEt ch x) false, .sl 3 (PEn ch q) false] := by cases ch <;> rfl

theorem RTwo_loop (c : Int) (hc : isTwo c) (sa sb : List Int) (ca cb : Bool) (ta tb : List Int) (qa qb : List Rat) (most : Int) (hm : most ≤ 200) (s : List Int) (one two : Bool) (n : Nat) (hn : n ≤ 1000) (hv : vS s) (hcn : cntI s = (n : Int))
    (hfit : AC Tryz.prog 22 [PA sa ca ta qa, PA sb cb tb qb] (.pure (FV (s, one, two, 0))))
    (f : Nat → Rat × Int)
    (hEA : ∀ i : Nat, i < n → AC Tryz.prog 59 [PA sa ca ta qa, .val (.int .i64 (i : Int)), .val (.bool one)] (.pure (PE ca (ta.getD (ix one i) 0) (qa.getD (ix one i) 0))))
    (hEB : ∀ i : Nat, i < n → AC Tryz.prog 59 [PA sb cb tb qb, .val (.int .i64 (i : Int)), .val (.bool two)] (.pure (PE cb (tb.getD (ix two i) 0) (qb.getD (ix two i) 0))))
    (hP : ∀ i : Nat, i < n → AC Tryz.prog 58 [.val (.int .i32 c), PE ca (ta.getD (ix one i) 0) (qa.getD (ix one i) 0), PE cb (tb.getD (ix two i) 0) (qb.getD (ix two i) 0), .val (.int .i64 most)] (.pure (pairR (f i))))
    (E : Int) (hE : E = firstE ((List.range n).map f)) :
    AC Tryz.prog 19 [.val (.int .i32 c), PA sa ca ta qa, PA sb cb tb qb, .val (.int .i64 most)] (.pure (if E = 0 then .tup [.agg [.sl 1 (irows .i64 s) false, .val (.bool false), .sl 0 [] true, .sl 3 (((List.range n).map fun i => (f i).1).map rowN) false], .val (.int .i64 0)] else .tup [PZ, .val (.int .i64 E)])) := by
  have hH := SHas_ok c
  rw [decide_eq_true hc] at hH
  have hC := RCount_ok s (by have := hv.1; omega)
  rw [CNT_good hv, hcn] at hC
  obtain ⟨Y, hY⟩ : ∃ Y : List Rat, Y = (List.range n).map fun i => (f i).1 := ⟨_, rfl⟩
  rw [← hY]
  have l1 : Y.length = n := by rw [hY, List.length_map, List.length_range]
  have hYi : ∀ i (h : i < n), Y[i]'(by omega) = (f i).1 := fun i h => by subst hY; rw [List.getElem_map, List.getElem_range]
  obtain ⟨res, hres⟩ : ∃ res : AV, res = if E = 0 then .tup [.agg [.sl 1 (irows .i64 s) false, .val (.bool false), .sl 0 [] true, .sl 3 (Y.map rowN) false], .val (.int .i64 0)] else .tup [PZ, .val (.int .i64 E)] := ⟨_, rfl⟩
  rw [← hres]
  have hnr : NoId res := by
    rw [hres]; split
    · exact good_noid _ _
    · exact PZt_noid _
  refine AC.of_body TTok Tryz.func19 rfl (enter_of Tryz.func19 (by kernel_rfl) (by kernel_rfl)) (noidF (.val _) (PA_noid _ _ _ _) (PA_noid _ _ _ _) (.val _)) hnr (Nat.le_of_ble_eq_true rfl) ?_
  unfold FV PA at hfit
  simp only [PE_eq] at hEA hEB hP
  unfold PA at hEA hEB ⊢
  conv => whnf
  refine ⟨_, hH, ?_⟩
  conv => whnf
  refine ⟨_, hfit, ?_⟩
  conv => whnf
  refine ⟨_, hC, ?_⟩
  conv => whnf
  refine SW.nilC 240 3 3 rfl rfl ?_
  refine SW.loopM TTok (fun i : Nat => [(0, .val (.int .i32 c)), (3, .val (.int .i64 most)), (5, .lp 0 0), (6, .lp 8 0), (8, .lp 16 0), (11, .val (.bool one)), (12, .val (.bool two)), (14, .val (.int .i64 (n : Int))), (16, .lp 240 0), (17, .val (.int .i64 (i : Int)))])
    (fun i => [(0, .cells 4 [[.sl 1 (irows .i64 sa) false, .val (.bool ca), .sl 1 (irows .i32 ta) false, .sl 3 (qa.map rowN) false]]), (8, .cells 4 [[.sl 1 (irows .i64 sb) false, .val (.bool cb), .sl 1 (irows .i32 tb) false, .sl 3 (qb.map rowN) false]]), (16, .cells 4 [[.sl 0 [] true, .val (.bool false), .sl 0 [] true, .sl 0 [] true]]), (240, .cells 4 [[.sl 1 (irows .i64 s) false, .val (.bool false), .sl 0 [] true, .own 264 0 i]]), (264, .cells 3 ((Y.take i).map rowN))]) 272 73 rfl (fun i => n - i) (fun i => i ≤ n ∧ ∀ j < i, (f j).2 = 0) 0 [] ⟨Nat.zero_le _, fun x hx => absurd hx (Nat.not_lt_zero _)⟩
    ⟨⟨rfl, rfl⟩, ⟨rfl, rfl⟩, ⟨rfl, rfl⟩, ⟨rfl, rfl⟩, ⟨rfl, rfl⟩, ⟨rfl, rfl⟩, ⟨rfl, rfl⟩, ⟨rfl, rfl⟩, ⟨rfl, rfl⟩, ⟨rfl, rfl⟩, trivial⟩ ⟨⟨rfl, .inr ⟨rfl, rfl⟩⟩, ⟨rfl, .inr ⟨rfl, rfl⟩⟩, ⟨rfl, .inr ⟨rfl, rfl⟩⟩, ⟨rfl, .inr ⟨rfl, rfl⟩⟩, ⟨rfl, .inl ⟨rfl, rowsN_noid _⟩⟩, trivial⟩ rfl ?_
  intro i hJ
  have hi : i ≤ n := hJ.1
  have hz : ∀ j < i, (f j).2 = 0 := hJ.2
  clear hJ
  have lr : ((Y.take i).map rowN).length = i := by rw [List.length_map, List.length_take]; omega
  by_cases hlt : i < n
  · have eI : IntKind.i64.wrap ((i : Int) + 1) = ((i + 1 : Nat) : Int) := by rw [IntWalk.i64_in _ (by omega)]; omega
    have hA := hEA i hlt
    have hB := hEB i hlt
    have d2 := hP i hlt
    unfold pairR at d2
    have hsn : (Y.take i).map rowN ++ [rowN (f i).1] = (Y.take (i + 1)).map rowN := by
      rw [take_snoc (show i < Y.length by omega), List.map_append, hYi i hlt]; rfl
    have htk : List.take i (List.drop 0 ((Y.take i).map rowN)) = (Y.take i).map rowN := by rw [List.drop_zero, List.take_of_length_le (by omega)]
    by_cases he : (f i).2 = 0
    · rw [he] at d2
      unfold RN at d2
      conv => whnf
      first
        | refine caseb (fun _ => ?_) (fun h => absurd (of_decide_eq_false h) (by omega))
        | refine caseb (fun h => absurd (of_decide_eq_true h) (by omega)) (fun _ => ?_)
        | refine caseb (fun _ => ?_) (fun h => absurd (beq_eq_false_iff_ne.1 h) (by omega))
        | refine caseb (fun h => absurd (eq_of_beq h) (by omega)) (fun _ => ?_)
      conv => whnf
      refine ⟨_, hA, ?_⟩
      conv => whnf
      refine ⟨_, hB, ?_⟩
      conv => whnf
      refine ⟨_, d2, ?_⟩
      conv => whnf
      refine ⟨by kernel_rfl, ?_⟩
      conv => whnf
      refine ⟨⟨by show 0 + i ≤ _; omega, by show (i + 1) * 40 ≤ 140737488355328; omega, Nat.le_of_ble_eq_true rfl⟩, ?_⟩
      conv => whnf
      refine ⟨i + 1, [(264, 480)], (by show n - (i + 1) < n - i; omega), ⟨hlt, fun j hj => ?_⟩, ⟨⟨rfl, rfl⟩, ⟨rfl, rfl⟩, ⟨rfl, rfl⟩, ⟨rfl, rfl⟩, ⟨rfl, rfl⟩, ⟨rfl, rfl⟩, ⟨rfl, rfl⟩, ⟨rfl, rfl⟩, ⟨rfl, rfl⟩, ⟨valI eI, rfl⟩, trivial⟩, ⟨⟨rfl, .inr ⟨rfl, rfl⟩⟩, ⟨rfl, .inr ⟨rfl, rfl⟩⟩, ⟨rfl, .inr ⟨rfl, rfl⟩⟩, ⟨rfl, .inr ⟨rfl, rfl⟩⟩, ⟨rfl, .inl ⟨celE ?_, rowsN_noid _⟩⟩, trivial⟩, rfl⟩
      · by_cases hji : j = i
        · rw [hji]; exact he
        · exact hz j (by omega)
      · rw [← hsn]
        show List.take i (List.drop 0 ((Y.take i).map rowN)) ++ [_] = _
        rw [htk]; rfl
    · have hEe : E = (f i).2 := by
        rw [hE]
        have := firstE_at (l := (List.range n).map f) (i := i) (by rw [List.length_map, List.length_range]; exact hlt) (fun x hx => by
          rw [← List.map_take] at hx
          obtain ⟨q, hq, rfl⟩ := List.mem_map.1 hx
          refine hz q ?_
          rw [List.take_range] at hq
          have := List.mem_range.1 hq
          omega) (by rw [List.getElem_map, List.getElem_range]; exact he)
        rw [this, List.getElem_map, List.getElem_range]
      rw [if_neg (by rw [hEe]; exact he), hEe] at hres
      subst hres
      unfold RN at d2
      conv => whnf
      first
        | refine caseb (fun _ => ?_) (fun h => absurd (of_decide_eq_false h) (by omega))
        | refine caseb (fun h => absurd (of_decide_eq_true h) (by omega)) (fun _ => ?_)
        | refine caseb (fun _ => ?_) (fun h => absurd (beq_eq_false_iff_ne.1 h) (by omega))
        | refine caseb (fun h => absurd (eq_of_beq h) (by omega)) (fun _ => ?_)
      conv => whnf
      refine ⟨_, hA, ?_⟩
      conv => whnf
      refine ⟨_, hB, ?_⟩
      conv => whnf
      refine ⟨_, d2, ?_⟩
      conv => whnf
      refine ⟨by kernel_rfl, ?_⟩
      conv => whnf
      first
        | refine caseb (fun h => absurd (bne_iff_ne.1 h) (by omega)) (fun _ => ?_)
        | refine caseb (fun _ => ?_) (fun h => absurd (bne_eq_false_iff_eq.1 h) (by omega))
      repeat
        conv => whnf
        first
          | refine ⟨_, by assumption, ?_⟩
          | refine ⟨(Nat.le_of_ble_eq_true rfl), _, by assumption, ?_⟩
          | refine ⟨by kernel_rfl, ?_⟩
          | exact rfl
          | exact ⟨Nat.le_of_ble_eq_true rfl, rfl⟩
          | refine ⟨by decide, ?_⟩
  · have hie : i = n := by omega
    have hE0 : E = 0 := by
      rw [hE]
      refine firstE_zero (fun x hx => ?_)
      obtain ⟨q, hq, rfl⟩ := List.mem_map.1 hx
      exact hz q (by have := List.mem_range.1 hq; omega)
    rw [if_pos hE0] at hres
    subst hres
    have e1 : Y.take i = Y := List.take_of_length_le (by omega)
    rw [e1] at lr ⊢
    have key : List.take i (List.drop 0 (Y.map rowN)) = Y.map rowN := by rw [List.drop_zero, List.take_of_length_le (by omega)]
    conv => whnf
    first
      | refine caseb (fun _ => ?_) (fun h => absurd (of_decide_eq_false h) (by omega))
      | refine caseb (fun h => absurd (of_decide_eq_true h) (by omega)) (fun _ => ?_)
      | refine caseb (fun _ => ?_) (fun h => absurd (beq_eq_false_iff_ne.1 h) (by omega))
      | refine caseb (fun h => absurd (eq_of_beq h) (by omega)) (fun _ => ?_)
    conv => whnf
    refine ⟨by show 0 + i ≤ _; omega, ?_⟩
    show AV.tup [AV.agg [_, _, _, AV.sl 3 (List.take i (List.drop 0 (Y.map rowN))) false], _] = _
    rw [key]
    rfl
end Go.Proofs.YtclamnmpleiakaaGreat

/- Arrays: a function of two, element by element: all cases (the document's contract). -/
set_option linter.unusedVariables false
namespace Go.Proofs.YtclamnmpleiakaaGreat
open Go Go.AL NM

theorem RTwo_not (c : Int) (h : ¬ isTwo c) (sa sb : List Int) (ca cb : Bool) (ta tb : List Int) (qa qb : List Rat) (most : Int) : AC Tryz.prog 19 [.val (.int .i32 c), PA sa ca ta qa, PA sb cb tb qb, .val (.int .i64 most)] (.pure (.tup [PZ, .val (.int .i64 20)])) := by
  have hH := SHas_ok c
  rw [decide_eq_false h] at hH
  refine AC.of_body TTok Tryz.func19 rfl (enter_of Tryz.func19 (by kernel_rfl) (by kernel_rfl)) (noidF (.val _) (PA_noid _ _ _ _) (PA_noid _ _ _ _) (.val _)) (PZt_noid _) (Nat.le_of_ble_eq_true rfl) ?_
  unfold PA
  repeat
    conv => whnf
    first
      | refine ⟨_, by assumption, ?_⟩
      | refine ⟨(Nat.le_of_ble_eq_true rfl), _, by assumption, ?_⟩
      | refine ⟨by kernel_rfl, ?_⟩
      | exact rfl
      | exact ⟨Nat.le_of_ble_eq_true rfl, rfl⟩
      | refine ⟨by decide, ?_⟩
theorem RTwo_unfit (c : Int) (h : isTwo c) (sa sb : List Int) (ca cb : Bool) (ta tb : List Int) (qa qb : List Rat) (most : Int) (x : List Int × Bool × Bool × Int) (he : x.2.2.2 ≠ 0) (hF : AC Tryz.prog 22 [PA sa ca ta qa, PA sb cb tb qb] (.pure (FV x))) :
    AC Tryz.prog 19 [.val (.int .i32 c), PA sa ca ta qa, PA sb cb tb qb, .val (.int .i64 most)] (.pure (.tup [PZ, .val (.int .i64 x.2.2.2)])) := by
  have hH := SHas_ok c
  rw [decide_eq_true h] at hH
  obtain ⟨s, one, two, e⟩ := x
  refine AC.of_body TTok Tryz.func19 rfl (enter_of Tryz.func19 (by kernel_rfl) (by kernel_rfl)) (noidF (.val _) (PA_noid _ _ _ _) (PA_noid _ _ _ _) (.val _)) (PZt_noid _) (Nat.le_of_ble_eq_true rfl) ?_
  unfold FV at hF
  have he : e ≠ 0 := he
  have hF : AC Tryz.prog 22 [PA sa ca ta qa, PA sb cb tb qb] (.pure (.tup [.sl 1 (irows .i64 s) false, .val (.bool one), .val (.bool two), .val (.int .i64 e)])) := hF
  unfold PA at *
  conv => whnf
  refine ⟨_, hH, ?_⟩
  conv => whnf
  refine ⟨_, hF, ?_⟩
  conv => whnf
  first
    | refine caseb (fun h => absurd (bne_iff_ne.1 h) (by omega)) (fun _ => ?_)
    | refine caseb (fun _ => ?_) (fun h => absurd (bne_eq_false_iff_eq.1 h) (by omega))
  repeat
    conv => whnf
    first
      | refine ⟨_, by assumption, ?_⟩
      | refine ⟨(Nat.le_of_ble_eq_true rfl), _, by assumption, ?_⟩
      | refine ⟨by kernel_rfl, ?_⟩
      | exact rfl
      | exact ⟨Nat.le_of_ble_eq_true rfl, rfl⟩
      | refine ⟨by decide, ?_⟩
theorem elem_pair (c : Int) (ca cb : Bool) (ta tb : List Int) (qa qb : List Rat) (one two : Bool) (most : Int) (i : Nat) :
    elemF c ca cb ta tb qa qb one two most i = pairV c ca cb (ta.getD (ix one i) 0) (tb.getD (ix two i) 0) (qa.getD (ix one i) 0) (qb.getD (ix two i) 0) most := rfl
theorem getD_sz {l : List Rat} (h : ∀ q ∈ l, Sz q 5) (k : Nat) : Sz (l.getD k 0) 5 := by
  rw [List.getD_eq_getElem?_getD]
  by_cases hk : k < l.length
  · rw [List.getElem?_eq_getElem hk]; exact h _ (List.getElem_mem hk)
  · rw [List.getElem?_eq_none (by omega)]; exact Sz_zero.mono (by decide)

theorem RTwo_ok (c : Int) (sa sb : List Int) (ca cb : Bool) (ta tb : List Int) (qa qb : List Rat) (most : Int) (hm : most ≤ 200) (hva : vS sa) (hvb : vS sb) (hka : kinds sa ca ta.length qa.length) (hkb : kinds sb cb tb.length qb.length)
    (h1 : ta.length ≤ 500) (h2 : tb.length ≤ 500) (h3 : qa.length ≤ 500) (h4 : qb.length ≤ 500) (hQa : ∀ q ∈ qa, Sz q 5) (hQb : ∀ q ∈ qb, Sz q 5) :
    AC Tryz.prog 19 [.val (.int .i32 c), PA sa ca ta qa, PA sb cb tb qb, .val (.int .i64 most)] (.pure (resP (fitS sa sb (ta.length + qa.length) (tb.length + qb.length)).1 (twoE c sa sb ca cb ta tb qa qb most) (twoV c sa sb ca cb ta tb qa qb most))) := by
  have hF := RFit_ok sa sb ca cb ta tb qa qb (by have := hva.1; omega) (by have := hvb.1; omega) (by omega) (by omega) (by omega) (by omega)
  obtain ⟨ka1, ka2⟩ := kinds_len hka
  obtain ⟨kb1, kb2⟩ := kinds_len hkb
  have hI := fit_idx ka1 kb1 hva hvb
  unfold twoE twoV
  generalize hx : fitS sa sb (ta.length + qa.length) (tb.length + qb.length) = x at hF hI ⊢
  by_cases hc : isTwo c
  · rw [if_pos hc]
    by_cases he : x.2.2.2 = 0
    · obtain ⟨v1, v2, v3⟩ := hI he
      obtain ⟨s, one, two, e⟩ := x
      have he : e = 0 := he
      subst he
      have v1 : vS s := v1
      have v2 : cntI s = ((ta.length + qa.length : Nat) : Int) ∨ cntI s = ((tb.length + qb.length : Nat) : Int) := v2
      have v3 : ∀ i : Nat, (i : Int) < cntI s → ix one i < ta.length + qa.length ∧ ix two i < tb.length + qb.length := v3
      obtain ⟨n, hn⟩ : ∃ n : Nat, cntI s = (n : Int) := by rcases v2 with h | h <;> exact ⟨_, h⟩
      have hn5 : n ≤ 1000 := by omega
      rw [if_neg (fun h => h rfl)]
      show AC Tryz.prog 19 _ (.pure (resP s (firstE ((List.range (cntI s).toNat).map (elemF c ca cb ta tb qa qb one two most))) ((List.range (cntI s).toNat).map fun i => (elemF c ca cb ta tb qa qb one two most i).1)))
      rw [hn, Int.toNat_natCast]
      rw [hn] at v3
      have hL := RTwo_loop c hc sa sb ca cb ta tb qa qb most hm s one two n hn5 v1 hn hF (elemF c ca cb ta tb qa qb one two most)
        (fun i hi => element_ok sa ca ta qa i one (by cases ca <;> (simp only [if_pos, Bool.false_eq_true, if_false]; omega)) (by
          have := (v3 i (by omega)).1
          cases ca
          · have ka2 : qa.length = ta.length + qa.length := ka2
            show ix one i < qa.length
            omega
          · have ka2 : ta.length = ta.length + qa.length := ka2
            show ix one i < ta.length
            omega))
        (fun i hi => element_ok sb cb tb qb i two (by cases cb <;> (simp only [if_pos, Bool.false_eq_true, if_false]; omega)) (by
          have := (v3 i (by omega)).2
          cases cb
          · have kb2 : qb.length = tb.length + qb.length := kb2
            show ix two i < qb.length
            omega
          · have kb2 : tb.length = tb.length + qb.length := kb2
            show ix two i < tb.length
            omega))
        (fun i hi => by
          rw [elem_pair]
          exact pair_ok c ca cb _ _ _ _ most hm (getD_sz hQa _) (getD_sz hQb _)) _ rfl
      unfold resP
      by_cases hE : firstE ((List.range n).map (elemF c ca cb ta tb qa qb one two most)) = 0
      · rw [if_pos hE] at hL ⊢
        exact AC.le_res hL (.tup2 (le_agg4 (.refl _) (.refl _) (le_nil 1) (.refl _)) (.refl _)) (.tup _ (noid2 (PA_noid _ _ _ _) (.val _)))
      · rw [if_neg hE] at hL ⊢
        exact AC.le_res hL (.tup2 PZ_le (.refl _)) (.tup _ (noid2 (PA_noid _ _ _ _) (.val _)))
    · rw [if_pos he]
      exact resP_err _ _ he (RTwo_unfit c hc sa sb ca cb ta tb qa qb most x he hF)
  · rw [if_neg hc]
    exact resP_err _ _ (by decide) (RTwo_not c hc sa sb ca cb ta tb qa qb most)
end Go.Proofs.YtclamnmpleiakaaGreat

/- Arrays: the chapter's examples (contracts). -/
set_option linter.unusedVariables false
namespace Go.Proofs.YtclamnmpleiakaaGreat
open Go Go.AL NM

theorem light14_ok (sh : List Int) (ch : Bool) (tx : List Int) (L : List TX) (r : Bool) (h : AC Tryz.prog 26 [PB sh ch tx L, .val (.int .i64 150)] (.pure (.val (.bool r)))) : AC Tryz.prog 16 [PB sh ch tx L] (.pure (.val (.bool r))) := by
  refine AC.of_body TTok Tryz.func16 rfl (enter_of Tryz.func16 (by kernel_rfl) (by kernel_rfl)) (noid1 (PB_noid _ _ _ _)) (.val _) (Nat.le_of_ble_eq_true rfl) ?_
  unfold PB at *
  repeat
    conv => whnf
    first
      | refine ⟨_, by assumption, ?_⟩
      | refine ⟨(Nat.le_of_ble_eq_true rfl), _, by assumption, ?_⟩
      | refine ⟨by kernel_rfl, ?_⟩
      | exact rfl
      | exact ⟨Nat.le_of_ble_eq_true rfl, rfl⟩
      | refine ⟨by decide, ?_⟩
theorem w1E : twoE 43 [2] [] false false [] [] [1, 2] [10] 4 = 0 := by decide +kernel
theorem w1V : twoV 43 [2] [] false false [] [] [1, 2] [10] 4 = [11, 12] := by decide +kernel
theorem w2E : twoE 61 [2] [] true true [97, 98] [98] [] [] 4 = 0 := by decide +kernel
theorem w2V : twoV 61 [2] [] true true [97, 98] [98] [] [] 4 = [0, 1] := by decide +kernel
theorem sz_nat (n : Nat) (h : n < 4294967296) : Sz ((n : Int) : Rat) 1 := Sz_small (by
  show ((n : Int)).natAbs < _
  rw [Int.natAbs_natCast]; exact h) (by show (1 : Nat) < 4294967296; decide)
theorem awake14_ok : AC Tryz.prog 17 [] (.pure (.val (.bool true))) := by
  obtain ⟨l1, a1, b1, c1, P1⟩ := PTwo_ok 43 [2] [] false false [] [] [1, 2] [10] 4 (by decide) (by decide) (by decide) (by unfold kinds; decide) (by unfold kinds; decide) (by decide) (by decide) (by decide) (by decide)
    (fun q hq => by
      simp only [List.mem_cons, List.not_mem_nil, or_false] at hq
      rcases hq with rfl | rfl
      · exact (sz_nat 1 (by decide)).mono (by decide)
      · exact (sz_nat 2 (by decide)).mono (by decide)) (fun q hq => by
      simp only [List.mem_cons, List.not_mem_nil, or_false] at hq
      subst hq
      exact (sz_nat 10 (by decide)).mono (by decide))
  obtain ⟨l2, a2, b2, c2, P2⟩ := PTwo_ok 61 [2] [] true true [97, 98] [98] [] [] 4 (by decide) (by decide) (by decide) (by unfold kinds; decide) (by unfold kinds; decide) (by decide) (by decide) (by decide) (by decide) (fun q hq => nomatch hq) (fun q hq => nomatch hq)
  have a1 := a1 w1E
  have a2 := a2 w2E
  rw [w1V] at a1
  rw [w2V] at a2
  rw [w1E] at P1
  rw [w2E] at P2
  have s1 : (fitS [2] [] (([] : List Int).length + ([1, 2] : List Rat).length) (([] : List Int).length + ([10] : List Rat).length)).1 = [2] := by decide +kernel
  have s2 : (fitS [2] [] (([97, 98] : List Int).length + ([] : List Rat).length) (([98] : List Int).length + ([] : List Rat).length)).1 = [2] := by decide +kernel
  rw [s1] at P1
  rw [s2] at P2
  have I1 := AInts_ok [1, 2] (by decide) (fun n hn => by simp at hn; rcases hn with rfl | rfl <;> exact ⟨by decide, by decide⟩)
  have I2 := AInt_ok 10 (by decide)
  have I3 := Text_ok' [97, 98] (by decide)
  have I4 := Char_ok 98
  have R1 := RInts_ok [11, 12] (by decide) (fun n hn => by simp at hn; rcases hn with rfl | rfl <;> exact ⟨by decide, by decide⟩)
  have R2 := RInts_ok [0, 1] (by decide) (fun n hn => by simp at hn; rcases hn with rfl | rfl <;> exact ⟨by decide, by decide⟩)
  have H1 := shows_ok [2] false [] l1 (by decide) (by decide) (by omega) (fun o ho => ⟨b1 o ho, by
    have : valX o ∈ l1.map valX := List.mem_map_of_mem ho
    rw [a1] at this
    simp only [List.mem_cons, List.not_mem_nil, or_false] at this
    rcases this with h | h <;> rw [h]
    · exact (sz_nat 11 (by decide)).mono (by decide)
    · exact (sz_nat 12 (by decide)).mono (by decide)⟩)
  have H2 := shows_ok [2] false [] l2 (by decide) (by decide) (by omega) (fun o ho => ⟨b2 o ho, by
    have : valX o ∈ l2.map valX := List.mem_map_of_mem ho
    rw [a2] at this
    simp only [List.mem_cons, List.not_mem_nil, or_false] at this
    rcases this with h | h <;> rw [h]
    · exact (sz_nat 0 (by decide)).mono (by decide)
    · exact (sz_nat 1 (by decide)).mono (by decide)⟩)
  rw [a1] at H1
  rw [a2] at H2
  have e1 : ([1, 2] : List Int).map intX = ([1, 2] : List Rat).map ofX := rfl
  have e2 : [some (((10 : Int) : Rat), 1)] = ([10] : List Rat).map ofX := rfl
  have e3 : ([11, 12] : List Int).map (fun n : Int => (n : Rat)) = ([11, 12] : List Rat) := rfl
  have e4 : ([0, 1] : List Int).map (fun n : Int => (n : Rat)) = ([0, 1] : List Rat) := rfl
  rw [e1] at I1
  rw [e2] at I2
  rw [e3] at R1
  rw [e4] at R2
  clear a1 a2 b1 b2 c1 c2 e1 e2 e3 e4 s1 s2
  unfold resA at P1 P2
  rw [if_pos rfl] at P1 P2
  generalize ([1, 2] : List Rat).map ofX = z1 at *
  generalize ([10] : List Rat).map ofX = z2 at *
  generalize ([11, 12] : List Rat) = z3 at *
  generalize ([0, 1] : List Rat) = z4 at *
  refine AC.of_body TTok Tryz.func17 rfl (enter_of Tryz.func17 (by kernel_rfl) (by kernel_rfl)) (fun x hx => nomatch hx) (.val _) (Nat.le_of_ble_eq_true rfl) ?_
  unfold AA PA at *
  conv => whnf
  refine ⟨(Nat.le_of_ble_eq_true rfl), _, I1, ?_⟩
  conv => whnf
  refine ⟨_, I2, ?_⟩
  conv => whnf
  refine ⟨_, P1, ?_⟩
  conv => whnf
  refine ⟨(Nat.le_of_ble_eq_true rfl), _, I3, ?_⟩
  conv => whnf
  refine ⟨_, I4, ?_⟩
  conv => whnf
  refine ⟨_, P2, ?_⟩
  conv => whnf
  refine ⟨(Nat.le_of_ble_eq_true rfl), _, R1, ?_⟩
  conv => whnf
  refine ⟨_, H1, ?_⟩
  conv => whnf
  refine ⟨(Nat.le_of_ble_eq_true rfl), _, R2, ?_⟩
  conv => whnf
  refine ⟨_, H2, ?_⟩
  repeat
    conv => whnf
    first
      | refine ⟨_, by assumption, ?_⟩
      | refine ⟨(Nat.le_of_ble_eq_true rfl), _, by assumption, ?_⟩
      | refine ⟨by kernel_rfl, ?_⟩
      | exact rfl
      | exact ⟨Nat.le_of_ble_eq_true rfl, rfl⟩
      | refine ⟨by decide, ?_⟩
end Go.Proofs.YtclamnmpleiakaaGreat

/- Arrays: an argument that is an array as the page speaks of it (opened). -/
set_option linter.unusedVariables false
namespace Go.Proofs.YtclamnmpleiakaaGreat
open Go Go.AL NM

theorem uP4 : Tryz.prog.underlying 4 = some .bool := by kernel_rfl
theorem uP9 : Tryz.prog.underlying 9 = some .string := by kernel_rfl
theorem uP3 : Tryz.prog.underlying 3 = some (.int .i64) := by kernel_rfl
theorem uP21 : Tryz.prog.underlying 21 = some (.int .i32) := by kernel_rfl
theorem uP22 : Tryz.prog.underlying 22 = some (.slice 3) := by kernel_rfl
theorem uP23 : Tryz.prog.underlying 23 = some (.slice 21) := by kernel_rfl
theorem uP24 : Tryz.prog.underlying 24 = some (.slice 94) := by kernel_rfl
theorem uP94 : Tryz.prog.underlying 94 = some (.struct (Tryz.prog.fieldsOf 94)) := by kernel_rfl
theorem uP26 : Tryz.prog.underlying 26 = some (.struct (Tryz.prog.fieldsOf 26)) := by kernel_rfl
theorem opNum : Opens Tryz.prog 94 (fun xs => ∃ b s t, xs = [.val (.bool b), .val (.string s), .val (.string t)] ∧ s.size ≤ maxLen ∧ t.size ≤ maxLen) := by
  have h := opens_struct (l := [(0, 4), (1, 9), (2, 9)]) (n := 3) uP94 (by kernel_rfl) (by kernel_rfl) (.cons _ _ 0 1 3 _ _ (by kernel_rfl) (opens_bool uP4) (.cons _ _ 1 1 3 _ _ (by kernel_rfl) (opens_str uP9) (.cons _ _ 2 1 3 _ _ (by kernel_rfl) (opens_str uP9) (.nil 3))))
  refine h.mono ?_
  rintro xs ⟨a, b, rfl, ⟨x, rfl⟩, c, d, rfl, ⟨y, rfl, hy⟩, e, f, rfl, ⟨z, rfl, hz⟩, rfl⟩
  exact ⟨x, y, z, rfl, hy, hz⟩
theorem opInts : Opens Tryz.prog 22 (fun xs => ∃ L : List Int, xs = [.sl 1 (irows .i64 L) false] ∧ L.length < 9223372036854775808) := by
  refine (opens_slice (c := 1) uP22 (by kernel_rfl) (Nat.le_of_ble_eq_true rfl) (opens_int uP3)).mono ?_
  rintro xs ⟨rows, rfl, hl, hr⟩
  have key : ∀ rows : List (List AV), (∀ r ∈ rows, r.length = 1 ∧ ∃ n, r = [.val (.int .i64 n)] ∧ (Lit.int .i64 n).wf = true) → ∃ L : List Int, rows = irows .i64 L := by
    intro rows
    induction rows with
    | nil => exact fun _ => ⟨[], rfl⟩
    | cons r rows ih =>
      intro h
      obtain ⟨_, n, hn, _⟩ := h r List.mem_cons_self
      obtain ⟨L, hL⟩ := ih (fun r hr => h r (List.mem_cons_of_mem _ hr))
      exact ⟨n :: L, by rw [hn, hL]; rfl⟩
  obtain ⟨L, rfl⟩ := key rows hr
  refine ⟨L, rfl, ?_⟩
  rw [irows_len] at hl
  unfold maxLen at hl
  omega
theorem opRunes : Opens Tryz.prog 23 (fun xs => ∃ L : List Int, xs = [.sl 1 (irows .i32 L) false] ∧ L.length < 9223372036854775808) := by
  refine (opens_slice (c := 1) uP23 (by kernel_rfl) (Nat.le_of_ble_eq_true rfl) (opens_int uP21)).mono ?_
  rintro xs ⟨rows, rfl, hl, hr⟩
  have key : ∀ rows : List (List AV), (∀ r ∈ rows, r.length = 1 ∧ ∃ n, r = [.val (.int .i32 n)] ∧ (Lit.int .i32 n).wf = true) → ∃ L : List Int, rows = irows .i32 L := by
    intro rows
    induction rows with
    | nil => exact fun _ => ⟨[], rfl⟩
    | cons r rows ih =>
      intro h
      obtain ⟨_, n, hn, _⟩ := h r List.mem_cons_self
      obtain ⟨L, hL⟩ := ih (fun r hr => h r (List.mem_cons_of_mem _ hr))
      exact ⟨n :: L, by rw [hn, hL]; rfl⟩
  obtain ⟨L, rfl⟩ := key rows hr
  refine ⟨L, rfl, ?_⟩
  rw [irows_len] at hl
  unfold maxLen at hl
  omega
/-- What is known of the numbers of such an argument. -/
def GN (L : List TX) : Prop := ∀ x ∈ L, bytX x ∧ x.2.1.length < 9223372036854775808 ∧ x.2.2.length < 9223372036854775808
theorem bytesL_len (s : ByteArray) : (bytesL s).length = s.size := by unfold bytesL; rw [List.length_map, Array.length_toList]; rfl
theorem opNums : Opens Tryz.prog 24 (fun xs => ∃ L : List TX, xs = [.sl 3 (L.map rowB) false] ∧ L.length < 9223372036854775808 ∧ GN L) := by
  refine (opens_slice (c := 3) uP24 (by kernel_rfl) (Nat.le_of_ble_eq_true rfl) opNum).mono ?_
  rintro xs ⟨rows, rfl, hl, hr⟩
  have key : ∀ rows : List (List AV), (∀ r ∈ rows, r.length = 3 ∧ ∃ b s t, r = [.val (.bool b), .val (.string s), .val (.string t)] ∧ s.size ≤ maxLen ∧ t.size ≤ maxLen) → ∃ L : List TX, rows = L.map rowB ∧ GN L := by
    intro rows
    induction rows with
    | nil => exact fun _ => ⟨[], rfl, fun x hx => nomatch hx⟩
    | cons r rows ih =>
      intro h
      obtain ⟨_, b, s, t, hn, hs, ht⟩ := h r List.mem_cons_self
      obtain ⟨L, hL, hG⟩ := ih (fun r hr => h r (List.mem_cons_of_mem _ hr))
      refine ⟨(b, bytesL s, bytesL t) :: L, ?_, fun x hx => ?_⟩
      · rw [hn, hL]
        show _ = rowB (b, bytesL s, bytesL t) :: L.map rowB
        unfold rowB
        rw [strL_bytesL, strL_bytesL]
      · rcases List.mem_cons.1 hx with rfl | hx
        · have l1 := bytesL_len s
          have l2 := bytesL_len t
          unfold maxLen at hs ht
          exact ⟨⟨bytesL_byt s, bytesL_byt t⟩, by show (bytesL s).length < _; omega, by show (bytesL t).length < _; omega⟩
        · exact hG x hx
  obtain ⟨L, rfl, hG⟩ := key rows hr
  refine ⟨L, rfl, ?_, hG⟩
  rw [List.length_map] at hl
  unfold maxLen at hl
  omega
theorem opPlain : Opens Tryz.prog 26 (fun xs => ∃ sh ch tx L, xs = [.sl 1 (irows .i64 sh) false, .val (.bool ch), .sl 1 (irows .i32 tx) false, .sl 3 (L.map rowB) false] ∧ sh.length < 9223372036854775808 ∧ tx.length < 9223372036854775808 ∧ L.length < 9223372036854775808 ∧ GN L) := by
  have h := opens_struct (l := [(0, 22), (1, 4), (2, 23), (3, 24)]) (n := 4) uP26 (by kernel_rfl) (by kernel_rfl) (.cons _ _ 0 1 4 _ _ (by kernel_rfl) opInts (.cons _ _ 1 1 4 _ _ (by kernel_rfl) (opens_bool uP4) (.cons _ _ 2 1 4 _ _ (by kernel_rfl) opRunes (.cons _ _ 3 1 4 _ _ (by kernel_rfl) opNums (.nil 4)))))
  refine h.mono ?_
  rintro xs ⟨a, b, rfl, ⟨sh, rfl, h1⟩, c, d, rfl, ⟨ch, rfl⟩, e, f, rfl, ⟨tx, rfl, h2⟩, g, i, rfl, ⟨L, rfl, h3, h4⟩, rfl⟩
  exact ⟨sh, ch, tx, L, rfl, h1, h2, h3, h4⟩
end Go.Proofs.YtclamnmpleiakaaGreat

/- Arrays: light ones: what is read of them. -/
set_option linter.unusedVariables false
namespace Go.Proofs.YtclamnmpleiakaaGreat
open Go Go.AL NM

/-- What is read of a light array. -/
def Lite (sh : List Int) (ch : Bool) (tx : List Int) (L : List TX) (most : Nat) (qs : List Rat) : Prop :=
  PB sh ch tx L = PA sh ch tx qs ∧ vS sh ∧ kinds sh ch tx.length qs.length ∧ tx.length ≤ most ∧ qs.length ≤ most ∧ ∀ q ∈ qs, QR q
theorem lite_ok (sh : List Int) (ch : Bool) (tx : List Int) (L : List TX) (most : Nat) (hm : most ≤ 1000) (z : sh.length < 9223372036854775808 ∧ tx.length < 9223372036854775808 ∧ L.length < 9223372036854775808 ∧ GN L) :
    ∃ r : Bool, AC Tryz.prog 26 [PB sh ch tx L, .val (.int .i64 (most : Int))] (.pure (.val (.bool r))) ∧ (r = true → ∃ qs, Lite sh ch tx L most qs) := by
  obtain ⟨z1, z2, z3, z4⟩ := z
  obtain ⟨r, hr, hP⟩ := Light_ok sh ch tx L (most : Int) (by omega) z1 z2 z3 z4
  refine ⟨r, hP, fun h => ?_⟩
  obtain ⟨g1, g2, g3, g4, g5, g6⟩ := hr h
  refine ⟨L.map qX, PB_PA g6, g4, by rw [List.length_map]; exact g5, by omega, by rw [List.length_map]; omega, fun q hq => ?_⟩
  obtain ⟨x, hx, rfl⟩ := List.mem_map.1 hq
  exact ⟨_, _, _, g6 x hx, (z4 x hx).1.1, (z4 x hx).1.2, (g3 x hx).1, (g3 x hx).2, rfl⟩
theorem lite14 (sh : List Int) (ch : Bool) (tx : List Int) (L : List TX) (z : sh.length < 9223372036854775808 ∧ tx.length < 9223372036854775808 ∧ L.length < 9223372036854775808 ∧ GN L) :
    ∃ r : Bool, AC Tryz.prog 16 [PB sh ch tx L] (.pure (.val (.bool r))) ∧ (r = true → ∃ qs, Lite sh ch tx L 150 qs) := by
  obtain ⟨r, h, hr⟩ := lite_ok sh ch tx L 150 (by decide) z
  exact ⟨r, light14_ok sh ch tx L r h, hr⟩
end Go.Proofs.YtclamnmpleiakaaGreat

/- Arrays: what is shown of a function's result. -/
set_option linter.unusedVariables false
namespace Go.Proofs.YtclamnmpleiakaaGreat
open Go Go.AL NM

/-- What is shown: the same array, or the same error. -/
theorem shows_good (s : List Int) (l : List (Option (Rat × Nat))) (V : List Rat) (hs : s.length ≤ 1000) (hl : l.length ≤ 5000) (ho : ∀ o ∈ l, okX o) (hV : l.map valX = V) (hz : ∀ q ∈ V, Sz q 400) :
    AC Tryz.prog 20 [AA s false [] l true, .val (.int .i64 0), PA s false [] V, .val (.int .i64 0)] (.pure (.val (.bool true))) := by
  subst hV
  exact shows_ok s false [] l hs (by decide) (by omega) (fun o h => ⟨ho o h, (hz _ (List.mem_map_of_mem h)).mono (by decide)⟩)
theorem elem_sz (c : Int) (ca cb : Bool) (ta tb : List Int) (qa qb : List Rat) (hQa : ∀ q ∈ qa, Sz q 5) (hQb : ∀ q ∈ qb, Sz q 5) (one two : Bool) (most : Int) (hm : most ≤ 200) (i : Nat) : Sz (elemF c ca cb ta tb qa qb one two most i).1 400 := by
  unfold elemF
  split
  · split
    · split
      · exact (sz_nat 1 (by decide)).mono (by decide)
      · exact Sz_zero.mono (by decide)
    · exact Sz_zero.mono (by decide)
  · exact two_sz hm (getD_sz hQa _) (getD_sz hQb _)
theorem fit_vS {sa sb : List Int} {la lb : Nat} (va : vS sa) (vb : vS sb) : (fitS sa sb la lb).1.length ≤ 8 := by
  unfold fitS
  split
  · exact va.1
  split
  · exact vb.1
  split
  · exact va.1
  split <;> exact Nat.zero_le _
end Go.Proofs.YtclamnmpleiakaaGreat

/- The statement PervadeTwos: the walk through the law. -/
set_option linter.unusedVariables false
namespace Go.Proofs.YtclamnmpleiakaaGreat.pervadeTwos
open Go Go.AL NM

section
variable (c : Int) (sa sb : List Int) (ca cb : Bool) (ta tb : List Int)
theorem bad1 (La Lb : List TX) (h1 : AC Tryz.prog 16 [PB sa ca ta La] (.pure (.val (.bool false)))) : AC Tryz.prog 5 [.val (.int .i32 c), PB sa ca ta La, PB sb cb tb Lb] (.pure (.val (.bool true))) := by
  refine AC.of_body TTok Tryz.func5 rfl (enter_of Tryz.func5 (by kernel_rfl) (by kernel_rfl)) (noid3 (.val _) (PB_noid _ _ _ _) (PB_noid _ _ _ _)) (.val _) (Nat.le_of_ble_eq_true rfl) ?_
  have hA := awake14_ok
  unfold PB at *
  repeat
    conv => whnf
    first
      | refine ⟨_, by assumption, ?_⟩
      | refine ⟨(Nat.le_of_ble_eq_true rfl), _, by assumption, ?_⟩
      | refine ⟨by kernel_rfl, ?_⟩
      | exact rfl
      | exact ⟨Nat.le_of_ble_eq_true rfl, rfl⟩
      | refine ⟨by decide, ?_⟩
theorem bad2 (La Lb : List TX) (h1 : AC Tryz.prog 16 [PB sa ca ta La] (.pure (.val (.bool true)))) (h2 : AC Tryz.prog 16 [PB sb cb tb Lb] (.pure (.val (.bool false)))) : AC Tryz.prog 5 [.val (.int .i32 c), PB sa ca ta La, PB sb cb tb Lb] (.pure (.val (.bool true))) := by
  refine AC.of_body TTok Tryz.func5 rfl (enter_of Tryz.func5 (by kernel_rfl) (by kernel_rfl)) (noid3 (.val _) (PB_noid _ _ _ _) (PB_noid _ _ _ _)) (.val _) (Nat.le_of_ble_eq_true rfl) ?_
  have hA := awake14_ok
  unfold PB at *
  conv => whnf
  refine ⟨_, h1, ?_⟩
  conv => whnf
  refine ⟨_, h2, ?_⟩
  repeat
    conv => whnf
    first
      | refine ⟨_, by assumption, ?_⟩
      | refine ⟨(Nat.le_of_ble_eq_true rfl), _, by assumption, ?_⟩
      | refine ⟨by kernel_rfl, ?_⟩
      | exact rfl
      | exact ⟨Nat.le_of_ble_eq_true rfl, rfl⟩
      | refine ⟨by decide, ?_⟩
theorem good (qa qb : List Rat) (h1 : AC Tryz.prog 16 [PA sa ca ta qa] (.pure (.val (.bool true)))) (h2 : AC Tryz.prog 16 [PA sb cb tb qb] (.pure (.val (.bool true))))
    (va : vS sa) (vb : vS sb) (ka : kinds sa ca ta.length qa.length) (kb : kinds sb cb tb.length qb.length) (ta1 : ta.length ≤ 150) (tb1 : tb.length ≤ 150) (qa1 : qa.length ≤ 150) (qb1 : qb.length ≤ 150) (Qa : ∀ q ∈ qa, QR q) (Qb : ∀ q ∈ qb, QR q) :
    AC Tryz.prog 5 [.val (.int .i32 c), PA sa ca ta qa, PA sb cb tb qb] (.pure (.val (.bool true))) := by
  refine AC.of_body TTok Tryz.func5 rfl (enter_of Tryz.func5 (by kernel_rfl) (by kernel_rfl)) (noid3 (.val _) (PA_noid _ _ _ _) (PA_noid _ _ _ _)) (.val _) (Nat.le_of_ble_eq_true rfl) ?_
  have hA := awake14_ok
  have o1 := LOf_ok sa ca ta qa va ka Qa (by omega) (by omega)
  have o2 := LOf_ok sb cb tb qb vb kb Qb (by omega) (by omega)
  have Sa : ∀ q ∈ qa, Sz q 5 := fun q h => (Qa q h).sz
  have Sb : ∀ q ∈ qb, Sz q 5 := fun q h => (Qb q h).sz
  obtain ⟨l, hl, ho, hn, f1⟩ := PTwo_ok c sa sb ca cb ta tb qa qb 6 (by decide) va vb ka kb (by omega) (by omega) (by omega) (by omega) Sa Sb
  have f2 := RTwo_ok c sa sb ca cb ta tb qa qb 6 (by decide) va vb ka kb (by omega) (by omega) (by omega) (by omega) Sa Sb
  have hV : ∀ q ∈ twoV c sa sb ca cb ta tb qa qb 6, Sz q 400 := fun q hq => by
    unfold twoV at hq
    obtain ⟨i, _, rfl⟩ := List.mem_map.1 hq
    exact elem_sz c ca cb ta tb qa qb Sa Sb _ _ 6 (by decide) i
  have hx8 := fit_vS (la := ta.length + qa.length) (lb := tb.length + qb.length) va vb
  generalize fitS sa sb (ta.length + qa.length) (tb.length + qb.length) = x at *
  generalize twoE c sa sb ca cb ta tb qa qb 6 = e at *
  generalize twoV c sa sb ca cb ta tb qa qb 6 = V at *
  unfold resA at f1
  unfold resP at f2
  by_cases he : e = 0
  · rw [if_pos he] at f1 f2
    have hS := shows_good x.1 l V (by omega) hn ho (hl he) hV
    unfold PA AA at *
    conv => whnf
    refine ⟨_, h1, ?_⟩
    conv => whnf
    refine ⟨_, h2, ?_⟩
    conv => whnf
    refine ⟨_, o1, ?_⟩
    conv => whnf
    refine ⟨_, o2, ?_⟩
    conv => whnf
    refine ⟨_, f1, ?_⟩
    conv => whnf
    refine ⟨by kernel_rfl, ?_⟩
    conv => whnf
    refine ⟨_, f2, ?_⟩
    conv => whnf
    refine ⟨_, hS, ?_⟩
    repeat
      conv => whnf
      first
        | refine ⟨_, by assumption, ?_⟩
        | refine ⟨(Nat.le_of_ble_eq_true rfl), _, by assumption, ?_⟩
        | refine ⟨by kernel_rfl, ?_⟩
        | exact rfl
        | exact ⟨Nat.le_of_ble_eq_true rfl, rfl⟩
        | refine ⟨by decide, ?_⟩
  · rw [if_neg he] at f1 f2
    have hS := shows_err e he [] false [] []
    unfold PA AA at *
    conv => whnf
    refine ⟨_, h1, ?_⟩
    conv => whnf
    refine ⟨_, h2, ?_⟩
    conv => whnf
    refine ⟨_, o1, ?_⟩
    conv => whnf
    refine ⟨_, o2, ?_⟩
    conv => whnf
    refine ⟨_, f1, ?_⟩
    conv => whnf
    refine ⟨by kernel_rfl, ?_⟩
    conv => whnf
    refine ⟨_, f2, ?_⟩
    conv => whnf
    refine ⟨_, hS, ?_⟩
    repeat
      conv => whnf
      first
        | refine ⟨_, by assumption, ?_⟩
        | refine ⟨(Nat.le_of_ble_eq_true rfl), _, by assumption, ?_⟩
        | refine ⟨by kernel_rfl, ?_⟩
        | exact rfl
        | exact ⟨Nat.le_of_ble_eq_true rfl, rfl⟩
        | refine ⟨by decide, ?_⟩
end
theorem holds (c : Int) (sa : List Int) (ca : Bool) (ta : List Int) (La : List TX) (sb : List Int) (cb : Bool) (tb : List Int) (Lb : List TX) (wc : -2147483648 ≤ c ∧ c < 2147483648)
    (za : sa.length < 9223372036854775808 ∧ ta.length < 9223372036854775808 ∧ La.length < 9223372036854775808 ∧ GN La) (zb : sb.length < 9223372036854775808 ∧ tb.length < 9223372036854775808 ∧ Lb.length < 9223372036854775808 ∧ GN Lb) :
    AC Tryz.prog 5 [.val (.int .i32 c), PB sa ca ta La, PB sb cb tb Lb] (.pure (.val (.bool true))) := by
  obtain ⟨r, h1, ha⟩ := lite14 sa ca ta La za
  obtain ⟨u, h2, hb⟩ := lite14 sb cb tb Lb zb
  cases r
  · exact bad1 c sa sb ca cb ta tb La Lb h1
  cases u
  · exact bad2 c sa sb ca cb ta tb La Lb h1 h2
  obtain ⟨qa, ea, va, ka, ta1, qa1, Qa⟩ := ha rfl
  obtain ⟨qb, eb, vb, kb, tb1, qb1, Qb⟩ := hb rfl
  rw [ea] at h1 ⊢
  rw [eb] at h2 ⊢
  exact good c sa sb ca cb ta tb qa qb h1 h2 va vb ka kb ta1 tb1 qa1 qb1 Qa Qb
end Go.Proofs.YtclamnmpleiakaaGreat.pervadeTwos
