/- What functions make of nothing (the document's contract); what is shown; the chapter's examples. -/
import Derived.Test.YtbdklokfijjifaaGreatB5
set_option linter.unusedVariables false
namespace Go.Proofs.YtbdklokfijjifaaGreat
open Go Go.AL NM

def zlU : List Int := [43, 45, 124, 60, 62, 8800, 8744]
def olU : List Int := [215, 247, 42, 33, 8804, 61, 8805, 8743]
theorem unitQ_zero {c : Int} (h : c ∈ zlU) : unitQ c = some 0 := by
  unfold zlU at h
  simp only [List.mem_cons, List.not_mem_nil, or_false] at h
  exact if_pos h
theorem unitQ_one {c : Int} (h : c ∉ zlU) (h1 : c ∈ olU) : unitQ c = some 1 := by
  unfold zlU at h
  unfold olU at h1
  simp only [List.mem_cons, List.not_mem_nil, or_false] at h h1
  exact (if_neg h).trans (if_pos h1)
theorem unitQ_none {c : Int} (h : c ∉ zlU) (h1 : c ∉ olU) : unitQ c = none := by
  unfold zlU at h
  unfold olU at h1
  simp only [List.mem_cons, List.not_mem_nil, or_false] at h h1
  exact (if_neg h).trans (if_neg h1)
theorem not_mem_of {l : List Int} {c : Int} {n : Nat} (hn : l.length = n) (h : ∀ j (hj : j < l.length), j < n → l[j] ≠ c) : c ∉ l := fun hc => by
  obtain ⟨j, hj, e⟩ := List.getElem_of_mem hc
  exact h j hj (by omega) e
theorem RUnit_ok (c : Int) : AC Tryz.prog 10 [.val (.int .i32 c)] (.pure (.tup [.val (.int .i64 ((unitQ c).getD 0)), .val (.bool (unitQ c).isSome)])) := by
  obtain ⟨zl, hzl⟩ : ∃ zl, zl = zlU := ⟨_, rfl⟩
  obtain ⟨ol, hol⟩ : ∃ ol, ol = olU := ⟨_, rfl⟩
  have l1 : zl.length = 7 := by rw [hzl]; rfl
  have l2 : ol.length = 8 := by rw [hol]; rfl
  have e1 : irows .i32 zl = [[.val (.int .i32 43)], [.val (.int .i32 45)], [.val (.int .i32 124)], [.val (.int .i32 60)], [.val (.int .i32 62)], [.val (.int .i32 8800)], [.val (.int .i32 8744)]] := by rw [hzl]; rfl
  have e2 : irows .i32 ol = [[.val (.int .i32 215)], [.val (.int .i32 247)], [.val (.int .i32 42)], [.val (.int .i32 33)], [.val (.int .i32 8804)], [.val (.int .i32 61)], [.val (.int .i32 8805)], [.val (.int .i32 8743)]] := by rw [hol]; rfl
  have lr1 := irows_len .i32 zl
  have lr2 := irows_len .i32 ol
  obtain ⟨r, hr⟩ : ∃ r : AV, r = .tup [.val (.int .i64 ((unitQ c).getD 0)), .val (.bool (unitQ c).isSome)] := ⟨_, rfl⟩
  have rn : NoId r := by rw [hr]; exact .tup _ (noid2 (.val _) (.val _))
  have r0 : c ∈ zl → r = .tup [.val (.int .i64 0), .val (.bool true)] := fun h => by rw [hr, unitQ_zero (by rw [← hzl]; exact h)]; rfl
  have r1 : c ∉ zl → c ∈ ol → r = .tup [.val (.int .i64 1), .val (.bool true)] := fun h h' => by rw [hr, unitQ_one (by rw [← hzl]; exact h) (by rw [← hol]; exact h')]; rfl
  have r2 : c ∉ zl → c ∉ ol → r = .tup [.val (.int .i64 0), .val (.bool false)] := fun h h' => by rw [hr, unitQ_none (by rw [← hzl]; exact h) (by rw [← hol]; exact h')]; rfl
  rw [← hr]
  clear hr hzl hol
  refine AC.of_body TTok Tryz.func10 rfl (enter_of Tryz.func10 (by kernel_rfl) (by kernel_rfl)) (noid1 (.val _)) rn (Nat.le_of_ble_eq_true rfl) ?_
  conv => whnf
  refine SW.loopM TTok (fun i : Nat => [(0, .val (.int .i32 c)), (4, .own 16 0 7), (5, .own 32 0 8), (6, .val (.int .i64 (i : Int)))]) (fun _ => [(16, .cells 1 (irows .i32 zl)), (32, .cells 1 (irows .i32 ol))]) 56 34 rfl (fun i => 7 - i) (fun i => i ≤ 7 ∧ ∀ j (hj : j < zl.length), j < i → zl[j] ≠ c) 0 [] ⟨Nat.zero_le _, fun j _ hj => absurd hj (Nat.not_lt_zero _)⟩
    ⟨⟨rfl, rfl⟩, ⟨rfl, rfl⟩, ⟨rfl, rfl⟩, ⟨rfl, rfl⟩, trivial⟩ ⟨⟨rfl, .inl ⟨celE (by rw [e1]; rfl), irows_noid _ _⟩⟩, ⟨rfl, .inl ⟨celE (by rw [e2]; rfl), irows_noid _ _⟩⟩, trivial⟩ rfl ?_
  intro i hJ
  have hi : i ≤ 7 := hJ.1
  have hq : ∀ j (hj : j < zl.length), j < i → zl[j] ≠ c := hJ.2
  clear hJ
  by_cases hlt : i < 7
  · have eI : IntKind.i64.wrap ((i : Int) + 1) = ((i + 1 : Nat) : Int) := by rw [IntWalk.i64_in _ (by omega)]; omega
    have hil : i < zl.length := by omega
    have hg := irows_get .i32 zl (List.getElem?_eq_getElem hil)
    obtain ⟨x, hx⟩ : ∃ x, x = zl[i] := ⟨_, rfl⟩
    rw [← hx] at hg
    by_cases hxc : x = c
    · rw [r0 (by rw [← hxc, hx]; exact List.getElem_mem hil)]
      conv => whnf
      first
        | refine caseb (fun _ => ?_) (fun h => absurd (of_decide_eq_false h) (by omega))
        | refine caseb (fun h => absurd (of_decide_eq_true h) (by omega)) (fun _ => ?_)
        | refine caseb (fun _ => ?_) (fun h => absurd (beq_eq_false_iff_ne.1 h) (by omega))
        | refine caseb (fun h => absurd (eq_of_beq h) (by omega)) (fun _ => ?_)
      conv => whnf
      refine ⟨by omega, ?_⟩
      conv => whnf
      refine ⟨_, by rw [Nat.zero_add, Int.toNat_natCast]; exact hg, ?_⟩
      conv => whnf
      first
        | refine caseb (fun _ => ?_) (fun h => absurd (of_decide_eq_false h) (by omega))
        | refine caseb (fun h => absurd (of_decide_eq_true h) (by omega)) (fun _ => ?_)
        | refine caseb (fun _ => ?_) (fun h => absurd (beq_eq_false_iff_ne.1 h) (by omega))
        | refine caseb (fun h => absurd (eq_of_beq h) (by omega)) (fun _ => ?_)
      repeat
        conv => whnf
        first
          | refine ⟨_, by assumption, ?_⟩
          | refine ⟨(Nat.le_of_ble_eq_true rfl), _, by assumption, ?_⟩
          | refine ⟨by kernel_rfl, ?_⟩
          | exact rfl
          | exact ⟨Nat.le_of_ble_eq_true rfl, rfl⟩
          | refine ⟨by decide, ?_⟩
    · conv => whnf
      first
        | refine caseb (fun _ => ?_) (fun h => absurd (of_decide_eq_false h) (by omega))
        | refine caseb (fun h => absurd (of_decide_eq_true h) (by omega)) (fun _ => ?_)
        | refine caseb (fun _ => ?_) (fun h => absurd (beq_eq_false_iff_ne.1 h) (by omega))
        | refine caseb (fun h => absurd (eq_of_beq h) (by omega)) (fun _ => ?_)
      conv => whnf
      refine ⟨by omega, ?_⟩
      conv => whnf
      refine ⟨_, by rw [Nat.zero_add, Int.toNat_natCast]; exact hg, ?_⟩
      conv => whnf
      first
        | refine caseb (fun _ => ?_) (fun h => absurd (of_decide_eq_false h) (by omega))
        | refine caseb (fun h => absurd (of_decide_eq_true h) (by omega)) (fun _ => ?_)
        | refine caseb (fun _ => ?_) (fun h => absurd (beq_eq_false_iff_ne.1 h) (by omega))
        | refine caseb (fun h => absurd (eq_of_beq h) (by omega)) (fun _ => ?_)
      conv => whnf
      refine ⟨i + 1, [], (by show 7 - (i + 1) < 7 - i; omega), ⟨hlt, fun j hj h => ?_⟩, ⟨⟨rfl, rfl⟩, ⟨rfl, rfl⟩, ⟨rfl, rfl⟩, ⟨valI eI, rfl⟩, trivial⟩, ⟨⟨rfl, .inl ⟨rfl, irows_noid _ _⟩⟩, ⟨rfl, .inl ⟨rfl, irows_noid _ _⟩⟩, trivial⟩, rfl⟩
      by_cases hji : j = i
      · subst hji; rw [← hx]; exact hxc
      · exact hq j hj (by omega)
  · have hnz : c ∉ zl := not_mem_of l1 (fun j hj h => hq j hj (by omega))
    conv => whnf
    first
      | refine caseb (fun _ => ?_) (fun h => absurd (of_decide_eq_false h) (by omega))
      | refine caseb (fun h => absurd (of_decide_eq_true h) (by omega)) (fun _ => ?_)
      | refine caseb (fun _ => ?_) (fun h => absurd (beq_eq_false_iff_ne.1 h) (by omega))
      | refine caseb (fun h => absurd (eq_of_beq h) (by omega)) (fun _ => ?_)
    conv => whnf
    refine SW.loopM TTok (fun i : Nat => [(0, .val (.int .i32 c)), (5, .own 32 0 8), (7, .val (.int .i64 (i : Int)))]) (fun _ => [(32, .cells 1 (irows .i32 ol))]) 96 34 rfl (fun i => 8 - i) (fun i => i ≤ 8 ∧ ∀ j (hj : j < ol.length), j < i → ol[j] ≠ c) 0 [] ⟨Nat.zero_le _, fun j _ hj => absurd hj (Nat.not_lt_zero _)⟩
      ⟨⟨rfl, rfl⟩, ⟨rfl, rfl⟩, ⟨rfl, rfl⟩, trivial⟩ ⟨⟨rfl, .inl ⟨rfl, irows_noid _ _⟩⟩, trivial⟩ rfl ?_
    intro i hJ
    have hi : i ≤ 8 := hJ.1
    have hq2 : ∀ j (hj : j < ol.length), j < i → ol[j] ≠ c := hJ.2
    clear hJ
    by_cases hlt : i < 8
    · have eI : IntKind.i64.wrap ((i : Int) + 1) = ((i + 1 : Nat) : Int) := by rw [IntWalk.i64_in _ (by omega)]; omega
      have hil : i < ol.length := by omega
      have hg := irows_get .i32 ol (List.getElem?_eq_getElem hil)
      obtain ⟨x, hx⟩ : ∃ x, x = ol[i] := ⟨_, rfl⟩
      rw [← hx] at hg
      by_cases hxc : x = c
      · rw [r1 hnz (by rw [← hxc, hx]; exact List.getElem_mem hil)]
        conv => whnf
        first
          | refine caseb (fun _ => ?_) (fun h => absurd (of_decide_eq_false h) (by omega))
          | refine caseb (fun h => absurd (of_decide_eq_true h) (by omega)) (fun _ => ?_)
          | refine caseb (fun _ => ?_) (fun h => absurd (beq_eq_false_iff_ne.1 h) (by omega))
          | refine caseb (fun h => absurd (eq_of_beq h) (by omega)) (fun _ => ?_)
        conv => whnf
        refine ⟨by omega, ?_⟩
        conv => whnf
        refine ⟨_, by rw [Nat.zero_add, Int.toNat_natCast]; exact hg, ?_⟩
        conv => whnf
        first
          | refine caseb (fun _ => ?_) (fun h => absurd (of_decide_eq_false h) (by omega))
          | refine caseb (fun h => absurd (of_decide_eq_true h) (by omega)) (fun _ => ?_)
          | refine caseb (fun _ => ?_) (fun h => absurd (beq_eq_false_iff_ne.1 h) (by omega))
          | refine caseb (fun h => absurd (eq_of_beq h) (by omega)) (fun _ => ?_)
        repeat
          conv => whnf
          first
            | refine ⟨_, by assumption, ?_⟩
            | refine ⟨(Nat.le_of_ble_eq_true rfl), _, by assumption, ?_⟩
            | refine ⟨by kernel_rfl, ?_⟩
            | exact rfl
            | exact ⟨Nat.le_of_ble_eq_true rfl, rfl⟩
            | refine ⟨by decide, ?_⟩
      · conv => whnf
        first
          | refine caseb (fun _ => ?_) (fun h => absurd (of_decide_eq_false h) (by omega))
          | refine caseb (fun h => absurd (of_decide_eq_true h) (by omega)) (fun _ => ?_)
          | refine caseb (fun _ => ?_) (fun h => absurd (beq_eq_false_iff_ne.1 h) (by omega))
          | refine caseb (fun h => absurd (eq_of_beq h) (by omega)) (fun _ => ?_)
        conv => whnf
        refine ⟨by omega, ?_⟩
        conv => whnf
        refine ⟨_, by rw [Nat.zero_add, Int.toNat_natCast]; exact hg, ?_⟩
        conv => whnf
        first
          | refine caseb (fun _ => ?_) (fun h => absurd (of_decide_eq_false h) (by omega))
          | refine caseb (fun h => absurd (of_decide_eq_true h) (by omega)) (fun _ => ?_)
          | refine caseb (fun _ => ?_) (fun h => absurd (beq_eq_false_iff_ne.1 h) (by omega))
          | refine caseb (fun h => absurd (eq_of_beq h) (by omega)) (fun _ => ?_)
        conv => whnf
        refine ⟨i + 1, [], (by show 8 - (i + 1) < 8 - i; omega), ⟨hlt, fun j hj h => ?_⟩, ⟨⟨rfl, rfl⟩, ⟨rfl, rfl⟩, ⟨valI eI, rfl⟩, trivial⟩, ⟨⟨rfl, .inl ⟨rfl, irows_noid _ _⟩⟩, trivial⟩, rfl⟩
        by_cases hji : j = i
        · subst hji; rw [← hx]; exact hxc
        · exact hq2 j hj (by omega)
    · have hno : c ∉ ol := not_mem_of l2 (fun j hj h => hq2 j hj (by omega))
      rw [r2 hnz hno]
      conv => whnf
      first
        | refine caseb (fun _ => ?_) (fun h => absurd (of_decide_eq_false h) (by omega))
        | refine caseb (fun h => absurd (of_decide_eq_true h) (by omega)) (fun _ => ?_)
        | refine caseb (fun _ => ?_) (fun h => absurd (beq_eq_false_iff_ne.1 h) (by omega))
        | refine caseb (fun h => absurd (eq_of_beq h) (by omega)) (fun _ => ?_)
      repeat
        conv => whnf
        first
          | refine ⟨_, by assumption, ?_⟩
          | refine ⟨(Nat.le_of_ble_eq_true rfl), _, by assumption, ?_⟩
          | refine ⟨by kernel_rfl, ?_⟩
          | exact rfl
          | exact ⟨Nat.le_of_ble_eq_true rfl, rfl⟩
          | refine ⟨by decide, ?_⟩
theorem RIntP_ok (n : Int) (hn : -9223372036854775808 ≤ n ∧ n < 9223372036854775808) : AC Tryz.prog 33 [.val (.int .i64 n)] (.pure (PA [] false [] [(n : Rat)])) := by
  have hF := SFrom_ok n hn
  have hN : AC Tryz.prog 85 [RN n 1] (.pure (PA [] false [] [(n : Rat)])) := by
    refine AC.le_res (?_ : AC Tryz.prog 85 _ (.pure (.agg [.sl 0 [] true, .val (.bool false), .sl 0 [] true, .sl 3 ([(n : Rat)].map rowN) false]))) (le_agg4 (le_nil 1) (.refl _) (le_nil 1) (.refl _)) (PA_noid _ _ _ _)
    refine AC.of_body TTok Tryz.func85 rfl (enter_of Tryz.func85 (by kernel_rfl) (by kernel_rfl)) (noid1 (RN_noid _ _)) (.agg _ (noidF (.sl _ _ _ (fun r hr => nomatch hr)) (.val _) (.sl _ _ _ (fun r hr => nomatch hr)) (slN_noid _))) (Nat.le_of_ble_eq_true rfl) ?_
    show axp _ _ _ _ _
    rw [show [(n : Rat)].map rowN = [[.val (.bool (decide (n < 0))), .val (.string (decS n.natAbs)), .val (.string (decS 1))]] by rw [List.map_cons, intN_row]; rfl]
    unfold RN
    conv => whnf
    exact ⟨Nat.le_refl _, rfl⟩
  refine AC.of_body TTok Tryz.func33 rfl (enter_of Tryz.func33 (by kernel_rfl) (by kernel_rfl)) (noid1 (.val _)) (PA_noid _ _ _ _) (Nat.le_of_ble_eq_true rfl) ?_
  unfold RN PA at *
  repeat
    conv => whnf
    first
      | refine ⟨_, by assumption, ?_⟩
      | refine ⟨(Nat.le_of_ble_eq_true rfl), _, by assumption, ?_⟩
      | refine ⟨by kernel_rfl, ?_⟩
      | exact rfl
      | exact ⟨Nat.le_of_ble_eq_true rfl, rfl⟩
      | refine ⟨by decide, ?_⟩
theorem shows19_ok (sh : List Int) (ch : Bool) (tx : List Int) (ns : List (Option (Rat × Nat))) (h1 : sh.length ≤ 1000) (h2 : tx.length ≤ 100000) (h3 : ns.length ≤ 100000) (ho : ∀ o ∈ ns, okX o ∧ Sz (valX o) 100000) :
    AC Tryz.prog 20 [AA sh ch tx ns true, .val (.int .i64 0), PA sh ch tx (ns.map valX), .val (.int .i64 0)] (.pure (.val (.bool true))) := by
  refine AC.of_body TTok Tryz.func20 rfl (enter_of Tryz.func20 (by kernel_rfl) (by kernel_rfl)) (noidF (AA_noid _ _ _ _ _) (.val _) (PA_noid _ _ _ _) (.val _)) (.val _) (Nat.le_of_ble_eq_true rfl) ?_
  have hP := Plain_ok sh ch tx ns h1 h2 h3 ho
  have hS := PSame_ok sh ch tx (ns.map valX) h1 h2 (by rw [List.length_map]; exact h3)
  unfold AA PA at *
  repeat
    conv => whnf
    first
      | refine ⟨_, by assumption, ?_⟩
      | refine ⟨(Nat.le_of_ble_eq_true rfl), _, by assumption, ?_⟩
      | refine ⟨by kernel_rfl, ?_⟩
      | exact rfl
      | exact ⟨Nat.le_of_ble_eq_true rfl, rfl⟩
      | refine ⟨by decide, ?_⟩
theorem sz_natI (n : Nat) (h : n < 4294967296) : Sz ((n : Int) : Rat) 20 := (sz_nat n h).mono (by decide)
theorem f43_1 : foldE 43 4 ([1].map numE) = (numE 1, 0) := by decide +kernel
theorem f43_2 : foldE 43 4 ([1, 2].map numE) = (numE 3, 0) := by decide +kernel
theorem f43_3 : foldE 43 4 ([1, 2, 3].map numE) = (numE 6, 0) := by decide +kernel
theorem f45_3 : foldE 45 4 ([1, 2, 3].map numE) = (numE 2, 0) := by decide +kernel
theorem numE_inj {a b : Rat} (h : numE a = numE b) : a = b := congrArg (fun x : El => x.2.2) h
theorem awake19_ok : AC Tryz.prog 11 [] (.pure (.val (.bool true))) := by
  have hQ : ∀ q ∈ ([1, 2, 3] : List Rat), Sz q 20 := fun q hq => by
    simp only [List.mem_cons, List.not_mem_nil, or_false] at hq
    rcases hq with rfl | rfl | rfl
    · exact sz_natI 1 (by decide)
    · exact sz_natI 2 (by decide)
    · exact sz_natI 3 (by decide)
  have nv : ([1, 2, 3].map intX).map valX = ([1, 2, 3] : List Rat) := rfl
  have no : ∀ o ∈ [1, 2, 3].map intX, okX o := fun o ho => by
    obtain ⟨n, hn, rfl⟩ := List.mem_map.1 ho
    simp only [List.mem_cons, List.not_mem_nil, or_false] at hn
    rcases hn with rfl | rfl | rfl <;> exact rfl
  obtain ⟨a, a1, a2, a3⟩ := Red_list 43 4 (by unfold isTwo; decide) (by decide) ([1, 2, 3].map intX) [1, 2, 3] nv no hQ (-1) (by decide) (by decide) (by decide) (by rw [f43_3]) (fun _ h => pair_szm (by decide) h)
  obtain ⟨b, b1, b2, b3⟩ := Red_list 45 4 (by unfold isTwo; decide) (by decide) ([1, 2, 3].map intX) [1, 2, 3] nv no hQ (-1) (by decide) (by decide) (by decide) (by rw [f45_3]) (fun _ h => pair_szm (by decide) h)
  rw [f43_3] at a2
  rw [f45_3] at b2
  have a2 := numE_inj a2
  have b2 := numE_inj b2
  obtain ⟨x, x1, x2, x3⟩ := run_list 43 4 (by unfold isTwo; decide) (by decide) ([1, 2, 3].map intX) [1, 2, 3] nv no hQ (by decide) 1 (by decide) (by decide) (by show (foldE 43 4 ([1].map numE)).2 = 0; rw [f43_1]) (fun _ h => pair_szm (by decide) h)
  obtain ⟨y, y1, y2, y3⟩ := run_list 43 4 (by unfold isTwo; decide) (by decide) ([1, 2, 3].map intX) [1, 2, 3] nv no hQ (by decide) 2 (by decide) (by decide) (by show (foldE 43 4 ([1, 2].map numE)).2 = 0; rw [f43_2]) (fun _ h => pair_szm (by decide) h)
  obtain ⟨z, z1, z2, z3⟩ := run_list 43 4 (by unfold isTwo; decide) (by decide) ([1, 2, 3].map intX) [1, 2, 3] nv no hQ (by decide) 3 (by decide) (by decide) (by show (foldE 43 4 ([1, 2, 3].map numE)).2 = 0; rw [f43_3]) (fun _ h => pair_szm (by decide) h)
  have x2 : numE (valX x) = (foldE 43 4 ([1].map numE)).1 := x2
  have y2 : numE (valX y) = (foldE 43 4 ([1, 2].map numE)).1 := y2
  have z2 : numE (valX z) = (foldE 43 4 ([1, 2, 3].map numE)).1 := z2
  rw [f43_1] at x2
  rw [f43_2] at y2
  rw [f43_3] at z2
  have x2 := numE_inj x2
  have y2 := numE_inj y2
  have z2 := numE_inj z2
  have hSc := Scan_list 43 (by unfold isTwo; decide) (-1) 4 (by decide) ([1, 2, 3].map intX) [x, y, z] 3 rfl rfl (by show 2 ≤ 3; omega) (by show 3 ≤ 1000; omega) (fun i h => by
    have h : i < 3 := h
    match i, h with
    | 0, _ => exact x3
    | 1, _ => exact y3
    | 2, _ => exact z3)
  have I1 := AInts_ok [1, 2, 3] (by decide) (fun n hn => by simp at hn; rcases hn with rfl | rfl | rfl <;> exact ⟨by decide, by decide⟩)
  have I1 : AC Tryz.prog 13 [.sl 1 (irows .i64 [1, 2, 3]) false] (.pure (AA [3] false [] ([1, 2, 3].map intX) true)) := I1
  have R6 := RIntP_ok 6 (by decide)
  have R2 := RIntP_ok 2 (by decide)
  have R3 := RInts_ok [1, 3, 6] (by decide) (fun n hn => by simp at hn; rcases hn with rfl | rfl | rfl <;> exact ⟨by decide, by decide⟩)
  have R3 : AC Tryz.prog 34 [.sl 1 (irows .i64 [1, 3, 6]) false] (.pure (PA [3] false [] [1, 3, 6])) := R3
  have S1 := shows19_ok [] false [] [a] (by decide) (by decide) (by show 1 ≤ 100000; omega) (fun o ho => by
    rw [List.mem_singleton.1 ho]
    exact ⟨a1, by rw [a2]; exact (sz_natI 6 (by decide)).mono (by decide)⟩)
  have S2 := shows19_ok [] false [] [b] (by decide) (by decide) (by show 1 ≤ 100000; omega) (fun o ho => by
    rw [List.mem_singleton.1 ho]
    exact ⟨b1, by rw [b2]; exact (sz_natI 2 (by decide)).mono (by decide)⟩)
  have S3 := shows19_ok [3] false [] [x, y, z] (by decide) (by decide) (by show 3 ≤ 100000; omega) (fun o ho => by
    simp only [List.mem_cons, List.not_mem_nil, or_false] at ho
    rcases ho with rfl | rfl | rfl
    · exact ⟨x1, by rw [x2]; exact (sz_natI 1 (by decide)).mono (by decide)⟩
    · exact ⟨y1, by rw [y2]; exact (sz_natI 3 (by decide)).mono (by decide)⟩
    · exact ⟨z1, by rw [z2]; exact (sz_natI 6 (by decide)).mono (by decide)⟩)
  rw [show [a].map valX = [((6 : Int) : Rat)] by show [valX a] = _; rw [a2]; rfl] at S1
  rw [show [b].map valX = [((2 : Int) : Rat)] by show [valX b] = _; rw [b2]; rfl] at S2
  rw [show [x, y, z].map valX = [1, 3, 6] by show [valX x, valX y, valX z] = _; rw [x2, y2, z2]] at S3
  have a3 : AC Tryz.prog 12 [.val (.int .i32 43), AA [3] false [] ([1, 2, 3].map intX) true, .val (.int .i64 (-1)), .val (.int .i64 4)] (.pure (.tup [AA [] false [] [a] true, .val (.int .i64 0)])) := a3
  have b3 : AC Tryz.prog 12 [.val (.int .i32 45), AA [3] false [] ([1, 2, 3].map intX) true, .val (.int .i64 (-1)), .val (.int .i64 4)] (.pure (.tup [AA [] false [] [b] true, .val (.int .i64 0)])) := b3
  have hSc : AC Tryz.prog 32 [.val (.int .i32 43), AA [3] false [] ([1, 2, 3].map intX) true, .val (.int .i64 (-1)), .val (.int .i64 4)] (.pure (.tup [AA [3] false [] [x, y, z] true, .val (.int .i64 0)])) := hSc
  clear nv no hQ a1 a2 b1 b2 x1 x2 x3 y1 y2 y3 z1 z2 z3
  generalize ([1, 2, 3] : List Int).map intX = w1 at *
  generalize [a] = w2 at *
  generalize [b] = w3 at *
  generalize [x, y, z] = w4 at *
  generalize [((6 : Int) : Rat)] = w5 at *
  generalize [((2 : Int) : Rat)] = w6 at *
  generalize ([1, 3, 6] : List Rat) = w7 at *
  refine AC.of_body TTok Tryz.func11 rfl (enter_of Tryz.func11 (by kernel_rfl) (by kernel_rfl)) (fun x hx => nomatch hx) (.val _) (Nat.le_of_ble_eq_true rfl) ?_
  unfold AA PA at *
  conv => whnf
  refine ⟨(Nat.le_of_ble_eq_true rfl), _, I1, ?_⟩
  conv => whnf
  refine ⟨_, a3, ?_⟩
  conv => whnf
  refine ⟨_, b3, ?_⟩
  conv => whnf
  refine ⟨_, hSc, ?_⟩
  conv => whnf
  refine ⟨_, R6, ?_⟩
  conv => whnf
  refine ⟨_, S1, ?_⟩
  conv => whnf
  refine ⟨_, R2, ?_⟩
  conv => whnf
  refine ⟨_, S2, ?_⟩
  conv => whnf
  refine ⟨(Nat.le_of_ble_eq_true rfl), _, R3, ?_⟩
  conv => whnf
  refine ⟨_, S3, ?_⟩
  repeat
    conv => whnf
    first
      | refine ⟨_, by assumption, ?_⟩
      | refine ⟨(Nat.le_of_ble_eq_true rfl), _, by assumption, ?_⟩
      | refine ⟨by kernel_rfl, ?_⟩
      | exact rfl
      | exact ⟨Nat.le_of_ble_eq_true rfl, rfl⟩
      | refine ⟨by decide, ?_⟩
end Go.Proofs.YtbdklokfijjifaaGreat

/- The statement FoldUnits: the walk through the law. -/
set_option linter.unusedVariables false
namespace Go.Proofs.YtbdklokfijjifaaGreat.foldUnits
open Go Go.AL NM

theorem holds (c : Int) (_wc : -2147483648 ≤ c ∧ c < 2147483648) : AC Tryz.prog 3 [.val (.int .i32 c)] (.pure (.val (.bool true))) := by
  have hU := Unit_ok c
  have hR := RUnit_ok c
  have hA := awake19_ok
  refine AC.of_body TTok Tryz.func3 rfl (enter_of Tryz.func3 (by kernel_rfl) (by kernel_rfl)) (noid1 (.val _)) (.val _) (Nat.le_of_ble_eq_true rfl) ?_
  generalize (unitQ c).getD 0 = u at *
  generalize (unitQ c).isSome = b at *
  conv => whnf
  refine ⟨_, hU, ?_⟩
  conv => whnf
  refine ⟨_, hR, ?_⟩
  conv => whnf
  refine caseb (fun _ => ?_) (fun h => Bool.noConfusion ((int_self _).symm.trans h))
  conv => whnf
  refine caseb (fun _ => ?_) (fun h => Bool.noConfusion ((bool_self _).symm.trans h))
  repeat
    conv => whnf
    first
      | refine ⟨_, by assumption, ?_⟩
      | refine ⟨(Nat.le_of_ble_eq_true rfl), _, by assumption, ?_⟩
      | refine ⟨by kernel_rfl, ?_⟩
      | exact rfl
      | exact ⟨Nat.le_of_ble_eq_true rfl, rfl⟩
      | refine ⟨by decide, ?_⟩
end Go.Proofs.YtbdklokfijjifaaGreat.foldUnits
