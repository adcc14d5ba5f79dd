/- Numbers as texts: a number is written (the document's contract). -/
import Derived.Test.YthodfkfgdoolnaaGreatDoorB4
set_option linter.unusedVariables false
namespace Go.Proofs.YthodfkfgdoolnaaGreatDoor
open Go Go.AL NM

theorem half_RN : RN (1 / 2 : Rat).num (1 / 2 : Rat).den = .agg [.val (.bool false), .val (.string { data := #[49] }), .val (.string { data := #[50] })] := by
  have e1 : (1 / 2 : Rat).num = 1 := by decide +kernel
  have e2 : (1 / 2 : Rat).den = 2 := by decide +kernel
  rw [e1, e2]
  have h2 : decS 2 = { data := #[50] } := by
    unfold decS
    rw [show decL 2 = [50] by decide +kernel]; rfl
  have h1 : decS 1 = { data := #[49] } := by
    unfold decS
    rw [show decL 1 = [49] by decide +kernel]; rfl
  unfold RN
  rw [show (1 : Int).natAbs = 1 from rfl, h1, h2]; rfl
theorem absQ_num (a : Rat) : (absQ a).num = (a.num.natAbs : Int) ∧ (absQ a).den = a.den := by
  unfold absQ
  split
  · rw [Rat.neg_num, Rat.neg_den]; omega
  · omega
theorem trimZ_take {l : List Int} {k : Nat} (hk : k < l.length) (h : l[k] ≠ 48) : trimZ (l.take (k + 1)) = l.take (k + 1) := by
  rw [take_snoc hk, trimZ_other _ h]

theorem decL_first {n : Nat} (h0 : 0 < n) {c : Int} (h : (decL n)[0]? = some c) : c ≠ 48 := by
  have h1 := decL_head h0
  rw [List.head_eq_getElem] at h1
  rw [List.getElem?_eq_getElem (List.length_pos_iff.2 (decL_ne n))] at h
  rw [← Option.some.inj h]
  exact h1
theorem RShow_ok (a : Rat) (many : Int) (ha : Sz a 10) (h40 : many ≤ 40) : AC Tryz.prog 9 [RN a.num a.den, .val (.int .i64 many)] (.pure (.val (.string (strL (showL hiB a many))))) := by
  refine AC.of_sw TTok Tryz.func9 rfl (enter_of Tryz.func9 (by kernel_rfl) (by kernel_rfl)) (noid2 (RN_noid _ _) (.val _)) (.val _) (Nat.le_of_ble_eq_true rfl) ?_
  have is := is0W a.num.natAbs
  unfold showL
  unfold RN
  by_cases h0 : a = 0
  · rw [if_pos h0]
    have tz : ((decS a.num.natAbs).toList == ({ data := #[48] } : ByteArray).toList) = true := by rw [is, h0]; rfl
    refine axp_sound TTok _ _ _ ?_
    conv => whnf
    refine caseb (fun _ => ?_) (fun h => Bool.noConfusion ((tz).symm.trans h))
    conv => whnf
    exact strE rfl
  rw [if_neg h0]
  have hn := num_ne h0
  have tz : ((decS a.num.natAbs).toList == ({ data := #[48] } : ByteArray).toList) = false := by rw [is, decide_eq_false (by omega)]
  have hp := absQ_pos h0
  have hsz := absQ_sz ha
  obtain ⟨m, hm⟩ : ∃ m, m = max 1 many := ⟨_, rfl⟩
  have hm1 : 1 ≤ m := by omega
  have hm40 : m ≤ 40 := by omega
  rw [← hm]
  refine SW.seqA TTok ?_
  conv => whnf
  refine SW.seqA TTok ?_
  conv => whnf
  refine caseb (fun h => Bool.noConfusion ((tz).symm.trans h)) (fun _ => ?_)
  conv => whnf
  refine SW.cutM TTok (fun _ : Unit => [(1, .val (.int .i64 m)), (2, .lp 0 0)]) (fun _ => [(0, .cells 3 [[.val (.bool (decide (a.num < 0))), .val (.string (decS a.num.natAbs)), .val (.string (decS a.den))]])]) 72 114 rfl (fun _ => True) ?_ (fun _ _ => ?_)
  · by_cases h1 : many < 1
    · conv => whnf
      first
        | refine caseb (fun _ => ?_) (fun h => absurd (of_decide_eq_false h) (by omega))
        | refine caseb (fun h => absurd (of_decide_eq_true h) (by omega)) (fun _ => ?_)
        | refine caseb (fun _ => ?_) (fun h => absurd (beq_eq_false_iff_ne.1 h) (by omega))
        | refine caseb (fun h => absurd (eq_of_beq h) (by omega)) (fun _ => ?_)
      conv => whnf
      exact ⟨(), [], trivial, ⟨⟨valI (by omega), rfl⟩, ⟨rfl, rfl⟩, trivial⟩, ⟨⟨rfl, .inr ⟨rfl, rfl⟩⟩, trivial⟩, rfl⟩
    · conv => whnf
      first
        | refine caseb (fun _ => ?_) (fun h => absurd (of_decide_eq_false h) (by omega))
        | refine caseb (fun h => absurd (of_decide_eq_true h) (by omega)) (fun _ => ?_)
        | refine caseb (fun _ => ?_) (fun h => absurd (beq_eq_false_iff_ne.1 h) (by omega))
        | refine caseb (fun h => absurd (eq_of_beq h) (by omega)) (fun _ => ?_)
      conv => whnf
      exact ⟨(), [], trivial, ⟨⟨valI (by omega), rfl⟩, ⟨rfl, rfl⟩, trivial⟩, ⟨⟨rfl, .inr ⟨rfl, rfl⟩⟩, trivial⟩, rfl⟩
  refine SW.seqA TTok ?_
  conv => whnf
  refine SW.cutM TTok (fun _ : Unit => [(1, .val (.int .i64 m)), (2, .lp 0 0), (5, .val (.string (strL (sgT hiB (decide (a.num < 0))))))]) (fun _ => [(0, .cells 3 [[.val (.bool (decide (a.num < 0))), .val (.string (decS a.num.natAbs)), .val (.string (decS a.den))]])]) 104 114 rfl (fun _ => True) ?_ (fun _ _ => ?_)
  · by_cases h1 : a.num < 0
    · have tl : decide (a.num < 0) = true := decide_eq_true h1
      rw [tl]
      conv => whnf
      exact ⟨(), [], trivial, ⟨⟨rfl, rfl⟩, ⟨rfl, rfl⟩, ⟨rfl, rfl⟩, trivial⟩, ⟨⟨rfl, .inr ⟨rfl, rfl⟩⟩, trivial⟩, rfl⟩
    · have tl : decide (a.num < 0) = false := decide_eq_false h1
      rw [tl]
      conv => whnf
      exact ⟨(), [], trivial, ⟨⟨rfl, rfl⟩, ⟨rfl, rfl⟩, ⟨rfl, rfl⟩, trivial⟩, ⟨⟨rfl, .inr ⟨rfl, rfl⟩⟩, trivial⟩, rfl⟩
  have z5 := strL_size (sgT hiB (decide (a.num < 0)))
  have l5 := sgT_len (decide (a.num < 0))
  generalize sgT hiB (decide (a.num < 0)) = sg at *
  have hO := ROrder_ok (absQ a) (hsz.mono (by decide)) hp
  have hbd := ord_bd hsz
  have eN : IntKind.i64.wrap (IntKind.i64.wrap (m - 1) - ordP (absQ a)) = m - 1 - ordP (absQ a) := by rw [IntWalk.i64_in (m - 1) (by omega), IntWalk.i64_in _ (by omega)]
  have hS := Times10_ok (absQ a) (m - 1 - ordP (absQ a)) 10 hsz (by omega) (by decide)
  have sS : Sz (absQ a * 10 ^ (m - 1 - ordP (absQ a))) 40 := (sc_Sz hsz _).mono (by omega)
  have hA := SAdd_ok _ (1 / 2) 40 1 sS (Sz_small (by decide +kernel) (by decide +kernel)) (by decide)
  rw [half_RN] at hA
  have sA : Sz (absQ a * 10 ^ (m - 1 - ordP (absQ a)) + 1 / 2) 100 := (Sz_add sS (Sz_small (q := 1 / 2) (by decide +kernel) (by decide +kernel))).mono (by decide)
  have hF := SFloor_ok _ (sA.mono (by decide))
  rw [rnd_floor (a_pos_sc hp _)] at hF
  have hfig : fig (absQ a) m = rnd (absQ a * 10 ^ (m - 1 - ordP (absQ a))) := rfl
  rw [← hfig] at hF
  clear hfig
  have hfl := fig_len hp hm1 hm40
  have hfp := fig_pos hp hm1
  have hE : figE (absQ a) m = ordP (absQ a) + ((decL (fig (absQ a) m)).length : Int) - m := rfl
  have hdne := decL_ne (fig (absQ a) m)
  have hhd : ∀ c, (decL (fig (absQ a) m))[0]? = some c → c ≠ 48 := fun c h => decL_first hfp h
  have hne := trimZ_ne hdne (decL_head hfp)
  have hln := trimZ_len (decL (fig (absQ a) m))
  have hByt := Dig.byt (decL_byt (fig (absQ a) m))
  have zF := decS_len (fig (absQ a) m)
  have eE : IntKind.i64.wrap (IntKind.i64.wrap (ordP (absQ a) + ((decS (fig (absQ a) m)).size : Int)) - m) = figE (absQ a) m := by
    rw [zF, hE, IntWalk.i64_in (ordP (absQ a) + _) (by omega), IntWalk.i64_in _ (by omega)]
  obtain ⟨n1, n2⟩ := absQ_num a
  revert hS hA hF
  generalize absQ a * 10 ^ (m - 1 - ordP (absQ a)) + 1 / 2 = c
  generalize absQ a * 10 ^ (m - 1 - ordP (absQ a)) = b
  intro hS hA hF
  unfold RN WR at *
  rw [n1, n2, Int.natAbs_natCast, decide_eq_false (show ¬ ((a.num.natAbs : Nat) : Int) < 0 by omega)] at hS hO
  rw [Int.natAbs_natCast, decide_eq_false (show ¬ ((fig (absQ a) m : Nat) : Int) < 0 by omega)] at hF
  rw [← eN] at hS
  have hW := RFrom_ok (figE (absQ a) m) (by rw [hE]; omega)
  have hdl : (decL (figE (absQ a) m).natAbs).length ≤ 4 := decL_len_le (by decide) (by rw [hE]; omega)
  have hDg := RDigits_ok (figE (absQ a) m) (strL hiB) (by decide) (by omega)
  rw [digs_is'] at hDg
  unfold WR at hW hDg
  have hEb : -300 ≤ figE (absQ a) m ∧ figE (absQ a) m ≤ 300 := by rw [hE]; omega
  clear hE
  have hdec : decS (fig (absQ a) m) = strL (decL (fig (absQ a) m)) := rfl
  generalize figE (absQ a) m = e at *
  refine SW.seqA TTok ?_
  conv => whnf
  refine SW.seqA TTok ?_
  conv => whnf
  refine ⟨_, hO, ?_⟩
  conv => whnf
  refine SW.seqA TTok ?_
  conv => whnf
  refine SW.seqA TTok ?_
  conv => whnf
  refine ⟨_, hS, ?_⟩
  conv => whnf
  refine ⟨_, hA, ?_⟩
  conv => whnf
  refine ⟨_, hF, ?_⟩
  conv => whnf
  refine ⟨by kernel_rfl, ?_⟩
  conv => whnf
  refine SW.seqA TTok ?_
  conv => whnf
  rw [eE, hdec]
  generalize decL (fig (absQ a) m) = l at *
  have hl0 := List.length_pos_iff.2 hdne
  refine SW.cutS TTok (fun _ : Unit => [(1, .val (.int .i64 m)), (5, .val (.string (strL sg))), (6, .val (.int .i64 e)), (8, .val (.string (strL (trimZ l))))]) (fun _ => []) 448 114 rfl (fun _ => True) (SW.block ?hx) (fun _ _ => ?hy)
  case hx =>
    refine SW.loopM TTok (fun k : Nat => [(1, .val (.int .i64 m)), (5, .val (.string (strL sg))), (6, .val (.int .i64 e)), (8, .val (.string (strL (l.take k))))]) (fun _ => []) 312 114 rfl (fun k => k) (fun k => 1 ≤ k ∧ k ≤ l.length ∧ trimZ (l.take k) = trimZ l) l.length [] ⟨hl0, Nat.le_refl _, by rw [List.take_length]⟩
      ⟨⟨rfl, rfl⟩, ⟨rfl, rfl⟩, ⟨rfl, rfl⟩, ⟨strE (by rw [List.take_length]), rfl⟩, trivial⟩ trivial rfl ?_
    intro k hJ
    have hk1 : 1 ≤ k := hJ.1
    have hk : k ≤ l.length := hJ.2.1
    have ht : trimZ (l.take k) = trimZ l := hJ.2.2
    clear hJ
    have hz := strL_size (l.take k)
    rw [List.length_take, Nat.min_eq_left hk] at hz
    obtain ⟨k, rfl⟩ : ∃ k', k = k' + 1 := ⟨k - 1, by omega⟩
    have hk' : k < l.length := hk
    have eS : IntKind.i64.wrap (((strL (l.take (k + 1))).size : Int) - 1) = (k : Int) := by rw [hz, IntWalk.i64_in _ (by omega)]; omega
    have hby : byteAt (strL (l.take (k + 1))) (k : Int) = l[k] := by
      refine byteAt_strL (l := l.take (k + 1)) (fun x hx => hByt x (List.mem_of_mem_take hx)) (Int.natCast_nonneg k) ?_
      rw [Int.toNat_natCast, List.getElem?_take_of_lt (Nat.lt_succ_self k), List.getElem?_eq_getElem hk']
    by_cases hgo : 0 < k ∧ l[k] = 48
    · obtain ⟨hk0, h48⟩ := hgo
      have t1 : decide (((strL (l.take (k + 1))).size : Int) > 1) = true := decide_eq_true (by omega)
      have te : (byteAt (strL (l.take (k + 1))) (k : Int) == 48) = true := by rw [hby, h48]; rfl
      conv => whnf
      refine caseb (fun _ => ?_) (fun h => Bool.noConfusion ((t1).symm.trans h))
      conv => whnf
      rw [eS]
      refine ⟨by omega, ?_⟩
      conv => whnf
      refine caseb (fun _ => ?_) (fun h => Bool.noConfusion ((te).symm.trans h))
      conv => whnf
      rw [eS]
      refine ⟨by omega, ?_⟩
      conv => whnf
      refine ⟨k, [], Nat.lt_succ_self k, ⟨hk0, Nat.le_of_succ_le hk, ?_⟩, ⟨⟨rfl, rfl⟩, ⟨rfl, rfl⟩, ⟨rfl, rfl⟩, ⟨strE ?_, rfl⟩, trivial⟩, trivial, rfl⟩
      · rw [← ht, take_snoc hk', h48, trimZ_zero]
      · show (strL (l.take (k + 1))).extract 0 k = _
        rw [strL_extract, List.drop_zero, List.take_take, Nat.min_eq_left (Nat.le_succ k)]
    · have h48 : l[k] ≠ 48 := by
        intro h48
        have hk0 : k = 0 := by
          rcases Nat.eq_zero_or_pos k with h | h
          · exact h
          · exact absurd ⟨h, h48⟩ hgo
        subst hk0
        exact hhd 48 (by rw [List.getElem?_eq_getElem hk', h48]) rfl
      have hs : l.take (k + 1) = trimZ l := by rw [← ht, trimZ_take hk' h48]
      have hlen2 : (trimZ l).length = k + 1 := by rw [← hs, List.length_take, Nat.min_eq_left hk]
      have te : (byteAt (strL (l.take (k + 1))) (k : Int) == 48) = false := by rw [hby]; exact beq_false_of_ne h48
      by_cases hk0 : k = 0
      · have t1 : decide (((strL (l.take (k + 1))).size : Int) > 1) = false := decide_eq_false (by omega)
        conv => whnf
        refine caseb (fun h => Bool.noConfusion ((t1).symm.trans h)) (fun _ => ?_)
        conv => whnf
        exact ⟨(), [], trivial, ⟨⟨rfl, rfl⟩, ⟨rfl, rfl⟩, ⟨rfl, rfl⟩, ⟨strE (by rw [hs]), rfl⟩, trivial⟩, trivial, rfl⟩
      · have t1 : decide (((strL (l.take (k + 1))).size : Int) > 1) = true := decide_eq_true (by omega)
        conv => whnf
        refine caseb (fun _ => ?_) (fun h => Bool.noConfusion ((t1).symm.trans h))
        conv => whnf
        rw [eS]
        refine ⟨by omega, ?_⟩
        conv => whnf
        refine caseb (fun h => Bool.noConfusion ((te).symm.trans h)) (fun _ => ?_)
        conv => whnf
        exact ⟨(), [], trivial, ⟨⟨rfl, rfl⟩, ⟨rfl, rfl⟩, ⟨rfl, rfl⟩, ⟨strE (by rw [hs]), rfl⟩, trivial⟩, trivial, rfl⟩
  have z6 := strL_size (trimZ l)
  have lm := mantL_len (trimZ l)
  have hsl := List.length_pos_iff.2 hne
  generalize trimZ l = s at *
  refine axp_sound TTok _ _ _ ?_
  have x69 : ({ data := #[69] } : ByteArray) = strL [69] := rfl
  have x46 : ({ data := #[46] } : ByteArray) = strL [46] := rfl
  have x048 : ({ data := #[48, 46] } : ByteArray) = strL [48, 46] := rfl
  have xhi : ({ data := #[194, 175] } : ByteArray) = strL hiB := rfl
  unfold tailT
  by_cases h1 : m ≤ e ∨ e < -6
  · rw [if_pos h1]
    have zm := strL_size (mantL s)
    have zd := strL_size ((if e < 0 then hiB else []) ++ decL e.natAbs)
    have zdl : ((if e < 0 then hiB else []) ++ decL e.natAbs).length ≤ 10 := by
      rw [List.length_append]; split
      · show 2 + _ ≤ _; omega
      · show 0 + _ ≤ _; omega
    generalize ((if e < 0 then hiB else []) ++ decL e.natAbs) = d at *
    have fin : strL sg ++ strL (mantL s) ++ { data := #[69] } ++ strL d = strL (sg ++ (mantL s ++ [69] ++ d)) := by
      rw [x69, strL_append, strL_append, strL_append]; simp only [List.append_assoc]
    rw [← xhi] at hDg
    have step : (strL sg ++ strL (mantL s)).size ≤ 100 := by rw [ByteArray.size_append]; omega
    have step2 : (strL sg ++ strL (mantL s) ++ { data := #[69] }).size ≤ 101 := by rw [ByteArray.size_append]; show _ + 1 ≤ _; omega
    have tm1 : ∀ {b : Bool}, decide (m ≤ e) = b → decide (e ≥ m) = b := fun h => h
    by_cases hs1 : s.length = 1
    · have em : mantL s = s := if_pos hs1
      rw [em] at fin step step2 zm
      have t1 : decide (((strL s).size : Int) > 1) = false := decide_eq_false (by omega)
      by_cases h2 : m ≤ e
      · conv => whnf
        first
          | refine caseb (fun _ => ?_) (fun h => absurd (of_decide_eq_false h) (by omega))
          | refine caseb (fun h => absurd (of_decide_eq_true h) (by omega)) (fun _ => ?_)
          | refine caseb (fun _ => ?_) (fun h => absurd (beq_eq_false_iff_ne.1 h) (by omega))
          | refine caseb (fun h => absurd (eq_of_beq h) (by omega)) (fun _ => ?_)
        conv => whnf
        refine caseb (fun h => Bool.noConfusion ((t1).symm.trans h)) (fun _ => ?_)
        conv => whnf
        refine ⟨by omega, ?_⟩
        conv => whnf
        refine ⟨by show _ + 1 ≤ _; omega, ?_⟩
        conv => whnf
        refine ⟨_, hW, ?_⟩
        conv => whnf
        refine ⟨_, hDg, ?_⟩
        conv => whnf
        refine ⟨by omega, ?_⟩
        conv => whnf
        exact strE (by rw [em]; exact fin)
      · conv => whnf
        first
          | refine caseb (fun _ => ?_) (fun h => absurd (of_decide_eq_false h) (by omega))
          | refine caseb (fun h => absurd (of_decide_eq_true h) (by omega)) (fun _ => ?_)
          | refine caseb (fun _ => ?_) (fun h => absurd (beq_eq_false_iff_ne.1 h) (by omega))
          | refine caseb (fun h => absurd (eq_of_beq h) (by omega)) (fun _ => ?_)
        conv => whnf
        first
          | refine caseb (fun _ => ?_) (fun h => absurd (of_decide_eq_false h) (by omega))
          | refine caseb (fun h => absurd (of_decide_eq_true h) (by omega)) (fun _ => ?_)
          | refine caseb (fun _ => ?_) (fun h => absurd (beq_eq_false_iff_ne.1 h) (by omega))
          | refine caseb (fun h => absurd (eq_of_beq h) (by omega)) (fun _ => ?_)
        conv => whnf
        refine caseb (fun h => Bool.noConfusion ((t1).symm.trans h)) (fun _ => ?_)
        conv => whnf
        refine ⟨by omega, ?_⟩
        conv => whnf
        refine ⟨by show _ + 1 ≤ _; omega, ?_⟩
        conv => whnf
        refine ⟨_, hW, ?_⟩
        conv => whnf
        refine ⟨_, hDg, ?_⟩
        conv => whnf
        refine ⟨by omega, ?_⟩
        conv => whnf
        exact strE (by rw [em]; exact fin)
    · have em : mantL s = s.take 1 ++ [46] ++ s.drop 1 := if_neg hs1
      have t1 : decide (((strL s).size : Int) > 1) = true := decide_eq_true (by have := List.length_pos_iff.2 hne; omega)
      have y1 : (strL s).extract 0 (1 : Int).toNat = strL (s.take 1) := by rw [strL_extract, List.drop_zero]; rfl
      have y2 : (strL s).extract (1 : Int).toNat (strL s).size = strL (s.drop 1) := by rw [strL_extract, z6, List.take_length]; rfl
      have y3 : strL (s.take 1) ++ { data := #[46] } ++ strL (s.drop 1) = strL (mantL s) := by rw [em, x46, strL_append, strL_append]
      have u1 : (strL (s.take 1)).size ≤ 1 := by rw [strL_size, List.length_take]; omega
      have u2 : (strL (s.drop 1)).size ≤ 60 := by rw [strL_size, List.length_drop]; omega
      have u3 : (strL (s.take 1) ++ { data := #[46] }).size ≤ 2 := by rw [ByteArray.size_append]; show _ + 1 ≤ _; omega
      by_cases h2 : m ≤ e
      · conv => whnf
        first
          | refine caseb (fun _ => ?_) (fun h => absurd (of_decide_eq_false h) (by omega))
          | refine caseb (fun h => absurd (of_decide_eq_true h) (by omega)) (fun _ => ?_)
          | refine caseb (fun _ => ?_) (fun h => absurd (beq_eq_false_iff_ne.1 h) (by omega))
          | refine caseb (fun h => absurd (eq_of_beq h) (by omega)) (fun _ => ?_)
        conv => whnf
        refine caseb (fun _ => ?_) (fun h => Bool.noConfusion ((t1).symm.trans h))
        conv => whnf
        refine ⟨by omega, ?_⟩
        conv => whnf
        rw [y1]
        refine ⟨by show _ + 1 ≤ _; omega, ?_⟩
        conv => whnf
        refine ⟨by omega, ?_⟩
        conv => whnf
        rw [y2]
        refine ⟨by omega, ?_⟩
        conv => whnf
        rw [y3]
        refine ⟨by kernel_rfl, ?_⟩
        conv => whnf
        refine ⟨by omega, ?_⟩
        conv => whnf
        refine ⟨by show _ + 1 ≤ _; omega, ?_⟩
        conv => whnf
        refine ⟨_, hW, ?_⟩
        conv => whnf
        refine ⟨_, hDg, ?_⟩
        conv => whnf
        refine ⟨by omega, ?_⟩
        conv => whnf
        exact strE fin
      · conv => whnf
        first
          | refine caseb (fun _ => ?_) (fun h => absurd (of_decide_eq_false h) (by omega))
          | refine caseb (fun h => absurd (of_decide_eq_true h) (by omega)) (fun _ => ?_)
          | refine caseb (fun _ => ?_) (fun h => absurd (beq_eq_false_iff_ne.1 h) (by omega))
          | refine caseb (fun h => absurd (eq_of_beq h) (by omega)) (fun _ => ?_)
        conv => whnf
        first
          | refine caseb (fun _ => ?_) (fun h => absurd (of_decide_eq_false h) (by omega))
          | refine caseb (fun h => absurd (of_decide_eq_true h) (by omega)) (fun _ => ?_)
          | refine caseb (fun _ => ?_) (fun h => absurd (beq_eq_false_iff_ne.1 h) (by omega))
          | refine caseb (fun h => absurd (eq_of_beq h) (by omega)) (fun _ => ?_)
        conv => whnf
        refine caseb (fun _ => ?_) (fun h => Bool.noConfusion ((t1).symm.trans h))
        conv => whnf
        refine ⟨by omega, ?_⟩
        conv => whnf
        rw [y1]
        refine ⟨by show _ + 1 ≤ _; omega, ?_⟩
        conv => whnf
        refine ⟨by omega, ?_⟩
        conv => whnf
        rw [y2]
        refine ⟨by omega, ?_⟩
        conv => whnf
        rw [y3]
        refine ⟨by kernel_rfl, ?_⟩
        conv => whnf
        refine ⟨by omega, ?_⟩
        conv => whnf
        refine ⟨by show _ + 1 ≤ _; omega, ?_⟩
        conv => whnf
        refine ⟨_, hW, ?_⟩
        conv => whnf
        refine ⟨_, hDg, ?_⟩
        conv => whnf
        refine ⟨by omega, ?_⟩
        conv => whnf
        exact strE fin
  · rw [if_neg h1]
    by_cases h2 : e < 0
    · rw [if_pos h2]
      have eR : IntKind.i64.wrap (IntKind.i64.wrap (0 - e) - 1) = -e - 1 := by rw [IntWalk.i64_in (0 - e) (by omega), IntWalk.i64_in _ (by omega)]; omega
      have hRp := zeros_ok (-e - 1) (by omega)
      have zr := strL_size (List.replicate (-e - 1).toNat 48)
      rw [List.length_replicate] at zr
      have fin : strL sg ++ { data := #[48, 46] } ++ strL (List.replicate (-e - 1).toNat 48) ++ strL s = strL (sg ++ ([48, 46] ++ List.replicate (-e - 1).toNat 48 ++ s)) := by
        rw [x048, strL_append, strL_append, strL_append]; simp only [List.append_assoc]
      have step : (strL sg ++ { data := #[48, 46] }).size ≤ 100 := by rw [ByteArray.size_append]; show _ + 2 ≤ _; omega
      have step2 : (strL sg ++ { data := #[48, 46] } ++ strL (List.replicate (-e - 1).toNat 48)).size ≤ 110 := by rw [ByteArray.size_append]; omega
      rw [← eR] at hRp
      rw [← eR] at fin step2 zr ⊢
      conv => whnf
      first
        | refine caseb (fun _ => ?_) (fun h => absurd (of_decide_eq_false h) (by omega))
        | refine caseb (fun h => absurd (of_decide_eq_true h) (by omega)) (fun _ => ?_)
        | refine caseb (fun _ => ?_) (fun h => absurd (beq_eq_false_iff_ne.1 h) (by omega))
        | refine caseb (fun h => absurd (eq_of_beq h) (by omega)) (fun _ => ?_)
      conv => whnf
      first
        | refine caseb (fun _ => ?_) (fun h => absurd (of_decide_eq_false h) (by omega))
        | refine caseb (fun h => absurd (of_decide_eq_true h) (by omega)) (fun _ => ?_)
        | refine caseb (fun _ => ?_) (fun h => absurd (beq_eq_false_iff_ne.1 h) (by omega))
        | refine caseb (fun h => absurd (eq_of_beq h) (by omega)) (fun _ => ?_)
      conv => whnf
      first
        | refine caseb (fun _ => ?_) (fun h => absurd (of_decide_eq_false h) (by omega))
        | refine caseb (fun h => absurd (of_decide_eq_true h) (by omega)) (fun _ => ?_)
        | refine caseb (fun _ => ?_) (fun h => absurd (beq_eq_false_iff_ne.1 h) (by omega))
        | refine caseb (fun h => absurd (eq_of_beq h) (by omega)) (fun _ => ?_)
      conv => whnf
      refine ⟨by show _ + 2 ≤ _; omega, ?_⟩
      conv => whnf
      refine ⟨_, hRp, ?_⟩
      conv => whnf
      refine ⟨by rw [eR] at zr ⊢; omega, ?_⟩
      conv => whnf
      refine ⟨by omega, ?_⟩
      conv => whnf
      exact strE fin
    · rw [if_neg h2]
      have e1 : IntKind.i64.wrap (e + 1) = e + 1 := by rw [IntWalk.i64_in _ (by omega)]
      by_cases h3 : (s.length : Int) ≤ e + 1
      · rw [if_pos h3]
        have eR : IntKind.i64.wrap (IntKind.i64.wrap (e + 1) - ((strL s).size : Int)) = e + 1 - s.length := by rw [z6, e1, IntWalk.i64_in _ (by omega)]
        have hRp := zeros_ok (e + 1 - s.length) (by omega)
        have zr := strL_size (List.replicate (e + 1 - s.length).toNat 48)
        rw [List.length_replicate] at zr
        have fin : strL sg ++ strL s ++ strL (List.replicate (e + 1 - s.length).toNat 48) = strL (sg ++ (s ++ List.replicate (e + 1 - s.length).toNat 48)) := by
          rw [strL_append, strL_append]; simp only [List.append_assoc]
        have step : (strL sg ++ strL s).size ≤ 100 := by rw [ByteArray.size_append]; omega
        rw [← eR] at hRp
        have t3 : decide (IntKind.i64.wrap (e + 1) ≥ ((strL s).size : Int)) = true := decide_eq_true (by rw [e1, z6]; exact h3)
        conv => whnf
        first
          | refine caseb (fun _ => ?_) (fun h => absurd (of_decide_eq_false h) (by omega))
          | refine caseb (fun h => absurd (of_decide_eq_true h) (by omega)) (fun _ => ?_)
          | refine caseb (fun _ => ?_) (fun h => absurd (beq_eq_false_iff_ne.1 h) (by omega))
          | refine caseb (fun h => absurd (eq_of_beq h) (by omega)) (fun _ => ?_)
        conv => whnf
        first
          | refine caseb (fun _ => ?_) (fun h => absurd (of_decide_eq_false h) (by omega))
          | refine caseb (fun h => absurd (of_decide_eq_true h) (by omega)) (fun _ => ?_)
          | refine caseb (fun _ => ?_) (fun h => absurd (beq_eq_false_iff_ne.1 h) (by omega))
          | refine caseb (fun h => absurd (eq_of_beq h) (by omega)) (fun _ => ?_)
        conv => whnf
        first
          | refine caseb (fun _ => ?_) (fun h => absurd (of_decide_eq_false h) (by omega))
          | refine caseb (fun h => absurd (of_decide_eq_true h) (by omega)) (fun _ => ?_)
          | refine caseb (fun _ => ?_) (fun h => absurd (beq_eq_false_iff_ne.1 h) (by omega))
          | refine caseb (fun h => absurd (eq_of_beq h) (by omega)) (fun _ => ?_)
        conv => whnf
        refine caseb (fun _ => ?_) (fun h => Bool.noConfusion ((t3).symm.trans h))
        conv => whnf
        refine ⟨by omega, ?_⟩
        conv => whnf
        refine ⟨_, hRp, ?_⟩
        conv => whnf
        refine ⟨by rw [eR]; omega, ?_⟩
        conv => whnf
        rw [eR]
        exact strE fin
      · rw [if_neg h3]
        have t3 : decide (IntKind.i64.wrap (e + 1) ≥ ((strL s).size : Int)) = false := decide_eq_false (by rw [e1, z6]; exact h3)
        have x1 : (strL s).extract 0 (e + 1).toNat = strL (s.take (e + 1).toNat) := by rw [strL_extract, List.drop_zero]
        have x2 : (strL s).extract (e + 1).toNat (strL s).size = strL (s.drop (e + 1).toNat) := by rw [strL_extract, z6, List.take_length]
        have zt := strL_size (s.take (e + 1).toNat)
        rw [List.length_take] at zt
        have zu := strL_size (s.drop (e + 1).toNat)
        rw [List.length_drop] at zu
        have fin : strL sg ++ strL (s.take (e + 1).toNat) ++ { data := #[46] } ++ strL (s.drop (e + 1).toNat) = strL (sg ++ (s.take (e + 1).toNat ++ [46] ++ s.drop (e + 1).toNat)) := by
          rw [x46, strL_append, strL_append, strL_append]; simp only [List.append_assoc]
        have step : (strL sg ++ strL (s.take (e + 1).toNat)).size ≤ 100 := by rw [ByteArray.size_append]; omega
        have step2 : (strL sg ++ strL (s.take (e + 1).toNat) ++ { data := #[46] }).size ≤ 110 := by rw [ByteArray.size_append]; show _ + 1 ≤ _; omega
        conv => whnf
        first
          | refine caseb (fun _ => ?_) (fun h => absurd (of_decide_eq_false h) (by omega))
          | refine caseb (fun h => absurd (of_decide_eq_true h) (by omega)) (fun _ => ?_)
          | refine caseb (fun _ => ?_) (fun h => absurd (beq_eq_false_iff_ne.1 h) (by omega))
          | refine caseb (fun h => absurd (eq_of_beq h) (by omega)) (fun _ => ?_)
        conv => whnf
        first
          | refine caseb (fun _ => ?_) (fun h => absurd (of_decide_eq_false h) (by omega))
          | refine caseb (fun h => absurd (of_decide_eq_true h) (by omega)) (fun _ => ?_)
          | refine caseb (fun _ => ?_) (fun h => absurd (beq_eq_false_iff_ne.1 h) (by omega))
          | refine caseb (fun h => absurd (eq_of_beq h) (by omega)) (fun _ => ?_)
        conv => whnf
        first
          | refine caseb (fun _ => ?_) (fun h => absurd (of_decide_eq_false h) (by omega))
          | refine caseb (fun h => absurd (of_decide_eq_true h) (by omega)) (fun _ => ?_)
          | refine caseb (fun _ => ?_) (fun h => absurd (beq_eq_false_iff_ne.1 h) (by omega))
          | refine caseb (fun h => absurd (eq_of_beq h) (by omega)) (fun _ => ?_)
        conv => whnf
        refine caseb (fun h => Bool.noConfusion ((t3).symm.trans h)) (fun _ => ?_)
        conv => whnf
        rw [e1]
        refine ⟨by omega, ?_⟩
        conv => whnf
        rw [x1]
        refine ⟨by omega, ?_⟩
        conv => whnf
        refine ⟨by show _ + 1 ≤ _; omega, ?_⟩
        conv => whnf
        rw [e1]
        refine ⟨by omega, ?_⟩
        conv => whnf
        rw [x2]
        refine ⟨by omega, ?_⟩
        conv => whnf
        refine ⟨by kernel_rfl, ?_⟩
        conv => whnf
        exact strE fin
end Go.Proofs.YthodfkfgdoolnaaGreatDoor

/- Numbers as texts: what is read of a number, the chapter's examples. -/
set_option linter.unusedVariables false
namespace Go.Proofs.YthodfkfgdoolnaaGreatDoor
open Go Go.AL NM

/-- What is read of a number as the page speaks of it. -/
def Rd4 (b : Bool) (s t : List Int) (q : Rat) (ok : Bool) : Prop :=
  (ok = true → RT b s t = RN q.num q.den ∧ RQ b s t ∧ s.length ≤ 40 ∧ t.length ≤ 40 ∧ q = qOf b s t) ∧ AC Tryz.prog 6 [RT b s t] (.pure (.tup [if ok then RA q.num q.den else RA 0 0, .val (.bool ok)]))

theorem read4 (b : Bool) (s t : List Int) (hBs : Byt s) (hBt : Byt t) : ∃ q ok, Rd4 b s t q ok := by
  have z1 := strL_size s
  have z2 := strL_size t
  by_cases h1 : s.length ≤ 40 ∧ t.length ≤ 40
  · have hR := SRight_ok b s t hBs hBt (by omega) (by omega)
    have f1 : decide (((strL s).size : Int) > 40) = false := decide_eq_false (by omega)
    have f2 : decide (((strL t).size : Int) > 40) = false := decide_eq_false (by omega)
    by_cases hq : RQ b s t
    · have hO := SOf_ok b s t hBs hBt (by omega) (by omega) hq.1 hq.2.1 hq.2.2.2.2.1
      rw [decide_eq_true hq] at hR hO
      refine ⟨qOf b s t, true, fun _ => ⟨RQ_is hq, hq, h1.1, h1.2, rfl⟩, ?_⟩
      rw [if_pos rfl]
      refine AC.of_body TTok Tryz.func6 rfl (enter_of Tryz.func6 (by kernel_rfl) (by kernel_rfl)) (noid1 (RT_noid _ _ _)) (.tup _ (noid2 (RA_noid _ _) (.val _))) (Nat.le_of_ble_eq_true rfl) ?_
      unfold RT RA at *
      conv => whnf
      refine caseb (fun h => Bool.noConfusion ((f1).symm.trans h)) (fun _ => ?_)
      conv => whnf
      refine caseb (fun h => Bool.noConfusion ((f2).symm.trans h)) (fun _ => ?_)
      repeat
        conv => whnf
        first
          | refine ⟨_, by assumption, ?_⟩
          | refine ⟨(Nat.le_of_ble_eq_true rfl), _, by assumption, ?_⟩
          | refine ⟨by kernel_rfl, ?_⟩
          | exact rfl
          | exact ⟨Nat.le_of_ble_eq_true rfl, rfl⟩
          | refine ⟨by decide, ?_⟩
    · rw [decide_eq_false hq] at hR
      refine ⟨0, false, fun h => Bool.noConfusion h, ?_⟩
      rw [if_neg (by decide)]
      refine RZ_res ?_
      refine AC.of_body TTok Tryz.func6 rfl (enter_of Tryz.func6 (by kernel_rfl) (by kernel_rfl)) (noid1 (RT_noid _ _ _)) (.tup _ (noid2 RZ_noid (.val _))) (Nat.le_of_ble_eq_true rfl) ?_
      unfold RT at *
      conv => whnf
      refine caseb (fun h => Bool.noConfusion ((f1).symm.trans h)) (fun _ => ?_)
      conv => whnf
      refine caseb (fun h => Bool.noConfusion ((f2).symm.trans h)) (fun _ => ?_)
      repeat
        conv => whnf
        first
          | refine ⟨_, by assumption, ?_⟩
          | refine ⟨(Nat.le_of_ble_eq_true rfl), _, by assumption, ?_⟩
          | refine ⟨by kernel_rfl, ?_⟩
          | exact rfl
          | exact ⟨Nat.le_of_ble_eq_true rfl, rfl⟩
          | refine ⟨by decide, ?_⟩
  · refine ⟨0, false, fun h => Bool.noConfusion h, ?_⟩
    rw [if_neg (by decide)]
    refine RZ_res ?_
    refine AC.of_body TTok Tryz.func6 rfl (enter_of Tryz.func6 (by kernel_rfl) (by kernel_rfl)) (noid1 (RT_noid _ _ _)) (.tup _ (noid2 RZ_noid (.val _))) (Nat.le_of_ble_eq_true rfl) ?_
    unfold RT at *
    by_cases h2 : s.length ≤ 40
    · have f1 : decide (((strL s).size : Int) > 40) = false := decide_eq_false (by omega)
      have f2 : decide (((strL t).size : Int) > 40) = true := decide_eq_true (by omega)
      conv => whnf
      refine caseb (fun h => Bool.noConfusion ((f1).symm.trans h)) (fun _ => ?_)
      conv => whnf
      refine caseb (fun _ => ?_) (fun h => Bool.noConfusion ((f2).symm.trans h))
      repeat
        conv => whnf
        first
          | refine ⟨_, by assumption, ?_⟩
          | refine ⟨(Nat.le_of_ble_eq_true rfl), _, by assumption, ?_⟩
          | refine ⟨by kernel_rfl, ?_⟩
          | exact rfl
          | exact ⟨Nat.le_of_ble_eq_true rfl, rfl⟩
          | refine ⟨by decide, ?_⟩
    · have f1 : decide (((strL s).size : Int) > 40) = true := decide_eq_true (by omega)
      conv => whnf
      refine caseb (fun _ => ?_) (fun h => Bool.noConfusion ((f1).symm.trans h))
      repeat
        conv => whnf
        first
          | refine ⟨_, by assumption, ?_⟩
          | refine ⟨(Nat.le_of_ble_eq_true rfl), _, by assumption, ?_⟩
          | refine ⟨by kernel_rfl, ?_⟩
          | exact rfl
          | exact ⟨Nat.le_of_ble_eq_true rfl, rfl⟩
          | refine ⟨by decide, ?_⟩

theorem Rd4.sz {b : Bool} {s t : List Int} {q : Rat} (h : Rd4 b s t q true) : Sz q 5 ∧ RT b s t = RN q.num q.den ∧ AC Tryz.prog 6 [RN q.num q.den] (.pure (.tup [RA q.num q.den, .val (.bool true)])) := by
  obtain ⟨h1, h2⟩ := h
  obtain ⟨e, hq, l1, l2, rfl⟩ := h1 rfl
  rw [if_pos rfl, e] at h2
  exact ⟨RQ_sz hq l1 l2 (by decide), e, h2⟩
theorem Rd4.bad {b : Bool} {s t : List Int} {q : Rat} {o : Bool} (h : Rd4 b s t q o) : ∃ x d, AC Tryz.prog 6 [RT b s t] (.pure (.tup [RA x d, .val (.bool o)])) := by
  have h2 := h.2
  cases o
  · exact ⟨0, 0, h2⟩
  · exact ⟨q.num, q.den, h2⟩



theorem q23 : showL hiB (Rat.divInt 2 3) 4 = [48, 46, 54, 54, 54, 55] := by decide +kernel
theorem q12345 : showL hiB 12345 3 = [49, 46, 50, 51, 69, 52] := by decide +kernel
theorem q18 : showL hiB (Rat.divInt (-1) 8) 10 = [194, 175, 48, 46, 49, 50, 53] := by decide +kernel
theorem awake4_ok : AC Tryz.prog 7 [] (.pure (.val (.bool true))) := by
  have hO := SOf_ok false [50] [51] (by intro x hx; simp at hx; omega) (by intro x hx; simp at hx; omega) (by decide) (by decide) (by decide) (by decide) (by decide)
  have hP := SOf_ok true [49] [56] (by intro x hx; simp at hx; omega) (by intro x hx; simp at hx; omega) (by decide) (by decide) (by decide) (by decide) (by decide)
  have hq : qOf false [50] [51] = Rat.divInt 2 3 := by decide +kernel
  have hq' : qOf true [49] [56] = Rat.divInt (-1) 8 := by decide +kernel
  have r1 : RQ false [50] [51] := ⟨by decide +kernel, by decide +kernel, by decide +kernel, by decide +kernel, by decide +kernel, by decide +kernel, by decide +kernel⟩
  have r2 : RQ true [49] [56] := ⟨by decide +kernel, by decide +kernel, by decide +kernel, by decide +kernel, by decide +kernel, by decide +kernel, by decide +kernel⟩
  rw [hq, decide_eq_true r1] at hO
  rw [hq', decide_eq_true r2] at hP
  rw [show RT false [50] [51] = .agg [.val (.bool false), .val (.string { data := #[50] }), .val (.string { data := #[51] })] from rfl] at hO
  rw [show RT true [49] [56] = .agg [.val (.bool true), .val (.string { data := #[49] }), .val (.string { data := #[56] })] from rfl] at hP
  have s1 : Sz (Rat.divInt 2 3) 20 := (Sz_small (by decide +kernel) (by decide +kernel)).mono (by decide)
  have s2 : Sz (Rat.divInt (-1) 8) 20 := (Sz_small (by decide +kernel) (by decide +kernel)).mono (by decide)
  have s3 : Sz 12345 20 := (Sz_small (by decide +kernel) (by decide +kernel)).mono (by decide)
  have h1 := Show_ok _ _ 4 (dn_den _) s1 (by decide)
  have h2 := Show_ok _ _ 10 (dn_den _) s2 (by decide)
  have h3 := Show_ok 12345 1 3 rfl s3 (by decide)
  have hF := RatFrom_ok 12345 (by decide)
  rw [q23] at h1
  rw [q18] at h2
  rw [q12345, show (12345 : Rat).num = 12345 from rfl] at h3
  have x1 : ((strL [48, 46, 54, 54, 54, 55]).toList == ({ data := #[48, 46, 54, 54, 54, 55] } : ByteArray).toList) = true := by rw [show strL [48, 46, 54, 54, 54, 55] = { data := #[48, 46, 54, 54, 54, 55] } from rfl]; exact beq_self_eq_true _
  have x2 : ((strL [49, 46, 50, 51, 69, 52]).toList == ({ data := #[49, 46, 50, 51, 69, 52] } : ByteArray).toList) = true := by rw [show strL [49, 46, 50, 51, 69, 52] = { data := #[49, 46, 50, 51, 69, 52] } from rfl]; exact beq_self_eq_true _
  have x3 : ((strL [194, 175, 48, 46, 49, 50, 53]).toList == ({ data := #[194, 175, 48, 46, 49, 50, 53] } : ByteArray).toList) = true := by rw [show strL [194, 175, 48, 46, 49, 50, 53] = { data := #[194, 175, 48, 46, 49, 50, 53] } from rfl]; exact beq_self_eq_true _
  refine AC.of_body TTok Tryz.func7 rfl (enter_of Tryz.func7 (by kernel_rfl) (by kernel_rfl)) (by intro x hx; cases hx) (.val _) (Nat.le_of_ble_eq_true rfl) ?_
  clear s1 s2 s3 hq hq' r1 r2
  generalize strL [48, 46, 54, 54, 54, 55] = y1 at *
  generalize strL [49, 46, 50, 51, 69, 52] = y2 at *
  generalize strL [194, 175, 48, 46, 49, 50, 53] = y3 at *
  generalize Rat.divInt 2 3 = q at *
  generalize Rat.divInt (-1) 8 = q' at *
  generalize q.num = qn at *
  generalize q.den = qd at *
  generalize q'.num = qn' at *
  generalize q'.den = qd' at *
  unfold RA at *
  conv => whnf
  refine ⟨_, hO, ?_⟩
  conv => whnf
  refine ⟨_, hP, ?_⟩
  conv => whnf
  refine ⟨_, h1, ?_⟩
  conv => whnf
  refine caseb (fun _ => ?_) (fun h => Bool.noConfusion ((x1).symm.trans h))
  conv => whnf
  refine ⟨_, hF, ?_⟩
  conv => whnf
  refine ⟨_, h3, ?_⟩
  conv => whnf
  refine caseb (fun _ => ?_) (fun h => Bool.noConfusion ((x2).symm.trans h))
  conv => whnf
  refine ⟨_, h2, ?_⟩
  conv => whnf
  exact valB x3
end Go.Proofs.YthodfkfgdoolnaaGreatDoor

/- Numbers as texts: what is written is read again (plain laws). -/
set_option linter.unusedVariables false
namespace Go.Proofs.YthodfkfgdoolnaaGreatDoor
open Go Go.AL NM

def hiR : List Int := [175]
theorem isAt_app (a b : List Int) (c : Int) (f : Int → Bool) : isAt (a ++ c :: b) a.length f = f c := by
  unfold isAt
  rw [List.getElem?_append_right (Nat.le_refl _), Nat.sub_self]; rfl
theorem isAt_end (a : List Int) (f : Int → Bool) : isAt a a.length f = false := isAt_ge (Nat.le_refl _)
theorem isD_dig {c : Int} (h : 48 ≤ c ∧ c < 58) : isD c = true := decide_eq_true (by omega)
theorem dT_app (a d b : List Int) (hd : Dig d) (hb : ∀ c, b.head? = some c → isD c = false) : dT (a ++ d ++ b) a.length = d := by
  unfold dT
  rw [List.append_assoc, List.drop_left]
  rw [List.takeWhile_append_of_pos (fun x hx => isD_dig (hd x hx))]
  have : b.takeWhile isD = [] := by
    cases b with
    | nil => rfl
    | cons c b => rw [List.takeWhile_cons, hb c rfl]; rfl
  rw [this, List.append_nil]
/-- What stands behind an E. -/
def exT (x : Option (Bool × List Int)) : List Int := match x with
  | none => []
  | some (lw, d) => 69 :: (sgT hiR lw ++ d)
def exV (x : Option (Bool × List Int)) : Int := match x with
  | none => 0
  | some (lw, d) => sgn lw (valL d)
def ptT (t : List Int) : List Int := if t = [] then [] else 46 :: t
theorem isAt_sg (a b : List Int) (lw : Bool) (hb : ∀ c, b.head? = some c → c ≠ 175) : isAt (a ++ (sgT hiR lw ++ b)) a.length isH = lw := by
  cases lw with
  | true => exact isAt_app a b 175 isH
  | false =>
    show isAt (a ++ b) a.length isH = false
    cases b with
    | nil => rw [List.append_nil]; exact isAt_end a isH
    | cons c b =>
      rw [isAt_app]
      exact beq_false_of_ne (hb c rfl)
theorem sgT_len' (lw : Bool) : (sgT hiR lw).length = lw.toNat := by cases lw <;> rfl
theorem expoL_app (a : List Int) (x : Option (Bool × List Int)) (hx : ∀ lw d, x = some (lw, d) → Dig d ∧ d ≠ [] ∧ d.length ≤ 3) : expoL (a ++ exT x) a.length = some (exV x, (a ++ exT x).length) := by
  cases x with
  | none =>
    unfold expoL exT exV
    rw [List.append_nil, isAt_end]; rfl
  | some y =>
    obtain ⟨lw, d⟩ := y
    obtain ⟨hd, hne, h3⟩ := hx lw d rfl
    unfold expoL exT exV
    dsimp only
    rw [isAt_app]
    have e1 : a ++ 69 :: (sgT hiR lw ++ d) = (a ++ [69]) ++ (sgT hiR lw ++ d) := by simp
    have l1 : a.length + 1 = (a ++ [69]).length := by simp
    have hh : isAt (a ++ 69 :: (sgT hiR lw ++ d)) (a.length + 1) isH = lw := by
      rw [e1, l1]
      refine isAt_sg _ _ _ (fun c hc => ?_)
      have := hd c (List.mem_of_mem_head? hc)
      omega
    rw [hh]
    have e2 : a ++ 69 :: (sgT hiR lw ++ d) = (a ++ [69] ++ sgT hiR lw) ++ d ++ [] := by simp
    have l2 : a.length + 1 + lw.toNat = (a ++ [69] ++ sgT hiR lw).length := by rw [List.length_append, List.length_append, sgT_len']; rfl
    have hD : dT (a ++ 69 :: (sgT hiR lw ++ d)) (a.length + 1 + lw.toNat) = d := by
      rw [e2, l2]
      exact dT_app _ _ _ hd (fun c hc => by cases hc)
    rw [hD, if_pos (by rfl), if_neg (by have := List.length_pos_iff.2 hne; omega)]
    have l3 : a.length + 1 + lw.toNat + d.length = (a ++ 69 :: (sgT hiR lw ++ d)).length := by rw [e2, List.append_nil, List.length_append, ← l2]
    rw [l3]
theorem exT_head (x : Option (Bool × List Int)) : ∀ c, (exT x).head? = some c → c = 69 := by
  intro c hc
  cases x with
  | none => cases hc
  | some y => exact (Option.some.inj hc).symm
theorem ptT_head (t : List Int) (r : List Int) : ∀ c, (ptT t ++ r).head? = some c → c = 46 ∨ r.head? = some c := by
  intro c hc
  unfold ptT at hc
  split at hc
  · exact .inr hc
  · exact .inl (Option.some.inj hc).symm

theorem read_gen (ng : Bool) (h t : List Int) (x : Option (Bool × List Int)) (hh : Dig h) (hne : h ≠ []) (ht : Dig t) (hl : h.length + t.length ≤ 200) (hx : ∀ lw d, x = some (lw, d) → Dig d ∧ d ≠ [] ∧ d.length ≤ 3) :
    readD (sgT hiR ng ++ h ++ ptT t ++ exT x) 0 = some ((sgn ng (valL (h ++ t)) : Rat) * 10 ^ (exV x - (t.length : Int)), (sgT hiR ng ++ h ++ ptT t ++ exT x).length) := by
  obtain ⟨R, hR⟩ : ∃ R, R = sgT hiR ng ++ h ++ ptT t ++ exT x := ⟨_, rfl⟩
  have hlen := List.length_pos_iff.2 hne
  have e0 : R = [] ++ (sgT hiR ng ++ (h ++ ptT t ++ exT x)) := by rw [hR]; simp [List.append_assoc]
  have hsg : isAt R 0 isH = ng := by
    rw [e0]
    refine isAt_sg [] _ ng (fun c hc => ?_)
    cases h with
    | nil => exact absurd rfl hne
    | cons d h =>
      have : c = d := (Option.some.inj hc).symm
      rw [this]
      have := hh d List.mem_cons_self
      omega
  have hbeg : begins R 0 = true := by
    unfold begins
    cases ng with
    | true =>
      have : isAt R 0 (· == 175) = true := hsg
      rw [this, Bool.or_true, Bool.true_or]
    | false =>
      have : isAt R 0 isD = true := by
        rw [e0]
        cases h with
        | nil => exact absurd rfl hne
        | cons d h => exact isD_dig (hh d List.mem_cons_self)
      rw [this, Bool.true_or, Bool.true_or]
  have nodig : ∀ c, (ptT t ++ exT x).head? = some c → isD c = false := fun c hc => by
    rcases ptT_head t _ c hc with rfl | h
    · rfl
    · rw [exT_head x c h]; rfl
  have hD1 : dT R (0 + ng.toNat) = h := by
    rw [hR, show 0 + ng.toNat = (sgT hiR ng).length by rw [sgT_len', Nat.zero_add], List.append_assoc (sgT hiR ng ++ h)]
    exact dT_app _ _ _ hh nodig
  have l2 : 0 + ng.toNat + h.length = (sgT hiR ng ++ h).length := by rw [List.length_append, sgT_len', Nat.zero_add]
  by_cases ht0 : t = []
  · subst ht0
    have e2 : R = (sgT hiR ng ++ h) ++ exT x := by rw [hR]; unfold ptT; rw [if_pos rfl, List.append_nil]
    have hdot : isAt R (0 + ng.toNat + h.length) isP = false := by
      rw [l2, e2]
      cases x with
      | none => unfold exT; rw [List.append_nil]; exact isAt_end _ _
      | some y => unfold exT; rw [isAt_app]; rfl
    rw [← hR, readD_eq (h := h) (t := []) (dot := false) (p2 := 0 + ng.toNat + h.length) (p3 := 0 + ng.toNat + h.length) hbeg hsg.symm hD1.symm rfl hdot.symm rfl rfl]
    unfold readP
    rw [if_neg (fun hc => Bool.noConfusion hc.1)]
    have hE := expoL_app (sgT hiR ng ++ h) x hx
    rw [← e2, ← l2] at hE
    rw [hE]
    dsimp only
    rw [if_neg (by have hl' : h.length + 0 ≤ 200 := hl; show ¬ (h.length + 0 = 0 ∨ 200 < h.length + 0); omega)]
  · have e2 : R = (sgT hiR ng ++ h) ++ 46 :: (t ++ exT x) := by rw [hR]; unfold ptT; rw [if_neg ht0]; simp [List.append_assoc]
    have hdot : isAt R (0 + ng.toNat + h.length) isP = true := by
      rw [l2, e2, isAt_app]; rfl
    have e3 : R = (sgT hiR ng ++ h ++ [46]) ++ t ++ exT x := by rw [e2]; simp [List.append_assoc]
    have l3 : 0 + ng.toNat + h.length + 1 = (sgT hiR ng ++ h ++ [46]).length := by rw [List.length_append, ← l2]; rfl
    have hD2 : dT R (0 + ng.toNat + h.length + 1) = t := by
      rw [l3, e3]
      exact dT_app _ _ _ ht (fun c hc => by rw [exT_head x c hc]; rfl)
    rw [← hR, readD_eq (h := h) (t := t) (dot := true) (p2 := 0 + ng.toNat + h.length) (p3 := 0 + ng.toNat + h.length + 1 + t.length) hbeg hsg.symm hD1.symm rfl hdot.symm (by rw [if_pos rfl, hD2]) (by rw [if_pos rfl])]
    unfold readP
    rw [if_neg (fun hc => ht0 hc.2)]
    have l4 : 0 + ng.toNat + h.length + 1 + t.length = (sgT hiR ng ++ h ++ [46] ++ t).length := by rw [List.length_append (bs := t), ← l3]
    have hE := expoL_app (sgT hiR ng ++ h ++ [46] ++ t) x hx
    rw [← e3, ← l4] at hE
    rw [hE]
    dsimp only
    rw [if_neg (by omega)]
end Go.Proofs.YthodfkfgdoolnaaGreatDoor

/- Numbers as texts: what is written is read as the rounded number, and that is written so again (plain laws). -/
set_option linter.unusedVariables false
set_option linter.unusedSimpArgs false
namespace Go.Proofs.YthodfkfgdoolnaaGreatDoor
open Go Go.AL NM

theorem val_zeros (s : List Int) (k : Nat) : valL (s ++ List.replicate k 48) = valL s * 10 ^ k := by
  rw [valL_append, valL_rep, List.length_replicate, Nat.add_zero]
theorem val_lead (k : Nat) (s : List Int) : valL ([48] ++ List.replicate k 48 ++ s) = valL s := by
  have h : valL ([48] ++ List.replicate k 48) = 0 := valL_rep (k + 1)
  rw [valL_append, h, Nat.zero_mul, Nat.zero_add]
theorem dig_rep (k : Nat) : Dig (List.replicate k 48) := fun x hx => by
  have := (List.mem_replicate.1 hx).2
  omega
theorem cast_ten (v k : Nat) : ((v * 10 ^ k : Nat) : Rat) = (v : Rat) * 10 ^ (k : Int) := by rw [Rat.natCast_mul, t_nat]
/-- The number of digits of which the first stands at a power of ten. -/
def valQ (s : List Int) (e : Int) : Rat := ((valL s : Nat) : Rat) * 10 ^ (e - (s.length : Int) + 1)

theorem sgT_if (e : Int) : (if e < 0 then hiR else []) = sgT hiR (decide (e < 0)) := by
  unfold sgT
  by_cases h : e < 0
  · rw [if_pos h, decide_eq_true h]; rfl
  · rw [if_neg h, decide_eq_false h]; rfl
theorem tail_parts (s : List Int) (e m : Int) (hs : Dig s) (hne : s ≠ []) (hl : s.length ≤ 50) (hm : 1 ≤ m ∧ m ≤ 40) (he : -300 ≤ e ∧ e ≤ 300) : ∃ h t x, tailT hiR s e m = h ++ ptT t ++ exT x ∧ Dig h ∧ h ≠ [] ∧ Dig t ∧ h.length + t.length ≤ 200 ∧
    (∀ lw d, x = some (lw, d) → Dig d ∧ d ≠ [] ∧ d.length ≤ 3) ∧ ((valL (h ++ t) : Nat) : Rat) * 10 ^ (exV x - (t.length : Int)) = valQ s e := by
  have hl0 := List.length_pos_iff.2 hne
  unfold tailT
  by_cases h1 : m ≤ e ∨ e < -6
  · rw [if_pos h1]
    refine ⟨s.take 1, s.drop 1, some (decide (e < 0), decL e.natAbs), ?_, Dig.take hs 1, ?_, Dig.drop hs 1, by rw [List.length_take, List.length_drop]; omega, ?_, ?_⟩
    · rw [sgT_if]
      have : mantL s = s.take 1 ++ ptT (s.drop 1) := by
        unfold mantL ptT
        by_cases h2 : s.length = 1
        · rw [if_pos h2, if_pos (List.drop_eq_nil_iff.2 (by omega)), List.append_nil, List.take_of_length_le (by omega)]
        · rw [if_neg h2, if_neg (fun hc => by have := List.drop_eq_nil_iff.1 hc; omega)]
          simp [List.append_assoc]
      rw [this]
      unfold exT
      simp [List.append_assoc]
    · intro hc
      have := congrArg List.length hc
      rw [List.length_take] at this
      have e0 : ([] : List Int).length = 0 := rfl
      omega
    · intro lw d hx
      have hx := Option.some.inj hx
      rw [← (Prod.mk.inj hx).2]
      exact ⟨decL_byt _, decL_ne _, decL_len_le (by decide) (by omega)⟩
    · rw [List.take_append_drop]
      unfold exV valQ
      dsimp only
      rw [valL_decL, List.length_drop, sgn_self]
      congr 2
      omega
  · rw [if_neg h1]
    by_cases h2 : e < 0
    · rw [if_pos h2]
      refine ⟨[48], List.replicate (-e - 1).toNat 48 ++ s, none, ?_, ?_, by simp, dig_app (dig_rep _) hs, ?_, (fun lw d hx => by cases hx), ?_⟩
      · unfold ptT exT
        rw [if_neg (fun hc => hne (List.append_eq_nil_iff.1 hc).2)]
        simp [List.append_assoc]
      · intro x hx
        have : x = 48 := by simpa using hx
        omega
      · rw [List.length_append, List.length_replicate]
        show 1 + _ ≤ _
        omega
      · rw [← List.append_assoc, val_lead]
        unfold exV valQ
        dsimp only
        rw [List.length_append, List.length_replicate]
        congr 2
        omega
    · rw [if_neg h2]
      by_cases h3 : (s.length : Int) ≤ e + 1
      · rw [if_pos h3]
        refine ⟨s ++ List.replicate (e + 1 - s.length).toNat 48, [], none, ?_, dig_app hs (dig_rep _), ?_, (fun x hx => nomatch hx), ?_, (fun lw d hx => by cases hx), ?_⟩
        · unfold ptT exT
          rw [if_pos rfl, List.append_nil, List.append_nil]
        · exact fun hc => hne (List.append_eq_nil_iff.1 hc).1
        · rw [List.length_append, List.length_replicate]
          show _ + 0 ≤ _
          omega
        · rw [List.append_nil, val_zeros, cast_ten]
          unfold exV valQ
          dsimp only
          rw [Rat.mul_assoc, ← t_add]
          congr 2
          show ((e + 1 - s.length).toNat : Int) + (0 - ((0 : Nat) : Int)) = _
          omega
      · rw [if_neg h3]
        refine ⟨s.take (e + 1).toNat, s.drop (e + 1).toNat, none, ?_, Dig.take hs _, ?_, Dig.drop hs _, by rw [List.length_take, List.length_drop]; omega, (fun lw d hx => by cases hx), ?_⟩
        · unfold ptT exT
          rw [if_neg (fun hc => by have := List.drop_eq_nil_iff.1 hc; omega)]
          simp [List.append_assoc]
        · intro hc
          have := congrArg List.length hc
          rw [List.length_take] at this
          have e0 : ([] : List Int).length = 0 := rfl
          omega
        · rw [List.take_append_drop]
          unfold exV valQ
          dsimp only
          rw [List.length_drop]
          congr 2
          omega

/-- The rounded number. -/
def backQ (q : Rat) (m : Int) : Rat := if q = 0 then 0 else ((sgn (decide (q.num < 0)) (fig (absQ q) m) : Int) : Rat) * 10 ^ (ordP (absQ q) - m + 1)
theorem sgn_mulQ {ng : Bool} {v w : Nat} {x y : Rat} (h : (v : Rat) * x = (w : Rat) * y) : ((sgn ng v : Int) : Rat) * x = ((sgn ng w : Int) : Rat) * y := by
  cases ng with
  | false => exact h
  | true =>
    show ((-(v : Int) : Int) : Rat) * x = ((-(w : Int) : Int) : Rat) * y
    rw [Rat.intCast_neg, Rat.intCast_neg, Rat.neg_mul, Rat.neg_mul]
    exact congrArg _ h
theorem fig_valQ {a : Rat} {m : Int} (h0 : 0 < a) (hm : 1 ≤ m) : valQ (trimZ (decL (fig a m))) (figE a m) = ((fig a m : Nat) : Rat) * 10 ^ (ordP a - m + 1) := by
  obtain ⟨r, hr⟩ := trimZ_spec (decL (fig a m))
  have hv := congrArg valL hr
  rw [valL_decL, val_zeros] at hv
  have hlen := congrArg List.length hr
  rw [List.length_append, List.length_replicate] at hlen
  unfold valQ figE
  rw [hlen]
  conv => rhs; rw [hv]
  rw [cast_ten, Rat.mul_assoc, ← t_add]
  congr 2
  omega
theorem dig48 : Dig [48] := fun x hx => by
  have h : x = 48 := by simpa using hx
  omega
theorem show_parts (q : Rat) (m : Int) (hq : Sz q 10) (hm : 1 ≤ m) (h40 : m ≤ 40) : ∃ ng h t x, showL hiR q m = sgT hiR ng ++ h ++ ptT t ++ exT x ∧ Dig h ∧ h ≠ [] ∧ Dig t ∧ h.length + t.length ≤ 200 ∧
    (∀ lw d, x = some (lw, d) → Dig d ∧ d ≠ [] ∧ d.length ≤ 3) ∧ ((sgn ng (valL (h ++ t)) : Int) : Rat) * 10 ^ (exV x - (t.length : Int)) = backQ q m := by
  unfold showL backQ
  by_cases h0 : q = 0
  · rw [if_pos h0, if_pos h0]
    refine ⟨false, [48], [], none, rfl, dig48, by simp, (fun x hx => nomatch hx), by decide, (fun lw d hx => by cases hx), ?_⟩
    have : ((sgn false (valL ([48] ++ [])) : Int) : Rat) = 0 := by
      rw [List.append_nil]; rfl
    rw [this, Rat.zero_mul]
  · rw [if_neg h0, if_neg h0]
    rw [show max 1 m = m by omega]
    have hp := absQ_pos h0
    have hsz := absQ_sz hq
    have hbd := ord_bd hsz
    have hfl := fig_len hp hm h40
    have hln := trimZ_len (decL (fig (absQ q) m))
    have hne := trimZ_ne (decL_ne _) (decL_head (fig_pos hp hm))
    have hE : figE (absQ q) m = ordP (absQ q) + ((decL (fig (absQ q) m)).length : Int) - m := rfl
    obtain ⟨h, t, x, e1, e2, e3, e4, e5, e6, e7⟩ := tail_parts (trimZ (decL (fig (absQ q) m))) (figE (absQ q) m) m (fun x hx => decL_byt _ x (trimZ_mem hx)) hne (by omega) ⟨hm, h40⟩ (by rw [hE]; omega)
    rw [e1]
    refine ⟨decide (q.num < 0), h, t, x, by simp only [List.append_assoc], e2, e3, e4, e5, e6, ?_⟩
    refine sgn_mulQ ?_
    rw [e7, fig_valQ hp hm]
theorem show_read (q : Rat) (m : Int) (hq : Sz q 10) (hm : 1 ≤ m) (h40 : m ≤ 40) : readD (showL hiR q m) 0 = some (backQ q m, (showL hiR q m).length) := by
  obtain ⟨ng, h, t, x, e1, e2, e3, e4, e5, e6, e7⟩ := show_parts q m hq hm h40
  rw [e1, read_gen ng h t x e2 e3 e4 e5 e6, e7]
theorem gd_dig {l : List Int} (h : Dig l) : ∀ c ∈ l, gd c := fun c hc => .inl (by have := h c hc; omega)
theorem gd_sg (ng : Bool) : ∀ c ∈ sgT hiR ng, gd c := by
  cases ng with
  | false => exact fun c hc => nomatch hc
  | true => exact fun c hc => .inr (by have : c ∈ [175] := hc; simpa using this)
theorem gd_app {a b : List Int} (h : ∀ c ∈ a, gd c) (h' : ∀ c ∈ b, gd c) : ∀ c ∈ a ++ b, gd c := fun c hc => (List.mem_append.1 hc).elim (h c) (h' c)
theorem gd_cons {x : Int} {b : List Int} (h : gd x) (h' : ∀ c ∈ b, gd c) : ∀ c ∈ x :: b, gd c := fun c hc => by
  rcases List.mem_cons.1 hc with rfl | hc
  · exact h
  · exact h' c hc
theorem showL_gd (q : Rat) (m : Int) (hq : Sz q 10) (hm : 1 ≤ m) (h40 : m ≤ 40) : (∀ c ∈ showL hiR q m, gd c) ∧ (showL hiR q m).length ≤ 300 := by
  obtain ⟨ng, h, t, x, e1, e2, e3, e4, e5, e6, e7⟩ := show_parts q m hq hm h40
  rw [e1]
  refine ⟨gd_app (gd_app (gd_app (gd_sg ng) (gd_dig e2)) ?_) ?_, ?_⟩
  · unfold ptT; split
    · exact fun c hc => nomatch hc
    · exact gd_cons (.inl (by decide)) (gd_dig e4)
  · cases x with
    | none => exact fun c hc => nomatch hc
    | some y =>
      obtain ⟨lw, d⟩ := y
      exact gd_cons (.inl (by decide)) (gd_app (gd_sg lw) (gd_dig (e6 lw d rfl).1))
  · have l1 : (sgT hiR ng).length ≤ 1 := by cases ng <;> decide
    have l2 : (ptT t).length ≤ t.length + 1 := by unfold ptT; split; exact Nat.zero_le _; exact Nat.le_refl _
    have l3 : (exT x).length ≤ 5 := by
      cases x with
      | none => exact Nat.zero_le _
      | some y =>
        obtain ⟨lw, d⟩ := y
        have := (e6 lw d rfl).2.2
        have l4 : (sgT hiR lw).length ≤ 1 := by cases lw <;> decide
        show (sgT hiR lw ++ d).length + 1 ≤ 5
        rw [List.length_append]; omega
    rw [List.length_append, List.length_append, List.length_append]
    omega
theorem u8_app (a b : List Int) : u8 (a ++ b) = u8 a ++ u8 b := by unfold u8; exact List.flatMap_append
theorem u8_dig {l : List Int} (h : Dig l) : u8 l = l := u8_low l (fun c hc => by have := h c hc; omega)
theorem u8_sg (ng : Bool) : u8 (sgT hiR ng) = sgT hiB ng := by cases ng <;> rfl
theorem u8_tail (s : List Int) (e m : Int) (hs : Dig s) : u8 (tailT hiR s e m) = tailT hiB s e m := by
  unfold tailT
  split
  · have h1 : u8 (mantL s) = mantL s := by
      unfold mantL
      split
      · exact u8_dig hs
      · rw [u8_app, u8_app, u8_dig (Dig.take hs 1), u8_dig (Dig.drop hs 1)]; rfl
    have h2 : u8 (if e < 0 then hiR else []) = if e < 0 then hiB else [] := by split <;> rfl
    rw [u8_app, u8_app, u8_app, h1, h2, u8_dig (decL_byt _)]; rfl
  · split
    · rw [u8_app, u8_app, u8_dig (dig_rep _), u8_dig hs]; rfl
    · split
      · rw [u8_app, u8_dig hs, u8_dig (dig_rep _)]
      · rw [u8_app, u8_app, u8_dig (Dig.take hs _), u8_dig (Dig.drop hs _)]; rfl
theorem u8_show (q : Rat) (m : Int) : u8 (showL hiR q m) = showL hiB q m := by
  unfold showL
  split
  · rfl
  · rw [u8_app, u8_sg, u8_tail _ _ _ (fun x hx => decL_byt _ x (trimZ_mem hx))]
theorem sg_abs {y : Rat} (hy : 0 < y) (ng : Bool) : (if ng then -y else y) ≠ 0 ∧ absQ (if ng then -y else y) = y ∧ decide ((if ng then -y else y).num < 0) = ng := by
  have h1 := num_pos hy
  cases ng with
  | false =>
    show y ≠ 0 ∧ absQ y = y ∧ decide (y.num < 0) = false
    refine ⟨fun h => by rw [h] at h1; exact absurd h1 (by decide), ?_, decide_eq_false (by omega)⟩
    unfold absQ; rw [if_neg (by omega)]
  | true =>
    show -y ≠ 0 ∧ absQ (-y) = y ∧ decide ((-y).num < 0) = true
    refine ⟨fun h => ?_, ?_, decide_eq_true (by rw [Rat.neg_num]; omega)⟩
    · have : (-y).num = 0 := by rw [h]; rfl
      rw [Rat.neg_num] at this
      omega
    · unfold absQ; rw [if_pos (by rw [Rat.neg_num]; omega), Rat.neg_neg]
theorem sgn_if (ng : Bool) (v : Nat) (x : Rat) : ((sgn ng v : Int) : Rat) * x = if ng then -((v : Rat) * x) else (v : Rat) * x := by
  cases ng with
  | false => rfl
  | true =>
    show ((-(v : Int) : Int) : Rat) * x = -((v : Rat) * x)
    rw [Rat.intCast_neg, Rat.neg_mul]; rfl
theorem rnd_nat (n : Nat) : rnd (n : Rat) = n := by
  rw [rnd_whole (Rat.den_natCast n), Rat.num_natCast, Int.natAbs_natCast]
theorem trim_ten (k : Nat) : trimZ (decL (10 ^ k)) = [49] := by
  rw [decL_ten]
  induction k with
  | zero => exact trimZ_other [] (by decide)
  | succ k ih =>
    rw [List.replicate_succ', ← List.cons_append, trimZ_zero]
    exact ih
theorem show_back (hi : List Int) (q : Rat) (m : Int) (hm : 1 ≤ m) : showL hi (backQ q m) m = showL hi q m := by
  by_cases h0 : q = 0
  · unfold backQ; rw [if_pos h0, h0]
  have hp := absQ_pos h0
  have hb := fig_bd hp hm
  have hF := fig_pos hp hm
  have hy : (0 : Rat) < ((fig (absQ q) m : Nat) : Rat) * 10 ^ (ordP (absQ q) - m + 1) := Rat.mul_pos (by exact_mod_cast hF) (t_pos _)
  have hx : backQ q m = if decide (q.num < 0) then -(((fig (absQ q) m : Nat) : Rat) * 10 ^ (ordP (absQ q) - m + 1)) else ((fig (absQ q) m : Nat) : Rat) * 10 ^ (ordP (absQ q) - m + 1) := by
    unfold backQ; rw [if_neg h0, sgn_if]
  obtain ⟨s1, s2, s3⟩ := sg_abs hy (decide (q.num < 0))
  rw [← hx] at s1 s2 s3
  unfold showL
  rw [if_neg s1, if_neg h0, s2, s3, show max 1 m = m by omega]
  congr 1
  obtain ⟨k, hk⟩ : ∃ k : Nat, m = k + 1 := ⟨(m - 1).toNat, by omega⟩
  have hk1 : (m - 1).toNat = k := by omega
  rw [hk1] at hb
  generalize hFv : fig (absQ q) m = F at *
  generalize hov : ordP (absQ q) = o at *
  have c1 : ((10 ^ k : Nat) : Rat) ≤ (F : Rat) := Rat.natCast_le_natCast.2 hb.1
  rw [← t_nat] at c1
  by_cases hlt : F < 10 ^ (k + 1)
  · have c2 : (F : Rat) < ((10 ^ (k + 1) : Nat) : Rat) := Rat.natCast_lt_natCast.2 hlt
    rw [← t_nat] at c2
    have hO : Ord ((F : Rat) * 10 ^ (o - m + 1)) o := by
      have := Ord_sc (a := (F : Rat)) (e := (k : Int)) (n := o - m + 1) ⟨c1, by rw [show (k : Int) + 1 = ((k + 1 : Nat) : Int) by omega]; exact c2⟩
      rwa [show (k : Int) + (o - m + 1) = o by omega] at this
    have ho : ordP ((F : Rat) * 10 ^ (o - m + 1)) = o := Ord_uniq (Ord_P hy) hO
    have hf : fig ((F : Rat) * 10 ^ (o - m + 1)) m = F := by
      unfold fig
      rw [ho, Rat.mul_assoc, ← t_add, show o - m + 1 + (m - 1 - o) = 0 by omega, t_zero, Rat.mul_one, rnd_nat]
    unfold figE
    rw [ho, hf, hFv, hov]
  · have he : F = 10 ^ (k + 1) := by omega
    have hO : Ord ((F : Rat) * 10 ^ (o - m + 1)) (o + 1) := by
      rw [he, ← t_nat, ← t_add, show ((k + 1 : Nat) : Int) + (o - m + 1) = o + 1 by omega]
      refine ⟨Rat.le_refl, ?_⟩
      rw [t_add (o + 1) 1, Rat.zpow_one]
      have := t_pos (o + 1)
      grind
    have ho : ordP ((F : Rat) * 10 ^ (o - m + 1)) = o + 1 := Ord_uniq (Ord_P hy) hO
    have hf : fig ((F : Rat) * 10 ^ (o - m + 1)) m = 10 ^ k := by
      unfold fig
      rw [ho, Rat.mul_assoc, ← t_add, he, ← t_nat, ← t_add, show ((k + 1 : Nat) : Int) + (o - m + 1 + (m - 1 - (o + 1))) = (k : Int) by omega, t_nat, rnd_nat]
    unfold figE
    rw [ho, hf, hFv, hov, he, trim_ten, trim_ten, decL_ten, decL_ten]
    congr 1
    simp only [List.length_cons, List.length_replicate]
    omega
/-- Has a number so many digits at most? -/
def shortQ (q : Rat) (m : Int) : Prop := q = 0 ∨ (absQ q * 10 ^ (m - 1 - ordP (absQ q))).den = 1
theorem short_back {q : Rat} {m : Int} (h : shortQ q m) : backQ q m = q := by
  unfold backQ
  by_cases h0 : q = 0
  · rw [if_pos h0, h0]
  rw [if_neg h0]
  have hd := h.resolve_left h0
  have hp := absQ_pos h0
  have hb := a_pos_sc hp (m - 1 - ordP (absQ q))
  have hn := num_den _ hb
  have hF : fig (absQ q) m = (absQ q * 10 ^ (m - 1 - ordP (absQ q))).num.natAbs := rnd_whole hd
  rw [hd] at hn
  have hn' : absQ q * 10 ^ (m - 1 - ordP (absQ q)) = ((fig (absQ q) m : Nat) : Rat) := by
    rw [hF, ← hn]
    show _ = _ * ((1 : Nat) : Rat)
    exact (Rat.mul_one _).symm
  rw [sgn_if, ← hn', Rat.mul_assoc, ← t_add, show m - 1 - ordP (absQ q) + (ordP (absQ q) - m + 1) = 0 by omega, t_zero, Rat.mul_one]
  unfold absQ
  by_cases hneg : q.num < 0
  · rw [if_pos hneg, decide_eq_true hneg, if_pos rfl, Rat.neg_neg]
  · rw [if_neg hneg, decide_eq_false hneg, if_neg (by decide)]
end Go.Proofs.YthodfkfgdoolnaaGreatDoor

/- Numbers as texts: signs written and read; numbers of few digits (contract). -/
set_option linter.unusedVariables false
namespace Go.Proofs.YthodfkfgdoolnaaGreatDoor
open Go Go.AL NM

theorem get_at {s : ByteArray} {j : Nat} {b : UInt8} (h : s.data.toList[j]? = some b) : s.get! j = b := by
  obtain ⟨bs⟩ := s
  show bs[j]! = b
  have h' : bs[j]? = some b := by rw [← Array.getElem?_toList]; exact h
  obtain ⟨hlt, e⟩ := Array.getElem?_eq_some_iff.1 h'
  rw [getElem!_pos bs j hlt, e]
theorem size_list (s : ByteArray) : s.data.toList.length = s.size := by rw [Array.length_toList]; rfl
theorem runesStr_cons (c : Int) (l : List Int) : runesStr (c :: l) = Utf8.encode c ++ runesStr l := by
  show l.foldl _ (ByteArray.empty ++ Utf8.encode c) = _
  rw [runesStr_acc, ByteArray.empty_append]
theorem runesL_end (s : ByteArray) (f i : Nat) (h : s.size ≤ i) : runesL s f i = [] := by
  cases f with
  | zero => rfl
  | succ f => exact if_neg (by omega)
theorem encode_pos (c : Int) : 0 < (Utf8.encode c).size := by
  unfold Utf8.encode
  dsimp only
  repeat' split
  all_goals exact Nat.le_of_ble_eq_true rfl
theorem encode_high : (Utf8.encode 175).data.toList = [194, 175] := by decide +kernel
theorem drop_at {s : ByteArray} {i k : Nat} {A R : List UInt8} {b : UInt8} (h : s.data.toList.drop i = A ++ R) (hb : A[k]? = some b) : s.get! (i + k) = b ∧ i + k < s.size := by
  have hk := (List.getElem?_eq_some_iff.1 hb).1
  have e : s.data.toList[i + k]? = some b := by
    rw [← List.getElem?_drop, h, List.getElem?_append_left hk, hb]
  refine ⟨get_at e, ?_⟩
  have := (List.getElem?_eq_some_iff.1 e).1
  rw [size_list] at this
  exact this
theorem decode_enc (s : ByteArray) (i : Nat) (c : Int) (R : List UInt8) (hg : gd c) (h : s.data.toList.drop i = (Utf8.encode c).data.toList ++ R) : i < s.size ∧ ((Utf8.decode s i).1 : Int) = c ∧ (Utf8.decode s i).2 = (Utf8.encode c).data.toList.length := by
  rcases hg with ⟨h0, h1⟩ | rfl
  · rw [encode_low h0 h1] at h ⊢
    obtain ⟨g, gl⟩ := drop_at (k := 0) h rfl
    have e : (s.get! (i + 0)).toNat = c.toNat := by rw [g, UInt8.toNat_ofNat']; omega
    have hd : Utf8.decode s i = (c.toNat, 1) := by
      unfold Utf8.decode
      dsimp only
      split
      · rw [e]
      · rename_i h5
        exact absurd (show (s.get! (i + 0)).toNat < 128 by omega) h5
    rw [hd]
    exact ⟨gl, by show ((c.toNat : Nat) : Int) = c; omega, rfl⟩
  · rw [encode_high] at h ⊢
    obtain ⟨g0, gl0⟩ := drop_at (k := 0) h rfl
    obtain ⟨g1, gl1⟩ := drop_at (k := 1) h rfl
    have hd : Utf8.decode s i = (175, 2) := by
      unfold Utf8.decode
      dsimp only
      simp only [g0, g1, gl1]
      kernel_rfl
    rw [hd]
    exact ⟨gl0, rfl, rfl⟩
theorem runesL_of (s : ByteArray) : ∀ (ns : List Int) (f i : Nat), (∀ c ∈ ns, gd c) → s.data.toList.drop i = (runesStr ns).data.toList → ns.length ≤ f → runesL s f i = ns
  | [], f, i, _, h, _ => by
    have hl := congrArg List.length h
    rw [List.length_drop, size_list] at hl
    have : (runesStr []).data.toList.length = 0 := rfl
    exact runesL_end s f i (by omega)
  | c :: ns, f, i, hg, h, hf => by
    rw [runesStr_cons, ByteArray.data_append, Array.toList_append] at h
    obtain ⟨h1, h2, h3⟩ := decode_enc s i c _ (hg c List.mem_cons_self) h
    obtain ⟨f, rfl⟩ : ∃ g, f = g + 1 := ⟨f - 1, by have : (c :: ns).length = ns.length + 1 := rfl; omega⟩
    have hn : s.data.toList.drop (i + (Utf8.decode s i).2) = (runesStr ns).data.toList := by
      rw [← List.drop_drop, h, h3, List.drop_left]
    rw [show runesL s (f + 1) i = ((Utf8.decode s i).1 : Int) :: runesL s f (i + (Utf8.decode s i).2) from if_pos h1, h2,
      runesL_of s ns f _ (fun x hx => hg x (List.mem_cons_of_mem _ hx)) hn (by have : (c :: ns).length = ns.length + 1 := rfl; omega)]
theorem runesStr_ge (ns : List Int) : ns.length ≤ (runesStr ns).size := by
  induction ns with
  | nil => exact Nat.zero_le _
  | cons c ns ih =>
    have := encode_pos c
    rw [runesStr_cons, ByteArray.size_append]
    show ns.length + 1 ≤ _
    omega
theorem runes_of {ns : List Int} (hg : ∀ c ∈ ns, gd c) : runes (runesStr ns) = ns := runesL_of _ ns _ 0 hg rfl (runesStr_ge ns)

theorem Short_ok (q : Rat) (m : Int) (hq : Sz q 10) (hm : 1 ≤ m) (h40 : m ≤ 40) : ∃ b, (b = true → shortQ q m) ∧ AC Tryz.prog 15 [RN q.num q.den, .val (.int .i64 m)] (.pure (.val (.bool b))) := by
  have is := is0W q.num.natAbs
  by_cases h0 : q = 0
  · refine ⟨true, fun _ => .inl h0, ?_⟩
    have tz : ((decS q.num.natAbs).toList == ({ data := #[48] } : ByteArray).toList) = true := by rw [is, h0]; rfl
    refine AC.of_body TTok Tryz.func15 rfl (enter_of Tryz.func15 (by kernel_rfl) (by kernel_rfl)) (noid2 (RN_noid _ _) (.val _)) (.val _) (Nat.le_of_ble_eq_true rfl) ?_
    unfold RN
    conv => whnf
    refine caseb (fun _ => ?_) (fun h => Bool.noConfusion ((tz).symm.trans h))
    repeat
      conv => whnf
      first
        | refine ⟨_, by assumption, ?_⟩
        | refine ⟨(Nat.le_of_ble_eq_true rfl), _, by assumption, ?_⟩
        | refine ⟨by kernel_rfl, ?_⟩
        | exact rfl
        | exact ⟨Nat.le_of_ble_eq_true rfl, rfl⟩
        | refine ⟨by decide, ?_⟩
  · have hn := num_ne h0
    have tz : ((decS q.num.natAbs).toList == ({ data := #[48] } : ByteArray).toList) = false := by rw [is, decide_eq_false (by omega)]
    have hp := absQ_pos h0
    have hsz := absQ_sz hq
    have hbd := ord_bd hsz
    have hO := ROrder_ok (absQ q) (hsz.mono (by decide)) hp
    have eN : IntKind.i64.wrap (IntKind.i64.wrap (m - 1) - ordP (absQ q)) = m - 1 - ordP (absQ q) := by rw [IntWalk.i64_in (m - 1) (by omega), IntWalk.i64_in _ (by omega)]
    have hS := Times10_ok (absQ q) (m - 1 - ordP (absQ q)) 10 hsz (by omega) (by decide)
    obtain ⟨n1, n2⟩ := absQ_num q
    have i1 := is1 (absQ q * 10 ^ (m - 1 - ordP (absQ q))).den
    have hR := Right_num q.num.natAbs (by have := decL_sz hq.1; omega)
    have hsh : (absQ q * 10 ^ (m - 1 - ordP (absQ q))).den = 1 → shortQ q m := fun h => .inr h
    revert hS i1 hsh
    generalize absQ q * 10 ^ (m - 1 - ordP (absQ q)) = b
    intro hS i1 hsh
    unfold RN at hO hS
    rw [n1, n2, Int.natAbs_natCast, decide_eq_false (show ¬ ((q.num.natAbs : Nat) : Int) < 0 by omega)] at hS hO
    rw [← eN] at hS
    by_cases hd : b.den = 1
    · rw [decide_eq_true hd] at i1
      refine ⟨true, fun _ => hsh hd, ?_⟩
      refine AC.of_body TTok Tryz.func15 rfl (enter_of Tryz.func15 (by kernel_rfl) (by kernel_rfl)) (noid2 (RN_noid _ _) (.val _)) (.val _) (Nat.le_of_ble_eq_true rfl) ?_
      unfold RN
      generalize b.den = bd at *
      conv => whnf
      refine caseb (fun h => Bool.noConfusion ((tz).symm.trans h)) (fun _ => ?_)
      conv => whnf
      refine ⟨_, hO, ?_⟩
      conv => whnf
      refine ⟨_, hS, ?_⟩
      conv => whnf
      refine caseb (fun _ => ?_) (fun h => Bool.noConfusion ((i1).symm.trans h))
      conv => whnf
      refine ⟨_, hR, ?_⟩
      repeat
        conv => whnf
        first
          | refine ⟨_, by assumption, ?_⟩
          | refine ⟨(Nat.le_of_ble_eq_true rfl), _, by assumption, ?_⟩
          | refine ⟨by kernel_rfl, ?_⟩
          | exact rfl
          | exact ⟨Nat.le_of_ble_eq_true rfl, rfl⟩
          | refine ⟨by decide, ?_⟩
    · rw [decide_eq_false hd] at i1
      refine ⟨false, fun h => Bool.noConfusion h, ?_⟩
      refine AC.of_body TTok Tryz.func15 rfl (enter_of Tryz.func15 (by kernel_rfl) (by kernel_rfl)) (noid2 (RN_noid _ _) (.val _)) (.val _) (Nat.le_of_ble_eq_true rfl) ?_
      unfold RN
      generalize b.den = bd at *
      conv => whnf
      refine caseb (fun h => Bool.noConfusion ((tz).symm.trans h)) (fun _ => ?_)
      conv => whnf
      refine ⟨_, hO, ?_⟩
      conv => whnf
      refine ⟨_, hS, ?_⟩
      conv => whnf
      refine caseb (fun h => Bool.noConfusion ((i1).symm.trans h)) (fun _ => ?_)
      repeat
        conv => whnf
        first
          | refine ⟨_, by assumption, ?_⟩
          | refine ⟨(Nat.le_of_ble_eq_true rfl), _, by assumption, ?_⟩
          | refine ⟨by kernel_rfl, ?_⟩
          | exact rfl
          | exact ⟨Nat.le_of_ble_eq_true rfl, rfl⟩
          | refine ⟨by decide, ?_⟩
theorem backQ_sz (q : Rat) (m : Int) (hq : Sz q 5) (hm : 1 ≤ m) (h40 : m ≤ 40) : Sz (backQ q m) 20 := by
  unfold backQ
  by_cases h0 : q = 0
  · rw [if_pos h0]; exact Sz_zero.mono (by decide)
  · rw [if_neg h0]
    have hp := absQ_pos h0
    have hbd := ord_bd (absQ_sz hq)
    have hb := (fig_bd hp hm).2
    refine (sc_Sz (k := 5) (Sz_int (by decide) ?_) _).mono (by omega)
    rw [sgn_abs]
    refine limbs_len_le (Nat.lt_of_le_of_lt (Nat.le_trans hb (Nat.pow_le_pow_right (by decide) (show (m - 1).toNat + 1 ≤ 9 * 5 by omega))) ?_)
    rw [Nat.pow_mul]
    exact Nat.pow_lt_pow_left (by decide) (by decide)
end Go.Proofs.YthodfkfgdoolnaaGreatDoor

/- The statement DeciBack: the walk through the law. -/
set_option linter.unusedVariables false
namespace Go.Proofs.YthodfkfgdoolnaaGreatDoor.deciBack
open Go Go.AL NM

theorem bad (b : Bool) (s t : List Int) (x : Int) (d : Nat) (o : Bool) (m : Int) (h : o = false ∨ m < 1 ∨ 40 < m) (h1 : AC Tryz.prog 6 [RT b s t] (.pure (.tup [RA x d, .val (.bool o)]))) : AC Tryz.prog 5 [RT b s t, .val (.int .i64 m)] (.pure (.val (.bool true))) := by
  refine AC.of_body TTok Tryz.func5 rfl (enter_of Tryz.func5 (by kernel_rfl) (by kernel_rfl)) (noid2 (RT_noid _ _ _) (.val _)) (.val _) (Nat.le_of_ble_eq_true rfl) ?_
  have hA := awake4_ok
  unfold RT RA at *
  cases o with
  | false =>
    repeat
      conv => whnf
      first
        | refine ⟨_, by assumption, ?_⟩
        | refine ⟨(Nat.le_of_ble_eq_true rfl), _, by assumption, ?_⟩
        | refine ⟨by kernel_rfl, ?_⟩
        | exact rfl
        | exact ⟨Nat.le_of_ble_eq_true rfl, rfl⟩
        | refine ⟨by decide, ?_⟩
  | true =>
    have h3 : m < 1 ∨ 40 < m := h.resolve_left (by decide)
    by_cases h2 : m < 1
    · conv => whnf
      refine ⟨_, h1, ?_⟩
      conv => whnf
      first
        | refine caseb (fun _ => ?_) (fun h => absurd (of_decide_eq_false h) (by omega))
        | refine caseb (fun h => absurd (of_decide_eq_true h) (by omega)) (fun _ => ?_)
        | refine caseb (fun _ => ?_) (fun h => absurd (beq_eq_false_iff_ne.1 h) (by omega))
        | refine caseb (fun h => absurd (eq_of_beq h) (by omega)) (fun _ => ?_)
      repeat
        conv => whnf
        first
          | refine ⟨_, by assumption, ?_⟩
          | refine ⟨(Nat.le_of_ble_eq_true rfl), _, by assumption, ?_⟩
          | refine ⟨by kernel_rfl, ?_⟩
          | exact rfl
          | exact ⟨Nat.le_of_ble_eq_true rfl, rfl⟩
          | refine ⟨by decide, ?_⟩
    · conv => whnf
      refine ⟨_, h1, ?_⟩
      conv => whnf
      first
        | refine caseb (fun _ => ?_) (fun h => absurd (of_decide_eq_false h) (by omega))
        | refine caseb (fun h => absurd (of_decide_eq_true h) (by omega)) (fun _ => ?_)
        | refine caseb (fun _ => ?_) (fun h => absurd (beq_eq_false_iff_ne.1 h) (by omega))
        | refine caseb (fun h => absurd (eq_of_beq h) (by omega)) (fun _ => ?_)
      conv => whnf
      first
        | refine caseb (fun _ => ?_) (fun h => absurd (of_decide_eq_false h) (by omega))
        | refine caseb (fun h => absurd (of_decide_eq_true h) (by omega)) (fun _ => ?_)
        | refine caseb (fun _ => ?_) (fun h => absurd (beq_eq_false_iff_ne.1 h) (by omega))
        | refine caseb (fun h => absurd (eq_of_beq h) (by omega)) (fun _ => ?_)
      repeat
        conv => whnf
        first
          | refine ⟨_, by assumption, ?_⟩
          | refine ⟨(Nat.le_of_ble_eq_true rfl), _, by assumption, ?_⟩
          | refine ⟨by kernel_rfl, ?_⟩
          | exact rfl
          | exact ⟨Nat.le_of_ble_eq_true rfl, rfl⟩
          | refine ⟨by decide, ?_⟩
theorem main (q : Rat) (m : Int) (hm : 1 ≤ m) (h40 : m ≤ 40) (sz : Sz q 5) (h1 : AC Tryz.prog 6 [RN q.num q.den] (.pure (.tup [RA q.num q.den, .val (.bool true)]))) : AC Tryz.prog 5 [RN q.num q.den, .val (.int .i64 m)] (.pure (.val (.bool true))) := by
  refine AC.of_sw TTok Tryz.func5 rfl (enter_of Tryz.func5 (by kernel_rfl) (by kernel_rfl)) (noid2 (RN_noid _ _) (.val _)) (.val _) (Nat.le_of_ble_eq_true rfl) ?_
  have hA := awake4_ok
  have hS := Show_ok q q.den m (dn_den _) (sz.mono (by decide)) h40
  obtain ⟨hgd, hlen⟩ := showL_gd q m (sz.mono (by decide)) hm h40
  have hR := Read_ok (showL hiR q m) 0 (by omega)
  rw [show_read q m (sz.mono (by decide)) hm h40] at hR
  unfold readV at hR
  dsimp only at hR
  have hsx := backQ_sz q m sz hm h40
  have hS2 := Show_ok (backQ q m) (backQ q m).den m (dn_den _) hsx h40
  rw [show_back hiB q m hm] at hS2
  obtain ⟨b, hb, hSh⟩ := Short_ok q m (sz.mono (by decide)) hm h40
  have hN := NumS (backQ q m) (backQ q m).den (dn_den _) (hsx.mono (by decide))
  have hstr : strL (showL hiB q m) = runesStr (showL hiR q m) := by rw [runesStr_u8 _ hgd, u8_show]
  have hru : runes (strL (showL hiB q m)) = showL hiR q m := by rw [hstr, runes_of hgd]
  have hcase : b = true → backQ q m = q := fun h => short_back (hb h)
  have hs := str_self (strL (showL hiB q m))
  have hii := irows_len .i32 (showL hiR q m)
  generalize hY : strL (showL hiB q m) = y at *
  generalize showL hiR q m = l at *
  have hll : (((l.length : Nat) : Int) != ((irows .i32 l).length : Int)) = false := by rw [hii]; simp
  have key : (((irows .i32 l).drop 0).take l.length) = irows .i32 l := by rw [List.drop_zero, List.take_of_length_le (by omega)]
  unfold RN RA at h1
  unfold RA at hS
  unfold RN
  refine SW.seqA TTok ?_
  conv => whnf
  refine SW.seqA TTok ?_
  conv => whnf
  refine ⟨_, h1, ?_⟩
  conv => whnf
  refine SW.seqA TTok ?_
  conv => whnf
  first
    | refine caseb (fun _ => ?_) (fun h => absurd (of_decide_eq_false h) (by omega))
    | refine caseb (fun h => absurd (of_decide_eq_true h) (by omega)) (fun _ => ?_)
    | refine caseb (fun _ => ?_) (fun h => absurd (beq_eq_false_iff_ne.1 h) (by omega))
    | refine caseb (fun h => absurd (eq_of_beq h) (by omega)) (fun _ => ?_)
  conv => whnf
  first
    | refine caseb (fun _ => ?_) (fun h => absurd (of_decide_eq_false h) (by omega))
    | refine caseb (fun h => absurd (of_decide_eq_true h) (by omega)) (fun _ => ?_)
    | refine caseb (fun _ => ?_) (fun h => absurd (beq_eq_false_iff_ne.1 h) (by omega))
    | refine caseb (fun h => absurd (eq_of_beq h) (by omega)) (fun _ => ?_)
  conv => whnf
  refine SW.cut (fun s3 => s3 = mkS [(1, .val (.int .i64 m)), (2, .lp 0 0), (7, .sl 1 (irows .i32 l) false)] [(0, .cells 3 [[.val (.bool (decide (q.num < 0))), .val (.string (decS q.num.natAbs)), .val (.string (decS q.den))]])] 216 65) (axp_sound TTok _ _ _ ?_) ?_
  · conv => whnf
    refine ⟨_, hS, ?_⟩
    conv => whnf
    rw [hru]
    refine ⟨_, ?_, ?_, rfl⟩
    · refine (Wk.frz (rows := irows .i32 l) 7 184 0 l.length 1 rfl rfl (by decide) (by omega) (by rw [key]; exact slI_noid' _)).trans ?_
      refine Wk.of (σf []) _ _ 216 65 rfl ⟨⟨rfl, rfl⟩, ⟨rfl, rfl⟩, ⟨slE key, rfl⟩, trivial⟩ ⟨⟨rfl, .inr ⟨rfl, rfl⟩⟩, trivial⟩ rfl
    · rfl
  intro s3 _ hs3
  subst hs3
  refine axp_sound TTok _ _ _ ?_
  cases b with
  | true =>
    rw [hcase rfl] at hR hS2 hN hsx
    unfold RN RA at *
    conv => whnf
    refine ⟨_, hR, ?_⟩
    conv => whnf
    refine caseb (fun h => Bool.noConfusion ((hll).symm.trans h)) (fun _ => ?_)
    conv => whnf
    refine ⟨_, hSh, ?_⟩
    conv => whnf
    refine ⟨_, hN, ?_⟩
    conv => whnf
    refine ⟨by kernel_rfl, ?_⟩
    conv => whnf
    refine caseb (fun h => Bool.noConfusion ((RN_selfn _ _ _).symm.trans h)) (fun _ => ?_)
    conv => whnf
    refine ⟨_, hS2, ?_⟩
    conv => whnf
    refine ⟨l, rfl, ?_⟩
    conv => whnf
    rw [← hstr]
    repeat
      conv => whnf
      first
        | refine ⟨_, by assumption, ?_⟩
        | refine ⟨(Nat.le_of_ble_eq_true rfl), _, by assumption, ?_⟩
        | refine ⟨by kernel_rfl, ?_⟩
        | exact rfl
        | exact ⟨Nat.le_of_ble_eq_true rfl, rfl⟩
        | refine ⟨by decide, ?_⟩
    conv => whnf
    refine caseb (fun _ => ?_) (fun h => Bool.noConfusion ((hs).symm.trans h))
    repeat
      conv => whnf
      first
        | refine ⟨_, by assumption, ?_⟩
        | refine ⟨(Nat.le_of_ble_eq_true rfl), _, by assumption, ?_⟩
        | refine ⟨by kernel_rfl, ?_⟩
        | exact rfl
        | exact ⟨Nat.le_of_ble_eq_true rfl, rfl⟩
        | refine ⟨by decide, ?_⟩
  | false =>
    unfold RN RA at *
    conv => whnf
    refine ⟨_, hR, ?_⟩
    conv => whnf
    refine caseb (fun h => Bool.noConfusion ((hll).symm.trans h)) (fun _ => ?_)
    conv => whnf
    refine ⟨_, hSh, ?_⟩
    conv => whnf
    refine ⟨by kernel_rfl, ?_⟩
    conv => whnf
    refine ⟨_, hS2, ?_⟩
    conv => whnf
    refine ⟨l, rfl, ?_⟩
    conv => whnf
    rw [← hstr]
    repeat
      conv => whnf
      first
        | refine ⟨_, by assumption, ?_⟩
        | refine ⟨(Nat.le_of_ble_eq_true rfl), _, by assumption, ?_⟩
        | refine ⟨by kernel_rfl, ?_⟩
        | exact rfl
        | exact ⟨Nat.le_of_ble_eq_true rfl, rfl⟩
        | refine ⟨by decide, ?_⟩
    conv => whnf
    refine caseb (fun _ => ?_) (fun h => Bool.noConfusion ((hs).symm.trans h))
    repeat
      conv => whnf
      first
        | refine ⟨_, by assumption, ?_⟩
        | refine ⟨(Nat.le_of_ble_eq_true rfl), _, by assumption, ?_⟩
        | refine ⟨by kernel_rfl, ?_⟩
        | exact rfl
        | exact ⟨Nat.le_of_ble_eq_true rfl, rfl⟩
        | refine ⟨by decide, ?_⟩
theorem holds (b0 : Bool) (s0 t0 : ByteArray) (a1 : Int) (w1 : -9223372036854775808 ≤ a1 ∧ a1 < 9223372036854775808) : AC Tryz.prog 5 [.agg [.val (.bool b0), .val (.string s0), .val (.string t0)], .val (.int .i64 a1)] (.pure (.val (.bool true))) := by
  rw [RT_of]
  obtain ⟨q, o, r⟩ := read4 b0 _ _ (bytesL_byt s0) (bytesL_byt t0)
  by_cases ho : o = false ∨ a1 < 1 ∨ 40 < a1
  · obtain ⟨x, d, h⟩ := r.bad
    exact bad _ _ _ x d o a1 ho h
  · cases o
    · exact absurd (.inl rfl) ho
    · obtain ⟨lp, e, h⟩ := r.sz
      rw [e]
      exact main q a1 (by omega) (by omega) lp h
end Go.Proofs.YthodfkfgdoolnaaGreatDoor.deciBack
