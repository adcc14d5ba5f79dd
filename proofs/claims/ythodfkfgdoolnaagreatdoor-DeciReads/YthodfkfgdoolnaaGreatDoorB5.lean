/- Numbers as texts: a number is written (the document's contract). -/
import Derived.Test.YthodfkfgdoolnaaGreatDoorB4
set_option linter.unusedVariables false
namespace Go.Proofs.YthodfkfgdoolnaaGreatDoor
open Go Go.AL NM

theorem half_RN : RN (1 / 2 : Rat).num (1 / 2 : Rat).den = .agg [.val (.bool false), .val (.string { data := #[49] }), .val (.string { data := #[50] })] := by
  have e1 : (1 / 2 : Rat).num = 1 := by decide +kernel
  have e2 : (1 / 2 : Rat).den = 2 := by decide +kernel
  rw [e1, e2]
  have h2 : decS 2 = { data := #[50] } := by
    unfold decS
    rw [show decL 2 = [50] by decide +kernel]; rfl
  have h1 : decS 1 = { data := #[49] } := by
    unfold decS
    rw [show decL 1 = [49] by decide +kernel]; rfl
  unfold RN
  rw [show (1 : Int).natAbs = 1 from rfl, h1, h2]; rfl
theorem absQ_num (a : Rat) : (absQ a).num = (a.num.natAbs : Int) ∧ (absQ a).den = a.den := by
  unfold absQ
  split
  · rw [Rat.neg_num, Rat.neg_den]; omega
  · omega
theorem trimZ_take {l : List Int} {k : Nat} (hk : k < l.length) (h : l[k] ≠ 48) : trimZ (l.take (k + 1)) = l.take (k + 1) := by
  rw [take_snoc hk, trimZ_other _ h]

theorem decL_first {n : Nat} (h0 : 0 < n) {c : Int} (h : (decL n)[0]? = some c) : c ≠ 48 := by
  have h1 := decL_head h0
  rw [List.head_eq_getElem] at h1
  rw [List.getElem?_eq_getElem (List.length_pos_iff.2 (decL_ne n))] at h
  rw [← Option.some.inj h]
  exact h1
theorem RShow_ok (a : Rat) (many : Int) (ha : Sz a 10) (h40 : many ≤ 40) : AC Tryz.prog 9 [RN a.num a.den, .val (.int .i64 many)] (.pure (.val (.string (strL (showL hiB a many))))) := by
  refine AC.of_sw TTok Tryz.func9 rfl (enter_of Tryz.func9 (by kernel_rfl) (by kernel_rfl)) (noid2 (RN_noid _ _) (.val _)) (.val _) (Nat.le_of_ble_eq_true rfl) ?_
  have is := is0W a.num.natAbs
  unfold showL
  unfold RN
  by_cases h0 : a = 0
  · rw [if_pos h0]
    have tz : ((decS a.num.natAbs).toList == ({ data := #[48] } : ByteArray).toList) = true := by rw [is, h0]; rfl
    refine axp_sound TTok _ _ _ ?_
    conv => whnf
    refine caseb (fun _ => ?_) (fun h => Bool.noConfusion ((tz).symm.trans h))
    conv => whnf
    exact strE rfl
  rw [if_neg h0]
  have hn := num_ne h0
  have tz : ((decS a.num.natAbs).toList == ({ data := #[48] } : ByteArray).toList) = false := by rw [is, decide_eq_false (by omega)]
  have hp := absQ_pos h0
  have hsz := absQ_sz ha
  obtain ⟨m, hm⟩ : ∃ m, m = max 1 many := ⟨_, rfl⟩
  have hm1 : 1 ≤ m := by omega
  have hm40 : m ≤ 40 := by omega
  rw [← hm]
  refine SW.seqA TTok ?_
  conv => whnf
  refine SW.seqA TTok ?_
  conv => whnf
  refine caseb (fun h => Bool.noConfusion ((tz).symm.trans h)) (fun _ => ?_)
  conv => whnf
  refine SW.cutM TTok (fun _ : Unit => [(1, .val (.int .i64 m)), (2, .lp 0 0)]) (fun _ => [(0, .cells 3 [[.val (.bool (decide (a.num < 0))), .val (.string (decS a.num.natAbs)), .val (.string (decS a.den))]])]) 72 114 rfl (fun _ => True) ?_ (fun _ _ => ?_)
  · by_cases h1 : many < 1
    · conv => whnf
      first
        | refine caseb (fun _ => ?_) (fun h => absurd (of_decide_eq_false h) (by omega))
        | refine caseb (fun h => absurd (of_decide_eq_true h) (by omega)) (fun _ => ?_)
        | refine caseb (fun _ => ?_) (fun h => absurd (beq_eq_false_iff_ne.1 h) (by omega))
        | refine caseb (fun h => absurd (eq_of_beq h) (by omega)) (fun _ => ?_)
      conv => whnf
      exact ⟨(), [], trivial, ⟨⟨valI (by omega), rfl⟩, ⟨rfl, rfl⟩, trivial⟩, ⟨⟨rfl, .inr ⟨rfl, rfl⟩⟩, trivial⟩, rfl⟩
    · conv => whnf
      first
        | refine caseb (fun _ => ?_) (fun h => absurd (of_decide_eq_false h) (by omega))
        | refine caseb (fun h => absurd (of_decide_eq_true h) (by omega)) (fun _ => ?_)
        | refine caseb (fun _ => ?_) (fun h => absurd (beq_eq_false_iff_ne.1 h) (by omega))
        | refine caseb (fun h => absurd (eq_of_beq h) (by omega)) (fun _ => ?_)
      conv => whnf
      exact ⟨(), [], trivial, ⟨⟨valI (by omega), rfl⟩, ⟨rfl, rfl⟩, trivial⟩, ⟨⟨rfl, .inr ⟨rfl, rfl⟩⟩, trivial⟩, rfl⟩
  refine SW.seqA TTok ?_
  conv => whnf
  refine SW.cutM TTok (fun _ : Unit => [(1, .val (.int .i64 m)), (2, .lp 0 0), (5, .val (.string (strL (sgT hiB (decide (a.num < 0))))))]) (fun _ => [(0, .cells 3 [[.val (.bool (decide (a.num < 0))), .val (.string (decS a.num.natAbs)), .val (.string (decS a.den))]])]) 104 114 rfl (fun _ => True) ?_ (fun _ _ => ?_)
  · by_cases h1 : a.num < 0
    · have tl : decide (a.num < 0) = true := decide_eq_true h1
      rw [tl]
      conv => whnf
      exact ⟨(), [], trivial, ⟨⟨rfl, rfl⟩, ⟨rfl, rfl⟩, ⟨rfl, rfl⟩, trivial⟩, ⟨⟨rfl, .inr ⟨rfl, rfl⟩⟩, trivial⟩, rfl⟩
    · have tl : decide (a.num < 0) = false := decide_eq_false h1
      rw [tl]
      conv => whnf
      exact ⟨(), [], trivial, ⟨⟨rfl, rfl⟩, ⟨rfl, rfl⟩, ⟨rfl, rfl⟩, trivial⟩, ⟨⟨rfl, .inr ⟨rfl, rfl⟩⟩, trivial⟩, rfl⟩
  have z5 := strL_size (sgT hiB (decide (a.num < 0)))
  have l5 := sgT_len (decide (a.num < 0))
  generalize sgT hiB (decide (a.num < 0)) = sg at *
  have hO := ROrder_ok (absQ a) (hsz.mono (by decide)) hp
  have hbd := ord_bd hsz
  have eN : IntKind.i64.wrap (IntKind.i64.wrap (m - 1) - ordP (absQ a)) = m - 1 - ordP (absQ a) := by rw [IntWalk.i64_in (m - 1) (by omega), IntWalk.i64_in _ (by omega)]
  have hS := Times10_ok (absQ a) (m - 1 - ordP (absQ a)) 10 hsz (by omega) (by decide)
  have sS : Sz (absQ a * 10 ^ (m - 1 - ordP (absQ a))) 40 := (sc_Sz hsz _).mono (by omega)
  have hA := SAdd_ok _ (1 / 2) 40 1 sS (Sz_small (by decide +kernel) (by decide +kernel)) (by decide)
  rw [half_RN] at hA
  have sA : Sz (absQ a * 10 ^ (m - 1 - ordP (absQ a)) + 1 / 2) 100 := (Sz_add sS (Sz_small (q := 1 / 2) (by decide +kernel) (by decide +kernel))).mono (by decide)
  have hF := SFloor_ok _ (sA.mono (by decide))
  rw [rnd_floor (a_pos_sc hp _)] at hF
  have hfig : fig (absQ a) m = rnd (absQ a * 10 ^ (m - 1 - ordP (absQ a))) := rfl
  rw [← hfig] at hF
  clear hfig
  have hfl := fig_len hp hm1 hm40
  have hfp := fig_pos hp hm1
  have hE : figE (absQ a) m = ordP (absQ a) + ((decL (fig (absQ a) m)).length : Int) - m := rfl
  have hdne := decL_ne (fig (absQ a) m)
  have hhd : ∀ c, (decL (fig (absQ a) m))[0]? = some c → c ≠ 48 := fun c h => decL_first hfp h
  have hne := trimZ_ne hdne (decL_head hfp)
  have hln := trimZ_len (decL (fig (absQ a) m))
  have hByt := Dig.byt (decL_byt (fig (absQ a) m))
  have zF := decS_len (fig (absQ a) m)
  have eE : IntKind.i64.wrap (IntKind.i64.wrap (ordP (absQ a) + ((decS (fig (absQ a) m)).size : Int)) - m) = figE (absQ a) m := by
    rw [zF, hE, IntWalk.i64_in (ordP (absQ a) + _) (by omega), IntWalk.i64_in _ (by omega)]
  obtain ⟨n1, n2⟩ := absQ_num a
  revert hS hA hF
  generalize absQ a * 10 ^ (m - 1 - ordP (absQ a)) + 1 / 2 = c
  generalize absQ a * 10 ^ (m - 1 - ordP (absQ a)) = b
  intro hS hA hF
  unfold RN WR at *
  rw [n1, n2, Int.natAbs_natCast, decide_eq_false (show ¬ ((a.num.natAbs : Nat) : Int) < 0 by omega)] at hS hO
  rw [Int.natAbs_natCast, decide_eq_false (show ¬ ((fig (absQ a) m : Nat) : Int) < 0 by omega)] at hF
  rw [← eN] at hS
  have hW := RFrom_ok (figE (absQ a) m) (by rw [hE]; omega)
  have hdl : (decL (figE (absQ a) m).natAbs).length ≤ 4 := decL_len_le (by decide) (by rw [hE]; omega)
  have hDg := RDigits_ok (figE (absQ a) m) (strL hiB) (by decide) (by omega)
  rw [digs_is'] at hDg
  unfold WR at hW hDg
  have hEb : -300 ≤ figE (absQ a) m ∧ figE (absQ a) m ≤ 300 := by rw [hE]; omega
  clear hE
  have hdec : decS (fig (absQ a) m) = strL (decL (fig (absQ a) m)) := rfl
  generalize figE (absQ a) m = e at *
  refine SW.seqA TTok ?_
  conv => whnf
  refine SW.seqA TTok ?_
  conv => whnf
  refine ⟨_, hO, ?_⟩
  conv => whnf
  refine SW.seqA TTok ?_
  conv => whnf
  refine SW.seqA TTok ?_
  conv => whnf
  refine ⟨_, hS, ?_⟩
  conv => whnf
  refine ⟨_, hA, ?_⟩
  conv => whnf
  refine ⟨_, hF, ?_⟩
  conv => whnf
  refine ⟨by kernel_rfl, ?_⟩
  conv => whnf
  refine SW.seqA TTok ?_
  conv => whnf
  rw [eE, hdec]
  generalize decL (fig (absQ a) m) = l at *
  have hl0 := List.length_pos_iff.2 hdne
  refine SW.cutS TTok (fun _ : Unit => [(1, .val (.int .i64 m)), (5, .val (.string (strL sg))), (6, .val (.int .i64 e)), (8, .val (.string (strL (trimZ l))))]) (fun _ => []) 448 114 rfl (fun _ => True) (SW.block ?hx) (fun _ _ => ?hy)
  case hx =>
    refine SW.loopM TTok (fun k : Nat => [(1, .val (.int .i64 m)), (5, .val (.string (strL sg))), (6, .val (.int .i64 e)), (8, .val (.string (strL (l.take k))))]) (fun _ => []) 312 114 rfl (fun k => k) (fun k => 1 ≤ k ∧ k ≤ l.length ∧ trimZ (l.take k) = trimZ l) l.length [] ⟨hl0, Nat.le_refl _, by rw [List.take_length]⟩
      ⟨⟨rfl, rfl⟩, ⟨rfl, rfl⟩, ⟨rfl, rfl⟩, ⟨strE (by rw [List.take_length]), rfl⟩, trivial⟩ trivial rfl ?_
    intro k hJ
    have hk1 : 1 ≤ k := hJ.1
    have hk : k ≤ l.length := hJ.2.1
    have ht : trimZ (l.take k) = trimZ l := hJ.2.2
    clear hJ
    have hz := strL_size (l.take k)
    rw [List.length_take, Nat.min_eq_left hk] at hz
    obtain ⟨k, rfl⟩ : ∃ k', k = k' + 1 := ⟨k - 1, by omega⟩
    have hk' : k < l.length := hk
    have eS : IntKind.i64.wrap (((strL (l.take (k + 1))).size : Int) - 1) = (k : Int) := by rw [hz, IntWalk.i64_in _ (by omega)]; omega
    have hby : byteAt (strL (l.take (k + 1))) (k : Int) = l[k] := by
      refine byteAt_strL (l := l.take (k + 1)) (fun x hx => hByt x (List.mem_of_mem_take hx)) (Int.natCast_nonneg k) ?_
      rw [Int.toNat_natCast, List.getElem?_take_of_lt (Nat.lt_succ_self k), List.getElem?_eq_getElem hk']
    by_cases hgo : 0 < k ∧ l[k] = 48
    · obtain ⟨hk0, h48⟩ := hgo
      have t1 : decide (((strL (l.take (k + 1))).size : Int) > 1) = true := decide_eq_true (by omega)
      have te : (byteAt (strL (l.take (k + 1))) (k : Int) == 48) = true := by rw [hby, h48]; rfl
      conv => whnf
      refine caseb (fun _ => ?_) (fun h => Bool.noConfusion ((t1).symm.trans h))
      conv => whnf
      rw [eS]
      refine ⟨by omega, ?_⟩
      conv => whnf
      refine caseb (fun _ => ?_) (fun h => Bool.noConfusion ((te).symm.trans h))
      conv => whnf
      rw [eS]
      refine ⟨by omega, ?_⟩
      conv => whnf
      refine ⟨k, [], Nat.lt_succ_self k, ⟨hk0, Nat.le_of_succ_le hk, ?_⟩, ⟨⟨rfl, rfl⟩, ⟨rfl, rfl⟩, ⟨rfl, rfl⟩, ⟨strE ?_, rfl⟩, trivial⟩, trivial, rfl⟩
      · rw [← ht, take_snoc hk', h48, trimZ_zero]
      · show (strL (l.take (k + 1))).extract 0 k = _
        rw [strL_extract, List.drop_zero, List.take_take, Nat.min_eq_left (Nat.le_succ k)]
    · have h48 : l[k] ≠ 48 := by
        intro h48
        have hk0 : k = 0 := by
          rcases Nat.eq_zero_or_pos k with h | h
          · exact h
          · exact absurd ⟨h, h48⟩ hgo
        subst hk0
        exact hhd 48 (by rw [List.getElem?_eq_getElem hk', h48]) rfl
      have hs : l.take (k + 1) = trimZ l := by rw [← ht, trimZ_take hk' h48]
      have hlen2 : (trimZ l).length = k + 1 := by rw [← hs, List.length_take, Nat.min_eq_left hk]
      have te : (byteAt (strL (l.take (k + 1))) (k : Int) == 48) = false := by rw [hby]; exact beq_false_of_ne h48
      by_cases hk0 : k = 0
      · have t1 : decide (((strL (l.take (k + 1))).size : Int) > 1) = false := decide_eq_false (by omega)
        conv => whnf
        refine caseb (fun h => Bool.noConfusion ((t1).symm.trans h)) (fun _ => ?_)
        conv => whnf
        exact ⟨(), [], trivial, ⟨⟨rfl, rfl⟩, ⟨rfl, rfl⟩, ⟨rfl, rfl⟩, ⟨strE (by rw [hs]), rfl⟩, trivial⟩, trivial, rfl⟩
      · have t1 : decide (((strL (l.take (k + 1))).size : Int) > 1) = true := decide_eq_true (by omega)
        conv => whnf
        refine caseb (fun _ => ?_) (fun h => Bool.noConfusion ((t1).symm.trans h))
        conv => whnf
        rw [eS]
        refine ⟨by omega, ?_⟩
        conv => whnf
        refine caseb (fun h => Bool.noConfusion ((te).symm.trans h)) (fun _ => ?_)
        conv => whnf
        exact ⟨(), [], trivial, ⟨⟨rfl, rfl⟩, ⟨rfl, rfl⟩, ⟨rfl, rfl⟩, ⟨strE (by rw [hs]), rfl⟩, trivial⟩, trivial, rfl⟩
  have z6 := strL_size (trimZ l)
  have lm := mantL_len (trimZ l)
  have hsl := List.length_pos_iff.2 hne
  generalize trimZ l = s at *
  refine axp_sound TTok _ _ _ ?_
  have x69 : ({ data := #[69] } : ByteArray) = strL [69] := rfl
  have x46 : ({ data := #[46] } : ByteArray) = strL [46] := rfl
  have x048 : ({ data := #[48, 46] } : ByteArray) = strL [48, 46] := rfl
  have xhi : ({ data := #[194, 175] } : ByteArray) = strL hiB := rfl
  unfold tailT
  by_cases h1 : m ≤ e ∨ e < -6
  · rw [if_pos h1]
    have zm := strL_size (mantL s)
    have zd := strL_size ((if e < 0 then hiB else []) ++ decL e.natAbs)
    have zdl : ((if e < 0 then hiB else []) ++ decL e.natAbs).length ≤ 10 := by
      rw [List.length_append]; split
      · show 2 + _ ≤ _; omega
      · show 0 + _ ≤ _; omega
    generalize ((if e < 0 then hiB else []) ++ decL e.natAbs) = d at *
    have fin : strL sg ++ strL (mantL s) ++ { data := #[69] } ++ strL d = strL (sg ++ (mantL s ++ [69] ++ d)) := by
      rw [x69, strL_append, strL_append, strL_append]; simp only [List.append_assoc]
    rw [← xhi] at hDg
    have step : (strL sg ++ strL (mantL s)).size ≤ 100 := by rw [ByteArray.size_append]; omega
    have step2 : (strL sg ++ strL (mantL s) ++ { data := #[69] }).size ≤ 101 := by rw [ByteArray.size_append]; show _ + 1 ≤ _; omega
    have tm1 : ∀ {b : Bool}, decide (m ≤ e) = b → decide (e ≥ m) = b := fun h => h
    by_cases hs1 : s.length = 1
    · have em : mantL s = s := if_pos hs1
      rw [em] at fin step step2 zm
      have t1 : decide (((strL s).size : Int) > 1) = false := decide_eq_false (by omega)
      by_cases h2 : m ≤ e
      · conv => whnf
        first
          | refine caseb (fun _ => ?_) (fun h => absurd (of_decide_eq_false h) (by omega))
          | refine caseb (fun h => absurd (of_decide_eq_true h) (by omega)) (fun _ => ?_)
          | refine caseb (fun _ => ?_) (fun h => absurd (beq_eq_false_iff_ne.1 h) (by omega))
          | refine caseb (fun h => absurd (eq_of_beq h) (by omega)) (fun _ => ?_)
        conv => whnf
        refine caseb (fun h => Bool.noConfusion ((t1).symm.trans h)) (fun _ => ?_)
        conv => whnf
        refine ⟨by omega, ?_⟩
        conv => whnf
        refine ⟨by show _ + 1 ≤ _; omega, ?_⟩
        conv => whnf
        refine ⟨_, hW, ?_⟩
        conv => whnf
        refine ⟨_, hDg, ?_⟩
        conv => whnf
        refine ⟨by omega, ?_⟩
        conv => whnf
        exact strE (by rw [em]; exact fin)
      · conv => whnf
        first
          | refine caseb (fun _ => ?_) (fun h => absurd (of_decide_eq_false h) (by omega))
          | refine caseb (fun h => absurd (of_decide_eq_true h) (by omega)) (fun _ => ?_)
          | refine caseb (fun _ => ?_) (fun h => absurd (beq_eq_false_iff_ne.1 h) (by omega))
          | refine caseb (fun h => absurd (eq_of_beq h) (by omega)) (fun _ => ?_)
        conv => whnf
        first
          | refine caseb (fun _ => ?_) (fun h => absurd (of_decide_eq_false h) (by omega))
          | refine caseb (fun h => absurd (of_decide_eq_true h) (by omega)) (fun _ => ?_)
          | refine caseb (fun _ => ?_) (fun h => absurd (beq_eq_false_iff_ne.1 h) (by omega))
          | refine caseb (fun h => absurd (eq_of_beq h) (by omega)) (fun _ => ?_)
        conv => whnf
        refine caseb (fun h => Bool.noConfusion ((t1).symm.trans h)) (fun _ => ?_)
        conv => whnf
        refine ⟨by omega, ?_⟩
        conv => whnf
        refine ⟨by show _ + 1 ≤ _; omega, ?_⟩
        conv => whnf
        refine ⟨_, hW, ?_⟩
        conv => whnf
        refine ⟨_, hDg, ?_⟩
        conv => whnf
        refine ⟨by omega, ?_⟩
        conv => whnf
        exact strE (by rw [em]; exact fin)
    · have em : mantL s = s.take 1 ++ [46] ++ s.drop 1 := if_neg hs1
      have t1 : decide (((strL s).size : Int) > 1) = true := decide_eq_true (by have := List.length_pos_iff.2 hne; omega)
      have y1 : (strL s).extract 0 (1 : Int).toNat = strL (s.take 1) := by rw [strL_extract, List.drop_zero]; rfl
      have y2 : (strL s).extract (1 : Int).toNat (strL s).size = strL (s.drop 1) := by rw [strL_extract, z6, List.take_length]; rfl
      have y3 : strL (s.take 1) ++ { data := #[46] } ++ strL (s.drop 1) = strL (mantL s) := by rw [em, x46, strL_append, strL_append]
      have u1 : (strL (s.take 1)).size ≤ 1 := by rw [strL_size, List.length_take]; omega
      have u2 : (strL (s.drop 1)).size ≤ 60 := by rw [strL_size, List.length_drop]; omega
      have u3 : (strL (s.take 1) ++ { data := #[46] }).size ≤ 2 := by rw [ByteArray.size_append]; show _ + 1 ≤ _; omega
      by_cases h2 : m ≤ e
      · conv => whnf
        first
          | refine caseb (fun _ => ?_) (fun h => absurd (of_decide_eq_false h) (by omega))
          | refine caseb (fun h => absurd (of_decide_eq_true h) (by omega)) (fun _ => ?_)
          | refine caseb (fun _ => ?_) (fun h => absurd (beq_eq_false_iff_ne.1 h) (by omega))
          | refine caseb (fun h => absurd (eq_of_beq h) (by omega)) (fun _ => ?_)
        conv => whnf
        refine caseb (fun _ => ?_) (fun h => Bool.noConfusion ((t1).symm.trans h))
        conv => whnf
        refine ⟨by omega, ?_⟩
        conv => whnf
        rw [y1]
        refine ⟨by show _ + 1 ≤ _; omega, ?_⟩
        conv => whnf
        refine ⟨by omega, ?_⟩
        conv => whnf
        rw [y2]
        refine ⟨by omega, ?_⟩
        conv => whnf
        rw [y3]
        refine ⟨by kernel_rfl, ?_⟩
        conv => whnf
        refine ⟨by omega, ?_⟩
        conv => whnf
        refine ⟨by show _ + 1 ≤ _; omega, ?_⟩
        conv => whnf
        refine ⟨_, hW, ?_⟩
        conv => whnf
        refine ⟨_, hDg, ?_⟩
        conv => whnf
        refine ⟨by omega, ?_⟩
        conv => whnf
        exact strE fin
      · conv => whnf
        first
          | refine caseb (fun _ => ?_) (fun h => absurd (of_decide_eq_false h) (by omega))
          | refine caseb (fun h => absurd (of_decide_eq_true h) (by omega)) (fun _ => ?_)
          | refine caseb (fun _ => ?_) (fun h => absurd (beq_eq_false_iff_ne.1 h) (by omega))
          | refine caseb (fun h => absurd (eq_of_beq h) (by omega)) (fun _ => ?_)
        conv => whnf
        first
          | refine caseb (fun _ => ?_) (fun h => absurd (of_decide_eq_false h) (by omega))
          | refine caseb (fun h => absurd (of_decide_eq_true h) (by omega)) (fun _ => ?_)
          | refine caseb (fun _ => ?_) (fun h => absurd (beq_eq_false_iff_ne.1 h) (by omega))
          | refine caseb (fun h => absurd (eq_of_beq h) (by omega)) (fun _ => ?_)
        conv => whnf
        refine caseb (fun _ => ?_) (fun h => Bool.noConfusion ((t1).symm.trans h))
        conv => whnf
        refine ⟨by omega, ?_⟩
        conv => whnf
        rw [y1]
        refine ⟨by show _ + 1 ≤ _; omega, ?_⟩
        conv => whnf
        refine ⟨by omega, ?_⟩
        conv => whnf
        rw [y2]
        refine ⟨by omega, ?_⟩
        conv => whnf
        rw [y3]
        refine ⟨by kernel_rfl, ?_⟩
        conv => whnf
        refine ⟨by omega, ?_⟩
        conv => whnf
        refine ⟨by show _ + 1 ≤ _; omega, ?_⟩
        conv => whnf
        refine ⟨_, hW, ?_⟩
        conv => whnf
        refine ⟨_, hDg, ?_⟩
        conv => whnf
        refine ⟨by omega, ?_⟩
        conv => whnf
        exact strE fin
  · rw [if_neg h1]
    by_cases h2 : e < 0
    · rw [if_pos h2]
      have eR : IntKind.i64.wrap (IntKind.i64.wrap (0 - e) - 1) = -e - 1 := by rw [IntWalk.i64_in (0 - e) (by omega), IntWalk.i64_in _ (by omega)]; omega
      have hRp := zeros_ok (-e - 1) (by omega)
      have zr := strL_size (List.replicate (-e - 1).toNat 48)
      rw [List.length_replicate] at zr
      have fin : strL sg ++ { data := #[48, 46] } ++ strL (List.replicate (-e - 1).toNat 48) ++ strL s = strL (sg ++ ([48, 46] ++ List.replicate (-e - 1).toNat 48 ++ s)) := by
        rw [x048, strL_append, strL_append, strL_append]; simp only [List.append_assoc]
      have step : (strL sg ++ { data := #[48, 46] }).size ≤ 100 := by rw [ByteArray.size_append]; show _ + 2 ≤ _; omega
      have step2 : (strL sg ++ { data := #[48, 46] } ++ strL (List.replicate (-e - 1).toNat 48)).size ≤ 110 := by rw [ByteArray.size_append]; omega
      rw [← eR] at hRp
      rw [← eR] at fin step2 zr ⊢
      conv => whnf
      first
        | refine caseb (fun _ => ?_) (fun h => absurd (of_decide_eq_false h) (by omega))
        | refine caseb (fun h => absurd (of_decide_eq_true h) (by omega)) (fun _ => ?_)
        | refine caseb (fun _ => ?_) (fun h => absurd (beq_eq_false_iff_ne.1 h) (by omega))
        | refine caseb (fun h => absurd (eq_of_beq h) (by omega)) (fun _ => ?_)
      conv => whnf
      first
        | refine caseb (fun _ => ?_) (fun h => absurd (of_decide_eq_false h) (by omega))
        | refine caseb (fun h => absurd (of_decide_eq_true h) (by omega)) (fun _ => ?_)
        | refine caseb (fun _ => ?_) (fun h => absurd (beq_eq_false_iff_ne.1 h) (by omega))
        | refine caseb (fun h => absurd (eq_of_beq h) (by omega)) (fun _ => ?_)
      conv => whnf
      first
        | refine caseb (fun _ => ?_) (fun h => absurd (of_decide_eq_false h) (by omega))
        | refine caseb (fun h => absurd (of_decide_eq_true h) (by omega)) (fun _ => ?_)
        | refine caseb (fun _ => ?_) (fun h => absurd (beq_eq_false_iff_ne.1 h) (by omega))
        | refine caseb (fun h => absurd (eq_of_beq h) (by omega)) (fun _ => ?_)
      conv => whnf
      refine ⟨by show _ + 2 ≤ _; omega, ?_⟩
      conv => whnf
      refine ⟨_, hRp, ?_⟩
      conv => whnf
      refine ⟨by rw [eR] at zr ⊢; omega, ?_⟩
      conv => whnf
      refine ⟨by omega, ?_⟩
      conv => whnf
      exact strE fin
    · rw [if_neg h2]
      have e1 : IntKind.i64.wrap (e + 1) = e + 1 := by rw [IntWalk.i64_in _ (by omega)]
      by_cases h3 : (s.length : Int) ≤ e + 1
      · rw [if_pos h3]
        have eR : IntKind.i64.wrap (IntKind.i64.wrap (e + 1) - ((strL s).size : Int)) = e + 1 - s.length := by rw [z6, e1, IntWalk.i64_in _ (by omega)]
        have hRp := zeros_ok (e + 1 - s.length) (by omega)
        have zr := strL_size (List.replicate (e + 1 - s.length).toNat 48)
        rw [List.length_replicate] at zr
        have fin : strL sg ++ strL s ++ strL (List.replicate (e + 1 - s.length).toNat 48) = strL (sg ++ (s ++ List.replicate (e + 1 - s.length).toNat 48)) := by
          rw [strL_append, strL_append]; simp only [List.append_assoc]
        have step : (strL sg ++ strL s).size ≤ 100 := by rw [ByteArray.size_append]; omega
        rw [← eR] at hRp
        have t3 : decide (IntKind.i64.wrap (e + 1) ≥ ((strL s).size : Int)) = true := decide_eq_true (by rw [e1, z6]; exact h3)
        conv => whnf
        first
          | refine caseb (fun _ => ?_) (fun h => absurd (of_decide_eq_false h) (by omega))
          | refine caseb (fun h => absurd (of_decide_eq_true h) (by omega)) (fun _ => ?_)
          | refine caseb (fun _ => ?_) (fun h => absurd (beq_eq_false_iff_ne.1 h) (by omega))
          | refine caseb (fun h => absurd (eq_of_beq h) (by omega)) (fun _ => ?_)
        conv => whnf
        first
          | refine caseb (fun _ => ?_) (fun h => absurd (of_decide_eq_false h) (by omega))
          | refine caseb (fun h => absurd (of_decide_eq_true h) (by omega)) (fun _ => ?_)
          | refine caseb (fun _ => ?_) (fun h => absurd (beq_eq_false_iff_ne.1 h) (by omega))
          | refine caseb (fun h => absurd (eq_of_beq h) (by omega)) (fun _ => ?_)
        conv => whnf
        first
          | refine caseb (fun _ => ?_) (fun h => absurd (of_decide_eq_false h) (by omega))
          | refine caseb (fun h => absurd (of_decide_eq_true h) (by omega)) (fun _ => ?_)
          | refine caseb (fun _ => ?_) (fun h => absurd (beq_eq_false_iff_ne.1 h) (by omega))
          | refine caseb (fun h => absurd (eq_of_beq h) (by omega)) (fun _ => ?_)
        conv => whnf
        refine caseb (fun _ => ?_) (fun h => Bool.noConfusion ((t3).symm.trans h))
        conv => whnf
        refine ⟨by omega, ?_⟩
        conv => whnf
        refine ⟨_, hRp, ?_⟩
        conv => whnf
        refine ⟨by rw [eR]; omega, ?_⟩
        conv => whnf
        rw [eR]
        exact strE fin
      · rw [if_neg h3]
        have t3 : decide (IntKind.i64.wrap (e + 1) ≥ ((strL s).size : Int)) = false := decide_eq_false (by rw [e1, z6]; exact h3)
        have x1 : (strL s).extract 0 (e + 1).toNat = strL (s.take (e + 1).toNat) := by rw [strL_extract, List.drop_zero]
        have x2 : (strL s).extract (e + 1).toNat (strL s).size = strL (s.drop (e + 1).toNat) := by rw [strL_extract, z6, List.take_length]
        have zt := strL_size (s.take (e + 1).toNat)
        rw [List.length_take] at zt
        have zu := strL_size (s.drop (e + 1).toNat)
        rw [List.length_drop] at zu
        have fin : strL sg ++ strL (s.take (e + 1).toNat) ++ { data := #[46] } ++ strL (s.drop (e + 1).toNat) = strL (sg ++ (s.take (e + 1).toNat ++ [46] ++ s.drop (e + 1).toNat)) := by
          rw [x46, strL_append, strL_append, strL_append]; simp only [List.append_assoc]
        have step : (strL sg ++ strL (s.take (e + 1).toNat)).size ≤ 100 := by rw [ByteArray.size_append]; omega
        have step2 : (strL sg ++ strL (s.take (e + 1).toNat) ++ { data := #[46] }).size ≤ 110 := by rw [ByteArray.size_append]; show _ + 1 ≤ _; omega
        conv => whnf
        first
          | refine caseb (fun _ => ?_) (fun h => absurd (of_decide_eq_false h) (by omega))
          | refine caseb (fun h => absurd (of_decide_eq_true h) (by omega)) (fun _ => ?_)
          | refine caseb (fun _ => ?_) (fun h => absurd (beq_eq_false_iff_ne.1 h) (by omega))
          | refine caseb (fun h => absurd (eq_of_beq h) (by omega)) (fun _ => ?_)
        conv => whnf
        first
          | refine caseb (fun _ => ?_) (fun h => absurd (of_decide_eq_false h) (by omega))
          | refine caseb (fun h => absurd (of_decide_eq_true h) (by omega)) (fun _ => ?_)
          | refine caseb (fun _ => ?_) (fun h => absurd (beq_eq_false_iff_ne.1 h) (by omega))
          | refine caseb (fun h => absurd (eq_of_beq h) (by omega)) (fun _ => ?_)
        conv => whnf
        first
          | refine caseb (fun _ => ?_) (fun h => absurd (of_decide_eq_false h) (by omega))
          | refine caseb (fun h => absurd (of_decide_eq_true h) (by omega)) (fun _ => ?_)
          | refine caseb (fun _ => ?_) (fun h => absurd (beq_eq_false_iff_ne.1 h) (by omega))
          | refine caseb (fun h => absurd (eq_of_beq h) (by omega)) (fun _ => ?_)
        conv => whnf
        refine caseb (fun h => Bool.noConfusion ((t3).symm.trans h)) (fun _ => ?_)
        conv => whnf
        rw [e1]
        refine ⟨by omega, ?_⟩
        conv => whnf
        rw [x1]
        refine ⟨by omega, ?_⟩
        conv => whnf
        refine ⟨by show _ + 1 ≤ _; omega, ?_⟩
        conv => whnf
        rw [e1]
        refine ⟨by omega, ?_⟩
        conv => whnf
        rw [x2]
        refine ⟨by omega, ?_⟩
        conv => whnf
        refine ⟨by kernel_rfl, ?_⟩
        conv => whnf
        exact strE fin
end Go.Proofs.YthodfkfgdoolnaaGreatDoor

/- Numbers as texts: what is read of a number, the chapter's examples. -/
set_option linter.unusedVariables false
namespace Go.Proofs.YthodfkfgdoolnaaGreatDoor
open Go Go.AL NM

/-- What is read of a number as the page speaks of it. -/
def Rd4 (b : Bool) (s t : List Int) (q : Rat) (ok : Bool) : Prop :=
  (ok = true → RT b s t = RN q.num q.den ∧ RQ b s t ∧ s.length ≤ 40 ∧ t.length ≤ 40 ∧ q = qOf b s t) ∧ AC Tryz.prog 6 [RT b s t] (.pure (.tup [if ok then RA q.num q.den else RA 0 0, .val (.bool ok)]))

theorem read4 (b : Bool) (s t : List Int) (hBs : Byt s) (hBt : Byt t) : ∃ q ok, Rd4 b s t q ok := by
  have z1 := strL_size s
  have z2 := strL_size t
  by_cases h1 : s.length ≤ 40 ∧ t.length ≤ 40
  · have hR := SRight_ok b s t hBs hBt (by omega) (by omega)
    have f1 : decide (((strL s).size : Int) > 40) = false := decide_eq_false (by omega)
    have f2 : decide (((strL t).size : Int) > 40) = false := decide_eq_false (by omega)
    by_cases hq : RQ b s t
    · have hO := SOf_ok b s t hBs hBt (by omega) (by omega) hq.1 hq.2.1 hq.2.2.2.2.1
      rw [decide_eq_true hq] at hR hO
      refine ⟨qOf b s t, true, fun _ => ⟨RQ_is hq, hq, h1.1, h1.2, rfl⟩, ?_⟩
      rw [if_pos rfl]
      refine AC.of_body TTok Tryz.func6 rfl (enter_of Tryz.func6 (by kernel_rfl) (by kernel_rfl)) (noid1 (RT_noid _ _ _)) (.tup _ (noid2 (RA_noid _ _) (.val _))) (Nat.le_of_ble_eq_true rfl) ?_
      unfold RT RA at *
      conv => whnf
      refine caseb (fun h => Bool.noConfusion ((f1).symm.trans h)) (fun _ => ?_)
      conv => whnf
      refine caseb (fun h => Bool.noConfusion ((f2).symm.trans h)) (fun _ => ?_)
      repeat
        conv => whnf
        first
          | refine ⟨_, by assumption, ?_⟩
          | refine ⟨(Nat.le_of_ble_eq_true rfl), _, by assumption, ?_⟩
          | refine ⟨by kernel_rfl, ?_⟩
          | exact rfl
          | exact ⟨Nat.le_of_ble_eq_true rfl, rfl⟩
          | refine ⟨by decide, ?_⟩
    · rw [decide_eq_false hq] at hR
      refine ⟨0, false, fun h => Bool.noConfusion h, ?_⟩
      rw [if_neg (by decide)]
      refine RZ_res ?_
      refine AC.of_body TTok Tryz.func6 rfl (enter_of Tryz.func6 (by kernel_rfl) (by kernel_rfl)) (noid1 (RT_noid _ _ _)) (.tup _ (noid2 RZ_noid (.val _))) (Nat.le_of_ble_eq_true rfl) ?_
      unfold RT at *
      conv => whnf
      refine caseb (fun h => Bool.noConfusion ((f1).symm.trans h)) (fun _ => ?_)
      conv => whnf
      refine caseb (fun h => Bool.noConfusion ((f2).symm.trans h)) (fun _ => ?_)
      repeat
        conv => whnf
        first
          | refine ⟨_, by assumption, ?_⟩
          | refine ⟨(Nat.le_of_ble_eq_true rfl), _, by assumption, ?_⟩
          | refine ⟨by kernel_rfl, ?_⟩
          | exact rfl
          | exact ⟨Nat.le_of_ble_eq_true rfl, rfl⟩
          | refine ⟨by decide, ?_⟩
  · refine ⟨0, false, fun h => Bool.noConfusion h, ?_⟩
    rw [if_neg (by decide)]
    refine RZ_res ?_
    refine AC.of_body TTok Tryz.func6 rfl (enter_of Tryz.func6 (by kernel_rfl) (by kernel_rfl)) (noid1 (RT_noid _ _ _)) (.tup _ (noid2 RZ_noid (.val _))) (Nat.le_of_ble_eq_true rfl) ?_
    unfold RT at *
    by_cases h2 : s.length ≤ 40
    · have f1 : decide (((strL s).size : Int) > 40) = false := decide_eq_false (by omega)
      have f2 : decide (((strL t).size : Int) > 40) = true := decide_eq_true (by omega)
      conv => whnf
      refine caseb (fun h => Bool.noConfusion ((f1).symm.trans h)) (fun _ => ?_)
      conv => whnf
      refine caseb (fun _ => ?_) (fun h => Bool.noConfusion ((f2).symm.trans h))
      repeat
        conv => whnf
        first
          | refine ⟨_, by assumption, ?_⟩
          | refine ⟨(Nat.le_of_ble_eq_true rfl), _, by assumption, ?_⟩
          | refine ⟨by kernel_rfl, ?_⟩
          | exact rfl
          | exact ⟨Nat.le_of_ble_eq_true rfl, rfl⟩
          | refine ⟨by decide, ?_⟩
    · have f1 : decide (((strL s).size : Int) > 40) = true := decide_eq_true (by omega)
      conv => whnf
      refine caseb (fun _ => ?_) (fun h => Bool.noConfusion ((f1).symm.trans h))
      repeat
        conv => whnf
        first
          | refine ⟨_, by assumption, ?_⟩
          | refine ⟨(Nat.le_of_ble_eq_true rfl), _, by assumption, ?_⟩
          | refine ⟨by kernel_rfl, ?_⟩
          | exact rfl
          | exact ⟨Nat.le_of_ble_eq_true rfl, rfl⟩
          | refine ⟨by decide, ?_⟩

theorem Rd4.sz {b : Bool} {s t : List Int} {q : Rat} (h : Rd4 b s t q true) : Sz q 5 ∧ RT b s t = RN q.num q.den ∧ AC Tryz.prog 6 [RN q.num q.den] (.pure (.tup [RA q.num q.den, .val (.bool true)])) := by
  obtain ⟨h1, h2⟩ := h
  obtain ⟨e, hq, l1, l2, rfl⟩ := h1 rfl
  rw [if_pos rfl, e] at h2
  exact ⟨RQ_sz hq l1 l2 (by decide), e, h2⟩
theorem Rd4.bad {b : Bool} {s t : List Int} {q : Rat} {o : Bool} (h : Rd4 b s t q o) : ∃ x d, AC Tryz.prog 6 [RT b s t] (.pure (.tup [RA x d, .val (.bool o)])) := by
  have h2 := h.2
  cases o
  · exact ⟨0, 0, h2⟩
  · exact ⟨q.num, q.den, h2⟩



theorem q23 : showL hiB (Rat.divInt 2 3) 4 = [48, 46, 54, 54, 54, 55] := by decide +kernel
theorem q12345 : showL hiB 12345 3 = [49, 46, 50, 51, 69, 52] := by decide +kernel
theorem q18 : showL hiB (Rat.divInt (-1) 8) 10 = [194, 175, 48, 46, 49, 50, 53] := by decide +kernel
theorem awake4_ok : AC Tryz.prog 7 [] (.pure (.val (.bool true))) := by
  have hO := SOf_ok false [50] [51] (by intro x hx; simp at hx; omega) (by intro x hx; simp at hx; omega) (by decide) (by decide) (by decide) (by decide) (by decide)
  have hP := SOf_ok true [49] [56] (by intro x hx; simp at hx; omega) (by intro x hx; simp at hx; omega) (by decide) (by decide) (by decide) (by decide) (by decide)
  have hq : qOf false [50] [51] = Rat.divInt 2 3 := by decide +kernel
  have hq' : qOf true [49] [56] = Rat.divInt (-1) 8 := by decide +kernel
  have r1 : RQ false [50] [51] := ⟨by decide +kernel, by decide +kernel, by decide +kernel, by decide +kernel, by decide +kernel, by decide +kernel, by decide +kernel⟩
  have r2 : RQ true [49] [56] := ⟨by decide +kernel, by decide +kernel, by decide +kernel, by decide +kernel, by decide +kernel, by decide +kernel, by decide +kernel⟩
  rw [hq, decide_eq_true r1] at hO
  rw [hq', decide_eq_true r2] at hP
  rw [show RT false [50] [51] = .agg [.val (.bool false), .val (.string { data := #[50] }), .val (.string { data := #[51] })] from rfl] at hO
  rw [show RT true [49] [56] = .agg [.val (.bool true), .val (.string { data := #[49] }), .val (.string { data := #[56] })] from rfl] at hP
  have s1 : Sz (Rat.divInt 2 3) 20 := (Sz_small (by decide +kernel) (by decide +kernel)).mono (by decide)
  have s2 : Sz (Rat.divInt (-1) 8) 20 := (Sz_small (by decide +kernel) (by decide +kernel)).mono (by decide)
  have s3 : Sz 12345 20 := (Sz_small (by decide +kernel) (by decide +kernel)).mono (by decide)
  have h1 := Show_ok _ _ 4 (dn_den _) s1 (by decide)
  have h2 := Show_ok _ _ 10 (dn_den _) s2 (by decide)
  have h3 := Show_ok 12345 1 3 rfl s3 (by decide)
  have hF := RatFrom_ok 12345 (by decide)
  rw [q23] at h1
  rw [q18] at h2
  rw [q12345, show (12345 : Rat).num = 12345 from rfl] at h3
  have x1 : ((strL [48, 46, 54, 54, 54, 55]).toList == ({ data := #[48, 46, 54, 54, 54, 55] } : ByteArray).toList) = true := by rw [show strL [48, 46, 54, 54, 54, 55] = { data := #[48, 46, 54, 54, 54, 55] } from rfl]; exact beq_self_eq_true _
  have x2 : ((strL [49, 46, 50, 51, 69, 52]).toList == ({ data := #[49, 46, 50, 51, 69, 52] } : ByteArray).toList) = true := by rw [show strL [49, 46, 50, 51, 69, 52] = { data := #[49, 46, 50, 51, 69, 52] } from rfl]; exact beq_self_eq_true _
  have x3 : ((strL [194, 175, 48, 46, 49, 50, 53]).toList == ({ data := #[194, 175, 48, 46, 49, 50, 53] } : ByteArray).toList) = true := by rw [show strL [194, 175, 48, 46, 49, 50, 53] = { data := #[194, 175, 48, 46, 49, 50, 53] } from rfl]; exact beq_self_eq_true _
  refine AC.of_body TTok Tryz.func7 rfl (enter_of Tryz.func7 (by kernel_rfl) (by kernel_rfl)) (by intro x hx; cases hx) (.val _) (Nat.le_of_ble_eq_true rfl) ?_
  clear s1 s2 s3 hq hq' r1 r2
  generalize strL [48, 46, 54, 54, 54, 55] = y1 at *
  generalize strL [49, 46, 50, 51, 69, 52] = y2 at *
  generalize strL [194, 175, 48, 46, 49, 50, 53] = y3 at *
  generalize Rat.divInt 2 3 = q at *
  generalize Rat.divInt (-1) 8 = q' at *
  generalize q.num = qn at *
  generalize q.den = qd at *
  generalize q'.num = qn' at *
  generalize q'.den = qd' at *
  unfold RA at *
  conv => whnf
  refine ⟨_, hO, ?_⟩
  conv => whnf
  refine ⟨_, hP, ?_⟩
  conv => whnf
  refine ⟨_, h1, ?_⟩
  conv => whnf
  refine caseb (fun _ => ?_) (fun h => Bool.noConfusion ((x1).symm.trans h))
  conv => whnf
  refine ⟨_, hF, ?_⟩
  conv => whnf
  refine ⟨_, h3, ?_⟩
  conv => whnf
  refine caseb (fun _ => ?_) (fun h => Bool.noConfusion ((x2).symm.trans h))
  conv => whnf
  refine ⟨_, h2, ?_⟩
  conv => whnf
  exact valB x3
end Go.Proofs.YthodfkfgdoolnaaGreatDoor

/- The statement DeciReads: the walk through the law. -/
set_option linter.unusedVariables false
namespace Go.Proofs.YthodfkfgdoolnaaGreatDoor.deciReads
open Go Go.AL NM

theorem readP_sz {L : List Int} {ng dot : Bool} {h t : List Int} {p3 : Nat} (hd1 : Dig h) (hd2 : Dig t) {x : Rat} {q : Nat} (hr : readP L ng h dot t p3 = some (x, q)) : Sz x 300 := by
  have hda := dig_app hd1 hd2
  have la : (h ++ t).length = h.length + t.length := List.length_append
  unfold readP at hr
  split at hr
  · cases hr
  · cases hex : expoL L p3 with
    | none => rw [hex] at hr; cases hr
    | some eq =>
      obtain ⟨e, q'⟩ := eq
      rw [hex] at hr
      dsimp only at hr
      have hbd := expo_bd hex
      by_cases hc : h.length + t.length = 0 ∨ 200 < h.length + t.length
      · rw [if_pos hc] at hr; cases hr
      · rw [if_neg hc] at hr
        have e1 := (Prod.mk.inj (Option.some.inj hr)).1
        rw [← e1]
        refine (sc_Sz (k := 23) (Sz_int (by decide) ?_) _).mono ?_
        · rw [sgn_abs]; exact limbs_dig hda (by omega) (by decide)
        · omega
theorem readD_sz {L : List Int} {p : Nat} {x : Rat} {q : Nat} (h : readD L p = some (x, q)) : Sz x 300 := by
  cases hb : begins L p with
  | false => unfold readD at h; rw [hb] at h; cases h
  | true =>
    rw [readD_eq hb rfl rfl rfl rfl rfl rfl] at h
    refine readP_sz (dT_dig _ _) ?_ h
    split
    · exact dT_dig _ _
    · exact fun x hx => nomatch hx
theorem Read_neg (L : List Int) (a : Int) (hb : L.length ≤ 1000) (ha : a < 0) : AC Tryz.prog 10 [.sl 1 (irows .i32 L) false, .val (.int .i64 a)] (.pure (readV none)) := by
  have hB := Begins_ok L a (by omega)
  rw [decide_eq_false (by omega), Bool.false_and] at hB
  refine AC.le_res (?_ : AC Tryz.prog 10 _ (.pure (readW none))) (.tup3 RZ_le (.refl _) (.refl _)) (.tup _ (noid3 (RA_noid _ _) (.val _) (.val _)))
  refine AC.of_body TTok Tryz.func10 rfl (enter_of Tryz.func10 (by kernel_rfl) (by kernel_rfl)) (noid2 (slI_noid' _) (.val _)) (readW_noid _) (Nat.le_of_ble_eq_true rfl) ?_
  repeat
    conv => whnf
    first
      | refine ⟨_, by assumption, ?_⟩
      | refine ⟨(Nat.le_of_ble_eq_true rfl), _, by assumption, ?_⟩
      | refine ⟨by kernel_rfl, ?_⟩
      | exact rfl
      | exact ⟨Nat.le_of_ble_eq_true rfl, rfl⟩
      | refine ⟨by decide, ?_⟩
theorem RRead_neg (L : List Int) (a : Int) (hb : L.length ≤ 1000) (ha : a < 0) : AC Tryz.prog 11 [.sl 1 (irows .i32 L) false, .val (.int .i64 a)] (.pure (readR none)) := by
  have hB := RBegins_ok L a (by omega)
  rw [decide_eq_false (by omega), Bool.false_and] at hB
  have hZ := SZero_ok
  refine AC.of_body TTok Tryz.func11 rfl (enter_of Tryz.func11 (by kernel_rfl) (by kernel_rfl)) (noid2 (slI_noid' _) (.val _)) (readR_noid _) (Nat.le_of_ble_eq_true rfl) ?_
  unfold RN at *
  repeat
    conv => whnf
    first
      | refine ⟨_, by assumption, ?_⟩
      | refine ⟨(Nat.le_of_ble_eq_true rfl), _, by assumption, ?_⟩
      | refine ⟨by kernel_rfl, ?_⟩
      | exact rfl
      | exact ⟨Nat.le_of_ble_eq_true rfl, rfl⟩
      | refine ⟨by decide, ?_⟩
theorem core (L : List Int) (a : Int) (hb : L.length ≤ 250) (o : Option (Rat × Nat)) (be : Bool) (hsz : ∀ x q, o = some (x, q) → Sz x 300) (h1 : AC Tryz.prog 12 [.sl 1 (irows .i32 L) false, .val (.int .i64 a)] (.pure (.val (.bool be)))) (h2 : AC Tryz.prog 13 [.sl 1 (irows .i32 L) false, .val (.int .i64 a)] (.pure (.val (.bool be))))
    (h3 : AC Tryz.prog 10 [.sl 1 (irows .i32 L) false, .val (.int .i64 a)] (.pure (readV o))) (h4 : AC Tryz.prog 11 [.sl 1 (irows .i32 L) false, .val (.int .i64 a)] (.pure (readR o))) : AC Tryz.prog 4 [.sl 1 (irows .i32 L) false, .val (.int .i64 a)] (.pure (.val (.bool true))) := by
  refine AC.of_body TTok Tryz.func4 rfl (enter_of Tryz.func4 (by kernel_rfl) (by kernel_rfl)) (noid2 (slI_noid' _) (.val _)) (.val _) (Nat.le_of_ble_eq_true rfl) ?_
  have hlen := irows_len .i32 L
  have hA := awake4_ok
  have t1 : decide (((irows .i32 L).length : Int) > 250) = false := decide_eq_false (by omega)
  have hbe : (be == be) = true := beq_self_eq_true be
  cases o with
  | none =>
    have hz : AC Tryz.prog 14 [RA 0 0] (.pure (RN 0 1)) := NumS 0 0 rfl ⟨by show (limbs 0).length ≤ _; rw [limbs_zero]; exact Nat.zero_le _, by show (limbs 1).length ≤ _; rw [limbs_1]; decide⟩
    unfold readV at h3
    unfold readR at h4
    dsimp only at h3 h4
    unfold RA RN at *
    conv => whnf
    refine caseb (fun h => Bool.noConfusion ((t1).symm.trans h)) (fun _ => ?_)
    repeat
      conv => whnf
      first
        | refine ⟨_, by assumption, ?_⟩
        | refine ⟨(Nat.le_of_ble_eq_true rfl), _, by assumption, ?_⟩
        | refine ⟨by kernel_rfl, ?_⟩
        | exact rfl
        | exact ⟨Nat.le_of_ble_eq_true rfl, rfl⟩
        | refine ⟨by decide, ?_⟩
    conv => whnf
    refine caseb (fun _ => ?_) (fun h => Bool.noConfusion ((hbe).symm.trans h))
    repeat
      conv => whnf
      first
        | refine ⟨_, by assumption, ?_⟩
        | refine ⟨(Nat.le_of_ble_eq_true rfl), _, by assumption, ?_⟩
        | refine ⟨by kernel_rfl, ?_⟩
        | exact rfl
        | exact ⟨Nat.le_of_ble_eq_true rfl, rfl⟩
        | refine ⟨by decide, ?_⟩
    conv => whnf
    refine caseb (fun _ => ?_) (fun h => Bool.noConfusion ((RN_self _ _ _).symm.trans h))
    repeat
      conv => whnf
      first
        | refine ⟨_, by assumption, ?_⟩
        | refine ⟨(Nat.le_of_ble_eq_true rfl), _, by assumption, ?_⟩
        | refine ⟨by kernel_rfl, ?_⟩
        | exact rfl
        | exact ⟨Nat.le_of_ble_eq_true rfl, rfl⟩
        | refine ⟨by decide, ?_⟩
  | some x =>
    obtain ⟨x, q⟩ := x
    have hN := NumS x x.den (dn_den _) ((hsz x q rfl).mono (by decide))
    have hqq : ((q : Int) == (q : Int)) = true := beq_self_eq_true _
    unfold readV at h3
    unfold readR at h4
    dsimp only at h3 h4
    unfold RA RN at *
    conv => whnf
    refine caseb (fun h => Bool.noConfusion ((t1).symm.trans h)) (fun _ => ?_)
    conv => whnf
    refine ⟨_, h3, ?_⟩
    conv => whnf
    refine ⟨_, h4, ?_⟩
    conv => whnf
    refine ⟨_, h1, ?_⟩
    conv => whnf
    refine ⟨_, h2, ?_⟩
    conv => whnf
    refine caseb (fun _ => ?_) (fun h => Bool.noConfusion ((hbe).symm.trans h))
    conv => whnf
    refine ⟨_, hN, ?_⟩
    conv => whnf
    refine caseb (fun _ => ?_) (fun h => Bool.noConfusion ((RN_self _ _ _).symm.trans h))
    conv => whnf
    refine caseb (fun _ => ?_) (fun h => Bool.noConfusion ((hqq).symm.trans h))
    repeat
      conv => whnf
      first
        | refine ⟨_, by assumption, ?_⟩
        | refine ⟨(Nat.le_of_ble_eq_true rfl), _, by assumption, ?_⟩
        | refine ⟨by kernel_rfl, ?_⟩
        | exact rfl
        | exact ⟨Nat.le_of_ble_eq_true rfl, rfl⟩
        | refine ⟨by decide, ?_⟩
theorem holds (L : List Int) (a : Int) (hl : L.length < 9223372036854775808) (ha : -9223372036854775808 ≤ a ∧ a < 9223372036854775808) : AC Tryz.prog 4 [.sl 1 (irows .i32 L) false, .val (.int .i64 a)] (.pure (.val (.bool true))) := by
  by_cases hb : L.length > 250
  · refine AC.of_body TTok Tryz.func4 rfl (enter_of Tryz.func4 (by kernel_rfl) (by kernel_rfl)) (noid2 (slI_noid' _) (.val _)) (.val _) (Nat.le_of_ble_eq_true rfl) ?_
    have hlen := irows_len .i32 L
    have hA := awake4_ok
    have t1 : decide (((irows .i32 L).length : Int) > 250) = true := decide_eq_true (by omega)
    conv => whnf
    refine caseb (fun _ => ?_) (fun h => Bool.noConfusion ((t1).symm.trans h))
    repeat
      conv => whnf
      first
        | refine ⟨_, by assumption, ?_⟩
        | refine ⟨(Nat.le_of_ble_eq_true rfl), _, by assumption, ?_⟩
        | refine ⟨by kernel_rfl, ?_⟩
        | exact rfl
        | exact ⟨Nat.le_of_ble_eq_true rfl, rfl⟩
        | refine ⟨by decide, ?_⟩
  have hB := Begins_ok L a (by omega)
  have hB' := RBegins_ok L a (by omega)
  by_cases h0 : a < 0
  · exact core L a (by omega) none _ (fun x q h => nomatch h) hB hB' (Read_neg L a (by omega) h0) (RRead_neg L a (by omega) h0)
  · obtain ⟨p, rfl⟩ := Int.eq_ofNat_of_zero_le (Int.not_lt.1 h0)
    exact core L p (by omega) (readD L p) _ (fun x q h => readD_sz h) hB hB' (Read_ok L p (by omega)) (RRead_okD L p (by omega))
end Go.Proofs.YthodfkfgdoolnaaGreatDoor.deciReads
