/- Arrays: light ones (the document's contract). -/
import Derived.Test.YtclamnmpleiakaaGreatB4
set_option linter.unusedVariables false
namespace Go.Proofs.YtclamnmpleiakaaGreat
open Go Go.AL NM

theorem Light_ok (sh : List Int) (ch : Bool) (tx : List Int) (L : List TX) (most : Int) (hm : most ≤ 1000) (h1 : sh.length < 9223372036854775808) (h2 : tx.length < 9223372036854775808) (h3 : L.length < 9223372036854775808) (hB : ∀ x ∈ L, bytX x ∧ x.2.1.length < 9223372036854775808 ∧ x.2.2.length < 9223372036854775808) :
    ∃ r : Bool, (r = true → (tx.length : Int) ≤ most ∧ (L.length : Int) ≤ most ∧ (∀ x ∈ L, smX x) ∧ vS sh ∧ kinds sh ch tx.length L.length ∧ ∀ x ∈ L, RQx x) ∧ AC Tryz.prog 26 [PB sh ch tx L, .val (.int .i64 most)] (.pure (.val (.bool r))) := by
  have l1 := irows_len .i64 sh
  have l2 := irows_len .i32 tx
  have l3 : (L.map rowB).length = L.length := List.length_map _
  by_cases hs : (tx.length : Int) ≤ most ∧ (L.length : Int) ≤ most ∧ sh.length ≤ 8
  · obtain ⟨s1, s2, s3⟩ := hs
    have hloop : ∀ (r : Bool), ((∀ x ∈ L, smX x) → AC Tryz.prog 66 [PB sh ch tx L] (.pure (.val (.bool r)))) → ((¬ ∀ x ∈ L, smX x) → r = false) → AC Tryz.prog 26 [PB sh ch tx L, .val (.int .i64 most)] (.pure (.val (.bool r))) := by
      intro r hr1 hr2
      refine AC.of_body TTok Tryz.func26 rfl (enter_of Tryz.func26 (by kernel_rfl) (by kernel_rfl)) (noid2 (PB_noid _ _ _ _) (.val _)) (.val _) (Nat.le_of_ble_eq_true rfl) ?_
      unfold PB at *
      conv => whnf
      first
        | refine caseb (fun _ => ?_) (fun h => absurd (of_decide_eq_false h) (by omega))
        | refine caseb (fun h => absurd (of_decide_eq_true h) (by omega)) (fun _ => ?_)
        | refine caseb (fun _ => ?_) (fun h => absurd (beq_eq_false_iff_ne.1 h) (by omega))
        | refine caseb (fun h => absurd (eq_of_beq h) (by omega)) (fun _ => ?_)
      conv => whnf
      first
        | refine caseb (fun _ => ?_) (fun h => absurd (of_decide_eq_false h) (by omega))
        | refine caseb (fun h => absurd (of_decide_eq_true h) (by omega)) (fun _ => ?_)
        | refine caseb (fun _ => ?_) (fun h => absurd (beq_eq_false_iff_ne.1 h) (by omega))
        | refine caseb (fun h => absurd (eq_of_beq h) (by omega)) (fun _ => ?_)
      conv => whnf
      first
        | refine caseb (fun _ => ?_) (fun h => absurd (of_decide_eq_false h) (by omega))
        | refine caseb (fun h => absurd (of_decide_eq_true h) (by omega)) (fun _ => ?_)
        | refine caseb (fun _ => ?_) (fun h => absurd (beq_eq_false_iff_ne.1 h) (by omega))
        | refine caseb (fun h => absurd (eq_of_beq h) (by omega)) (fun _ => ?_)
      conv => whnf
      refine SW.loopM TTok (fun i : Nat => [(2, .lp 0 0), (5, .val (.int .i64 (i : Int)))]) (fun i => [(0, .cells 4 [[.sl 1 (irows .i64 sh) false, .val (.bool ch), .sl 1 (irows .i32 tx) false, .sl 3 (L.map rowB) false]])]) 168 51 rfl (fun i => L.length - i) (fun i => i ≤ L.length ∧ ∀ x ∈ L.take i, smX x) 0 [] ⟨Nat.zero_le _, fun x hx => nomatch hx⟩
        ⟨⟨rfl, rfl⟩, ⟨rfl, rfl⟩, trivial⟩ ⟨⟨rfl, .inr ⟨rfl, rfl⟩⟩, trivial⟩ rfl ?_
      intro i hJ
      have hi : i ≤ L.length := hJ.1
      have hq : ∀ x ∈ L.take i, smX x := hJ.2
      clear hJ
      by_cases hlt : i < L.length
      · have eI : IntKind.i64.wrap ((i : Int) + 1) = ((i + 1 : Nat) : Int) := by rw [IntWalk.i64_in _ (by omega)]; omega
        have hg : (L.map rowB)[i]? = some [.val (.bool L[i].1), .val (.string (strL L[i].2.1)), .val (.string (strL L[i].2.2))] := by rw [List.getElem?_map, List.getElem?_eq_getElem hlt]; rfl
        have z1 := strL_size L[i].2.1
        have z2 := strL_size L[i].2.2
        by_cases hx1 : L[i].2.1.length ≤ 40
        · have f1 : decide (((strL L[i].2.1).size : Int) > 40) = false := decide_eq_false (by omega)
          by_cases hx2 : L[i].2.2.length ≤ 40
          · have f2 : decide (((strL L[i].2.2).size : Int) > 40) = false := decide_eq_false (by omega)
            conv => whnf
            first
              | refine caseb (fun _ => ?_) (fun h => absurd (of_decide_eq_false h) (by omega))
              | refine caseb (fun h => absurd (of_decide_eq_true h) (by omega)) (fun _ => ?_)
              | refine caseb (fun _ => ?_) (fun h => absurd (beq_eq_false_iff_ne.1 h) (by omega))
              | refine caseb (fun h => absurd (eq_of_beq h) (by omega)) (fun _ => ?_)
            conv => whnf
            refine ⟨_, ⟨by omega, hg⟩, ?_⟩
            conv => whnf
            refine caseb (fun h => Bool.noConfusion ((f1).symm.trans h)) (fun _ => ?_)
            conv => whnf
            refine ⟨_, ⟨by omega, hg⟩, ?_⟩
            conv => whnf
            refine caseb (fun h => Bool.noConfusion ((f2).symm.trans h)) (fun _ => ?_)
            conv => whnf
            refine ⟨i + 1, [], (by show L.length - (i + 1) < L.length - i; omega), ⟨hlt, fun x hx => ?_⟩, ⟨⟨rfl, rfl⟩, ⟨valI eI, rfl⟩, trivial⟩, ⟨⟨rfl, .inr ⟨rfl, rfl⟩⟩, trivial⟩, rfl⟩
            rw [take_snoc hlt] at hx
            rcases List.mem_append.1 hx with h | h
            · exact hq x h
            · rw [List.mem_singleton.1 h]; exact ⟨hx1, hx2⟩
          · have f2 : decide (((strL L[i].2.2).size : Int) > 40) = true := decide_eq_true (by omega)
            rw [hr2 (fun h => hx2 (h _ (List.getElem_mem hlt)).2)]
            conv => whnf
            first
              | refine caseb (fun _ => ?_) (fun h => absurd (of_decide_eq_false h) (by omega))
              | refine caseb (fun h => absurd (of_decide_eq_true h) (by omega)) (fun _ => ?_)
              | refine caseb (fun _ => ?_) (fun h => absurd (beq_eq_false_iff_ne.1 h) (by omega))
              | refine caseb (fun h => absurd (eq_of_beq h) (by omega)) (fun _ => ?_)
            conv => whnf
            refine ⟨_, ⟨by omega, hg⟩, ?_⟩
            conv => whnf
            refine caseb (fun h => Bool.noConfusion ((f1).symm.trans h)) (fun _ => ?_)
            conv => whnf
            refine ⟨_, ⟨by omega, hg⟩, ?_⟩
            conv => whnf
            refine caseb (fun _ => ?_) (fun h => Bool.noConfusion ((f2).symm.trans h))
            repeat
              conv => whnf
              first
                | refine ⟨_, by assumption, ?_⟩
                | refine ⟨(Nat.le_of_ble_eq_true rfl), _, by assumption, ?_⟩
                | refine ⟨by kernel_rfl, ?_⟩
                | exact rfl
                | exact ⟨Nat.le_of_ble_eq_true rfl, rfl⟩
                | refine ⟨by decide, ?_⟩
        · have f1 : decide (((strL L[i].2.1).size : Int) > 40) = true := decide_eq_true (by omega)
          rw [hr2 (fun h => hx1 (h _ (List.getElem_mem hlt)).1)]
          conv => whnf
          first
            | refine caseb (fun _ => ?_) (fun h => absurd (of_decide_eq_false h) (by omega))
            | refine caseb (fun h => absurd (of_decide_eq_true h) (by omega)) (fun _ => ?_)
            | refine caseb (fun _ => ?_) (fun h => absurd (beq_eq_false_iff_ne.1 h) (by omega))
            | refine caseb (fun h => absurd (eq_of_beq h) (by omega)) (fun _ => ?_)
          conv => whnf
          refine ⟨_, ⟨by omega, hg⟩, ?_⟩
          conv => whnf
          refine caseb (fun _ => ?_) (fun h => Bool.noConfusion ((f1).symm.trans h))
          repeat
            conv => whnf
            first
              | refine ⟨_, by assumption, ?_⟩
              | refine ⟨(Nat.le_of_ble_eq_true rfl), _, by assumption, ?_⟩
              | refine ⟨by kernel_rfl, ?_⟩
              | exact rfl
              | exact ⟨Nat.le_of_ble_eq_true rfl, rfl⟩
              | refine ⟨by decide, ?_⟩
      · have hie : i = L.length := by omega
        have hR := hr1 (by rw [hie, List.take_length] at hq; exact hq)
        conv => whnf
        first
          | refine caseb (fun _ => ?_) (fun h => absurd (of_decide_eq_false h) (by omega))
          | refine caseb (fun h => absurd (of_decide_eq_true h) (by omega)) (fun _ => ?_)
          | refine caseb (fun _ => ?_) (fun h => absurd (beq_eq_false_iff_ne.1 h) (by omega))
          | refine caseb (fun h => absurd (eq_of_beq h) (by omega)) (fun _ => ?_)
        repeat
          conv => whnf
          first
            | refine ⟨_, by assumption, ?_⟩
            | refine ⟨(Nat.le_of_ble_eq_true rfl), _, by assumption, ?_⟩
            | refine ⟨by kernel_rfl, ?_⟩
            | exact rfl
            | exact ⟨Nat.le_of_ble_eq_true rfl, rfl⟩
            | refine ⟨by decide, ?_⟩
    by_cases hall : ∀ x ∈ L, smX x
    · refine ⟨goodB sh ch tx L, fun h => ?_, hloop _ (fun _ => PRight_ok sh ch tx L (by omega) (by omega) (by omega) (fun x hx => ⟨(hB x hx).1, hall x hx⟩)) (fun h => absurd hall h)⟩
      obtain ⟨g1, g2, g3⟩ := goodB_is h
      exact ⟨s1, s2, hall, g1, g2, g3⟩
    · exact ⟨false, fun h => Bool.noConfusion h, hloop false (fun h => absurd h hall) (fun _ => rfl)⟩
  · refine ⟨false, fun h => Bool.noConfusion h, ?_⟩
    refine AC.of_body TTok Tryz.func26 rfl (enter_of Tryz.func26 (by kernel_rfl) (by kernel_rfl)) (noid2 (PB_noid _ _ _ _) (.val _)) (.val _) (Nat.le_of_ble_eq_true rfl) ?_
    unfold PB
    by_cases c1 : (tx.length : Int) ≤ most
    · by_cases c2 : (L.length : Int) ≤ most
      · have c3 : ¬ sh.length ≤ 8 := fun h => hs ⟨c1, c2, h⟩
        conv => whnf
        first
          | refine caseb (fun _ => ?_) (fun h => absurd (of_decide_eq_false h) (by omega))
          | refine caseb (fun h => absurd (of_decide_eq_true h) (by omega)) (fun _ => ?_)
          | refine caseb (fun _ => ?_) (fun h => absurd (beq_eq_false_iff_ne.1 h) (by omega))
          | refine caseb (fun h => absurd (eq_of_beq h) (by omega)) (fun _ => ?_)
        conv => whnf
        first
          | refine caseb (fun _ => ?_) (fun h => absurd (of_decide_eq_false h) (by omega))
          | refine caseb (fun h => absurd (of_decide_eq_true h) (by omega)) (fun _ => ?_)
          | refine caseb (fun _ => ?_) (fun h => absurd (beq_eq_false_iff_ne.1 h) (by omega))
          | refine caseb (fun h => absurd (eq_of_beq h) (by omega)) (fun _ => ?_)
        conv => whnf
        first
          | refine caseb (fun _ => ?_) (fun h => absurd (of_decide_eq_false h) (by omega))
          | refine caseb (fun h => absurd (of_decide_eq_true h) (by omega)) (fun _ => ?_)
          | refine caseb (fun _ => ?_) (fun h => absurd (beq_eq_false_iff_ne.1 h) (by omega))
          | refine caseb (fun h => absurd (eq_of_beq h) (by omega)) (fun _ => ?_)
        repeat
          conv => whnf
          first
            | refine ⟨_, by assumption, ?_⟩
            | refine ⟨(Nat.le_of_ble_eq_true rfl), _, by assumption, ?_⟩
            | refine ⟨by kernel_rfl, ?_⟩
            | exact rfl
            | exact ⟨Nat.le_of_ble_eq_true rfl, rfl⟩
            | refine ⟨by decide, ?_⟩
      · conv => whnf
        first
          | refine caseb (fun _ => ?_) (fun h => absurd (of_decide_eq_false h) (by omega))
          | refine caseb (fun h => absurd (of_decide_eq_true h) (by omega)) (fun _ => ?_)
          | refine caseb (fun _ => ?_) (fun h => absurd (beq_eq_false_iff_ne.1 h) (by omega))
          | refine caseb (fun h => absurd (eq_of_beq h) (by omega)) (fun _ => ?_)
        conv => whnf
        first
          | refine caseb (fun _ => ?_) (fun h => absurd (of_decide_eq_false h) (by omega))
          | refine caseb (fun h => absurd (of_decide_eq_true h) (by omega)) (fun _ => ?_)
          | refine caseb (fun _ => ?_) (fun h => absurd (beq_eq_false_iff_ne.1 h) (by omega))
          | refine caseb (fun h => absurd (eq_of_beq h) (by omega)) (fun _ => ?_)
        repeat
          conv => whnf
          first
            | refine ⟨_, by assumption, ?_⟩
            | refine ⟨(Nat.le_of_ble_eq_true rfl), _, by assumption, ?_⟩
            | refine ⟨by kernel_rfl, ?_⟩
            | exact rfl
            | exact ⟨Nat.le_of_ble_eq_true rfl, rfl⟩
            | refine ⟨by decide, ?_⟩
    · conv => whnf
      first
        | refine caseb (fun _ => ?_) (fun h => absurd (of_decide_eq_false h) (by omega))
        | refine caseb (fun h => absurd (of_decide_eq_true h) (by omega)) (fun _ => ?_)
        | refine caseb (fun _ => ?_) (fun h => absurd (beq_eq_false_iff_ne.1 h) (by omega))
        | refine caseb (fun h => absurd (eq_of_beq h) (by omega)) (fun _ => ?_)
      repeat
        conv => whnf
        first
          | refine ⟨_, by assumption, ?_⟩
          | refine ⟨(Nat.le_of_ble_eq_true rfl), _, by assumption, ?_⟩
          | refine ⟨by kernel_rfl, ?_⟩
          | exact rfl
          | exact ⟨Nat.le_of_ble_eq_true rfl, rfl⟩
          | refine ⟨by decide, ?_⟩
/-- What is read of an array as the page speaks of it, if it is light. -/
theorem PB_PA {sh : List Int} {ch : Bool} {tx : List Int} {L : List TX} (h : ∀ x ∈ L, RQx x) : PB sh ch tx L = PA sh ch tx (L.map qX) := by
  have : L.map rowB = (L.map qX).map rowN := by
    rw [List.map_map]
    refine List.map_congr_left (fun x hx => ?_)
    have := RQ_is (h x hx)
    unfold RT RN at this
    exact AV.agg.inj this
  unfold PB PA
  rw [this]
/-- A number as the page speaks of it, short. -/
def QR (q : Rat) : Prop := ∃ b s t, RQ b s t ∧ Byt s ∧ Byt t ∧ s.length ≤ 40 ∧ t.length ≤ 40 ∧ q = qOf b s t
theorem QR.sz {q : Rat} (h : QR q) : Sz q 5 := by
  obtain ⟨b, s, t, h1, _, _, h4, h5, rfl⟩ := h
  exact RQ_sz h1 h4 h5 (by decide)
theorem QR.of {q : Rat} (h : QR q) : AC Tryz.prog 79 [RN q.num q.den] (.pure (.tup [RA q.num q.den, .val (.bool true)])) := by
  obtain ⟨b, s, t, h1, h2, h3, h4, h5, rfl⟩ := h
  have hO := SOf_ok b s t h2 h3 (by omega) (by omega) h1.1 h1.2.1 h1.2.2.2.2.1
  rw [decide_eq_true h1, RQ_is h1] at hO
  exact hO
theorem QR.right {q : Rat} (h : QR q) : AC Tryz.prog 121 [RN q.num q.den] (.pure (.val (.bool true))) := by
  obtain ⟨b, s, t, h1, h2, h3, h4, h5, rfl⟩ := h
  have hR := SRight_ok b s t h2 h3 (by omega) (by omega)
  rw [decide_eq_true h1, RQ_is h1] at hR
  exact hR
end Go.Proofs.YtclamnmpleiakaaGreat

/- Arrays: made of what the page speaks of (the program's contract). -/
set_option linter.unusedVariables false
namespace Go.Proofs.YtclamnmpleiakaaGreat
open Go Go.AL NM

def ofX (q : Rat) : Option (Rat × Nat) := some (q, q.den)
theorem AOf_ok (sh : List Int) (ch : Bool) (tx : List Int) (qs : List Rat) (hv : vS sh) (hk : kinds sh ch tx.length qs.length) (hQ : ∀ q ∈ qs, QR q) (h2 : tx.length ≤ 1000) (h3 : qs.length ≤ 1000) : AC Tryz.prog 36 [PA sh ch tx qs] (.pure (.tup [AA sh ch tx (qs.map ofX) true, .val (.bool true)])) := by
  refine AC.of_body TTok Tryz.func36 rfl (enter_of Tryz.func36 (by kernel_rfl) (by kernel_rfl)) (noid1 (PA_noid _ _ _ _)) (.tup _ (noid2 (AA_noid _ _ _ _ _) (.val _))) (Nat.le_of_ble_eq_true rfl) ?_
  have h8 := hv.1
  have hC := Count_ok sh (by omega)
  rw [CNT_good hv] at hC
  have h1c := CloneI_ok sh (by omega)
  have h2c := CloneR_ok tx (by omega)
  have l2 := irows_len .i32 tx
  have l3 : (qs.map rowN).length = qs.length := List.length_map _
  unfold kinds at hk
  unfold PA
  cases ch with
  | true =>
    obtain ⟨k1, k2⟩ := hk
    generalize hcn : cntI sh = cn at *
    conv => whnf
    refine ⟨_, hC, ?_⟩
    conv => whnf
    first
      | refine caseb (fun h => absurd (bne_iff_ne.1 h) (by omega)) (fun _ => ?_)
      | refine caseb (fun _ => ?_) (fun h => absurd (bne_eq_false_iff_eq.1 h) (by omega))
    conv => whnf
    first
      | refine caseb (fun _ => ?_) (fun h => absurd (of_decide_eq_false h) (by omega))
      | refine caseb (fun h => absurd (of_decide_eq_true h) (by omega)) (fun _ => ?_)
      | refine caseb (fun _ => ?_) (fun h => absurd (beq_eq_false_iff_ne.1 h) (by omega))
      | refine caseb (fun h => absurd (eq_of_beq h) (by omega)) (fun _ => ?_)
    conv => whnf
    refine ⟨_, h1c, ?_⟩
    conv => whnf
    refine ⟨_, h2c, ?_⟩
    conv => whnf
    refine ⟨by kernel_rfl, ?_⟩
    conv => whnf
    refine SW.nilC 456 3 3 rfl rfl ?_
    refine SW.loopM TTok (fun i : Nat => [(2, .lp 8 0), (6, .lp 456 0), (65, .sl 3 (qs.map rowN) false), (66, .val (.int .i64 ((qs.map rowN).length : Int))), (67, .val (.int .i64 (i : Int)))])
      (fun i => [(8, .cells 5 [[.sl 0 [] true, .val (.bool false), .sl 0 [] true, .sl 0 [] true, .val (.bool false)]]), (456, .cells 5 [[.sl 1 (irows .i64 sh) false, .val (.bool true), .sl 1 (irows .i32 tx) false, .own 504 0 i, .val (.bool true)]]), (504, .cells 3 (((qs.take i).map ofX).map rowX))]) 512 87 rfl (fun i => qs.length - i) (fun i => i ≤ qs.length) 0 [] (Nat.zero_le _)
      ⟨⟨rfl, rfl⟩, ⟨rfl, rfl⟩, ⟨rfl, rfl⟩, ⟨rfl, rfl⟩, ⟨rfl, rfl⟩, trivial⟩ ⟨⟨rfl, .inr ⟨rfl, rfl⟩⟩, ⟨rfl, .inr ⟨rfl, rfl⟩⟩, ⟨rfl, .inl ⟨rfl, rowsX_noid _⟩⟩, trivial⟩ rfl ?_
    intro i hi
    have hi : i ≤ qs.length := hi
    have hql : (((qs.take i).map ofX).map rowX).length = i := by rw [List.length_map, List.length_map, List.length_take]; omega
    by_cases hlt : i < qs.length
    · have eI : IntKind.i64.wrap ((i : Int) + 1) = ((i + 1 : Nat) : Int) := by rw [IntWalk.i64_in _ (by omega)]; omega
      have hg : (qs.map rowN)[i]? = some [.val (.bool (decide (qs[i].num < 0))), .val (.string (decS qs[i].num.natAbs)), .val (.string (decS qs[i].den))] := by rw [List.getElem?_map, List.getElem?_eq_getElem hlt]; rfl
      have hF := (hQ _ (List.getElem_mem hlt)).of
      have hsn : ((qs.take i).map ofX).map rowX ++ [rowX (ofX qs[i])] = ((qs.take (i + 1)).map ofX).map rowX := by
        rw [take_snoc hlt, List.map_append, List.map_append]; rfl
      have htk : ((((qs.take i).map ofX).map rowX).drop 0).take i = ((qs.take i).map ofX).map rowX := by rw [List.drop_zero, List.take_of_length_le (by omega)]
      unfold RA RN at hF
      conv => whnf
      first
        | refine caseb (fun _ => ?_) (fun h => absurd (of_decide_eq_false h) (by omega))
        | refine caseb (fun h => absurd (of_decide_eq_true h) (by omega)) (fun _ => ?_)
        | refine caseb (fun _ => ?_) (fun h => absurd (beq_eq_false_iff_ne.1 h) (by omega))
        | refine caseb (fun h => absurd (eq_of_beq h) (by omega)) (fun _ => ?_)
      conv => whnf
      refine ⟨_, ⟨by omega, hg⟩, ?_⟩
      conv => whnf
      refine ⟨_, hF, ?_⟩
      conv => whnf
      refine ⟨⟨by show 0 + i ≤ _; omega, by show (i + 1) * 56 ≤ 140737488355328; omega, Nat.le_of_ble_eq_true rfl⟩, ?_⟩
      conv => whnf
      refine ⟨i + 1, [(504, 664)], (by show qs.length - (i + 1) < qs.length - i; omega), hlt, ⟨⟨rfl, rfl⟩, ⟨rfl, rfl⟩, ⟨rfl, rfl⟩, ⟨rfl, rfl⟩, ⟨valI eI, rfl⟩, trivial⟩, ⟨⟨rfl, .inr ⟨rfl, rfl⟩⟩, ⟨rfl, .inr ⟨rfl, rfl⟩⟩, ⟨rfl, .inl ⟨celE ?_, rowsX_noid _⟩⟩, trivial⟩, rfl⟩
      rw [← hsn]
      show List.take i (List.drop 0 (((qs.take i).map ofX).map rowX)) ++ [_] = _
      rw [htk]; rfl
    · have hie : i = qs.length := by omega
      rw [hie, List.take_length] at hql
      rw [hie, List.take_length]
      conv => whnf
      first
        | refine caseb (fun _ => ?_) (fun h => absurd (of_decide_eq_false h) (by omega))
        | refine caseb (fun h => absurd (of_decide_eq_true h) (by omega)) (fun _ => ?_)
        | refine caseb (fun _ => ?_) (fun h => absurd (beq_eq_false_iff_ne.1 h) (by omega))
        | refine caseb (fun h => absurd (eq_of_beq h) (by omega)) (fun _ => ?_)
      conv => whnf
      refine ⟨by show 0 + qs.length ≤ _; omega, ?_⟩
      have e : List.take qs.length (List.drop 0 ((qs.map ofX).map rowX)) = (qs.map ofX).map rowX := by rw [List.drop_zero, List.take_of_length_le (by omega)]
      show AV.tup [AV.agg [_, _, _, AV.sl 3 (List.take qs.length (List.drop 0 ((qs.map ofX).map rowX))) false, _], _] = _
      rw [e]
      rfl
  | false =>
    obtain ⟨k1, k2⟩ := hk
    generalize hcn : cntI sh = cn at *
    conv => whnf
    refine ⟨_, hC, ?_⟩
    conv => whnf
    first
      | refine caseb (fun h => absurd (bne_iff_ne.1 h) (by omega)) (fun _ => ?_)
      | refine caseb (fun _ => ?_) (fun h => absurd (bne_eq_false_iff_eq.1 h) (by omega))
    conv => whnf
    first
      | refine caseb (fun _ => ?_) (fun h => absurd (of_decide_eq_false h) (by omega))
      | refine caseb (fun h => absurd (of_decide_eq_true h) (by omega)) (fun _ => ?_)
      | refine caseb (fun _ => ?_) (fun h => absurd (beq_eq_false_iff_ne.1 h) (by omega))
      | refine caseb (fun h => absurd (eq_of_beq h) (by omega)) (fun _ => ?_)
    conv => whnf
    refine ⟨_, h1c, ?_⟩
    conv => whnf
    refine ⟨_, h2c, ?_⟩
    conv => whnf
    refine ⟨by kernel_rfl, ?_⟩
    conv => whnf
    refine SW.nilC 456 3 3 rfl rfl ?_
    refine SW.loopM TTok (fun i : Nat => [(2, .lp 8 0), (6, .lp 456 0), (65, .sl 3 (qs.map rowN) false), (66, .val (.int .i64 ((qs.map rowN).length : Int))), (67, .val (.int .i64 (i : Int)))])
      (fun i => [(8, .cells 5 [[.sl 0 [] true, .val (.bool false), .sl 0 [] true, .sl 0 [] true, .val (.bool false)]]), (456, .cells 5 [[.sl 1 (irows .i64 sh) false, .val (.bool false), .sl 1 (irows .i32 tx) false, .own 504 0 i, .val (.bool true)]]), (504, .cells 3 (((qs.take i).map ofX).map rowX))]) 512 87 rfl (fun i => qs.length - i) (fun i => i ≤ qs.length) 0 [] (Nat.zero_le _)
      ⟨⟨rfl, rfl⟩, ⟨rfl, rfl⟩, ⟨rfl, rfl⟩, ⟨rfl, rfl⟩, ⟨rfl, rfl⟩, trivial⟩ ⟨⟨rfl, .inr ⟨rfl, rfl⟩⟩, ⟨rfl, .inr ⟨rfl, rfl⟩⟩, ⟨rfl, .inl ⟨rfl, rowsX_noid _⟩⟩, trivial⟩ rfl ?_
    intro i hi
    have hi : i ≤ qs.length := hi
    have hql : (((qs.take i).map ofX).map rowX).length = i := by rw [List.length_map, List.length_map, List.length_take]; omega
    by_cases hlt : i < qs.length
    · have eI : IntKind.i64.wrap ((i : Int) + 1) = ((i + 1 : Nat) : Int) := by rw [IntWalk.i64_in _ (by omega)]; omega
      have hg : (qs.map rowN)[i]? = some [.val (.bool (decide (qs[i].num < 0))), .val (.string (decS qs[i].num.natAbs)), .val (.string (decS qs[i].den))] := by rw [List.getElem?_map, List.getElem?_eq_getElem hlt]; rfl
      have hF := (hQ _ (List.getElem_mem hlt)).of
      have hsn : ((qs.take i).map ofX).map rowX ++ [rowX (ofX qs[i])] = ((qs.take (i + 1)).map ofX).map rowX := by
        rw [take_snoc hlt, List.map_append, List.map_append]; rfl
      have htk : ((((qs.take i).map ofX).map rowX).drop 0).take i = ((qs.take i).map ofX).map rowX := by rw [List.drop_zero, List.take_of_length_le (by omega)]
      unfold RA RN at hF
      conv => whnf
      first
        | refine caseb (fun _ => ?_) (fun h => absurd (of_decide_eq_false h) (by omega))
        | refine caseb (fun h => absurd (of_decide_eq_true h) (by omega)) (fun _ => ?_)
        | refine caseb (fun _ => ?_) (fun h => absurd (beq_eq_false_iff_ne.1 h) (by omega))
        | refine caseb (fun h => absurd (eq_of_beq h) (by omega)) (fun _ => ?_)
      conv => whnf
      refine ⟨_, ⟨by omega, hg⟩, ?_⟩
      conv => whnf
      refine ⟨_, hF, ?_⟩
      conv => whnf
      refine ⟨⟨by show 0 + i ≤ _; omega, by show (i + 1) * 56 ≤ 140737488355328; omega, Nat.le_of_ble_eq_true rfl⟩, ?_⟩
      conv => whnf
      refine ⟨i + 1, [(504, 664)], (by show qs.length - (i + 1) < qs.length - i; omega), hlt, ⟨⟨rfl, rfl⟩, ⟨rfl, rfl⟩, ⟨rfl, rfl⟩, ⟨rfl, rfl⟩, ⟨valI eI, rfl⟩, trivial⟩, ⟨⟨rfl, .inr ⟨rfl, rfl⟩⟩, ⟨rfl, .inr ⟨rfl, rfl⟩⟩, ⟨rfl, .inl ⟨celE ?_, rowsX_noid _⟩⟩, trivial⟩, rfl⟩
      rw [← hsn]
      show List.take i (List.drop 0 (((qs.take i).map ofX).map rowX)) ++ [_] = _
      rw [htk]; rfl
    · have hie : i = qs.length := by omega
      rw [hie, List.take_length] at hql
      rw [hie, List.take_length]
      conv => whnf
      first
        | refine caseb (fun _ => ?_) (fun h => absurd (of_decide_eq_false h) (by omega))
        | refine caseb (fun h => absurd (of_decide_eq_true h) (by omega)) (fun _ => ?_)
        | refine caseb (fun _ => ?_) (fun h => absurd (beq_eq_false_iff_ne.1 h) (by omega))
        | refine caseb (fun h => absurd (eq_of_beq h) (by omega)) (fun _ => ?_)
      conv => whnf
      refine ⟨by show 0 + qs.length ≤ _; omega, ?_⟩
      have e : List.take qs.length (List.drop 0 ((qs.map ofX).map rowX)) = (qs.map ofX).map rowX := by rw [List.drop_zero, List.take_of_length_le (by omega)]
      show AV.tup [AV.agg [_, _, _, AV.sl 3 (List.take qs.length (List.drop 0 ((qs.map ofX).map rowX))) false, _], _] = _
      rw [e]
      rfl
theorem LOf_ok (sh : List Int) (ch : Bool) (tx : List Int) (qs : List Rat) (hv : vS sh) (hk : kinds sh ch tx.length qs.length) (hQ : ∀ q ∈ qs, QR q) (h2 : tx.length ≤ 1000) (h3 : qs.length ≤ 1000) : AC Tryz.prog 11 [PA sh ch tx qs] (.pure (AA sh ch tx (qs.map ofX) true)) := by
  refine AC.of_body TTok Tryz.func11 rfl (enter_of Tryz.func11 (by kernel_rfl) (by kernel_rfl)) (noid1 (PA_noid _ _ _ _)) (AA_noid _ _ _ _ _) (Nat.le_of_ble_eq_true rfl) ?_
  have h := AOf_ok sh ch tx qs hv hk hQ h2 h3
  generalize (qs.map ofX) = X at *
  unfold PA AA at *
  repeat
    conv => whnf
    first
      | refine ⟨_, by assumption, ?_⟩
      | refine ⟨(Nat.le_of_ble_eq_true rfl), _, by assumption, ?_⟩
      | refine ⟨by kernel_rfl, ?_⟩
      | exact rfl
      | exact ⟨Nat.le_of_ble_eq_true rfl, rfl⟩
      | refine ⟨by decide, ?_⟩
end Go.Proofs.YtclamnmpleiakaaGreat

/- Arrays: alike ones; the shape of two (contracts). -/
set_option linter.unusedVariables false
namespace Go.Proofs.YtclamnmpleiakaaGreat
open Go Go.AL NM

theorem PSame_ok (sh : List Int) (ch : Bool) (tx : List Int) (qs : List Rat) (h1 : sh.length ≤ 1000) (h2 : tx.length ≤ 100000) (h3 : qs.length ≤ 100000) : AC Tryz.prog 41 [PA sh ch tx qs, PA sh ch tx qs] (.pure (.val (.bool true))) := by
  refine AC.of_body TTok Tryz.func41 rfl (enter_of Tryz.func41 (by kernel_rfl) (by kernel_rfl)) (noid2 (PA_noid _ _ _ _) (PA_noid _ _ _ _)) (.val _) (Nat.le_of_ble_eq_true rfl) ?_
  have hI := IntsSame_ok sh sh (by omega) (by omega)
  rw [decide_eq_true rfl] at hI
  have hR := Runes_ok tx tx (by omega) (by omega)
  rw [decide_eq_true rfl] at hR
  have l3 : (qs.map rowN).length = qs.length := List.length_map _
  have hbb : (!(ch == ch)) = false := by cases ch <;> rfl
  unfold PA
  conv => whnf
  refine caseb (fun h => Bool.noConfusion ((hbb).symm.trans h)) (fun _ => ?_)
  conv => whnf
  refine ⟨_, hI, ?_⟩
  conv => whnf
  refine ⟨_, hR, ?_⟩
  conv => whnf
  first
    | refine caseb (fun h => absurd (bne_iff_ne.1 h) (by omega)) (fun _ => ?_)
    | refine caseb (fun _ => ?_) (fun h => absurd (bne_eq_false_iff_eq.1 h) (by omega))
  conv => whnf
  refine SW.loopM TTok (fun i : Nat => [(2, .lp 0 0), (3, .lp 8 0), (5, .val (.int .i64 (i : Int)))]) (fun i => [(0, .cells 4 [[.sl 1 (irows .i64 sh) false, .val (.bool ch), .sl 1 (irows .i32 tx) false, .sl 3 (qs.map rowN) false]]), (8, .cells 4 [[.sl 1 (irows .i64 sh) false, .val (.bool ch), .sl 1 (irows .i32 tx) false, .sl 3 (qs.map rowN) false]])]) 272 54 rfl (fun i => qs.length - i) (fun i => i ≤ qs.length) 0 [] (Nat.zero_le _)
    ⟨⟨rfl, rfl⟩, ⟨rfl, rfl⟩, ⟨rfl, rfl⟩, trivial⟩ ⟨⟨rfl, .inr ⟨rfl, rfl⟩⟩, ⟨rfl, .inr ⟨rfl, rfl⟩⟩, trivial⟩ rfl ?_
  intro i hi
  have hi : i ≤ qs.length := hi
  by_cases hlt : i < qs.length
  · have eI : IntKind.i64.wrap ((i : Int) + 1) = ((i + 1 : Nat) : Int) := by rw [IntWalk.i64_in _ (by omega)]; omega
    have hg : (qs.map rowN)[i]? = some [.val (.bool (decide (qs[i].num < 0))), .val (.string (decS qs[i].num.natAbs)), .val (.string (decS qs[i].den))] := by rw [List.getElem?_map, List.getElem?_eq_getElem hlt]; rfl
    conv => whnf
    first
      | refine caseb (fun _ => ?_) (fun h => absurd (of_decide_eq_false h) (by omega))
      | refine caseb (fun h => absurd (of_decide_eq_true h) (by omega)) (fun _ => ?_)
      | refine caseb (fun _ => ?_) (fun h => absurd (beq_eq_false_iff_ne.1 h) (by omega))
      | refine caseb (fun h => absurd (eq_of_beq h) (by omega)) (fun _ => ?_)
    conv => whnf
    refine ⟨_, ⟨by omega, hg⟩, ?_⟩
    conv => whnf
    refine ⟨_, ⟨by omega, hg⟩, ?_⟩
    conv => whnf
    refine ⟨by kernel_rfl, ?_⟩
    conv => whnf
    refine caseb (fun h => Bool.noConfusion ((RN_selfn _ _ _).symm.trans h)) (fun _ => ?_)
    conv => whnf
    refine ⟨i + 1, [], (by show qs.length - (i + 1) < qs.length - i; omega), hlt, ⟨⟨rfl, rfl⟩, ⟨rfl, rfl⟩, ⟨valI eI, rfl⟩, trivial⟩, ⟨⟨rfl, .inr ⟨rfl, rfl⟩⟩, ⟨rfl, .inr ⟨rfl, rfl⟩⟩, trivial⟩, rfl⟩
  · conv => whnf
    first
      | refine caseb (fun _ => ?_) (fun h => absurd (of_decide_eq_false h) (by omega))
      | refine caseb (fun h => absurd (of_decide_eq_true h) (by omega)) (fun _ => ?_)
      | refine caseb (fun _ => ?_) (fun h => absurd (beq_eq_false_iff_ne.1 h) (by omega))
      | refine caseb (fun h => absurd (eq_of_beq h) (by omega)) (fun _ => ?_)
    repeat
      conv => whnf
      first
        | refine ⟨_, by assumption, ?_⟩
        | refine ⟨(Nat.le_of_ble_eq_true rfl), _, by assumption, ?_⟩
        | refine ⟨by kernel_rfl, ?_⟩
        | exact rfl
        | exact ⟨Nat.le_of_ble_eq_true rfl, rfl⟩
        | refine ⟨by decide, ?_⟩
theorem shows_ok (sh : List Int) (ch : Bool) (tx : List Int) (ns : List (Option (Rat × Nat))) (h1 : sh.length ≤ 1000) (h2 : tx.length ≤ 100000) (h3 : ns.length ≤ 100000) (ho : ∀ o ∈ ns, okX o ∧ Sz (valX o) 100000) :
    AC Tryz.prog 20 [AA sh ch tx ns true, .val (.int .i64 0), PA sh ch tx (ns.map valX), .val (.int .i64 0)] (.pure (.val (.bool true))) := by
  refine AC.of_body TTok Tryz.func20 rfl (enter_of Tryz.func20 (by kernel_rfl) (by kernel_rfl)) (noidF (AA_noid _ _ _ _ _) (.val _) (PA_noid _ _ _ _) (.val _)) (.val _) (Nat.le_of_ble_eq_true rfl) ?_
  have hP := Plain_ok sh ch tx ns h1 h2 h3 ho
  have hS := PSame_ok sh ch tx (ns.map valX) h1 h2 (by rw [List.length_map]; exact h3)
  unfold AA PA at *
  repeat
    conv => whnf
    first
      | refine ⟨_, by assumption, ?_⟩
      | refine ⟨(Nat.le_of_ble_eq_true rfl), _, by assumption, ?_⟩
      | refine ⟨by kernel_rfl, ?_⟩
      | exact rfl
      | exact ⟨Nat.le_of_ble_eq_true rfl, rfl⟩
      | refine ⟨by decide, ?_⟩
theorem shows_err (e : Int) (he : e ≠ 0) (sh : List Int) (ch : Bool) (tx : List Int) (qs : List Rat) :
    AC Tryz.prog 20 [AA [] false [] [] false, .val (.int .i64 e), PA sh ch tx qs, .val (.int .i64 e)] (.pure (.val (.bool true))) := by
  refine AC.of_body TTok Tryz.func20 rfl (enter_of Tryz.func20 (by kernel_rfl) (by kernel_rfl)) (noidF (AA_noid _ _ _ _ _) (.val _) (PA_noid _ _ _ _) (.val _)) (.val _) (Nat.le_of_ble_eq_true rfl) ?_
  have hL := ALen_ok [] false [] [] false (by decide) (by decide)
  have t1 : (e != e) = false := by simp
  unfold AA PA at *
  conv => whnf
  refine caseb (fun h => Bool.noConfusion ((t1).symm.trans h)) (fun _ => ?_)
  conv => whnf
  first
    | refine caseb (fun h => absurd (bne_iff_ne.1 h) (by omega)) (fun _ => ?_)
    | refine caseb (fun _ => ?_) (fun h => absurd (bne_eq_false_iff_eq.1 h) (by omega))
  repeat
    conv => whnf
    first
      | refine ⟨_, by assumption, ?_⟩
      | refine ⟨(Nat.le_of_ble_eq_true rfl), _, by assumption, ?_⟩
      | refine ⟨by kernel_rfl, ?_⟩
      | exact rfl
      | exact ⟨Nat.le_of_ble_eq_true rfl, rfl⟩
      | refine ⟨by decide, ?_⟩

/-- The shape that two arrays make together. -/
def fitS (sa sb : List Int) (la lb : Nat) : List Int × Bool × Bool × Int :=
  if sa = sb then (sa, false, false, 0)
  else if la = 1 ∧ (lb ≠ 1 ∨ sa.length < sb.length) then (sb, true, false, 0)
  else if lb = 1 then (sa, false, true, 0)
  else if sa.length ≠ sb.length then ([], false, false, 23) else ([], false, false, 24)
def FV (x : List Int × Bool × Bool × Int) : AV := .tup [.sl 1 (irows .i64 x.1) false, .val (.bool x.2.1), .val (.bool x.2.2.1), .val (.int .i64 x.2.2.2)]
theorem FV_noid (x : List Int × Bool × Bool × Int) : NoId (FV x) := .tup _ (noidF (noid_sl _ _ _) (.val _) (.val _) (.val _))
theorem le_tup4 {a b c d a' : AV} (h1 : AVle a a') : AVle (.tup [a, b, c, d]) (.tup [a', b, c, d]) :=
  .tup _ _ rfl (fun i x y hx hy => by
    match i with
    | 0 => cases hx; cases hy; exact h1
    | 1 => cases hx; cases hy; exact .refl _
    | 2 => cases hx; cases hy; exact .refl _
    | 3 => cases hx; cases hy; exact .refl _
    | (i + 4) => cases hx)
theorem FV_err {P : Program} {f : FuncId} {args : List AV} {e : Int} (h : AC P f args (.pure (.tup [.sl 0 [] true, .val (.bool false), .val (.bool false), .val (.int .i64 e)]))) : AC P f args (.pure (FV ([], false, false, e))) :=
  AC.le_res h (le_tup4 (le_nil 1)) (FV_noid _)
theorem FE_noid (e : Int) : NoId (.tup [.sl 0 [] true, .val (.bool false), .val (.bool false), .val (.int .i64 e)]) := .tup _ (noidF (.sl _ _ _ (fun r hr => nomatch hr)) (.val _) (.val _) (.val _))

section
variable (sa sb : List Int) (ca cb : Bool) (ta tb : List Int)
theorem Fit_ok (na nb : List (Option (Rat × Nat))) (h1 : sa.length ≤ 1000) (h2 : sb.length ≤ 1000) (h3 : ta.length ≤ 100000) (h4 : tb.length ≤ 100000) (h5 : na.length ≤ 100000) (h6 : nb.length ≤ 100000) :
    AC Tryz.prog 21 [AA sa ca ta na true, AA sb cb tb nb true] (.pure (FV (fitS sa sb (ta.length + na.length) (tb.length + nb.length)))) := by
  have hLa := ALen_ok sa ca ta na true (by omega) (by omega)
  have hLb := ALen_ok sb cb tb nb true (by omega) (by omega)
  have hSa := Shape_ok sa ca ta na (by omega)
  have hSb := Shape_ok sb cb tb nb (by omega)
  have hRa := Rank_ok sa ca ta na (by omega)
  have hRb := Rank_ok sb cb tb nb (by omega)
  have hE := ShSame_ok sa sb (by omega) (by omega)
  have nd := noid2 (AA_noid sa ca ta na true) (AA_noid sb cb tb nb true)
  generalize ta.length + na.length = la at *
  generalize tb.length + nb.length = lb at *
  unfold fitS
  unfold AA at *
  by_cases hs : sa = sb
  · rw [if_pos hs]
    rw [decide_eq_true hs] at hE
    refine AC.of_body TTok Tryz.func21 rfl (enter_of Tryz.func21 (by kernel_rfl) (by kernel_rfl)) nd (FV_noid _) (Nat.le_of_ble_eq_true rfl) ?_
    repeat
      conv => whnf
      first
        | refine ⟨_, by assumption, ?_⟩
        | refine ⟨(Nat.le_of_ble_eq_true rfl), _, by assumption, ?_⟩
        | refine ⟨by kernel_rfl, ?_⟩
        | exact rfl
        | exact ⟨Nat.le_of_ble_eq_true rfl, rfl⟩
        | refine ⟨by decide, ?_⟩
        | refine caseb (fun _ => ?_) (fun h => absurd (of_decide_eq_false h) (by omega))
        | refine caseb (fun h => absurd (of_decide_eq_true h) (by omega)) (fun _ => ?_)
        | refine caseb (fun _ => ?_) (fun h => absurd (beq_eq_false_iff_ne.1 h) (by omega))
        | refine caseb (fun h => absurd (eq_of_beq h) (by omega)) (fun _ => ?_)
        | refine caseb (fun h => absurd (bne_iff_ne.1 h) (by omega)) (fun _ => ?_)
        | refine caseb (fun _ => ?_) (fun h => absurd (bne_eq_false_iff_eq.1 h) (by omega))
  · rw [if_neg hs]
    rw [decide_eq_false hs] at hE
    by_cases hla : la = 1
    · by_cases hx : lb ≠ 1 ∨ sa.length < sb.length
      · rw [if_pos ⟨hla, hx⟩]
        refine AC.of_body TTok Tryz.func21 rfl (enter_of Tryz.func21 (by kernel_rfl) (by kernel_rfl)) nd (FV_noid _) (Nat.le_of_ble_eq_true rfl) ?_
        by_cases hlb : lb = 1
        · have hx' := hx.resolve_left (fun h => h hlb)
          repeat
            conv => whnf
            first
              | refine ⟨_, by assumption, ?_⟩
              | refine ⟨(Nat.le_of_ble_eq_true rfl), _, by assumption, ?_⟩
              | refine ⟨by kernel_rfl, ?_⟩
              | exact rfl
              | exact ⟨Nat.le_of_ble_eq_true rfl, rfl⟩
              | refine ⟨by decide, ?_⟩
              | refine caseb (fun _ => ?_) (fun h => absurd (of_decide_eq_false h) (by omega))
              | refine caseb (fun h => absurd (of_decide_eq_true h) (by omega)) (fun _ => ?_)
              | refine caseb (fun _ => ?_) (fun h => absurd (beq_eq_false_iff_ne.1 h) (by omega))
              | refine caseb (fun h => absurd (eq_of_beq h) (by omega)) (fun _ => ?_)
              | refine caseb (fun h => absurd (bne_iff_ne.1 h) (by omega)) (fun _ => ?_)
              | refine caseb (fun _ => ?_) (fun h => absurd (bne_eq_false_iff_eq.1 h) (by omega))
        · repeat
            conv => whnf
            first
              | refine ⟨_, by assumption, ?_⟩
              | refine ⟨(Nat.le_of_ble_eq_true rfl), _, by assumption, ?_⟩
              | refine ⟨by kernel_rfl, ?_⟩
              | exact rfl
              | exact ⟨Nat.le_of_ble_eq_true rfl, rfl⟩
              | refine ⟨by decide, ?_⟩
              | refine caseb (fun _ => ?_) (fun h => absurd (of_decide_eq_false h) (by omega))
              | refine caseb (fun h => absurd (of_decide_eq_true h) (by omega)) (fun _ => ?_)
              | refine caseb (fun _ => ?_) (fun h => absurd (beq_eq_false_iff_ne.1 h) (by omega))
              | refine caseb (fun h => absurd (eq_of_beq h) (by omega)) (fun _ => ?_)
              | refine caseb (fun h => absurd (bne_iff_ne.1 h) (by omega)) (fun _ => ?_)
              | refine caseb (fun _ => ?_) (fun h => absurd (bne_eq_false_iff_eq.1 h) (by omega))
      · rw [if_neg (fun h => hx h.2)]
        have hlb : lb = 1 := Decidable.byContradiction fun h => hx (.inl h)
        rw [if_pos hlb]
        have hx' : ¬ sa.length < sb.length := fun h => hx (.inr h)
        refine AC.of_body TTok Tryz.func21 rfl (enter_of Tryz.func21 (by kernel_rfl) (by kernel_rfl)) nd (FV_noid _) (Nat.le_of_ble_eq_true rfl) ?_
        repeat
          conv => whnf
          first
            | refine ⟨_, by assumption, ?_⟩
            | refine ⟨(Nat.le_of_ble_eq_true rfl), _, by assumption, ?_⟩
            | refine ⟨by kernel_rfl, ?_⟩
            | exact rfl
            | exact ⟨Nat.le_of_ble_eq_true rfl, rfl⟩
            | refine ⟨by decide, ?_⟩
            | refine caseb (fun _ => ?_) (fun h => absurd (of_decide_eq_false h) (by omega))
            | refine caseb (fun h => absurd (of_decide_eq_true h) (by omega)) (fun _ => ?_)
            | refine caseb (fun _ => ?_) (fun h => absurd (beq_eq_false_iff_ne.1 h) (by omega))
            | refine caseb (fun h => absurd (eq_of_beq h) (by omega)) (fun _ => ?_)
            | refine caseb (fun h => absurd (bne_iff_ne.1 h) (by omega)) (fun _ => ?_)
            | refine caseb (fun _ => ?_) (fun h => absurd (bne_eq_false_iff_eq.1 h) (by omega))
    · rw [if_neg (fun h => hla h.1)]
      by_cases hlb : lb = 1
      · rw [if_pos hlb]
        refine AC.of_body TTok Tryz.func21 rfl (enter_of Tryz.func21 (by kernel_rfl) (by kernel_rfl)) nd (FV_noid _) (Nat.le_of_ble_eq_true rfl) ?_
        repeat
          conv => whnf
          first
            | refine ⟨_, by assumption, ?_⟩
            | refine ⟨(Nat.le_of_ble_eq_true rfl), _, by assumption, ?_⟩
            | refine ⟨by kernel_rfl, ?_⟩
            | exact rfl
            | exact ⟨Nat.le_of_ble_eq_true rfl, rfl⟩
            | refine ⟨by decide, ?_⟩
            | refine caseb (fun _ => ?_) (fun h => absurd (of_decide_eq_false h) (by omega))
            | refine caseb (fun h => absurd (of_decide_eq_true h) (by omega)) (fun _ => ?_)
            | refine caseb (fun _ => ?_) (fun h => absurd (beq_eq_false_iff_ne.1 h) (by omega))
            | refine caseb (fun h => absurd (eq_of_beq h) (by omega)) (fun _ => ?_)
            | refine caseb (fun h => absurd (bne_iff_ne.1 h) (by omega)) (fun _ => ?_)
            | refine caseb (fun _ => ?_) (fun h => absurd (bne_eq_false_iff_eq.1 h) (by omega))
      · rw [if_neg hlb]
        by_cases hr : sa.length ≠ sb.length
        · rw [if_pos hr]
          refine FV_err ?_
          refine AC.of_body TTok Tryz.func21 rfl (enter_of Tryz.func21 (by kernel_rfl) (by kernel_rfl)) nd (FE_noid _) (Nat.le_of_ble_eq_true rfl) ?_
          repeat
            conv => whnf
            first
              | refine ⟨_, by assumption, ?_⟩
              | refine ⟨(Nat.le_of_ble_eq_true rfl), _, by assumption, ?_⟩
              | refine ⟨by kernel_rfl, ?_⟩
              | exact rfl
              | exact ⟨Nat.le_of_ble_eq_true rfl, rfl⟩
              | refine ⟨by decide, ?_⟩
              | refine caseb (fun _ => ?_) (fun h => absurd (of_decide_eq_false h) (by omega))
              | refine caseb (fun h => absurd (of_decide_eq_true h) (by omega)) (fun _ => ?_)
              | refine caseb (fun _ => ?_) (fun h => absurd (beq_eq_false_iff_ne.1 h) (by omega))
              | refine caseb (fun h => absurd (eq_of_beq h) (by omega)) (fun _ => ?_)
              | refine caseb (fun h => absurd (bne_iff_ne.1 h) (by omega)) (fun _ => ?_)
              | refine caseb (fun _ => ?_) (fun h => absurd (bne_eq_false_iff_eq.1 h) (by omega))
        · rw [if_neg hr]
          refine FV_err ?_
          refine AC.of_body TTok Tryz.func21 rfl (enter_of Tryz.func21 (by kernel_rfl) (by kernel_rfl)) nd (FE_noid _) (Nat.le_of_ble_eq_true rfl) ?_
          repeat
            conv => whnf
            first
              | refine ⟨_, by assumption, ?_⟩
              | refine ⟨(Nat.le_of_ble_eq_true rfl), _, by assumption, ?_⟩
              | refine ⟨by kernel_rfl, ?_⟩
              | exact rfl
              | exact ⟨Nat.le_of_ble_eq_true rfl, rfl⟩
              | refine ⟨by decide, ?_⟩
              | refine caseb (fun _ => ?_) (fun h => absurd (of_decide_eq_false h) (by omega))
              | refine caseb (fun h => absurd (of_decide_eq_true h) (by omega)) (fun _ => ?_)
              | refine caseb (fun _ => ?_) (fun h => absurd (beq_eq_false_iff_ne.1 h) (by omega))
              | refine caseb (fun h => absurd (eq_of_beq h) (by omega)) (fun _ => ?_)
              | refine caseb (fun h => absurd (bne_iff_ne.1 h) (by omega)) (fun _ => ?_)
              | refine caseb (fun _ => ?_) (fun h => absurd (bne_eq_false_iff_eq.1 h) (by omega))
end
end Go.Proofs.YtclamnmpleiakaaGreat

/- Functions of one number: their signs, how large an answer may be, the truth turned about. -/
set_option linter.unusedVariables false
namespace Go.Proofs.YtclamnmpleiakaaGreat
open Go Go.AL NM

def isOne (c : Int) : Prop := c = 43 ∨ c = 45 ∨ c = 215 ∨ c = 247 ∨ c = 8968 ∨ c = 8970 ∨ c = 124 ∨ c = 42 ∨ c = 33 ∨ c = 126 ∨ c = 9055 ∨ c = 9675
instance (c : Int) : Decidable (isOne c) := inferInstanceAs (Decidable (_ ∨ _ ∨ _ ∨ _ ∨ _ ∨ _ ∨ _ ∨ _ ∨ _ ∨ _ ∨ _ ∨ _))
theorem MHas_ok (c : Int) : AC Tryz.prog 61 [.val (.int .i32 c)] (.pure (.val (.bool (decide (isOne c))))) := by
  refine AC.of_body TTok Tryz.func61 rfl (enter_of Tryz.func61 (by kernel_rfl) (by kernel_rfl)) (noid1 (.val _)) (.val _) (Nat.le_of_ble_eq_true rfl) ?_
  by_cases h0 : c = 43
  · subst h0
    rw [decide_eq_true (show isOne 43 by decide)]
    repeat
      conv => whnf
      first
        | refine ⟨_, by assumption, ?_⟩
        | refine ⟨(Nat.le_of_ble_eq_true rfl), _, by assumption, ?_⟩
        | refine ⟨by kernel_rfl, ?_⟩
        | exact rfl
        | exact ⟨Nat.le_of_ble_eq_true rfl, rfl⟩
        | refine ⟨by decide, ?_⟩
  by_cases h1 : c = 45
  · subst h1
    rw [decide_eq_true (show isOne 45 by decide)]
    repeat
      conv => whnf
      first
        | refine ⟨_, by assumption, ?_⟩
        | refine ⟨(Nat.le_of_ble_eq_true rfl), _, by assumption, ?_⟩
        | refine ⟨by kernel_rfl, ?_⟩
        | exact rfl
        | exact ⟨Nat.le_of_ble_eq_true rfl, rfl⟩
        | refine ⟨by decide, ?_⟩
  by_cases h2 : c = 215
  · subst h2
    rw [decide_eq_true (show isOne 215 by decide)]
    repeat
      conv => whnf
      first
        | refine ⟨_, by assumption, ?_⟩
        | refine ⟨(Nat.le_of_ble_eq_true rfl), _, by assumption, ?_⟩
        | refine ⟨by kernel_rfl, ?_⟩
        | exact rfl
        | exact ⟨Nat.le_of_ble_eq_true rfl, rfl⟩
        | refine ⟨by decide, ?_⟩
  by_cases h3 : c = 247
  · subst h3
    rw [decide_eq_true (show isOne 247 by decide)]
    repeat
      conv => whnf
      first
        | refine ⟨_, by assumption, ?_⟩
        | refine ⟨(Nat.le_of_ble_eq_true rfl), _, by assumption, ?_⟩
        | refine ⟨by kernel_rfl, ?_⟩
        | exact rfl
        | exact ⟨Nat.le_of_ble_eq_true rfl, rfl⟩
        | refine ⟨by decide, ?_⟩
  by_cases h4 : c = 8968
  · subst h4
    rw [decide_eq_true (show isOne 8968 by decide)]
    repeat
      conv => whnf
      first
        | refine ⟨_, by assumption, ?_⟩
        | refine ⟨(Nat.le_of_ble_eq_true rfl), _, by assumption, ?_⟩
        | refine ⟨by kernel_rfl, ?_⟩
        | exact rfl
        | exact ⟨Nat.le_of_ble_eq_true rfl, rfl⟩
        | refine ⟨by decide, ?_⟩
  by_cases h5 : c = 8970
  · subst h5
    rw [decide_eq_true (show isOne 8970 by decide)]
    repeat
      conv => whnf
      first
        | refine ⟨_, by assumption, ?_⟩
        | refine ⟨(Nat.le_of_ble_eq_true rfl), _, by assumption, ?_⟩
        | refine ⟨by kernel_rfl, ?_⟩
        | exact rfl
        | exact ⟨Nat.le_of_ble_eq_true rfl, rfl⟩
        | refine ⟨by decide, ?_⟩
  by_cases h6 : c = 124
  · subst h6
    rw [decide_eq_true (show isOne 124 by decide)]
    repeat
      conv => whnf
      first
        | refine ⟨_, by assumption, ?_⟩
        | refine ⟨(Nat.le_of_ble_eq_true rfl), _, by assumption, ?_⟩
        | refine ⟨by kernel_rfl, ?_⟩
        | exact rfl
        | exact ⟨Nat.le_of_ble_eq_true rfl, rfl⟩
        | refine ⟨by decide, ?_⟩
  by_cases h7 : c = 42
  · subst h7
    rw [decide_eq_true (show isOne 42 by decide)]
    repeat
      conv => whnf
      first
        | refine ⟨_, by assumption, ?_⟩
        | refine ⟨(Nat.le_of_ble_eq_true rfl), _, by assumption, ?_⟩
        | refine ⟨by kernel_rfl, ?_⟩
        | exact rfl
        | exact ⟨Nat.le_of_ble_eq_true rfl, rfl⟩
        | refine ⟨by decide, ?_⟩
  by_cases h8 : c = 33
  · subst h8
    rw [decide_eq_true (show isOne 33 by decide)]
    repeat
      conv => whnf
      first
        | refine ⟨_, by assumption, ?_⟩
        | refine ⟨(Nat.le_of_ble_eq_true rfl), _, by assumption, ?_⟩
        | refine ⟨by kernel_rfl, ?_⟩
        | exact rfl
        | exact ⟨Nat.le_of_ble_eq_true rfl, rfl⟩
        | refine ⟨by decide, ?_⟩
  by_cases h9 : c = 126
  · subst h9
    rw [decide_eq_true (show isOne 126 by decide)]
    repeat
      conv => whnf
      first
        | refine ⟨_, by assumption, ?_⟩
        | refine ⟨(Nat.le_of_ble_eq_true rfl), _, by assumption, ?_⟩
        | refine ⟨by kernel_rfl, ?_⟩
        | exact rfl
        | exact ⟨Nat.le_of_ble_eq_true rfl, rfl⟩
        | refine ⟨by decide, ?_⟩
  by_cases h10 : c = 9055
  · subst h10
    rw [decide_eq_true (show isOne 9055 by decide)]
    repeat
      conv => whnf
      first
        | refine ⟨_, by assumption, ?_⟩
        | refine ⟨(Nat.le_of_ble_eq_true rfl), _, by assumption, ?_⟩
        | refine ⟨by kernel_rfl, ?_⟩
        | exact rfl
        | exact ⟨Nat.le_of_ble_eq_true rfl, rfl⟩
        | refine ⟨by decide, ?_⟩
  by_cases h11 : c = 9675
  · subst h11
    rw [decide_eq_true (show isOne 9675 by decide)]
    repeat
      conv => whnf
      first
        | refine ⟨_, by assumption, ?_⟩
        | refine ⟨(Nat.le_of_ble_eq_true rfl), _, by assumption, ?_⟩
        | refine ⟨by kernel_rfl, ?_⟩
        | exact rfl
        | exact ⟨Nat.le_of_ble_eq_true rfl, rfl⟩
        | refine ⟨by decide, ?_⟩
  have e0 : (c == 43) = false := beq_false_of_ne h0
  have e1 : (c == 45) = false := beq_false_of_ne h1
  have e2 : (c == 215) = false := beq_false_of_ne h2
  have e3 : (c == 247) = false := beq_false_of_ne h3
  have e4 : (c == 8968) = false := beq_false_of_ne h4
  have e5 : (c == 8970) = false := beq_false_of_ne h5
  have e6 : (c == 124) = false := beq_false_of_ne h6
  have e7 : (c == 42) = false := beq_false_of_ne h7
  have e8 : (c == 33) = false := beq_false_of_ne h8
  have e9 : (c == 126) = false := beq_false_of_ne h9
  have e10 : (c == 9055) = false := beq_false_of_ne h10
  have e11 : (c == 9675) = false := beq_false_of_ne h11
  rw [decide_eq_false (show ¬ isOne c by unfold isOne; omega)]
  conv => whnf
  refine caseb (fun h => Bool.noConfusion ((e0).symm.trans h)) (fun _ => ?_)
  conv => whnf
  refine caseb (fun h => Bool.noConfusion ((e1).symm.trans h)) (fun _ => ?_)
  conv => whnf
  refine caseb (fun h => Bool.noConfusion ((e2).symm.trans h)) (fun _ => ?_)
  conv => whnf
  refine caseb (fun h => Bool.noConfusion ((e3).symm.trans h)) (fun _ => ?_)
  conv => whnf
  refine caseb (fun h => Bool.noConfusion ((e4).symm.trans h)) (fun _ => ?_)
  conv => whnf
  refine caseb (fun h => Bool.noConfusion ((e5).symm.trans h)) (fun _ => ?_)
  conv => whnf
  refine caseb (fun h => Bool.noConfusion ((e6).symm.trans h)) (fun _ => ?_)
  conv => whnf
  refine caseb (fun h => Bool.noConfusion ((e7).symm.trans h)) (fun _ => ?_)
  conv => whnf
  refine caseb (fun h => Bool.noConfusion ((e8).symm.trans h)) (fun _ => ?_)
  conv => whnf
  refine caseb (fun h => Bool.noConfusion ((e9).symm.trans h)) (fun _ => ?_)
  conv => whnf
  refine caseb (fun h => Bool.noConfusion ((e10).symm.trans h)) (fun _ => ?_)
  conv => whnf
  refine caseb (fun h => Bool.noConfusion ((e11).symm.trans h)) (fun _ => ?_)
  repeat
    conv => whnf
    first
      | refine ⟨_, by assumption, ?_⟩
      | refine ⟨(Nat.le_of_ble_eq_true rfl), _, by assumption, ?_⟩
      | refine ⟨by kernel_rfl, ?_⟩
      | exact rfl
      | exact ⟨Nat.le_of_ble_eq_true rfl, rfl⟩
      | refine ⟨by decide, ?_⟩
theorem SMHas_ok (c : Int) : AC Tryz.prog 64 [.val (.int .i32 c)] (.pure (.val (.bool (decide (isOne c))))) := by
  refine AC.of_body TTok Tryz.func64 rfl (enter_of Tryz.func64 (by kernel_rfl) (by kernel_rfl)) (noid1 (.val _)) (.val _) (Nat.le_of_ble_eq_true rfl) ?_
  by_cases h0 : c = 43
  · subst h0
    rw [decide_eq_true (show isOne 43 by decide)]
    repeat
      conv => whnf
      first
        | refine ⟨_, by assumption, ?_⟩
        | refine ⟨(Nat.le_of_ble_eq_true rfl), _, by assumption, ?_⟩
        | refine ⟨by kernel_rfl, ?_⟩
        | exact rfl
        | exact ⟨Nat.le_of_ble_eq_true rfl, rfl⟩
        | refine ⟨by decide, ?_⟩
  by_cases h1 : c = 45
  · subst h1
    rw [decide_eq_true (show isOne 45 by decide)]
    repeat
      conv => whnf
      first
        | refine ⟨_, by assumption, ?_⟩
        | refine ⟨(Nat.le_of_ble_eq_true rfl), _, by assumption, ?_⟩
        | refine ⟨by kernel_rfl, ?_⟩
        | exact rfl
        | exact ⟨Nat.le_of_ble_eq_true rfl, rfl⟩
        | refine ⟨by decide, ?_⟩
  by_cases h2 : c = 215
  · subst h2
    rw [decide_eq_true (show isOne 215 by decide)]
    repeat
      conv => whnf
      first
        | refine ⟨_, by assumption, ?_⟩
        | refine ⟨(Nat.le_of_ble_eq_true rfl), _, by assumption, ?_⟩
        | refine ⟨by kernel_rfl, ?_⟩
        | exact rfl
        | exact ⟨Nat.le_of_ble_eq_true rfl, rfl⟩
        | refine ⟨by decide, ?_⟩
  by_cases h3 : c = 247
  · subst h3
    rw [decide_eq_true (show isOne 247 by decide)]
    repeat
      conv => whnf
      first
        | refine ⟨_, by assumption, ?_⟩
        | refine ⟨(Nat.le_of_ble_eq_true rfl), _, by assumption, ?_⟩
        | refine ⟨by kernel_rfl, ?_⟩
        | exact rfl
        | exact ⟨Nat.le_of_ble_eq_true rfl, rfl⟩
        | refine ⟨by decide, ?_⟩
  by_cases h4 : c = 8968
  · subst h4
    rw [decide_eq_true (show isOne 8968 by decide)]
    repeat
      conv => whnf
      first
        | refine ⟨_, by assumption, ?_⟩
        | refine ⟨(Nat.le_of_ble_eq_true rfl), _, by assumption, ?_⟩
        | refine ⟨by kernel_rfl, ?_⟩
        | exact rfl
        | exact ⟨Nat.le_of_ble_eq_true rfl, rfl⟩
        | refine ⟨by decide, ?_⟩
  by_cases h5 : c = 8970
  · subst h5
    rw [decide_eq_true (show isOne 8970 by decide)]
    repeat
      conv => whnf
      first
        | refine ⟨_, by assumption, ?_⟩
        | refine ⟨(Nat.le_of_ble_eq_true rfl), _, by assumption, ?_⟩
        | refine ⟨by kernel_rfl, ?_⟩
        | exact rfl
        | exact ⟨Nat.le_of_ble_eq_true rfl, rfl⟩
        | refine ⟨by decide, ?_⟩
  by_cases h6 : c = 124
  · subst h6
    rw [decide_eq_true (show isOne 124 by decide)]
    repeat
      conv => whnf
      first
        | refine ⟨_, by assumption, ?_⟩
        | refine ⟨(Nat.le_of_ble_eq_true rfl), _, by assumption, ?_⟩
        | refine ⟨by kernel_rfl, ?_⟩
        | exact rfl
        | exact ⟨Nat.le_of_ble_eq_true rfl, rfl⟩
        | refine ⟨by decide, ?_⟩
  by_cases h7 : c = 42
  · subst h7
    rw [decide_eq_true (show isOne 42 by decide)]
    repeat
      conv => whnf
      first
        | refine ⟨_, by assumption, ?_⟩
        | refine ⟨(Nat.le_of_ble_eq_true rfl), _, by assumption, ?_⟩
        | refine ⟨by kernel_rfl, ?_⟩
        | exact rfl
        | exact ⟨Nat.le_of_ble_eq_true rfl, rfl⟩
        | refine ⟨by decide, ?_⟩
  by_cases h8 : c = 33
  · subst h8
    rw [decide_eq_true (show isOne 33 by decide)]
    repeat
      conv => whnf
      first
        | refine ⟨_, by assumption, ?_⟩
        | refine ⟨(Nat.le_of_ble_eq_true rfl), _, by assumption, ?_⟩
        | refine ⟨by kernel_rfl, ?_⟩
        | exact rfl
        | exact ⟨Nat.le_of_ble_eq_true rfl, rfl⟩
        | refine ⟨by decide, ?_⟩
  by_cases h9 : c = 126
  · subst h9
    rw [decide_eq_true (show isOne 126 by decide)]
    repeat
      conv => whnf
      first
        | refine ⟨_, by assumption, ?_⟩
        | refine ⟨(Nat.le_of_ble_eq_true rfl), _, by assumption, ?_⟩
        | refine ⟨by kernel_rfl, ?_⟩
        | exact rfl
        | exact ⟨Nat.le_of_ble_eq_true rfl, rfl⟩
        | refine ⟨by decide, ?_⟩
  by_cases h10 : c = 9055
  · subst h10
    rw [decide_eq_true (show isOne 9055 by decide)]
    repeat
      conv => whnf
      first
        | refine ⟨_, by assumption, ?_⟩
        | refine ⟨(Nat.le_of_ble_eq_true rfl), _, by assumption, ?_⟩
        | refine ⟨by kernel_rfl, ?_⟩
        | exact rfl
        | exact ⟨Nat.le_of_ble_eq_true rfl, rfl⟩
        | refine ⟨by decide, ?_⟩
  by_cases h11 : c = 9675
  · subst h11
    rw [decide_eq_true (show isOne 9675 by decide)]
    repeat
      conv => whnf
      first
        | refine ⟨_, by assumption, ?_⟩
        | refine ⟨(Nat.le_of_ble_eq_true rfl), _, by assumption, ?_⟩
        | refine ⟨by kernel_rfl, ?_⟩
        | exact rfl
        | exact ⟨Nat.le_of_ble_eq_true rfl, rfl⟩
        | refine ⟨by decide, ?_⟩
  have e0 : (c == 43) = false := beq_false_of_ne h0
  have e1 : (c == 45) = false := beq_false_of_ne h1
  have e2 : (c == 215) = false := beq_false_of_ne h2
  have e3 : (c == 247) = false := beq_false_of_ne h3
  have e4 : (c == 8968) = false := beq_false_of_ne h4
  have e5 : (c == 8970) = false := beq_false_of_ne h5
  have e6 : (c == 124) = false := beq_false_of_ne h6
  have e7 : (c == 42) = false := beq_false_of_ne h7
  have e8 : (c == 33) = false := beq_false_of_ne h8
  have e9 : (c == 126) = false := beq_false_of_ne h9
  have e10 : (c == 9055) = false := beq_false_of_ne h10
  have e11 : (c == 9675) = false := beq_false_of_ne h11
  rw [decide_eq_false (show ¬ isOne c by unfold isOne; omega)]
  conv => whnf
  refine caseb (fun h => Bool.noConfusion ((e0).symm.trans h)) (fun _ => ?_)
  conv => whnf
  refine caseb (fun h => Bool.noConfusion ((e1).symm.trans h)) (fun _ => ?_)
  conv => whnf
  refine caseb (fun h => Bool.noConfusion ((e2).symm.trans h)) (fun _ => ?_)
  conv => whnf
  refine caseb (fun h => Bool.noConfusion ((e3).symm.trans h)) (fun _ => ?_)
  conv => whnf
  refine caseb (fun h => Bool.noConfusion ((e4).symm.trans h)) (fun _ => ?_)
  conv => whnf
  refine caseb (fun h => Bool.noConfusion ((e5).symm.trans h)) (fun _ => ?_)
  conv => whnf
  refine caseb (fun h => Bool.noConfusion ((e6).symm.trans h)) (fun _ => ?_)
  conv => whnf
  refine caseb (fun h => Bool.noConfusion ((e7).symm.trans h)) (fun _ => ?_)
  conv => whnf
  refine caseb (fun h => Bool.noConfusion ((e8).symm.trans h)) (fun _ => ?_)
  conv => whnf
  refine caseb (fun h => Bool.noConfusion ((e9).symm.trans h)) (fun _ => ?_)
  conv => whnf
  refine caseb (fun h => Bool.noConfusion ((e10).symm.trans h)) (fun _ => ?_)
  conv => whnf
  exact valB e11

/-- A number, if it is of at most so many limbs. -/
def withQ (x : Rat) (most : Int) : Rat × Int := if most < (qLimbs x.num x.den : Nat) then (0, 26) else (x, 0)
theorem RZ22m {P : Program} {f : FuncId} {args : List AV} {e : Int} (h : AC P f args (.pure (.tup [RZ, .val (.int .i64 e)]))) : AC P f args (.pure (.tup [RA 0 0, .val (.int .i64 e)])) :=
  AC.le_res h (.tup2 RZ_le (.refl _)) (.tup _ (noid2 (RA_noid _ _) (.val _)))
theorem within_big (x : Rat) (i : Nat) (most : Int) (hi : dn i = x.den) (h : most < (qLimbs x.num x.den : Nat)) : AC Tryz.prog 104 [RA x.num i, .val (.int .i64 most)] (.pure (.tup [RZ, .val (.int .i64 26)])) := by
  have hL := QLimbs_ok x.num i
  rw [hi] at hL
  have f1 : decide (((qLimbs x.num x.den : Nat) : Int) > most) = true := decide_eq_true h
  refine AC.of_body TTok Tryz.func104 rfl (enter_of Tryz.func104 (by kernel_rfl) (by kernel_rfl)) (noid2 (RA_noid _ _) (.val _)) (.tup _ (noid2 RZ_noid (.val _))) (Nat.le_of_ble_eq_true rfl) ?_
  generalize ((qLimbs x.num x.den : Nat) : Int) = n at *
  unfold RA RZ at *
  conv => whnf
  refine ⟨_, hL, ?_⟩
  conv => whnf
  refine caseb (fun _ => ?_) (fun h => Bool.noConfusion ((f1).symm.trans h))
  repeat
    conv => whnf
    first
      | refine ⟨_, by assumption, ?_⟩
      | refine ⟨(Nat.le_of_ble_eq_true rfl), _, by assumption, ?_⟩
      | refine ⟨by kernel_rfl, ?_⟩
      | exact rfl
      | exact ⟨Nat.le_of_ble_eq_true rfl, rfl⟩
      | refine ⟨by decide, ?_⟩
theorem within_fit (x : Rat) (i : Nat) (most : Int) (hi : dn i = x.den) (h : ¬ most < (qLimbs x.num x.den : Nat)) : AC Tryz.prog 104 [RA x.num i, .val (.int .i64 most)] (.pure (.tup [RA x.num i, .val (.int .i64 0)])) := by
  have hL := QLimbs_ok x.num i
  rw [hi] at hL
  have f1 : decide (((qLimbs x.num x.den : Nat) : Int) > most) = false := decide_eq_false h
  refine AC.of_body TTok Tryz.func104 rfl (enter_of Tryz.func104 (by kernel_rfl) (by kernel_rfl)) (noid2 (RA_noid _ _) (.val _)) (.tup _ (noid2 (RA_noid _ _) (.val _))) (Nat.le_of_ble_eq_true rfl) ?_
  generalize ((qLimbs x.num x.den : Nat) : Int) = n at *
  unfold RA at *
  conv => whnf
  refine ⟨_, hL, ?_⟩
  conv => whnf
  refine caseb (fun h => Bool.noConfusion ((f1).symm.trans h)) (fun _ => ?_)
  repeat
    conv => whnf
    first
      | refine ⟨_, by assumption, ?_⟩
      | refine ⟨(Nat.le_of_ble_eq_true rfl), _, by assumption, ?_⟩
      | refine ⟨by kernel_rfl, ?_⟩
      | exact rfl
      | exact ⟨Nat.le_of_ble_eq_true rfl, rfl⟩
      | refine ⟨by decide, ?_⟩
theorem within_ok (x : Rat) (i : Nat) (most : Int) (hi : dn i = x.den) : ∃ d, dn d = (withQ x most).1.den ∧ AC Tryz.prog 104 [RA x.num i, .val (.int .i64 most)] (.pure (.tup [RA (withQ x most).1.num d, .val (.int .i64 (withQ x most).2)])) := by
  unfold withQ
  by_cases h : most < (qLimbs x.num x.den : Nat)
  · rw [if_pos h]
    exact ⟨0, rfl, RZ22m (within_big x i most hi h)⟩
  · rw [if_neg h]
    exact ⟨i, hi, within_fit x i most hi h⟩
theorem Swithin_ok (x : Rat) (most : Int) (lx : Sz x 1000) : AC Tryz.prog 113 [RN x.num x.den, .val (.int .i64 most)] (.pure (.tup [RN (withQ x most).1.num (withQ x most).1.den, .val (.int .i64 (withQ x most).2)])) := by
  have hL := SLimbs_ok x.num x.den lx.1 lx.2
  have hZ := SZero_ok
  unfold withQ
  by_cases h : most < (qLimbs x.num x.den : Nat)
  · rw [if_pos h]
    have f1 : decide (((qLimbs x.num x.den : Nat) : Int) > most) = true := decide_eq_true h
    show AC Tryz.prog 113 _ (.pure (.tup [RN 0 1, .val (.int .i64 26)]))
    refine AC.of_body TTok Tryz.func113 rfl (enter_of Tryz.func113 (by kernel_rfl) (by kernel_rfl)) (noid2 (RN_noid _ _) (.val _)) (.tup _ (noid2 (RN_noid _ _) (.val _))) (Nat.le_of_ble_eq_true rfl) ?_
    generalize ((qLimbs x.num x.den : Nat) : Int) = n at *
    unfold RN at *
    conv => whnf
    refine ⟨_, hL, ?_⟩
    conv => whnf
    refine caseb (fun _ => ?_) (fun h => Bool.noConfusion ((f1).symm.trans h))
    repeat
      conv => whnf
      first
        | refine ⟨_, by assumption, ?_⟩
        | refine ⟨(Nat.le_of_ble_eq_true rfl), _, by assumption, ?_⟩
        | refine ⟨by kernel_rfl, ?_⟩
        | exact rfl
        | exact ⟨Nat.le_of_ble_eq_true rfl, rfl⟩
        | refine ⟨by decide, ?_⟩
  · rw [if_neg h]
    have f1 : decide (((qLimbs x.num x.den : Nat) : Int) > most) = false := decide_eq_false h
    refine AC.of_body TTok Tryz.func113 rfl (enter_of Tryz.func113 (by kernel_rfl) (by kernel_rfl)) (noid2 (RN_noid _ _) (.val _)) (.tup _ (noid2 (RN_noid _ _) (.val _))) (Nat.le_of_ble_eq_true rfl) ?_
    generalize ((qLimbs x.num x.den : Nat) : Int) = n at *
    unfold RN at *
    conv => whnf
    refine ⟨_, hL, ?_⟩
    conv => whnf
    refine caseb (fun h => Bool.noConfusion ((f1).symm.trans h)) (fun _ => ?_)
    repeat
      conv => whnf
      first
        | refine ⟨_, by assumption, ?_⟩
        | refine ⟨(Nat.le_of_ble_eq_true rfl), _, by assumption, ?_⟩
        | refine ⟨by kernel_rfl, ?_⟩
        | exact rfl
        | exact ⟨Nat.le_of_ble_eq_true rfl, rfl⟩
        | refine ⟨by decide, ?_⟩

/-- The truth turned about. -/
def notQ (x : Rat) : Rat × Int := if x = 0 then (1, 0) else if x = 1 then (0, 0) else (0, 22)
theorem not_ok (x : Rat) (i : Nat) (hi : dn i = x.den) : ∃ d, dn d = (notQ x).1.den ∧ AC Tryz.prog 112 [RA x.num i] (.pure (.tup [RA (notQ x).1.num d, .val (.int .i64 (notQ x).2)])) := by
  have hI := RInt_ok x.num i
  have F0 := RatFrom_ok 0 (by decide)
  have F1 := RatFrom_ok 1 (by decide)
  rw [hi] at hI
  unfold notQ
  by_cases h0 : x = 0
  · subst h0
    rw [if_pos ⟨rfl, by decide⟩, decide_eq_true (show fitQ (0 : Rat).num (0 : Rat).den from ⟨rfl, by decide⟩)] at hI
    rw [if_pos rfl]
    refine ⟨1, rfl, ?_⟩
    show AC Tryz.prog 112 _ (.pure (.tup [RA 1 1, .val (.int .i64 0)]))
    refine AC.of_body TTok Tryz.func112 rfl (enter_of Tryz.func112 (by kernel_rfl) (by kernel_rfl)) (noid1 (RA_noid _ _)) (.tup _ (noid2 (RA_noid _ _) (.val _))) (Nat.le_of_ble_eq_true rfl) ?_
    rw [show (0 : Rat).num = 0 from rfl] at hI ⊢
    unfold RA at *
    repeat
      conv => whnf
      first
        | refine ⟨_, by assumption, ?_⟩
        | refine ⟨(Nat.le_of_ble_eq_true rfl), _, by assumption, ?_⟩
        | refine ⟨by kernel_rfl, ?_⟩
        | exact rfl
        | exact ⟨Nat.le_of_ble_eq_true rfl, rfl⟩
        | refine ⟨by decide, ?_⟩
  rw [if_neg h0]
  by_cases h1 : x = 1
  · subst h1
    rw [if_pos ⟨rfl, by decide⟩, decide_eq_true (show fitQ (1 : Rat).num (1 : Rat).den from ⟨rfl, by decide⟩)] at hI
    rw [if_pos rfl]
    refine ⟨1, rfl, ?_⟩
    show AC Tryz.prog 112 _ (.pure (.tup [RA 0 1, .val (.int .i64 0)]))
    refine AC.of_body TTok Tryz.func112 rfl (enter_of Tryz.func112 (by kernel_rfl) (by kernel_rfl)) (noid1 (RA_noid _ _)) (.tup _ (noid2 (RA_noid _ _) (.val _))) (Nat.le_of_ble_eq_true rfl) ?_
    rw [show (1 : Rat).num = 1 from rfl] at hI ⊢
    unfold RA at *
    repeat
      conv => whnf
      first
        | refine ⟨_, by assumption, ?_⟩
        | refine ⟨(Nat.le_of_ble_eq_true rfl), _, by assumption, ?_⟩
        | refine ⟨by kernel_rfl, ?_⟩
        | exact rfl
        | exact ⟨Nat.le_of_ble_eq_true rfl, rfl⟩
        | refine ⟨by decide, ?_⟩
  rw [if_neg h1]
  refine ⟨0, rfl, RZ22m ?_⟩
  refine AC.of_body TTok Tryz.func112 rfl (enter_of Tryz.func112 (by kernel_rfl) (by kernel_rfl)) (noid1 (RA_noid _ _)) (.tup _ (noid2 RZ_noid (.val _))) (Nat.le_of_ble_eq_true rfl) ?_
  by_cases hf : fitQ x.num x.den
  · rw [if_pos hf, decide_eq_true hf] at hI
    have f0 : (x.num != 0) = true := bne_iff_ne.2 (num_ne h0)
    have f1 : (x.num != 1) = true := bne_iff_ne.2 (fun e => h1 (Rat.ext e hf.1))
    generalize x.num = n at *
    unfold RA RZ at *
    conv => whnf
    refine ⟨_, hI, ?_⟩
    conv => whnf
    refine caseb (fun _ => ?_) (fun h => Bool.noConfusion ((f0).symm.trans h))
    conv => whnf
    refine caseb (fun _ => ?_) (fun h => Bool.noConfusion ((f1).symm.trans h))
    repeat
      conv => whnf
      first
        | refine ⟨_, by assumption, ?_⟩
        | refine ⟨(Nat.le_of_ble_eq_true rfl), _, by assumption, ?_⟩
        | refine ⟨by kernel_rfl, ?_⟩
        | exact rfl
        | exact ⟨Nat.le_of_ble_eq_true rfl, rfl⟩
        | refine ⟨by decide, ?_⟩
  · rw [if_neg hf, decide_eq_false hf] at hI
    generalize x.num = n at *
    unfold RA RZ at *
    repeat
      conv => whnf
      first
        | refine ⟨_, by assumption, ?_⟩
        | refine ⟨(Nat.le_of_ble_eq_true rfl), _, by assumption, ?_⟩
        | refine ⟨by kernel_rfl, ?_⟩
        | exact rfl
        | exact ⟨Nat.le_of_ble_eq_true rfl, rfl⟩
        | refine ⟨by decide, ?_⟩

end Go.Proofs.YtclamnmpleiakaaGreat

/- Functions of one number: the product of all whole numbers up to one. -/
set_option linter.unusedVariables false
namespace Go.Proofs.YtclamnmpleiakaaGreat
open Go Go.AL NM

def fac : Nat → Nat
  | 0 => 1
  | i + 1 => fac i * (i + 1)
theorem fac_pos : ∀ i, 1 ≤ fac i
  | 0 => Nat.le_refl _
  | i + 1 => Nat.mul_le_mul (fac_pos i) (show 1 ≤ i + 1 by omega)
theorem fac_mono1 (i : Nat) : fac i ≤ fac (i + 1) := Nat.le_mul_of_pos_right _ (by omega)
theorem fac_mono {i j : Nat} (h : i ≤ j) : fac i ≤ fac j := by
  induction h with
  | refl => exact Nat.le_refl _
  | step _ ih => exact Nat.le_trans ih (fac_mono1 _)
theorem fac_big : ∀ i, 2 ^ i ≤ fac (i + 1)
  | 0 => Nat.le_refl _
  | i + 1 => by
    have ih := fac_big i
    rw [show fac (i + 1 + 1) = fac (i + 1) * (i + 1 + 1) from rfl, Nat.pow_succ]
    exact Nat.mul_le_mul ih (by omega)
theorem fac_bound {i : Nat} (hl : (limbs (fac i)).length ≤ 200) : i ≤ 6401 := by
  cases i with
  | zero => omega
  | succ i =>
    have h1 := fac_big i
    have h2 := val_lt (limbs_lim (fac (i + 1)))
    rw [val_limbs, pow32] at h2
    have h3 : 2 ^ i < 2 ^ (32 * (limbs (fac (i + 1))).length) := Nat.lt_of_le_of_lt h1 h2
    have := (Nat.pow_lt_pow_iff_right (by decide : 1 < 2)).1 h3
    omega
theorem fac_limbs (n : Nat) : qLimbs (((fac n : Nat) : Int) : Rat).num (((fac n : Nat) : Int) : Rat).den = (limbs (fac n)).length := by
  show max (limbs (((fac n : Nat) : Int)).natAbs).length (limbs 1).length = _
  rw [Int.natAbs_natCast]
  have := limbs_len_mono (fac_pos n)
  omega

def natQm (q : Rat) : Prop := q.den = 1 ∧ 0 ≤ q.num
instance (q : Rat) : Decidable (natQm q) := inferInstanceAs (Decidable (_ ∧ _))
/-- The product of all whole numbers from 1 up to a number. -/
def facQ (x : Rat) (most : Int) : Rat × Int := if natQm x then withQ (((fac x.num.toNat : Nat) : Int) : Rat) most else (0, 22)
theorem facQ_is {x : Rat} {k : Nat} (hd : x.den = 1) (hk : x.num = (k : Int)) (most : Int) : facQ x most = withQ (((fac k : Nat) : Int) : Rat) most := by
  unfold facQ
  rw [if_pos ⟨hd, by omega⟩, show x.num.toNat = k by omega]
theorem with_not {k j : Nat} {most : Int} (hjk : j ≤ k) (h : most < ((limbs (fac j)).length : Int)) : withQ (((fac k : Nat) : Int) : Rat) most = (0, 26) := by
  unfold withQ
  rw [if_pos]
  rw [fac_limbs]
  have := limbs_len_mono (fac_mono hjk)
  omega
theorem sigW_pos {n : Int} (h : 0 ≤ n) : decide (sigW n < 0) = false := decide_eq_false (by unfold sigW; split <;> (try split) <;> omega)
theorem sigW_neg {n : Int} (h : n < 0) : decide (sigW n < 0) = true := decide_eq_true (by unfold sigW; split <;> (try split) <;> omega)

theorem Fac_none (x : Rat) (i : Nat) (most : Int) (hi : dn i = x.den) (h : ¬ natQm x) : AC Tryz.prog 111 [RA x.num i, .val (.int .i64 most)] (.pure (.tup [RA 0 0, .val (.int .i64 22)])) := by
  refine RZ22m ?_
  have hW := IsWhole_ok x.num i
  have hS := RaSign_ok x.num i
  rw [hi] at hW
  refine AC.of_body TTok Tryz.func111 rfl (enter_of Tryz.func111 (by kernel_rfl) (by kernel_rfl)) (noid2 (RA_noid _ _) (.val _)) (.tup _ (noid2 RZ_noid (.val _))) (Nat.le_of_ble_eq_true rfl) ?_
  by_cases hd : x.den = 1
  · rw [decide_eq_true hd] at hW
    have f1 := sigW_neg (show x.num < 0 from Decidable.of_not_not (fun hn => h ⟨hd, by omega⟩))
    generalize sigW x.num = s at *
    unfold RA RZ at *
    conv => whnf
    refine ⟨_, hW, ?_⟩
    conv => whnf
    refine ⟨_, hS, ?_⟩
    conv => whnf
    refine caseb (fun _ => ?_) (fun h => Bool.noConfusion ((f1).symm.trans h))
    repeat
      conv => whnf
      first
        | refine ⟨_, by assumption, ?_⟩
        | refine ⟨(Nat.le_of_ble_eq_true rfl), _, by assumption, ?_⟩
        | refine ⟨by kernel_rfl, ?_⟩
        | exact rfl
        | exact ⟨Nat.le_of_ble_eq_true rfl, rfl⟩
        | refine ⟨by decide, ?_⟩
  · rw [decide_eq_false hd] at hW
    unfold RA RZ at *
    repeat
      conv => whnf
      first
        | refine ⟨_, by assumption, ?_⟩
        | refine ⟨(Nat.le_of_ble_eq_true rfl), _, by assumption, ?_⟩
        | refine ⟨by kernel_rfl, ?_⟩
        | exact rfl
        | exact ⟨Nat.le_of_ble_eq_true rfl, rfl⟩
        | refine ⟨by decide, ?_⟩
theorem wrap_succ {j : Nat} (h : j ≤ 7000) : IntKind.u64.wrap ((j : Int) + 1) = ((j + 1 : Nat) : Int) := by
  simp only [IntKind.wrap_u64]
  omega
theorem Fac_gen (x : Rat) (i : Nat) (most : Int) (hi : dn i = 1) (hx : x.den = 1) (hm : most ≤ 200) (k : Nat) (hk : x.num = (k : Int)) (res : AV) (hno : NoId res)
    (r1 : most < ((limbs (fac k)).length : Int) → AV.tup [RZ, .val (.int .i64 26)] = res)
    (r2 : ¬ most < ((limbs (fac k)).length : Int) → AV.tup [RA ((fac k : Nat) : Int) 1, .val (.int .i64 0)] = res) :
    AC Tryz.prog 111 [RA x.num i, .val (.int .i64 most)] (.pure res) := by
  have hW := IsWhole_ok x.num i
  rw [hi, decide_eq_true rfl] at hW
  have hS := RaSign_ok x.num i
  have fS := sigW_pos (show 0 ≤ x.num by omega)
  have hI := RInt_ok x.num i
  rw [hi] at hI
  obtain ⟨v, ok, hI, hv⟩ : ∃ v ok, AC Tryz.prog 69 [RA x.num i] (.pure (.tup [.val (.int .i64 v), .val (.bool ok)])) ∧ ((ok = true ∧ v = (k : Int)) ∨ (ok = false ∧ 6500 < k)) := by
    by_cases hf : fit x.num
    · rw [if_pos ⟨rfl, hf⟩, decide_eq_true (show fitQ x.num 1 from ⟨rfl, hf⟩)] at hI
      exact ⟨_, _, hI, .inl ⟨rfl, hk⟩⟩
    · rw [if_neg (fun h => hf h.2), decide_eq_false (show ¬ fitQ x.num 1 from fun h => hf h.2)] at hI
      exact ⟨_, _, hI, .inr ⟨rfl, by unfold fit at hf; omega⟩⟩
  have hO1 := Of_ok 1 (by decide)
  have hOf := WOf_ok false (fac k)
  rw [show sgn false (fac k) = ((fac k : Nat) : Int) from rfl] at hOf
  have hWh := Whole_ok ((fac k : Nat) : Int)
  have hB := within_big (((fac k : Nat) : Int) : Rat) 1 most rfl
  have hF := within_fit (((fac k : Nat) : Int) : Rat) 1 most rfl
  rw [fac_limbs, show ((((fac k : Nat) : Int) : Rat)).num = ((fac k : Nat) : Int) from rfl] at hB hF
  refine AC.of_body TTok Tryz.func111 rfl (enter_of Tryz.func111 (by kernel_rfl) (by kernel_rfl)) (noid2 (RA_noid _ _) (.val _)) hno (Nat.le_of_ble_eq_true rfl) ?_
  clear hk hx
  generalize sigW x.num = sg at *
  generalize x.num = n at *
  unfold RA RZ WI natA at *
  conv => whnf
  refine ⟨_, hW, ?_⟩
  conv => whnf
  refine ⟨_, hS, ?_⟩
  conv => whnf
  refine caseb (fun h => Bool.noConfusion ((fS).symm.trans h)) (fun _ => ?_)
  conv => whnf
  refine ⟨_, hO1, ?_⟩
  conv => whnf
  refine ⟨_, hI, ?_⟩
  conv => whnf
  refine SW.loopM TTok (fun j : Nat => [(1, .val (.int .i64 most)), (4, .lp 8 0), (6, .lp 96 0), (7, .val (.int .i64 v)), (8, .val (.bool ok)), (9, .val (.int .i64 ((j : Int) + 1)))])
    (fun j => [(8, .cells 3 [[.sl 0 [] true, .val (.bool false), .sl 0 [] true]]), (96, .cells 1 [[.sl 1 (irows .u32 (limbs (fac j))) false]])]) 176 51 rfl (fun j => 6500 - j)
    (fun j => j ≤ k ∧ (j = 0 ∨ ((limbs (fac j)).length : Int) ≤ most)) 0 [] ⟨Nat.zero_le _, .inl rfl⟩
    ⟨⟨rfl, rfl⟩, ⟨rfl, rfl⟩, ⟨rfl, rfl⟩, ⟨rfl, rfl⟩, ⟨rfl, rfl⟩, ⟨rfl, rfl⟩, trivial⟩ ⟨⟨rfl, .inr ⟨rfl, rfl⟩⟩, ⟨rfl, .inr ⟨rfl, rfl⟩⟩, trivial⟩ rfl ?_
  intro j hJ
  have hj1 : j ≤ k := hJ.1
  have hj2 : j = 0 ∨ ((limbs (fac j)).length : Int) ≤ most := hJ.2
  clear hJ
  have lc : (limbs (fac j)).length ≤ 200 := by
    rcases hj2 with h | h
    · subst h; exact Nat.le_trans (limbs_small (n := 1) (by decide)) (by decide)
    · omega
  have hjb := fac_bound lc
  have lj : (limbs (j + 1)).length ≤ 1 := limbs_small (by omega)
  have hOj := Of_ok (j + 1) (by omega)
  rw [← wrap_succ (show j ≤ 7000 by omega)] at hOj
  have hMu := Mul_ok (fac j) (j + 1) (by omega)
  rw [show fac j * (j + 1) = fac (j + 1) from rfl] at hMu
  have hLim := Limbs_ok (fac (j + 1))
  clear lc lj
  unfold natA at *
  rcases hv with ⟨rfl, rfl⟩ | ⟨rfl, hbig⟩
  · conv => whnf
    refine caseb (fun h4 => ?_) (fun h4 => ?_)
    · have h4' : (j : Int) + 1 ≤ (k : Int) := of_decide_eq_true h4
      conv => whnf
      refine ⟨_, hOj, ?_⟩
      conv => whnf
      refine ⟨_, hMu, ?_⟩
      conv => whnf
      refine ⟨by kernel_rfl, ?_⟩
      conv => whnf
      refine ⟨_, hLim, ?_⟩
      conv => whnf
      refine caseb (fun h5 => ?_) (fun h5 => ?_)
      · have h5' : ((limbs (fac (j + 1))).length : Int) > most := of_decide_eq_true h5
        have hmo := limbs_len_mono (fac_mono (show j + 1 ≤ k by omega))
        conv => whnf
        exact r1 (by omega)
      · have h5' : ¬ ((limbs (fac (j + 1))).length : Int) > most := of_decide_eq_false h5
        conv => whnf
        refine ⟨j + 1, [], (by show 6500 - (j + 1) < 6500 - j; omega), ⟨(by show j + 1 ≤ k; omega), .inr (by show ((limbs (fac (j + 1))).length : Int) ≤ most; omega)⟩, ⟨⟨rfl, rfl⟩, ⟨rfl, rfl⟩, ⟨rfl, rfl⟩, ⟨rfl, rfl⟩, ⟨rfl, rfl⟩, ⟨valI ?_, rfl⟩, trivial⟩, ⟨⟨rfl, .inr ⟨rfl, rfl⟩⟩, ⟨rfl, .inr ⟨rfl, rfl⟩⟩, trivial⟩, rfl⟩
        show IntKind.i64.wrap ((j : Int) + 1 + 1) = ((j + 1 : Nat) : Int) + 1
        rw [IntWalk.i64_in _ (by omega)]; omega
    · have h4' : ¬ (j : Int) + 1 ≤ (k : Int) := of_decide_eq_false h4
      have hjk : j = k := by omega
      subst hjk
      by_cases h6 : most < ((limbs (fac j)).length : Int)
      · have hB := hB h6
        conv => whnf
        refine ⟨_, hOf, ?_⟩
        conv => whnf
        refine ⟨_, hWh, ?_⟩
        conv => whnf
        refine ⟨_, hB, ?_⟩
        conv => whnf
        exact r1 h6
      · have hF := hF h6
        conv => whnf
        refine ⟨_, hOf, ?_⟩
        conv => whnf
        refine ⟨_, hWh, ?_⟩
        conv => whnf
        refine ⟨_, hF, ?_⟩
        conv => whnf
        exact r2 h6
  · have h4' : (j : Int) + 1 ≤ (k : Int) := by omega
    conv => whnf
    refine ⟨_, hOj, ?_⟩
    conv => whnf
    refine ⟨_, hMu, ?_⟩
    conv => whnf
    refine ⟨by kernel_rfl, ?_⟩
    conv => whnf
    refine ⟨_, hLim, ?_⟩
    conv => whnf
    refine caseb (fun h5 => ?_) (fun h5 => ?_)
    · have h5' : ((limbs (fac (j + 1))).length : Int) > most := of_decide_eq_true h5
      have hmo := limbs_len_mono (fac_mono (show j + 1 ≤ k by omega))
      conv => whnf
      exact r1 (by omega)
    · have h5' : ¬ ((limbs (fac (j + 1))).length : Int) > most := of_decide_eq_false h5
      conv => whnf
      refine ⟨j + 1, [], (by show 6500 - (j + 1) < 6500 - j; omega), ⟨(by show j + 1 ≤ k; omega), .inr (by show ((limbs (fac (j + 1))).length : Int) ≤ most; omega)⟩, ⟨⟨rfl, rfl⟩, ⟨rfl, rfl⟩, ⟨rfl, rfl⟩, ⟨rfl, rfl⟩, ⟨rfl, rfl⟩, ⟨valI ?_, rfl⟩, trivial⟩, ⟨⟨rfl, .inr ⟨rfl, rfl⟩⟩, ⟨rfl, .inr ⟨rfl, rfl⟩⟩, trivial⟩, rfl⟩
      show IntKind.i64.wrap ((j : Int) + 1 + 1) = ((j + 1 : Nat) : Int) + 1
      rw [IntWalk.i64_in _ (by omega)]; omega

theorem Fac_ok (x : Rat) (i : Nat) (most : Int) (hi : dn i = x.den) (hm : most ≤ 200) : ∃ d, dn d = (facQ x most).1.den ∧ AC Tryz.prog 111 [RA x.num i, .val (.int .i64 most)] (.pure (.tup [RA (facQ x most).1.num d, .val (.int .i64 (facQ x most).2)])) := by
  by_cases hn : natQm x
  · obtain ⟨k, hk⟩ : ∃ k : Nat, x.num = (k : Int) := ⟨x.num.toNat, by have := hn.2; omega⟩
    rw [facQ_is hn.1 hk]
    have hq := fac_limbs k
    unfold withQ
    rw [hq]
    have hi := hi.trans hn.1
    by_cases h : most < ((limbs (fac k)).length : Int)
    · rw [if_pos h]
      exact ⟨0, rfl, RZ22m (Fac_gen x i most hi hn.1 hm k hk _ (.tup _ (noid2 RZ_noid (.val _))) (fun _ => rfl) (fun h' => absurd h h'))⟩
    · rw [if_neg h]
      exact ⟨1, rfl, Fac_gen x i most hi hn.1 hm k hk _ (.tup _ (noid2 (RA_noid _ _) (.val _))) (fun h' => absurd h' h) (fun _ => rfl)⟩
  · rw [show facQ x most = (0, 22) from if_neg hn]
    exact ⟨0, rfl, Fac_none x i most hi hn⟩

theorem decS_eqm (n m : Nat) : ((decS n).toList == (decS m).toList) = decide (n = m) :=
  (decS_is n (decL m) (fun x hx => by have := decL_byt m x hx; omega)).trans (decide_eq_decide.2 ⟨fun h => decL_inj h, fun h => by rw [h]⟩)
theorem SFac_ok (x : Rat) (most : Int) (hm : most ≤ 200) (hx : x.den = 1) (k : Nat) (hk : x.num = (k : Int)) (lk : Sz x 200) : AC Tryz.prog 120 [RN x.num x.den, .val (.int .i64 most)] (.pure (.tup [RN (withQ (((fac k : Nat) : Int) : Rat) most).1.num (withQ (((fac k : Nat) : Int) : Rat) most).1.den, .val (.int .i64 (withQ (((fac k : Nat) : Int) : Rat) most).2)])) := by
  have hZ := SZero_ok
  have hk' : x.num.natAbs = k := by omega
  have hW := Swithin_ok (((fac k : Nat) : Int) : Rat) most
  rw [show (((fac k : Nat) : Int) : Rat).num = ((fac k : Nat) : Int) from rfl, show (((fac k : Nat) : Int) : Rat).den = 1 from rfl] at hW
  obtain ⟨q, e, hr⟩ : ∃ q e, withQ (((fac k : Nat) : Int) : Rat) most = (q, e) := ⟨_, _, rfl⟩
  rw [hr] at hW ⊢
  simp only at hW ⊢
  have r1 : ∀ j, j ≤ k → most < ((limbs (fac j)).length : Int) → AV.tup [RN 0 1, .val (.int .i64 26)] = AV.tup [RN q.num q.den, .val (.int .i64 e)] := fun j hj h => by
    have := with_not hj h
    rw [hr] at this
    obtain ⟨rfl, rfl⟩ := Prod.mk.inj this
    rfl
  have r2 : (limbs (fac k)).length ≤ 200 → AC Tryz.prog 113 [RN ((fac k : Nat) : Int) 1, .val (.int .i64 most)] (.pure (.tup [RN q.num q.den, .val (.int .i64 e)])) := fun h =>
    hW (Sz_int (by decide) (by rw [Int.natAbs_natCast]; omega))
  have e2 : RN ((fac k : Nat) : Int) 1 = .agg [.val (.bool false), .val (.string (decS (fac k))), .val (.string { data := #[49] })] := by
    unfold RN
    rw [decS_one, decide_eq_false (show ¬ ((fac k : Nat) : Int) < 0 by omega), Int.natAbs_natCast]
  rw [e2] at r2
  clear hr e2 hW
  have lk := lk.1
  rw [hk'] at lk
  obtain ⟨z, hz⟩ : ∃ z : Nat → Int, ∀ j, z j = (j : Int) := ⟨_, fun j => rfl⟩
  refine AC.of_body TTok Tryz.func120 rfl (enter_of Tryz.func120 (by kernel_rfl) (by kernel_rfl)) (noid2 (RN_noid _ _) (.val _)) (.tup _ (noid2 (RN_noid _ _) (.val _))) (Nat.le_of_ble_eq_true rfl) ?_
  generalize q.num = qn at *
  generalize q.den = qd at *
  unfold RN at *
  rw [hk']
  conv => whnf
  refine SW.loopM TTok (fun j : Nat => [(1, .val (.int .i64 most)), (2, .lp 0 0), (4, .lp 8 0), (6, .val (.string (decS (fac j)))), (7, .val (.string (decS j))), (8, .val (.int .i64 (z j)))])
    (fun j => [(0, .cells 3 [[.val (.bool (decide (x.num < 0))), .val (.string (decS k)), .val (.string (decS x.den))]]), (8, .cells 3 [[.val (.bool false), .val (.string ByteArray.empty), .val (.string ByteArray.empty)]])]) 48 35 rfl (fun j => 6500 - j)
    (fun j => j ≤ k ∧ (j = 0 ∨ ((limbs (fac j)).length : Int) ≤ most)) 0 [] ⟨Nat.zero_le _, .inl rfl⟩
    ⟨⟨rfl, rfl⟩, ⟨rfl, rfl⟩, ⟨rfl, rfl⟩, ⟨strE decS_one.symm, rfl⟩, ⟨strE decS_zero.symm, rfl⟩, ⟨valI (hz 0).symm, rfl⟩, trivial⟩ ⟨⟨rfl, .inr ⟨rfl, rfl⟩⟩, ⟨rfl, .inr ⟨rfl, rfl⟩⟩, trivial⟩ rfl ?_
  intro j hJ
  have hj1 : j ≤ k := hJ.1
  have hj2 : j = 0 ∨ ((limbs (fac j)).length : Int) ≤ most := hJ.2
  clear hJ
  have lc : (limbs (fac j)).length ≤ 200 := by
    rcases hj2 with h | h
    · subst h; exact Nat.le_trans (limbs_small (n := 1) (by decide)) (by decide)
    · omega
  have hjb := fac_bound lc
  have fn : decide (z j < 100000) = true := decide_eq_true (by rw [hz]; omega)
  have ek := decS_eqm j k
  by_cases hjk : j = k
  · rw [decide_eq_true hjk] at ek
    have fk : (!((decS j).toList == (decS k).toList)) = false := by rw [ek]; rfl
    have hP := r2 (by rw [← hjk]; exact lc)
    rw [← hjk] at hP
    conv => whnf
    refine caseb (fun _ => ?_) (fun h => Bool.noConfusion ((fn).symm.trans h))
    conv => whnf
    refine caseb (fun h => Bool.noConfusion ((fk).symm.trans h)) (fun _ => ?_)
    conv => whnf
    refine ⟨_, hP, ?_⟩
    conv => whnf
    exact rfl
  · rw [decide_eq_false hjk] at ek
    have fk : (!((decS j).toList == (decS k).toList)) = true := by rw [ek]; rfl
    have lj1 := limbs_small (n := j + 1) (by omega)
    have lj := limbs_small (n := j) (by omega)
    have dj := decL_le j
    have dj1 := decL_le (j + 1)
    have d1 := decL_le 1
    have l1' := limbs_small (n := 1) (by decide)
    have dc := decL_le (fac j)
    have lcm := limbs_mul (fac j) (j + 1)
    have hA1 := RAdd_ok j 1 (by omega)
    rw [decS_one] at hA1
    have hM := RMul_ok (fac j) (j + 1) (by omega)
    rw [show fac j * (j + 1) = fac (j + 1) from rfl] at hM lcm
    have hble := blen_limbs' (fac (j + 1))
    have dcs := decL_le (fac (j + 1))
    have hLi := RLimbs_ok (fac (j + 1)) (by omega) (by omega)
    conv => whnf
    refine caseb (fun _ => ?_) (fun h => Bool.noConfusion ((fn).symm.trans h))
    conv => whnf
    refine caseb (fun _ => ?_) (fun h => Bool.noConfusion ((fk).symm.trans h))
    conv => whnf
    refine ⟨_, hA1, ?_⟩
    conv => whnf
    refine ⟨_, hM, ?_⟩
    conv => whnf
    refine ⟨_, hLi, ?_⟩
    conv => whnf
    refine caseb (fun h5 => ?_) (fun h5 => ?_)
    · have h5' : ((limbs (fac (j + 1))).length : Int) > most := of_decide_eq_true h5
      conv => whnf
      refine ⟨_, hZ, ?_⟩
      conv => whnf
      exact r1 (j + 1) (by omega) h5'
    · have h5' : ¬ ((limbs (fac (j + 1))).length : Int) > most := of_decide_eq_false h5
      conv => whnf
      refine ⟨j + 1, [], (by show 6500 - (j + 1) < 6500 - j; omega), ⟨(by show j + 1 ≤ k; omega), .inr (by show ((limbs (fac (j + 1))).length : Int) ≤ most; omega)⟩, ⟨⟨rfl, rfl⟩, ⟨rfl, rfl⟩, ⟨rfl, rfl⟩, ⟨rfl, rfl⟩, ⟨rfl, rfl⟩, ⟨valI ?_, rfl⟩, trivial⟩, ⟨⟨rfl, .inr ⟨rfl, rfl⟩⟩, ⟨rfl, .inr ⟨rfl, rfl⟩⟩, trivial⟩, rfl⟩
      show IntKind.i64.wrap (z j + 1) = z (j + 1)
      rw [hz, hz, IntWalk.i64_in _ (by omega)]; omega

end Go.Proofs.YtclamnmpleiakaaGreat

/- Functions of one number: all of them. -/
set_option linter.unusedVariables false
namespace Go.Proofs.YtclamnmpleiakaaGreat
open Go Go.AL NM

/-- What a function makes of one number. -/
def monoQ (c : Int) (x : Rat) (most : Int) : Rat × Int :=
  if c = 43 then withQ x most
  else if c = 45 then withQ (-x) most
  else if c = 215 then withQ ((sigW x.num : Int) : Rat) most
  else if c = 247 then (if x = 0 then (0, 22) else withQ (1 / x) most)
  else if c = 8968 then withQ ((x.ceil : Int) : Rat) most
  else if c = 8970 then withQ ((x.floor : Int) : Rat) most
  else if c = 124 then withQ (if x.num < 0 then -x else x) most
  else if c = 33 then facQ x most
  else if c = 126 then notQ x
  else if isOne c then (0, 22) else (0, 20)
theorem inv_sgn (q : Rat) : decide ((1 / q).num < 0) = decide (q.num < 0) := by
  have h : 1 / q = Rat.divInt (q.den : Int) q.num := by
    rw [← q_div, show (1 : Rat).num = 1 from rfl, show (1 : Rat).den = 1 from rfl, Int.one_mul, Int.natCast_one, Int.one_mul]
  by_cases h0 : q.num = 0
  · rw [h, h0, Rat.divInt_zero]; rfl
  · rw [h, sgn_num _ _ h0, sgn_neg]
    have hd := q.den_nz
    have hg : ¬ (q.den : Int).natAbs / Nat.gcd (q.den : Int).natAbs q.num.natAbs = 0 := by
      rw [Int.natAbs_natCast]
      have := Nat.gcd_le_left q.num.natAbs (Nat.pos_of_ne_zero hd)
      have := Nat.div_pos this (Nat.gcd_pos_of_pos_left _ (Nat.pos_of_ne_zero hd))
      omega
    rw [decide_eq_false hg, decide_eq_false (show ¬ (q.den : Int) < 0 by omega)]
    cases decide (q.num < 0) <;> rfl
theorem sig_small (n : Int) : -9223372036854775808 ≤ sigW n ∧ sigW n < 9223372036854775808 := by unfold sigW; split <;> (try split) <;> omega
theorem sig_lt {n : Int} : decide (sigW n < 0) = decide (n < 0) := by
  by_cases h : n < 0
  · rw [decide_eq_true h, sigW_neg h]
  · rw [decide_eq_false h, sigW_pos (by omega)]
theorem ceil_floor (x : Rat) : x.ceil = -(-x).floor := Rat.ceil_eq_neg_floor_neg x

theorem One43 (x : Rat) (i : Nat) (most : Int) (hi : dn i = x.den) (hm : most ≤ 200) (lx : Sz x 90) : ∃ d, dn d = (monoQ 43 x most).1.den ∧ AC Tryz.prog 63 [.val (.int .i32 43), RA x.num i, .val (.int .i64 most)] (.pure (.tup [RA (monoQ 43 x most).1.num d, .val (.int .i64 (monoQ 43 x most).2)])) := by
  rw [show monoQ 43 x most = withQ x most from rfl]
  obtain ⟨d, hd, hP⟩ := within_ok x i most hi
  refine ⟨d, hd, ?_⟩
  refine AC.of_body TTok Tryz.func63 rfl (enter_of Tryz.func63 (by kernel_rfl) (by kernel_rfl)) (noid3 (.val _) (RA_noid _ _) (.val _)) (.tup _ (noid2 (RA_noid _ _) (.val _))) (Nat.le_of_ble_eq_true rfl) ?_
  revert hP
  generalize (withQ x most).1 = r
  generalize (withQ x most).2 = e
  intro hP
  unfold RA at *
  repeat
    conv => whnf
    first
      | refine ⟨_, by assumption, ?_⟩
      | refine ⟨(Nat.le_of_ble_eq_true rfl), _, by assumption, ?_⟩
      | refine ⟨by kernel_rfl, ?_⟩
      | exact rfl
      | exact ⟨Nat.le_of_ble_eq_true rfl, rfl⟩
      | refine ⟨by decide, ?_⟩

theorem One45 (x : Rat) (i : Nat) (most : Int) (hi : dn i = x.den) (hm : most ≤ 200) (lx : Sz x 90) : ∃ d, dn d = (monoQ 45 x most).1.den ∧ AC Tryz.prog 63 [.val (.int .i32 45), RA x.num i, .val (.int .i64 most)] (.pure (.tup [RA (monoQ 45 x most).1.num d, .val (.int .i64 (monoQ 45 x most).2)])) := by
  rw [show monoQ 45 x most = withQ (-x) most from rfl]
  have hM := QMinus_ok x.num i
  rw [hi] at hM
  have hM : AC Tryz.prog 105 [RA x.num i] (.pure (RA (-x).num x.den)) := hM
  obtain ⟨d, hd, hP⟩ := within_ok (-x) x.den most (dn_den x)
  refine ⟨d, hd, ?_⟩
  refine AC.of_body TTok Tryz.func63 rfl (enter_of Tryz.func63 (by kernel_rfl) (by kernel_rfl)) (noid3 (.val _) (RA_noid _ _) (.val _)) (.tup _ (noid2 (RA_noid _ _) (.val _))) (Nat.le_of_ble_eq_true rfl) ?_
  revert hP
  generalize (withQ (-x) most).1 = r
  generalize (withQ (-x) most).2 = e
  intro hP
  generalize -x = y at *
  unfold RA at *
  repeat
    conv => whnf
    first
      | refine ⟨_, by assumption, ?_⟩
      | refine ⟨(Nat.le_of_ble_eq_true rfl), _, by assumption, ?_⟩
      | refine ⟨by kernel_rfl, ?_⟩
      | exact rfl
      | exact ⟨Nat.le_of_ble_eq_true rfl, rfl⟩
      | refine ⟨by decide, ?_⟩

theorem One215 (x : Rat) (i : Nat) (most : Int) (hi : dn i = x.den) (hm : most ≤ 200) (lx : Sz x 90) : ∃ d, dn d = (monoQ 215 x most).1.den ∧ AC Tryz.prog 63 [.val (.int .i32 215), RA x.num i, .val (.int .i64 most)] (.pure (.tup [RA (monoQ 215 x most).1.num d, .val (.int .i64 (monoQ 215 x most).2)])) := by
  rw [show monoQ 215 x most = withQ ((sigW x.num : Int) : Rat) most from rfl]
  have hS := RaSign_ok x.num i
  have hF := RatFrom_ok (sigW x.num) (sig_small _)
  obtain ⟨d, hd, hP⟩ := within_ok ((sigW x.num : Int) : Rat) 1 most rfl
  refine ⟨d, hd, ?_⟩
  refine AC.of_body TTok Tryz.func63 rfl (enter_of Tryz.func63 (by kernel_rfl) (by kernel_rfl)) (noid3 (.val _) (RA_noid _ _) (.val _)) (.tup _ (noid2 (RA_noid _ _) (.val _))) (Nat.le_of_ble_eq_true rfl) ?_
  revert hP
  generalize (withQ ((sigW x.num : Int) : Rat) most).1 = r
  generalize (withQ ((sigW x.num : Int) : Rat) most).2 = e
  intro hP
  rw [show (((sigW x.num : Int) : Rat)).num = sigW x.num from rfl] at hP
  generalize sigW x.num = s at *
  unfold RA at *
  repeat
    conv => whnf
    first
      | refine ⟨_, by assumption, ?_⟩
      | refine ⟨(Nat.le_of_ble_eq_true rfl), _, by assumption, ?_⟩
      | refine ⟨by kernel_rfl, ?_⟩
      | exact rfl
      | exact ⟨Nat.le_of_ble_eq_true rfl, rfl⟩
      | refine ⟨by decide, ?_⟩

theorem One247 (x : Rat) (i : Nat) (most : Int) (hi : dn i = x.den) (hm : most ≤ 200) (lx : Sz x 90) : ∃ d, dn d = (monoQ 247 x most).1.den ∧ AC Tryz.prog 63 [.val (.int .i32 247), RA x.num i, .val (.int .i64 most)] (.pure (.tup [RA (monoQ 247 x most).1.num d, .val (.int .i64 (monoQ 247 x most).2)])) := by
  rw [show monoQ 247 x most = (if x = 0 then (0, 22) else withQ (1 / x) most) from rfl]
  have hF := RatFrom_ok 1 (by decide)
  by_cases h0 : x = 0
  · rw [if_pos h0]
    have hB := By_zero 1 1 i rfl (by rw [hi, h0]) ((Sz_small (by decide) (by decide)).mono (by decide))
    rw [← h0, show (1 : Rat).num = 1 from rfl] at hB
    refine ⟨0, rfl, RZ22m ?_⟩
    refine AC.of_body TTok Tryz.func63 rfl (enter_of Tryz.func63 (by kernel_rfl) (by kernel_rfl)) (noid3 (.val _) (RA_noid _ _) (.val _)) (.tup _ (noid2 RZ_noid (.val _))) (Nat.le_of_ble_eq_true rfl) ?_
    generalize x.num = n at *
    unfold RA RZ at *
    repeat
      conv => whnf
      first
        | refine ⟨_, by assumption, ?_⟩
        | refine ⟨(Nat.le_of_ble_eq_true rfl), _, by assumption, ?_⟩
        | refine ⟨by kernel_rfl, ?_⟩
        | exact rfl
        | exact ⟨Nat.le_of_ble_eq_true rfl, rfl⟩
        | refine ⟨by decide, ?_⟩
  · rw [if_neg h0]
    have hB := By_ok 1 x 1 i rfl hi ((Sz_small (by decide) (by decide)).mono (by decide)) (lx.mono (by decide)) h0
    rw [show (1 : Rat).num = 1 from rfl] at hB
    obtain ⟨d, hd, hP⟩ := within_ok (1 / x) (1 / x).den most (dn_den _)
    refine ⟨d, hd, ?_⟩
    refine AC.of_body TTok Tryz.func63 rfl (enter_of Tryz.func63 (by kernel_rfl) (by kernel_rfl)) (noid3 (.val _) (RA_noid _ _) (.val _)) (.tup _ (noid2 (RA_noid _ _) (.val _))) (Nat.le_of_ble_eq_true rfl) ?_
    revert hP
    generalize (withQ (1 / x) most).1 = r
    generalize (withQ (1 / x) most).2 = e
    intro hP
    generalize 1 / x = y at *
    unfold RA at *
    repeat
      conv => whnf
      first
        | refine ⟨_, by assumption, ?_⟩
        | refine ⟨(Nat.le_of_ble_eq_true rfl), _, by assumption, ?_⟩
        | refine ⟨by kernel_rfl, ?_⟩
        | exact rfl
        | exact ⟨Nat.le_of_ble_eq_true rfl, rfl⟩
        | refine ⟨by decide, ?_⟩

theorem One8968 (x : Rat) (i : Nat) (most : Int) (hi : dn i = x.den) (hm : most ≤ 200) (lx : Sz x 90) : ∃ d, dn d = (monoQ 8968 x most).1.den ∧ AC Tryz.prog 63 [.val (.int .i32 8968), RA x.num i, .val (.int .i64 most)] (.pure (.tup [RA (monoQ 8968 x most).1.num d, .val (.int .i64 (monoQ 8968 x most).2)])) := by
  rw [show monoQ 8968 x most = withQ ((x.ceil : Int) : Rat) most from rfl]
  have hC := QCeil_ok x i hi (lx.mono (by decide))
  have hW := Whole_ok x.ceil
  obtain ⟨d, hd, hP⟩ := within_ok ((x.ceil : Int) : Rat) 1 most rfl
  refine ⟨d, hd, ?_⟩
  refine AC.of_body TTok Tryz.func63 rfl (enter_of Tryz.func63 (by kernel_rfl) (by kernel_rfl)) (noid3 (.val _) (RA_noid _ _) (.val _)) (.tup _ (noid2 (RA_noid _ _) (.val _))) (Nat.le_of_ble_eq_true rfl) ?_
  revert hP
  generalize (withQ ((x.ceil : Int) : Rat) most).1 = r
  generalize (withQ ((x.ceil : Int) : Rat) most).2 = e
  intro hP
  rw [show (((x.ceil : Int) : Rat)).num = x.ceil from rfl] at hP
  generalize x.ceil = y at *
  unfold RA WI at *
  repeat
    conv => whnf
    first
      | refine ⟨_, by assumption, ?_⟩
      | refine ⟨(Nat.le_of_ble_eq_true rfl), _, by assumption, ?_⟩
      | refine ⟨by kernel_rfl, ?_⟩
      | exact rfl
      | exact ⟨Nat.le_of_ble_eq_true rfl, rfl⟩
      | refine ⟨by decide, ?_⟩

theorem One8970 (x : Rat) (i : Nat) (most : Int) (hi : dn i = x.den) (hm : most ≤ 200) (lx : Sz x 90) : ∃ d, dn d = (monoQ 8970 x most).1.den ∧ AC Tryz.prog 63 [.val (.int .i32 8970), RA x.num i, .val (.int .i64 most)] (.pure (.tup [RA (monoQ 8970 x most).1.num d, .val (.int .i64 (monoQ 8970 x most).2)])) := by
  rw [show monoQ 8970 x most = withQ ((x.floor : Int) : Rat) most from rfl]
  have hC := QFloor_ok x i hi (lx.mono (by decide))
  have hW := Whole_ok x.floor
  obtain ⟨d, hd, hP⟩ := within_ok ((x.floor : Int) : Rat) 1 most rfl
  refine ⟨d, hd, ?_⟩
  refine AC.of_body TTok Tryz.func63 rfl (enter_of Tryz.func63 (by kernel_rfl) (by kernel_rfl)) (noid3 (.val _) (RA_noid _ _) (.val _)) (.tup _ (noid2 (RA_noid _ _) (.val _))) (Nat.le_of_ble_eq_true rfl) ?_
  revert hP
  generalize (withQ ((x.floor : Int) : Rat) most).1 = r
  generalize (withQ ((x.floor : Int) : Rat) most).2 = e
  intro hP
  rw [show (((x.floor : Int) : Rat)).num = x.floor from rfl] at hP
  generalize x.floor = y at *
  unfold RA WI at *
  repeat
    conv => whnf
    first
      | refine ⟨_, by assumption, ?_⟩
      | refine ⟨(Nat.le_of_ble_eq_true rfl), _, by assumption, ?_⟩
      | refine ⟨by kernel_rfl, ?_⟩
      | exact rfl
      | exact ⟨Nat.le_of_ble_eq_true rfl, rfl⟩
      | refine ⟨by decide, ?_⟩

theorem One124 (x : Rat) (i : Nat) (most : Int) (hi : dn i = x.den) (hm : most ≤ 200) (lx : Sz x 90) : ∃ d, dn d = (monoQ 124 x most).1.den ∧ AC Tryz.prog 63 [.val (.int .i32 124), RA x.num i, .val (.int .i64 most)] (.pure (.tup [RA (monoQ 124 x most).1.num d, .val (.int .i64 (monoQ 124 x most).2)])) := by
  rw [show monoQ 124 x most = withQ (if x.num < 0 then -x else x) most from rfl]
  have hS := RaSign_ok x.num i
  have fS := sig_lt (n := x.num)
  by_cases h : x.num < 0
  · rw [if_pos h]
    rw [decide_eq_true h] at fS
    have hM := QMinus_ok x.num i
    rw [hi] at hM
    have hM : AC Tryz.prog 105 [RA x.num i] (.pure (RA (-x).num x.den)) := hM
    obtain ⟨d, hd, hP⟩ := within_ok (-x) x.den most (dn_den x)
    refine ⟨d, hd, ?_⟩
    refine AC.of_body TTok Tryz.func63 rfl (enter_of Tryz.func63 (by kernel_rfl) (by kernel_rfl)) (noid3 (.val _) (RA_noid _ _) (.val _)) (.tup _ (noid2 (RA_noid _ _) (.val _))) (Nat.le_of_ble_eq_true rfl) ?_
    revert hP
    generalize (withQ (-x) most).1 = r
    generalize (withQ (-x) most).2 = e
    intro hP
    generalize -x = y at *
    generalize sigW x.num = s at *
    unfold RA at *
    conv => whnf
    refine ⟨_, hS, ?_⟩
    conv => whnf
    refine caseb (fun _ => ?_) (fun h => Bool.noConfusion ((fS).symm.trans h))
    repeat
      conv => whnf
      first
        | refine ⟨_, by assumption, ?_⟩
        | refine ⟨(Nat.le_of_ble_eq_true rfl), _, by assumption, ?_⟩
        | refine ⟨by kernel_rfl, ?_⟩
        | exact rfl
        | exact ⟨Nat.le_of_ble_eq_true rfl, rfl⟩
        | refine ⟨by decide, ?_⟩
  · rw [if_neg h]
    rw [decide_eq_false h] at fS
    obtain ⟨d, hd, hP⟩ := within_ok x i most hi
    refine ⟨d, hd, ?_⟩
    refine AC.of_body TTok Tryz.func63 rfl (enter_of Tryz.func63 (by kernel_rfl) (by kernel_rfl)) (noid3 (.val _) (RA_noid _ _) (.val _)) (.tup _ (noid2 (RA_noid _ _) (.val _))) (Nat.le_of_ble_eq_true rfl) ?_
    revert hP
    generalize (withQ x most).1 = r
    generalize (withQ x most).2 = e
    intro hP
    generalize sigW x.num = s at *
    unfold RA at *
    conv => whnf
    refine ⟨_, hS, ?_⟩
    conv => whnf
    refine caseb (fun h => Bool.noConfusion ((fS).symm.trans h)) (fun _ => ?_)
    repeat
      conv => whnf
      first
        | refine ⟨_, by assumption, ?_⟩
        | refine ⟨(Nat.le_of_ble_eq_true rfl), _, by assumption, ?_⟩
        | refine ⟨by kernel_rfl, ?_⟩
        | exact rfl
        | exact ⟨Nat.le_of_ble_eq_true rfl, rfl⟩
        | refine ⟨by decide, ?_⟩

theorem One33 (x : Rat) (i : Nat) (most : Int) (hi : dn i = x.den) (hm : most ≤ 200) (lx : Sz x 90) : ∃ d, dn d = (monoQ 33 x most).1.den ∧ AC Tryz.prog 63 [.val (.int .i32 33), RA x.num i, .val (.int .i64 most)] (.pure (.tup [RA (monoQ 33 x most).1.num d, .val (.int .i64 (monoQ 33 x most).2)])) := by
  rw [show monoQ 33 x most = facQ x most from rfl]
  obtain ⟨d, hd, hP⟩ := Fac_ok x i most hi hm
  refine ⟨d, hd, ?_⟩
  refine AC.of_body TTok Tryz.func63 rfl (enter_of Tryz.func63 (by kernel_rfl) (by kernel_rfl)) (noid3 (.val _) (RA_noid _ _) (.val _)) (.tup _ (noid2 (RA_noid _ _) (.val _))) (Nat.le_of_ble_eq_true rfl) ?_
  revert hP
  generalize (facQ x most).1 = r
  generalize (facQ x most).2 = e
  intro hP
  unfold RA at *
  repeat
    conv => whnf
    first
      | refine ⟨_, by assumption, ?_⟩
      | refine ⟨(Nat.le_of_ble_eq_true rfl), _, by assumption, ?_⟩
      | refine ⟨by kernel_rfl, ?_⟩
      | exact rfl
      | exact ⟨Nat.le_of_ble_eq_true rfl, rfl⟩
      | refine ⟨by decide, ?_⟩

theorem One126 (x : Rat) (i : Nat) (most : Int) (hi : dn i = x.den) (hm : most ≤ 200) (lx : Sz x 90) : ∃ d, dn d = (monoQ 126 x most).1.den ∧ AC Tryz.prog 63 [.val (.int .i32 126), RA x.num i, .val (.int .i64 most)] (.pure (.tup [RA (monoQ 126 x most).1.num d, .val (.int .i64 (monoQ 126 x most).2)])) := by
  rw [show monoQ 126 x most = notQ x from rfl]
  obtain ⟨d, hd, hP⟩ := not_ok x i hi
  refine ⟨d, hd, ?_⟩
  refine AC.of_body TTok Tryz.func63 rfl (enter_of Tryz.func63 (by kernel_rfl) (by kernel_rfl)) (noid3 (.val _) (RA_noid _ _) (.val _)) (.tup _ (noid2 (RA_noid _ _) (.val _))) (Nat.le_of_ble_eq_true rfl) ?_
  revert hP
  generalize (notQ x).1 = r
  generalize (notQ x).2 = e
  intro hP
  unfold RA at *
  repeat
    conv => whnf
    first
      | refine ⟨_, by assumption, ?_⟩
      | refine ⟨(Nat.le_of_ble_eq_true rfl), _, by assumption, ?_⟩
      | refine ⟨by kernel_rfl, ?_⟩
      | exact rfl
      | exact ⟨Nat.le_of_ble_eq_true rfl, rfl⟩
      | refine ⟨by decide, ?_⟩

theorem One42 (x : Rat) (i : Nat) (most : Int) (hi : dn i = x.den) (hm : most ≤ 200) (lx : Sz x 90) : ∃ d, dn d = (monoQ 42 x most).1.den ∧ AC Tryz.prog 63 [.val (.int .i32 42), RA x.num i, .val (.int .i64 most)] (.pure (.tup [RA (monoQ 42 x most).1.num d, .val (.int .i64 (monoQ 42 x most).2)])) := by
  have hH := MHas_ok 42
  refine ⟨0, rfl, RZ22m ?_⟩
  rw [decide_eq_true (show isOne 42 by decide)] at hH
  refine AC.of_body TTok Tryz.func63 rfl (enter_of Tryz.func63 (by kernel_rfl) (by kernel_rfl)) (noid3 (.val _) (RA_noid _ _) (.val _)) (.tup _ (noid2 RZ_noid (.val _))) (Nat.le_of_ble_eq_true rfl) ?_
  unfold RA RZ at *
  repeat
    conv => whnf
    first
      | refine ⟨_, by assumption, ?_⟩
      | refine ⟨(Nat.le_of_ble_eq_true rfl), _, by assumption, ?_⟩
      | refine ⟨by kernel_rfl, ?_⟩
      | exact rfl
      | exact ⟨Nat.le_of_ble_eq_true rfl, rfl⟩
      | refine ⟨by decide, ?_⟩

theorem One9055 (x : Rat) (i : Nat) (most : Int) (hi : dn i = x.den) (hm : most ≤ 200) (lx : Sz x 90) : ∃ d, dn d = (monoQ 9055 x most).1.den ∧ AC Tryz.prog 63 [.val (.int .i32 9055), RA x.num i, .val (.int .i64 most)] (.pure (.tup [RA (monoQ 9055 x most).1.num d, .val (.int .i64 (monoQ 9055 x most).2)])) := by
  have hH := MHas_ok 9055
  refine ⟨0, rfl, RZ22m ?_⟩
  rw [decide_eq_true (show isOne 9055 by decide)] at hH
  refine AC.of_body TTok Tryz.func63 rfl (enter_of Tryz.func63 (by kernel_rfl) (by kernel_rfl)) (noid3 (.val _) (RA_noid _ _) (.val _)) (.tup _ (noid2 RZ_noid (.val _))) (Nat.le_of_ble_eq_true rfl) ?_
  unfold RA RZ at *
  repeat
    conv => whnf
    first
      | refine ⟨_, by assumption, ?_⟩
      | refine ⟨(Nat.le_of_ble_eq_true rfl), _, by assumption, ?_⟩
      | refine ⟨by kernel_rfl, ?_⟩
      | exact rfl
      | exact ⟨Nat.le_of_ble_eq_true rfl, rfl⟩
      | refine ⟨by decide, ?_⟩

theorem One9675 (x : Rat) (i : Nat) (most : Int) (hi : dn i = x.den) (hm : most ≤ 200) (lx : Sz x 90) : ∃ d, dn d = (monoQ 9675 x most).1.den ∧ AC Tryz.prog 63 [.val (.int .i32 9675), RA x.num i, .val (.int .i64 most)] (.pure (.tup [RA (monoQ 9675 x most).1.num d, .val (.int .i64 (monoQ 9675 x most).2)])) := by
  have hH := MHas_ok 9675
  refine ⟨0, rfl, RZ22m ?_⟩
  rw [decide_eq_true (show isOne 9675 by decide)] at hH
  refine AC.of_body TTok Tryz.func63 rfl (enter_of Tryz.func63 (by kernel_rfl) (by kernel_rfl)) (noid3 (.val _) (RA_noid _ _) (.val _)) (.tup _ (noid2 RZ_noid (.val _))) (Nat.le_of_ble_eq_true rfl) ?_
  unfold RA RZ at *
  repeat
    conv => whnf
    first
      | refine ⟨_, by assumption, ?_⟩
      | refine ⟨(Nat.le_of_ble_eq_true rfl), _, by assumption, ?_⟩
      | refine ⟨by kernel_rfl, ?_⟩
      | exact rfl
      | exact ⟨Nat.le_of_ble_eq_true rfl, rfl⟩
      | refine ⟨by decide, ?_⟩

theorem mono_not {c : Int} (hc : ¬ isOne c) (x : Rat) (most : Int) : monoQ c x most = (0, 20) := by
  have h := hc
  unfold isOne at h
  unfold monoQ
  rw [if_neg (by omega), if_neg (by omega), if_neg (by omega), if_neg (by omega), if_neg (by omega), if_neg (by omega), if_neg (by omega), if_neg (by omega), if_neg (by omega), if_neg hc]
theorem One_not (c : Int) (hc : ¬ isOne c) (x : Rat) (i : Nat) (most : Int) : AC Tryz.prog 63 [.val (.int .i32 c), RA x.num i, .val (.int .i64 most)] (.pure (.tup [RA 0 0, .val (.int .i64 20)])) := by
  refine RZ22m ?_
  have hH := MHas_ok c
  rw [decide_eq_false hc] at hH
  have e0 : (c == 43) = false := beq_false_of_ne (fun h => hc (by rw [h]; decide))
  have e1 : (c == 45) = false := beq_false_of_ne (fun h => hc (by rw [h]; decide))
  have e2 : (c == 215) = false := beq_false_of_ne (fun h => hc (by rw [h]; decide))
  have e3 : (c == 247) = false := beq_false_of_ne (fun h => hc (by rw [h]; decide))
  have e4 : (c == 8968) = false := beq_false_of_ne (fun h => hc (by rw [h]; decide))
  have e5 : (c == 8970) = false := beq_false_of_ne (fun h => hc (by rw [h]; decide))
  have e6 : (c == 124) = false := beq_false_of_ne (fun h => hc (by rw [h]; decide))
  have e7 : (c == 42) = false := beq_false_of_ne (fun h => hc (by rw [h]; decide))
  have e8 : (c == 33) = false := beq_false_of_ne (fun h => hc (by rw [h]; decide))
  have e9 : (c == 126) = false := beq_false_of_ne (fun h => hc (by rw [h]; decide))
  have e10 : (c == 9055) = false := beq_false_of_ne (fun h => hc (by rw [h]; decide))
  have e11 : (c == 9675) = false := beq_false_of_ne (fun h => hc (by rw [h]; decide))
  clear hc
  refine AC.of_body TTok Tryz.func63 rfl (enter_of Tryz.func63 (by kernel_rfl) (by kernel_rfl)) (noid3 (.val _) (RA_noid _ _) (.val _)) (.tup _ (noid2 RZ_noid (.val _))) (Nat.le_of_ble_eq_true rfl) ?_
  generalize x.num = n at *
  unfold RA RZ at *
  conv => whnf
  refine caseb (fun h => Bool.noConfusion ((e0).symm.trans h)) (fun _ => ?_)
  conv => whnf
  refine caseb (fun h => Bool.noConfusion ((e1).symm.trans h)) (fun _ => ?_)
  conv => whnf
  refine caseb (fun h => Bool.noConfusion ((e2).symm.trans h)) (fun _ => ?_)
  conv => whnf
  refine caseb (fun h => Bool.noConfusion ((e3).symm.trans h)) (fun _ => ?_)
  conv => whnf
  refine caseb (fun h => Bool.noConfusion ((e4).symm.trans h)) (fun _ => ?_)
  conv => whnf
  refine caseb (fun h => Bool.noConfusion ((e5).symm.trans h)) (fun _ => ?_)
  conv => whnf
  refine caseb (fun h => Bool.noConfusion ((e6).symm.trans h)) (fun _ => ?_)
  conv => whnf
  refine caseb (fun h => Bool.noConfusion ((e8).symm.trans h)) (fun _ => ?_)
  conv => whnf
  refine caseb (fun h => Bool.noConfusion ((e9).symm.trans h)) (fun _ => ?_)
  repeat
    conv => whnf
    first
      | refine ⟨_, by assumption, ?_⟩
      | refine ⟨(Nat.le_of_ble_eq_true rfl), _, by assumption, ?_⟩
      | refine ⟨by kernel_rfl, ?_⟩
      | exact rfl
      | exact ⟨Nat.le_of_ble_eq_true rfl, rfl⟩
      | refine ⟨by decide, ?_⟩
theorem Mono_ok (c : Int) (x : Rat) (i : Nat) (most : Int) (hi : dn i = x.den) (hm : most ≤ 200) (lx : Sz x 90) : ∃ d, dn d = (monoQ c x most).1.den ∧ AC Tryz.prog 63 [.val (.int .i32 c), RA x.num i, .val (.int .i64 most)] (.pure (.tup [RA (monoQ c x most).1.num d, .val (.int .i64 (monoQ c x most).2)])) := by
  by_cases hc : isOne c
  · rcases hc with rfl | rfl | rfl | rfl | rfl | rfl | rfl | rfl | rfl | rfl | rfl | rfl
    · exact One43 x i most hi hm lx
    · exact One45 x i most hi hm lx
    · exact One215 x i most hi hm lx
    · exact One247 x i most hi hm lx
    · exact One8968 x i most hi hm lx
    · exact One8970 x i most hi hm lx
    · exact One124 x i most hi hm lx
    · exact One42 x i most hi hm lx
    · exact One33 x i most hi hm lx
    · exact One126 x i most hi hm lx
    · exact One9055 x i most hi hm lx
    · exact One9675 x i most hi hm lx
  · rw [mono_not hc]
    exact ⟨0, rfl, One_not c hc x i most⟩

end Go.Proofs.YtclamnmpleiakaaGreat

/- Functions of one number: the document's. -/
set_option linter.unusedVariables false
namespace Go.Proofs.YtclamnmpleiakaaGreat
open Go Go.AL NM

theorem SOne43 (x : Rat) (most : Int) (hm : most ≤ 200) (lx : Sz x 90) : AC Tryz.prog 65 [.val (.int .i32 43), RN x.num x.den, .val (.int .i64 most)] (.pure (.tup [RN (monoQ 43 x most).1.num (monoQ 43 x most).1.den, .val (.int .i64 (monoQ 43 x most).2)])) := by
  have hH := SMHas_ok 43
  rw [decide_eq_true (show isOne 43 by decide)] at hH
  have hZ := SZero_ok
  rw [show monoQ 43 x most = withQ x most from rfl]
  have hP := Swithin_ok x most (lx.mono (by decide))
  refine AC.of_body TTok Tryz.func65 rfl (enter_of Tryz.func65 (by kernel_rfl) (by kernel_rfl)) (noid3 (.val _) (RN_noid _ _) (.val _)) (.tup _ (noid2 (RN_noid _ _) (.val _))) (Nat.le_of_ble_eq_true rfl) ?_
  revert hP
  generalize (withQ x most).1 = r
  generalize (withQ x most).2 = e
  intro hP
  generalize r.num = rn at *
  generalize r.den = rd at *
  unfold RN at *
  repeat
    conv => whnf
    first
      | refine ⟨_, by assumption, ?_⟩
      | refine ⟨(Nat.le_of_ble_eq_true rfl), _, by assumption, ?_⟩
      | refine ⟨by kernel_rfl, ?_⟩
      | exact rfl
      | exact ⟨Nat.le_of_ble_eq_true rfl, rfl⟩
      | refine ⟨by decide, ?_⟩

theorem SOne45 (x : Rat) (most : Int) (hm : most ≤ 200) (lx : Sz x 90) : AC Tryz.prog 65 [.val (.int .i32 45), RN x.num x.den, .val (.int .i64 most)] (.pure (.tup [RN (monoQ 45 x most).1.num (monoQ 45 x most).1.den, .val (.int .i64 (monoQ 45 x most).2)])) := by
  have hH := SMHas_ok 45
  rw [decide_eq_true (show isOne 45 by decide)] at hH
  have hZ := SZero_ok
  rw [show monoQ 45 x most = withQ (-x) most from rfl]
  have hM := SMinus_ok x.num x.den
  have hM : AC Tryz.prog 114 [RN x.num x.den] (.pure (RN (-x).num x.den)) := hM
  have hP := Swithin_ok (-x) most ((Sz_neg lx).mono (by decide))
  refine AC.of_body TTok Tryz.func65 rfl (enter_of Tryz.func65 (by kernel_rfl) (by kernel_rfl)) (noid3 (.val _) (RN_noid _ _) (.val _)) (.tup _ (noid2 (RN_noid _ _) (.val _))) (Nat.le_of_ble_eq_true rfl) ?_
  revert hP
  generalize (withQ (-x) most).1 = r
  generalize (withQ (-x) most).2 = e
  intro hP
  rw [show (-x).den = x.den from rfl] at hP
  generalize (-x).num = y at *
  generalize r.num = rn at *
  generalize r.den = rd at *
  unfold RN at *
  repeat
    conv => whnf
    first
      | refine ⟨_, by assumption, ?_⟩
      | refine ⟨(Nat.le_of_ble_eq_true rfl), _, by assumption, ?_⟩
      | refine ⟨by kernel_rfl, ?_⟩
      | exact rfl
      | exact ⟨Nat.le_of_ble_eq_true rfl, rfl⟩
      | refine ⟨by decide, ?_⟩

theorem SOne215 (x : Rat) (most : Int) (hm : most ≤ 200) (lx : Sz x 90) : AC Tryz.prog 65 [.val (.int .i32 215), RN x.num x.den, .val (.int .i64 most)] (.pure (.tup [RN (monoQ 215 x most).1.num (monoQ 215 x most).1.den, .val (.int .i64 (monoQ 215 x most).2)])) := by
  have hH := SMHas_ok 215
  rw [decide_eq_true (show isOne 215 by decide)] at hH
  have hZ := SZero_ok
  rw [show monoQ 215 x most = withQ ((sigW x.num : Int) : Rat) most from rfl]
  have hT := STop_ok x.num x.den (Nat.le_trans lx.1 (by decide))
  have hS := RSignW_ok x.num
  have hF := SFrom_ok (sigW x.num) (sig_small _)
  have hP := Swithin_ok ((sigW x.num : Int) : Rat) most (Sz_int (by decide) (Nat.le_trans (limbs_small (by unfold sigW; split <;> (try split) <;> decide)) (by decide)))
  refine AC.of_body TTok Tryz.func65 rfl (enter_of Tryz.func65 (by kernel_rfl) (by kernel_rfl)) (noid3 (.val _) (RN_noid _ _) (.val _)) (.tup _ (noid2 (RN_noid _ _) (.val _))) (Nat.le_of_ble_eq_true rfl) ?_
  revert hP
  generalize (withQ ((sigW x.num : Int) : Rat) most).1 = r
  generalize (withQ ((sigW x.num : Int) : Rat) most).2 = e
  intro hP
  rw [show (((sigW x.num : Int) : Rat)).num = sigW x.num from rfl, show (((sigW x.num : Int) : Rat)).den = 1 from rfl] at hP
  generalize sigW x.num = s at *
  generalize r.num = rn at *
  generalize r.den = rd at *
  unfold RN WR at *
  repeat
    conv => whnf
    first
      | refine ⟨_, by assumption, ?_⟩
      | refine ⟨(Nat.le_of_ble_eq_true rfl), _, by assumption, ?_⟩
      | refine ⟨by kernel_rfl, ?_⟩
      | exact rfl
      | exact ⟨Nat.le_of_ble_eq_true rfl, rfl⟩
      | refine ⟨by decide, ?_⟩

theorem SOne247 (x : Rat) (most : Int) (hm : most ≤ 200) (lx : Sz x 90) : AC Tryz.prog 65 [.val (.int .i32 247), RN x.num x.den, .val (.int .i64 most)] (.pure (.tup [RN (monoQ 247 x most).1.num (monoQ 247 x most).1.den, .val (.int .i64 (monoQ 247 x most).2)])) := by
  have hH := SMHas_ok 247
  rw [decide_eq_true (show isOne 247 by decide)] at hH
  have hZ := SZero_ok
  rw [show monoQ 247 x most = (if x = 0 then (0, 22) else withQ (1 / x) most) from rfl]
  have j0 := is0 x.num.natAbs
  by_cases h0 : x = 0
  · rw [if_pos h0]
    rw [decide_eq_true (by rw [h0]; rfl)] at j0
    have fb : (!((decS x.num.natAbs).toList == ({ data := #[48] } : ByteArray).toList)) = false := by rw [j0]; rfl
    show AC Tryz.prog 65 _ (.pure (.tup [RN 0 1, .val (.int .i64 22)]))
    refine AC.of_body TTok Tryz.func65 rfl (enter_of Tryz.func65 (by kernel_rfl) (by kernel_rfl)) (noid3 (.val _) (RN_noid _ _) (.val _)) (.tup _ (noid2 (RN_noid _ _) (.val _))) (Nat.le_of_ble_eq_true rfl) ?_
    unfold RN at *
    conv => whnf
    refine ⟨_, hH, ?_⟩
    conv => whnf
    refine caseb (fun h => Bool.noConfusion ((fb).symm.trans h)) (fun _ => ?_)
    repeat
      conv => whnf
      first
        | refine ⟨_, by assumption, ?_⟩
        | refine ⟨(Nat.le_of_ble_eq_true rfl), _, by assumption, ?_⟩
        | refine ⟨by kernel_rfl, ?_⟩
        | exact rfl
        | exact ⟨Nat.le_of_ble_eq_true rfl, rfl⟩
        | refine ⟨by decide, ?_⟩
  · rw [if_neg h0]
    rw [decide_eq_false (by have := num_ne h0; omega)] at j0
    have fb : (!((decS x.num.natAbs).toList == ({ data := #[48] } : ByteArray).toList)) = true := by rw [j0]; rfl
    obtain ⟨i1, i2⟩ := inv_parts h0
    have i3 := inv_sgn x
    have hP := Swithin_ok (1 / x) most ⟨by rw [i1]; exact Nat.le_trans lx.2 (by decide), by rw [i2]; exact Nat.le_trans lx.1 (by decide)⟩
    refine AC.of_body TTok Tryz.func65 rfl (enter_of Tryz.func65 (by kernel_rfl) (by kernel_rfl)) (noid3 (.val _) (RN_noid _ _) (.val _)) (.tup _ (noid2 (RN_noid _ _) (.val _))) (Nat.le_of_ble_eq_true rfl) ?_
    revert hP
    generalize (withQ (1 / x) most).1 = r
    generalize (withQ (1 / x) most).2 = e
    intro hP
    generalize r.num = rn at *
    generalize r.den = rd at *
    unfold RN at *
    rw [i1, i2, i3] at hP
    conv => whnf
    refine ⟨_, hH, ?_⟩
    conv => whnf
    refine caseb (fun _ => ?_) (fun h => Bool.noConfusion ((fb).symm.trans h))
    repeat
      conv => whnf
      first
        | refine ⟨_, by assumption, ?_⟩
        | refine ⟨(Nat.le_of_ble_eq_true rfl), _, by assumption, ?_⟩
        | refine ⟨by kernel_rfl, ?_⟩
        | exact rfl
        | exact ⟨Nat.le_of_ble_eq_true rfl, rfl⟩
        | refine ⟨by decide, ?_⟩

theorem SOne8968 (x : Rat) (most : Int) (hm : most ≤ 200) (lx : Sz x 90) : AC Tryz.prog 65 [.val (.int .i32 8968), RN x.num x.den, .val (.int .i64 most)] (.pure (.tup [RN (monoQ 8968 x most).1.num (monoQ 8968 x most).1.den, .val (.int .i64 (monoQ 8968 x most).2)])) := by
  have hH := SMHas_ok 8968
  rw [decide_eq_true (show isOne 8968 by decide)] at hH
  have hZ := SZero_ok
  rw [show monoQ 8968 x most = withQ ((x.ceil : Int) : Rat) most from rfl]
  have hC := SCeil_ok x (lx.mono (by decide))
  have hW := SWhole_ok x.ceil
  have hP := Swithin_ok ((x.ceil : Int) : Rat) most (Sz_int (by decide) (by rw [ceil_floor, Int.natAbs_neg]; exact Nat.le_trans (limbs_floor (Sz_neg lx)) (by decide)))
  refine AC.of_body TTok Tryz.func65 rfl (enter_of Tryz.func65 (by kernel_rfl) (by kernel_rfl)) (noid3 (.val _) (RN_noid _ _) (.val _)) (.tup _ (noid2 (RN_noid _ _) (.val _))) (Nat.le_of_ble_eq_true rfl) ?_
  revert hP
  generalize (withQ ((x.ceil : Int) : Rat) most).1 = r
  generalize (withQ ((x.ceil : Int) : Rat) most).2 = e
  intro hP
  rw [show (((x.ceil : Int) : Rat)).num = x.ceil from rfl, show (((x.ceil : Int) : Rat)).den = 1 from rfl] at hP
  generalize x.ceil = y at *
  generalize r.num = rn at *
  generalize r.den = rd at *
  unfold RN WR at *
  repeat
    conv => whnf
    first
      | refine ⟨_, by assumption, ?_⟩
      | refine ⟨(Nat.le_of_ble_eq_true rfl), _, by assumption, ?_⟩
      | refine ⟨by kernel_rfl, ?_⟩
      | exact rfl
      | exact ⟨Nat.le_of_ble_eq_true rfl, rfl⟩
      | refine ⟨by decide, ?_⟩

theorem SOne8970 (x : Rat) (most : Int) (hm : most ≤ 200) (lx : Sz x 90) : AC Tryz.prog 65 [.val (.int .i32 8970), RN x.num x.den, .val (.int .i64 most)] (.pure (.tup [RN (monoQ 8970 x most).1.num (monoQ 8970 x most).1.den, .val (.int .i64 (monoQ 8970 x most).2)])) := by
  have hH := SMHas_ok 8970
  rw [decide_eq_true (show isOne 8970 by decide)] at hH
  have hZ := SZero_ok
  rw [show monoQ 8970 x most = withQ ((x.floor : Int) : Rat) most from rfl]
  have hC := SFloor_ok x (lx.mono (by decide))
  have hW := SWhole_ok x.floor
  have hP := Swithin_ok ((x.floor : Int) : Rat) most (Sz_int (by decide) (Nat.le_trans (limbs_floor lx) (by decide)))
  refine AC.of_body TTok Tryz.func65 rfl (enter_of Tryz.func65 (by kernel_rfl) (by kernel_rfl)) (noid3 (.val _) (RN_noid _ _) (.val _)) (.tup _ (noid2 (RN_noid _ _) (.val _))) (Nat.le_of_ble_eq_true rfl) ?_
  revert hP
  generalize (withQ ((x.floor : Int) : Rat) most).1 = r
  generalize (withQ ((x.floor : Int) : Rat) most).2 = e
  intro hP
  rw [show (((x.floor : Int) : Rat)).num = x.floor from rfl, show (((x.floor : Int) : Rat)).den = 1 from rfl] at hP
  generalize x.floor = y at *
  generalize r.num = rn at *
  generalize r.den = rd at *
  unfold RN WR at *
  repeat
    conv => whnf
    first
      | refine ⟨_, by assumption, ?_⟩
      | refine ⟨(Nat.le_of_ble_eq_true rfl), _, by assumption, ?_⟩
      | refine ⟨by kernel_rfl, ?_⟩
      | exact rfl
      | exact ⟨Nat.le_of_ble_eq_true rfl, rfl⟩
      | refine ⟨by decide, ?_⟩

theorem SOne124 (x : Rat) (most : Int) (hm : most ≤ 200) (lx : Sz x 90) : AC Tryz.prog 65 [.val (.int .i32 124), RN x.num x.den, .val (.int .i64 most)] (.pure (.tup [RN (monoQ 124 x most).1.num (monoQ 124 x most).1.den, .val (.int .i64 (monoQ 124 x most).2)])) := by
  have hH := SMHas_ok 124
  rw [decide_eq_true (show isOne 124 by decide)] at hH
  have hZ := SZero_ok
  rw [show monoQ 124 x most = withQ (if x.num < 0 then -x else x) most from rfl]
  have ha : RN (if x.num < 0 then -x else x).num (if x.num < 0 then -x else x).den = .agg [.val (.bool false), .val (.string (decS x.num.natAbs)), .val (.string (decS x.den))] := by
    by_cases h : x.num < 0
    · rw [if_pos h]
      unfold RN
      rw [decide_eq_false (show ¬ (-x).num < 0 by rw [Rat.neg_num]; omega), Rat.neg_num, Int.natAbs_neg, Rat.neg_den]
    · rw [if_neg h]
      unfold RN
      rw [decide_eq_false h]
  have hP := Swithin_ok (if x.num < 0 then -x else x) most (by
    split
    · exact (Sz_neg lx).mono (by decide)
    · exact lx.mono (by decide))
  rw [ha] at hP
  refine AC.of_body TTok Tryz.func65 rfl (enter_of Tryz.func65 (by kernel_rfl) (by kernel_rfl)) (noid3 (.val _) (RN_noid _ _) (.val _)) (.tup _ (noid2 (RN_noid _ _) (.val _))) (Nat.le_of_ble_eq_true rfl) ?_
  revert hP
  generalize (withQ (if x.num < 0 then -x else x) most).1 = r
  generalize (withQ (if x.num < 0 then -x else x) most).2 = e
  intro hP
  clear ha
  generalize r.num = rn at *
  generalize r.den = rd at *
  unfold RN at *
  repeat
    conv => whnf
    first
      | refine ⟨_, by assumption, ?_⟩
      | refine ⟨(Nat.le_of_ble_eq_true rfl), _, by assumption, ?_⟩
      | refine ⟨by kernel_rfl, ?_⟩
      | exact rfl
      | exact ⟨Nat.le_of_ble_eq_true rfl, rfl⟩
      | refine ⟨by decide, ?_⟩

theorem SOne33 (x : Rat) (most : Int) (hm : most ≤ 200) (lx : Sz x 90) : AC Tryz.prog 65 [.val (.int .i32 33), RN x.num x.den, .val (.int .i64 most)] (.pure (.tup [RN (monoQ 33 x most).1.num (monoQ 33 x most).1.den, .val (.int .i64 (monoQ 33 x most).2)])) := by
  have hH := SMHas_ok 33
  rw [decide_eq_true (show isOne 33 by decide)] at hH
  have hZ := SZero_ok
  have i1 := is1 x.den
  by_cases hd : x.den = 1
  · rw [decide_eq_true hd] at i1
    by_cases hn : x.num < 0
    · have f1 : (!(decide (x.num < 0))) = false := by rw [decide_eq_true hn]; rfl
      rw [show monoQ 33 x most = (0, 22) from show facQ x most = (0, 22) from if_neg (fun h : natQm x => absurd h.2 (by omega))]
      show AC Tryz.prog 65 _ (.pure (.tup [RN 0 1, .val (.int .i64 22)]))
      refine AC.of_body TTok Tryz.func65 rfl (enter_of Tryz.func65 (by kernel_rfl) (by kernel_rfl)) (noid3 (.val _) (RN_noid _ _) (.val _)) (.tup _ (noid2 (RN_noid _ _) (.val _))) (Nat.le_of_ble_eq_true rfl) ?_
      unfold RN at *
      conv => whnf
      refine ⟨_, hH, ?_⟩
      conv => whnf
      refine caseb (fun _ => ?_) (fun h => Bool.noConfusion ((i1).symm.trans h))
      conv => whnf
      refine caseb (fun h => Bool.noConfusion ((f1).symm.trans h)) (fun _ => ?_)
      repeat
        conv => whnf
        first
          | refine ⟨_, by assumption, ?_⟩
          | refine ⟨(Nat.le_of_ble_eq_true rfl), _, by assumption, ?_⟩
          | refine ⟨by kernel_rfl, ?_⟩
          | exact rfl
          | exact ⟨Nat.le_of_ble_eq_true rfl, rfl⟩
          | refine ⟨by decide, ?_⟩
    · have f1 : (!(decide (x.num < 0))) = true := by rw [decide_eq_false hn]; rfl
      obtain ⟨k, hk⟩ : ∃ k : Nat, x.num = (k : Int) := ⟨x.num.toNat, by omega⟩
      rw [show monoQ 33 x most = withQ (((fac k : Nat) : Int) : Rat) most from facQ_is hd hk most]
      have hP := SFac_ok x most hm hd k hk (lx.mono (by decide))
      refine AC.of_body TTok Tryz.func65 rfl (enter_of Tryz.func65 (by kernel_rfl) (by kernel_rfl)) (noid3 (.val _) (RN_noid _ _) (.val _)) (.tup _ (noid2 (RN_noid _ _) (.val _))) (Nat.le_of_ble_eq_true rfl) ?_
      revert hP
      generalize (withQ (((fac k : Nat) : Int) : Rat) most).1 = r
      generalize (withQ (((fac k : Nat) : Int) : Rat) most).2 = e
      intro hP
      generalize r.num = rn at *
      generalize r.den = rd at *
      unfold RN at *
      conv => whnf
      refine ⟨_, hH, ?_⟩
      conv => whnf
      refine caseb (fun _ => ?_) (fun h => Bool.noConfusion ((i1).symm.trans h))
      conv => whnf
      refine caseb (fun _ => ?_) (fun h => Bool.noConfusion ((f1).symm.trans h))
      repeat
        conv => whnf
        first
          | refine ⟨_, by assumption, ?_⟩
          | refine ⟨(Nat.le_of_ble_eq_true rfl), _, by assumption, ?_⟩
          | refine ⟨by kernel_rfl, ?_⟩
          | exact rfl
          | exact ⟨Nat.le_of_ble_eq_true rfl, rfl⟩
          | refine ⟨by decide, ?_⟩
  · rw [decide_eq_false hd] at i1
    rw [show monoQ 33 x most = (0, 22) from show facQ x most = (0, 22) from if_neg (fun h : natQm x => hd h.1)]
    show AC Tryz.prog 65 _ (.pure (.tup [RN 0 1, .val (.int .i64 22)]))
    refine AC.of_body TTok Tryz.func65 rfl (enter_of Tryz.func65 (by kernel_rfl) (by kernel_rfl)) (noid3 (.val _) (RN_noid _ _) (.val _)) (.tup _ (noid2 (RN_noid _ _) (.val _))) (Nat.le_of_ble_eq_true rfl) ?_
    unfold RN at *
    conv => whnf
    refine ⟨_, hH, ?_⟩
    conv => whnf
    refine caseb (fun h => Bool.noConfusion ((i1).symm.trans h)) (fun _ => ?_)
    repeat
      conv => whnf
      first
        | refine ⟨_, by assumption, ?_⟩
        | refine ⟨(Nat.le_of_ble_eq_true rfl), _, by assumption, ?_⟩
        | refine ⟨by kernel_rfl, ?_⟩
        | exact rfl
        | exact ⟨Nat.le_of_ble_eq_true rfl, rfl⟩
        | refine ⟨by decide, ?_⟩

theorem not_flip (b : Bool) (s : ByteArray) (y most : Int) (hb : s.size = 1) (h1 : b = true → (s.toList == ({ data := #[48] } : ByteArray).toList) = true) (h2 : b = false → (s.toList == ({ data := #[48] } : ByteArray).toList) = false ∧ (s.toList == ({ data := #[49] } : ByteArray).toList) = true) (hy : y = if b then 1 else 0) (hv : byteAt s 0 = if b then 48 else 49) (t : ByteArray) (ht : (t.toList == ({ data := #[49] } : ByteArray).toList) = true) :
    AC Tryz.prog 65 [.val (.int .i32 126), .agg [.val (.bool false), .val (.string s), .val (.string t)], .val (.int .i64 most)] (.pure (.tup [RN y 1, .val (.int .i64 0)])) := by
  have hH := SMHas_ok 126
  rw [decide_eq_true (show isOne 126 by decide)] at hH
  have hF := SFrom_ok y (by rw [hy]; cases b <;> decide)
  have e : IntKind.i64.wrap (1 - IntKind.i64.wrap (IntKind.u8.wrap (byteAt s 0 - 48))) = y := by rw [hv, hy]; cases b <;> decide
  refine AC.of_body TTok Tryz.func65 rfl (enter_of Tryz.func65 (by kernel_rfl) (by kernel_rfl)) (noid3 (.val _) (.agg _ (noid3 (.val _) (.val _) (.val _))) (.val _)) (.tup _ (noid2 (RN_noid _ _) (.val _))) (Nat.le_of_ble_eq_true rfl) ?_
  rw [← e] at hF ⊢
  unfold RN at *
  cases b
  · obtain ⟨j0, j1⟩ := h2 rfl
    conv => whnf
    refine ⟨_, hH, ?_⟩
    conv => whnf
    refine caseb (fun _ => ?_) (fun h => Bool.noConfusion ((ht).symm.trans h))
    conv => whnf
    refine caseb (fun h => Bool.noConfusion ((j0).symm.trans h)) (fun _ => ?_)
    conv => whnf
    refine caseb (fun _ => ?_) (fun h => Bool.noConfusion ((j1).symm.trans h))
    conv => whnf
    refine ⟨⟨by omega, by omega⟩, ?_⟩
    conv => whnf
    refine ⟨_, hF, ?_⟩
    conv => whnf
    exact rfl
  · have j0 := h1 rfl
    conv => whnf
    refine ⟨_, hH, ?_⟩
    conv => whnf
    refine caseb (fun _ => ?_) (fun h => Bool.noConfusion ((ht).symm.trans h))
    conv => whnf
    refine caseb (fun _ => ?_) (fun h => Bool.noConfusion ((j0).symm.trans h))
    conv => whnf
    refine ⟨⟨by omega, by omega⟩, ?_⟩
    conv => whnf
    refine ⟨_, hF, ?_⟩
    conv => whnf
    exact rfl

theorem SOne126 (x : Rat) (most : Int) (hm : most ≤ 200) (lx : Sz x 90) : AC Tryz.prog 65 [.val (.int .i32 126), RN x.num x.den, .val (.int .i64 most)] (.pure (.tup [RN (monoQ 126 x most).1.num (monoQ 126 x most).1.den, .val (.int .i64 (monoQ 126 x most).2)])) := by
  have hH := SMHas_ok 126
  rw [decide_eq_true (show isOne 126 by decide)] at hH
  have hZ := SZero_ok
  rw [show monoQ 126 x most = notQ x from rfl]
  have i1 := is1 x.den
  have j0 := is0 x.num.natAbs
  have j1 := is1 x.num.natAbs
  unfold notQ
  by_cases h0 : x = 0
  · subst h0
    rw [if_pos rfl]
    exact not_flip true (decS 0) 1 most (by rw [decS_zero]; rfl) (fun _ => (is0 0).trans rfl) (fun h => Bool.noConfusion h) rfl (by rw [decS_zero]; rfl) (decS 1) ((is1 1).trans rfl)
  rw [if_neg h0]
  by_cases h1 : x = 1
  · subst h1
    rw [if_pos rfl]
    exact not_flip false (decS 1) 0 most (by rw [decS_one]; rfl) (fun h => Bool.noConfusion h) (fun _ => ⟨(is0 1).trans rfl, (is1 1).trans rfl⟩) rfl (by rw [decS_one]; rfl) (decS 1) ((is1 1).trans rfl)
  rw [if_neg h1]
  show AC Tryz.prog 65 _ (.pure (.tup [RN 0 1, .val (.int .i64 22)]))
  refine AC.of_body TTok Tryz.func65 rfl (enter_of Tryz.func65 (by kernel_rfl) (by kernel_rfl)) (noid3 (.val _) (RN_noid _ _) (.val _)) (.tup _ (noid2 (RN_noid _ _) (.val _))) (Nat.le_of_ble_eq_true rfl) ?_
  by_cases hd : x.den = 1
  · rw [decide_eq_true hd] at i1
    by_cases hn : x.num < 0
    · have f1 : (!(decide (x.num < 0))) = false := by rw [decide_eq_true hn]; rfl
      unfold RN at *
      conv => whnf
      refine ⟨_, hH, ?_⟩
      conv => whnf
      refine caseb (fun _ => ?_) (fun h => Bool.noConfusion ((i1).symm.trans h))
      conv => whnf
      refine caseb (fun h => Bool.noConfusion ((f1).symm.trans h)) (fun _ => ?_)
      repeat
        conv => whnf
        first
          | refine ⟨_, by assumption, ?_⟩
          | refine ⟨(Nat.le_of_ble_eq_true rfl), _, by assumption, ?_⟩
          | refine ⟨by kernel_rfl, ?_⟩
          | exact rfl
          | exact ⟨Nat.le_of_ble_eq_true rfl, rfl⟩
          | refine ⟨by decide, ?_⟩
    · have f1 : (!(decide (x.num < 0))) = true := by rw [decide_eq_false hn]; rfl
      rw [decide_eq_false (by have := num_ne h0; omega)] at j0
      rw [decide_eq_false (fun e => h1 (Rat.ext (show x.num = 1 by omega) hd))] at j1
      unfold RN at *
      conv => whnf
      refine ⟨_, hH, ?_⟩
      conv => whnf
      refine caseb (fun _ => ?_) (fun h => Bool.noConfusion ((i1).symm.trans h))
      conv => whnf
      refine caseb (fun _ => ?_) (fun h => Bool.noConfusion ((f1).symm.trans h))
      conv => whnf
      refine caseb (fun h => Bool.noConfusion ((j0).symm.trans h)) (fun _ => ?_)
      conv => whnf
      refine caseb (fun h => Bool.noConfusion ((j1).symm.trans h)) (fun _ => ?_)
      repeat
        conv => whnf
        first
          | refine ⟨_, by assumption, ?_⟩
          | refine ⟨(Nat.le_of_ble_eq_true rfl), _, by assumption, ?_⟩
          | refine ⟨by kernel_rfl, ?_⟩
          | exact rfl
          | exact ⟨Nat.le_of_ble_eq_true rfl, rfl⟩
          | refine ⟨by decide, ?_⟩
  · rw [decide_eq_false hd] at i1
    unfold RN at *
    conv => whnf
    refine ⟨_, hH, ?_⟩
    conv => whnf
    refine caseb (fun h => Bool.noConfusion ((i1).symm.trans h)) (fun _ => ?_)
    repeat
      conv => whnf
      first
        | refine ⟨_, by assumption, ?_⟩
        | refine ⟨(Nat.le_of_ble_eq_true rfl), _, by assumption, ?_⟩
        | refine ⟨by kernel_rfl, ?_⟩
        | exact rfl
        | exact ⟨Nat.le_of_ble_eq_true rfl, rfl⟩
        | refine ⟨by decide, ?_⟩

theorem SOne42 (x : Rat) (most : Int) (hm : most ≤ 200) (lx : Sz x 90) : AC Tryz.prog 65 [.val (.int .i32 42), RN x.num x.den, .val (.int .i64 most)] (.pure (.tup [RN (monoQ 42 x most).1.num (monoQ 42 x most).1.den, .val (.int .i64 (monoQ 42 x most).2)])) := by
  have hH := SMHas_ok 42
  rw [decide_eq_true (show isOne 42 by decide)] at hH
  have hZ := SZero_ok
  show AC Tryz.prog 65 _ (.pure (.tup [RN 0 1, .val (.int .i64 22)]))
  refine AC.of_body TTok Tryz.func65 rfl (enter_of Tryz.func65 (by kernel_rfl) (by kernel_rfl)) (noid3 (.val _) (RN_noid _ _) (.val _)) (.tup _ (noid2 (RN_noid _ _) (.val _))) (Nat.le_of_ble_eq_true rfl) ?_
  unfold RN at *
  repeat
    conv => whnf
    first
      | refine ⟨_, by assumption, ?_⟩
      | refine ⟨(Nat.le_of_ble_eq_true rfl), _, by assumption, ?_⟩
      | refine ⟨by kernel_rfl, ?_⟩
      | exact rfl
      | exact ⟨Nat.le_of_ble_eq_true rfl, rfl⟩
      | refine ⟨by decide, ?_⟩

theorem SOne9055 (x : Rat) (most : Int) (hm : most ≤ 200) (lx : Sz x 90) : AC Tryz.prog 65 [.val (.int .i32 9055), RN x.num x.den, .val (.int .i64 most)] (.pure (.tup [RN (monoQ 9055 x most).1.num (monoQ 9055 x most).1.den, .val (.int .i64 (monoQ 9055 x most).2)])) := by
  have hH := SMHas_ok 9055
  rw [decide_eq_true (show isOne 9055 by decide)] at hH
  have hZ := SZero_ok
  show AC Tryz.prog 65 _ (.pure (.tup [RN 0 1, .val (.int .i64 22)]))
  refine AC.of_body TTok Tryz.func65 rfl (enter_of Tryz.func65 (by kernel_rfl) (by kernel_rfl)) (noid3 (.val _) (RN_noid _ _) (.val _)) (.tup _ (noid2 (RN_noid _ _) (.val _))) (Nat.le_of_ble_eq_true rfl) ?_
  unfold RN at *
  repeat
    conv => whnf
    first
      | refine ⟨_, by assumption, ?_⟩
      | refine ⟨(Nat.le_of_ble_eq_true rfl), _, by assumption, ?_⟩
      | refine ⟨by kernel_rfl, ?_⟩
      | exact rfl
      | exact ⟨Nat.le_of_ble_eq_true rfl, rfl⟩
      | refine ⟨by decide, ?_⟩

theorem SOne9675 (x : Rat) (most : Int) (hm : most ≤ 200) (lx : Sz x 90) : AC Tryz.prog 65 [.val (.int .i32 9675), RN x.num x.den, .val (.int .i64 most)] (.pure (.tup [RN (monoQ 9675 x most).1.num (monoQ 9675 x most).1.den, .val (.int .i64 (monoQ 9675 x most).2)])) := by
  have hH := SMHas_ok 9675
  rw [decide_eq_true (show isOne 9675 by decide)] at hH
  have hZ := SZero_ok
  show AC Tryz.prog 65 _ (.pure (.tup [RN 0 1, .val (.int .i64 22)]))
  refine AC.of_body TTok Tryz.func65 rfl (enter_of Tryz.func65 (by kernel_rfl) (by kernel_rfl)) (noid3 (.val _) (RN_noid _ _) (.val _)) (.tup _ (noid2 (RN_noid _ _) (.val _))) (Nat.le_of_ble_eq_true rfl) ?_
  unfold RN at *
  repeat
    conv => whnf
    first
      | refine ⟨_, by assumption, ?_⟩
      | refine ⟨(Nat.le_of_ble_eq_true rfl), _, by assumption, ?_⟩
      | refine ⟨by kernel_rfl, ?_⟩
      | exact rfl
      | exact ⟨Nat.le_of_ble_eq_true rfl, rfl⟩
      | refine ⟨by decide, ?_⟩

theorem SOne_not (c : Int) (hc : ¬ isOne c) (x : Rat) (most : Int) : AC Tryz.prog 65 [.val (.int .i32 c), RN x.num x.den, .val (.int .i64 most)] (.pure (.tup [RN 0 1, .val (.int .i64 20)])) := by
  have hH := SMHas_ok c
  rw [decide_eq_false hc] at hH
  have hZ := SZero_ok
  refine AC.of_body TTok Tryz.func65 rfl (enter_of Tryz.func65 (by kernel_rfl) (by kernel_rfl)) (noid3 (.val _) (RN_noid _ _) (.val _)) (.tup _ (noid2 (RN_noid _ _) (.val _))) (Nat.le_of_ble_eq_true rfl) ?_
  unfold RN at *
  repeat
    conv => whnf
    first
      | refine ⟨_, by assumption, ?_⟩
      | refine ⟨(Nat.le_of_ble_eq_true rfl), _, by assumption, ?_⟩
      | refine ⟨by kernel_rfl, ?_⟩
      | exact rfl
      | exact ⟨Nat.le_of_ble_eq_true rfl, rfl⟩
      | refine ⟨by decide, ?_⟩
theorem SMono_ok (c : Int) (x : Rat) (most : Int) (hm : most ≤ 200) (lx : Sz x 90) : AC Tryz.prog 65 [.val (.int .i32 c), RN x.num x.den, .val (.int .i64 most)] (.pure (.tup [RN (monoQ c x most).1.num (monoQ c x most).1.den, .val (.int .i64 (monoQ c x most).2)])) := by
  by_cases hc : isOne c
  · rcases hc with rfl | rfl | rfl | rfl | rfl | rfl | rfl | rfl | rfl | rfl | rfl | rfl
    · exact SOne43 x most hm lx
    · exact SOne45 x most hm lx
    · exact SOne215 x most hm lx
    · exact SOne247 x most hm lx
    · exact SOne8968 x most hm lx
    · exact SOne8970 x most hm lx
    · exact SOne124 x most hm lx
    · exact SOne42 x most hm lx
    · exact SOne33 x most hm lx
    · exact SOne126 x most hm lx
    · exact SOne9055 x most hm lx
    · exact SOne9675 x most hm lx
  · rw [mono_not hc]
    exact SOne_not c hc x most

end Go.Proofs.YtclamnmpleiakaaGreat

/- Arrays: a function of each element (the program's contract). -/
set_option linter.unusedVariables false
namespace Go.Proofs.YtclamnmpleiakaaGreat
open Go Go.AL NM

/-- The first error of a list's elements (0: none). -/
def firstE : List (Rat × Int) → Int
  | [] => 0
  | x :: l => if x.2 = 0 then firstE l else x.2
theorem firstE_zero {l : List (Rat × Int)} (h : ∀ x ∈ l, x.2 = 0) : firstE l = 0 := by
  induction l with
  | nil => rfl
  | cons x l ih =>
    show (if x.2 = 0 then firstE l else x.2) = 0
    rw [if_pos (h x List.mem_cons_self), ih (fun y hy => h y (List.mem_cons_of_mem _ hy))]
theorem firstE_at {l : List (Rat × Int)} {i : Nat} (hi : i < l.length) (h : ∀ x ∈ l.take i, x.2 = 0) (hn : l[i].2 ≠ 0) : firstE l = l[i].2 := by
  induction l generalizing i with
  | nil => exact absurd hi (Nat.not_lt_zero _)
  | cons x l ih =>
    show (if x.2 = 0 then firstE l else x.2) = _
    cases i with
    | zero =>
      have hn : x.2 ≠ 0 := hn
      rw [if_neg hn]; rfl
    | succ i =>
      rw [if_pos (h x (by simp))]
      exact ih (by simpa using hi) (fun y hy => h y (by simp [hy])) hn
/-- What an array's element by element function comes to. -/
def resA (sh : List Int) (E : Int) (l : List (Option (Rat × Nat))) : AV := if E = 0 then .tup [AA sh false [] l true, .val (.int .i64 0)] else .tup [AA [] false [] [] false, .val (.int .i64 E)]
theorem resA_err {P : Program} {f : FuncId} {args : List AV} {e : Int} (sh : List Int) (l : List (Option (Rat × Nat))) (he : e ≠ 0) (h : AC P f args (.pure (.tup [AZ, .val (.int .i64 e)]))) : AC P f args (.pure (resA sh e l)) := by
  unfold resA
  rw [if_neg he]
  exact AC.le_res h (.tup2 AZ_le (.refl _)) (.tup _ (noid2 (AA_noid _ _ _ _ _) (.val _)))
theorem AZt_noid (e : Int) : NoId (.tup [AZ, .val (.int .i64 e)]) := .tup _ (noid2 AZ_noid (.val _))
theorem drop_at {α : Type} {l : List α} {k : Nat} (hk : k < l.length) : l.drop k = l[k] :: l.drop (k + 1) := List.drop_eq_getElem_cons hk
theorem set_mid {α : Type} (a : List α) (x y : α) (b : List α) : (a ++ x :: b).set a.length y = a ++ y :: b := by
  rw [List.set_append_right _ _ (Nat.le_refl _), Nat.sub_self]; rfl

section
variable (c : Int) (sh : List Int) (ch : Bool) (tx : List Int) (qs : List Rat) (most : Int)
def oneE : Int := if isOne c then (if ch = true ∧ 0 < tx.length + qs.length then 22 else firstE (qs.map fun q => monoQ c q most)) else 20
theorem One_not' (h : ¬ isOne c) (ns : List (Option (Rat × Nat))) : AC Tryz.prog 24 [.val (.int .i32 c), AA sh ch tx ns true, .val (.int .i64 most)] (.pure (.tup [AZ, .val (.int .i64 20)])) := by
  have hH := MHas_ok c
  rw [decide_eq_false h] at hH
  refine AC.of_body TTok Tryz.func24 rfl (enter_of Tryz.func24 (by kernel_rfl) (by kernel_rfl)) (noid3 (.val _) (AA_noid _ _ _ _ _) (.val _)) (AZt_noid _) (Nat.le_of_ble_eq_true rfl) ?_
  unfold AA
  repeat
    conv => whnf
    first
      | refine ⟨_, by assumption, ?_⟩
      | refine ⟨(Nat.le_of_ble_eq_true rfl), _, by assumption, ?_⟩
      | refine ⟨by kernel_rfl, ?_⟩
      | exact rfl
      | exact ⟨Nat.le_of_ble_eq_true rfl, rfl⟩
      | refine ⟨by decide, ?_⟩
theorem One_char (h : isOne c) (ns : List (Option (Rat × Nat))) (h1 : tx.length ≤ 100000) (h2 : ns.length ≤ 100000) (h0 : 0 < tx.length + ns.length) : AC Tryz.prog 24 [.val (.int .i32 c), AA sh true tx ns true, .val (.int .i64 most)] (.pure (.tup [AZ, .val (.int .i64 22)])) := by
  have hH := MHas_ok c
  rw [decide_eq_true h] at hH
  have hI := IsChar_ok sh true tx ns true
  have hL := ALen_ok sh true tx ns true (by omega) (by omega)
  refine AC.of_body TTok Tryz.func24 rfl (enter_of Tryz.func24 (by kernel_rfl) (by kernel_rfl)) (noid3 (.val _) (AA_noid _ _ _ _ _) (.val _)) (AZt_noid _) (Nat.le_of_ble_eq_true rfl) ?_
  generalize tx.length + ns.length = la at *
  unfold AA at *
  repeat
    conv => whnf
    first
      | refine ⟨_, by assumption, ?_⟩
      | refine ⟨(Nat.le_of_ble_eq_true rfl), _, by assumption, ?_⟩
      | refine ⟨by kernel_rfl, ?_⟩
      | exact rfl
      | exact ⟨Nat.le_of_ble_eq_true rfl, rfl⟩
      | refine ⟨by decide, ?_⟩
      | refine caseb (fun _ => ?_) (fun h => absurd (of_decide_eq_false h) (by omega))
      | refine caseb (fun h => absurd (of_decide_eq_true h) (by omega)) (fun _ => ?_)
      | refine caseb (fun _ => ?_) (fun h => absurd (beq_eq_false_iff_ne.1 h) (by omega))
      | refine caseb (fun h => absurd (eq_of_beq h) (by omega)) (fun _ => ?_)
      | refine caseb (fun h => absurd (bne_iff_ne.1 h) (by omega)) (fun _ => ?_)
      | refine caseb (fun _ => ?_) (fun h => absurd (bne_eq_false_iff_eq.1 h) (by omega))
theorem One_nil (h : isOne c) (h0 : ¬ (ch = true ∧ 0 < tx.length)) (hv : vS sh) (hc : cntI sh = 0) (h1 : tx.length ≤ 100000) : AC Tryz.prog 24 [.val (.int .i32 c), AA sh ch tx [] true, .val (.int .i64 most)] (.pure (.tup [AA sh false [] [] true, .val (.int .i64 0)])) := by
  have hH := MHas_ok c
  rw [decide_eq_true h] at hH
  have hI := IsChar_ok sh ch tx [] true
  have hL := ALen_ok sh ch tx [] true (by omega) (by decide)
  have hR := Rats_ok sh ch tx [] true (by decide)
  have hS := Shape_ok sh ch tx [] (by have := hv.1; omega)
  have hN := Nums_ok sh [] hv hc (by decide)
  refine AC.of_body TTok Tryz.func24 rfl (enter_of Tryz.func24 (by kernel_rfl) (by kernel_rfl)) (noid3 (.val _) (AA_noid _ _ _ _ _) (.val _)) (.tup _ (noid2 (AA_noid _ _ _ _ _) (.val _))) (Nat.le_of_ble_eq_true rfl) ?_
  have hl0 : ¬ ((tx.length + ([] : List (Option (Rat × Nat))).length : Nat) : Int) > 0 ∨ ch = false := by
    cases ch with
    | false => exact .inr rfl
    | true => exact .inl (fun hh => h0 ⟨rfl, by have : ([] : List (Option (Rat × Nat))).length = 0 := rfl; omega⟩)
  generalize tx.length + ([] : List (Option (Rat × Nat))).length = la at *
  unfold AA at *
  cases ch with
  | false =>
    repeat
      conv => whnf
      first
        | refine ⟨_, by assumption, ?_⟩
        | refine ⟨(Nat.le_of_ble_eq_true rfl), _, by assumption, ?_⟩
        | refine ⟨by kernel_rfl, ?_⟩
        | exact rfl
        | exact ⟨Nat.le_of_ble_eq_true rfl, rfl⟩
        | refine ⟨by decide, ?_⟩
        | refine caseb (fun _ => ?_) (fun h => absurd (of_decide_eq_false h) (by omega))
        | refine caseb (fun h => absurd (of_decide_eq_true h) (by omega)) (fun _ => ?_)
        | refine caseb (fun _ => ?_) (fun h => absurd (beq_eq_false_iff_ne.1 h) (by omega))
        | refine caseb (fun h => absurd (eq_of_beq h) (by omega)) (fun _ => ?_)
        | refine caseb (fun h => absurd (bne_iff_ne.1 h) (by omega)) (fun _ => ?_)
        | refine caseb (fun _ => ?_) (fun h => absurd (bne_eq_false_iff_eq.1 h) (by omega))
    conv => whnf
    refine SW.loopM TTok (fun _ : Unit => [(4, .lp 0 0), (6, .lp 8 0), (8, .sl 3 [] false), (30, .val (.int .i64 0)), (31, .val (.int .i64 0))]) (fun _ => [(0, .cells 5 [[.sl 1 (irows .i64 sh) false, .val (.bool false), .sl 1 (irows .i32 tx) false, .sl 3 [] false, .val (.bool true)]]), (8, .cells 5 [[.sl 0 [] true, .val (.bool false), .sl 0 [] true, .sl 0 [] true, .val (.bool false)]])]) 152 60 rfl (fun _ => 0) (fun _ => True) () [] trivial
      ⟨⟨rfl, rfl⟩, ⟨rfl, rfl⟩, ⟨rfl, rfl⟩, ⟨rfl, rfl⟩, ⟨rfl, rfl⟩, trivial⟩ ⟨⟨rfl, .inr ⟨rfl, rfl⟩⟩, ⟨rfl, .inr ⟨rfl, rfl⟩⟩, trivial⟩ rfl ?_
    intro _ _
    repeat
      conv => whnf
      first
        | refine ⟨_, by assumption, ?_⟩
        | refine ⟨(Nat.le_of_ble_eq_true rfl), _, by assumption, ?_⟩
        | refine ⟨by kernel_rfl, ?_⟩
        | exact rfl
        | exact ⟨Nat.le_of_ble_eq_true rfl, rfl⟩
        | refine ⟨by decide, ?_⟩
        | refine caseb (fun _ => ?_) (fun h => absurd (of_decide_eq_false h) (by omega))
        | refine caseb (fun h => absurd (of_decide_eq_true h) (by omega)) (fun _ => ?_)
        | refine caseb (fun _ => ?_) (fun h => absurd (beq_eq_false_iff_ne.1 h) (by omega))
        | refine caseb (fun h => absurd (eq_of_beq h) (by omega)) (fun _ => ?_)
        | refine caseb (fun h => absurd (bne_iff_ne.1 h) (by omega)) (fun _ => ?_)
        | refine caseb (fun _ => ?_) (fun h => absurd (bne_eq_false_iff_eq.1 h) (by omega))
  | true =>
    have hl1 := hl0.resolve_right (by decide)
    repeat
      conv => whnf
      first
        | refine ⟨_, by assumption, ?_⟩
        | refine ⟨(Nat.le_of_ble_eq_true rfl), _, by assumption, ?_⟩
        | refine ⟨by kernel_rfl, ?_⟩
        | exact rfl
        | exact ⟨Nat.le_of_ble_eq_true rfl, rfl⟩
        | refine ⟨by decide, ?_⟩
        | refine caseb (fun _ => ?_) (fun h => absurd (of_decide_eq_false h) (by omega))
        | refine caseb (fun h => absurd (of_decide_eq_true h) (by omega)) (fun _ => ?_)
        | refine caseb (fun _ => ?_) (fun h => absurd (beq_eq_false_iff_ne.1 h) (by omega))
        | refine caseb (fun h => absurd (eq_of_beq h) (by omega)) (fun _ => ?_)
        | refine caseb (fun h => absurd (bne_iff_ne.1 h) (by omega)) (fun _ => ?_)
        | refine caseb (fun _ => ?_) (fun h => absurd (bne_eq_false_iff_eq.1 h) (by omega))
    conv => whnf
    refine SW.loopM TTok (fun _ : Unit => [(4, .lp 0 0), (6, .lp 8 0), (8, .sl 3 [] false), (30, .val (.int .i64 0)), (31, .val (.int .i64 0))]) (fun _ => [(0, .cells 5 [[.sl 1 (irows .i64 sh) false, .val (.bool true), .sl 1 (irows .i32 tx) false, .sl 3 [] false, .val (.bool true)]]), (8, .cells 5 [[.sl 0 [] true, .val (.bool false), .sl 0 [] true, .sl 0 [] true, .val (.bool false)]])]) 152 60 rfl (fun _ => 0) (fun _ => True) () [] trivial
      ⟨⟨rfl, rfl⟩, ⟨rfl, rfl⟩, ⟨rfl, rfl⟩, ⟨rfl, rfl⟩, ⟨rfl, rfl⟩, trivial⟩ ⟨⟨rfl, .inr ⟨rfl, rfl⟩⟩, ⟨rfl, .inr ⟨rfl, rfl⟩⟩, trivial⟩ rfl ?_
    intro _ _
    repeat
      conv => whnf
      first
        | refine ⟨_, by assumption, ?_⟩
        | refine ⟨(Nat.le_of_ble_eq_true rfl), _, by assumption, ?_⟩
        | refine ⟨by kernel_rfl, ?_⟩
        | exact rfl
        | exact ⟨Nat.le_of_ble_eq_true rfl, rfl⟩
        | refine ⟨by decide, ?_⟩
        | refine caseb (fun _ => ?_) (fun h => absurd (of_decide_eq_false h) (by omega))
        | refine caseb (fun h => absurd (of_decide_eq_true h) (by omega)) (fun _ => ?_)
        | refine caseb (fun _ => ?_) (fun h => absurd (beq_eq_false_iff_ne.1 h) (by omega))
        | refine caseb (fun h => absurd (eq_of_beq h) (by omega)) (fun _ => ?_)
        | refine caseb (fun h => absurd (bne_iff_ne.1 h) (by omega)) (fun _ => ?_)
        | refine caseb (fun _ => ?_) (fun h => absurd (bne_eq_false_iff_eq.1 h) (by omega))
end
end Go.Proofs.YtclamnmpleiakaaGreat

/- Arrays: a function of each element (the program's contract: the loop). -/
set_option linter.unusedVariables false
namespace Go.Proofs.YtclamnmpleiakaaGreat
open Go Go.AL NM

theorem pick_all {α β : Type} [Inhabited β] {l : List α} {p : α → β → Prop} (h : ∀ a ∈ l, ∃ b, p a b) : ∃ f : α → β, ∀ a ∈ l, p a (f a) := by
  classical
  exact ⟨fun a => if ha : a ∈ l then Classical.choose (h a ha) else default, fun a ha => by show p a (if ha : a ∈ l then Classical.choose (h a ha) else default); rw [dif_pos ha]; exact Classical.choose_spec (h a ha)⟩

theorem One_loop (c : Int) (hc : isOne c) (sh : List Int) (tx : List Int) (qs : List Rat) (most : Int) (D : Rat → Nat) (hne : qs ≠ []) (hlen : qs.length ≤ 1000) (htx : tx = [])
    (hD : ∀ q ∈ qs, dn (D q) = (monoQ c q most).1.den ∧ AC Tryz.prog 63 [.val (.int .i32 c), RA q.num q.den, .val (.int .i64 most)] (.pure (.tup [RA (monoQ c q most).1.num (D q), .val (.int .i64 (monoQ c q most).2)])))
    (hv : vS sh) (hcn : cntI sh = (qs.length : Int)) (E : Int) (hE : E = firstE (qs.map fun q => monoQ c q most)) :
    AC Tryz.prog 24 [.val (.int .i32 c), AA sh false tx (qs.map ofX) true, .val (.int .i64 most)] (.pure (if E = 0 then .tup [AA sh false [] (qs.map fun q => some ((monoQ c q most).1, D q)) true, .val (.int .i64 0)] else .tup [AZ, .val (.int .i64 E)])) := by
  subst htx
  have hH := MHas_ok c
  rw [decide_eq_true hc] at hH
  have hI := IsChar_ok sh false [] (qs.map ofX) true
  have l0 : (qs.map ofX).length = qs.length := List.length_map _
  have hR := Rats_fresh sh false [] (qs.map ofX) true (by omega) (fun h => hne (List.map_eq_nil_iff.1 h))
  have hS := Shape_ok sh false [] (qs.map ofX) (by have := hv.1; omega)
  have l1 : (qs.map fun q => some ((monoQ c q most).1, D q)).length = qs.length := List.length_map _
  have hN := Nums_ok sh (qs.map fun q => some ((monoQ c q most).1, D q)) hv (by rw [l1]; exact hcn) (by omega)
  have l2 : ((qs.map ofX).map rowX).length = qs.length := by rw [List.length_map, l0]
  obtain ⟨res, hres⟩ : ∃ res : AV, res = if E = 0 then .tup [AA sh false [] (qs.map fun q => some ((monoQ c q most).1, D q)) true, .val (.int .i64 0)] else .tup [AZ, .val (.int .i64 E)] := ⟨_, rfl⟩
  rw [← hres]
  have hnr : NoId res := by
    rw [hres]; split
    · exact .tup _ (noid2 (AA_noid _ _ _ _ _) (.val _))
    · exact AZt_noid _
  refine AC.of_body TTok Tryz.func24 rfl (enter_of Tryz.func24 (by kernel_rfl) (by kernel_rfl)) (noid3 (.val _) (AA_noid _ _ _ _ _) (.val _)) hnr (Nat.le_of_ble_eq_true rfl) ?_
  obtain ⟨Y, hY⟩ : ∃ Y : List (Option (Rat × Nat)), Y = qs.map fun q => some ((monoQ c q most).1, D q) := ⟨_, rfl⟩
  rw [← hY] at l1 hN hres
  have hYi : ∀ i (h : i < qs.length), Y[i]'(by omega) = some ((monoQ c qs[i] most).1, D qs[i]) := fun i h => by
    subst hY; rw [List.getElem_map]
  unfold AA at hI hR hS ⊢
  conv => whnf
  refine ⟨_, hH, ?_⟩
  conv => whnf
  refine ⟨_, hI, ?_⟩
  conv => whnf
  refine ⟨_, hR, ?_⟩
  conv => whnf
  refine SW.loopM TTok (fun i : Nat => [(0, .val (.int .i32 c)), (2, .val (.int .i64 most)), (4, .lp 0 0), (6, .lp 8 0), (8, .own 112 0 ((qs.map ofX).map rowX).length), (29, .own 112 0 ((qs.map ofX).map rowX).length), (30, .val (.int .i64 (((qs.map ofX).map rowX).length : Int))), (31, .val (.int .i64 (i : Int)))])
    (fun i => [(0, .cells 5 [[.sl 1 (irows .i64 sh) false, .val (.bool false), .sl 1 (irows .i32 []) false, .sl 3 ((qs.map ofX).map rowX) false, .val (.bool true)]]), (8, .cells 5 [[.sl 0 [] true, .val (.bool false), .sl 0 [] true, .sl 0 [] true, .val (.bool false)]]), (112, .cells 3 ((Y.take i ++ (qs.map ofX).drop i).map rowX))]) 152 60 rfl (fun i => qs.length - i) (fun i => i ≤ qs.length ∧ ∀ q ∈ qs.take i, (monoQ c q most).2 = 0) 0 [] ⟨Nat.zero_le _, fun x hx => nomatch hx⟩
    ⟨⟨rfl, rfl⟩, ⟨rfl, rfl⟩, ⟨rfl, rfl⟩, ⟨rfl, rfl⟩, ⟨rfl, rfl⟩, ⟨rfl, rfl⟩, ⟨rfl, rfl⟩, ⟨rfl, rfl⟩, trivial⟩ ⟨⟨rfl, .inr ⟨rfl, rfl⟩⟩, ⟨rfl, .inr ⟨rfl, rfl⟩⟩, ⟨rfl, .inl ⟨rfl, rowsX_noid _⟩⟩, trivial⟩ rfl ?_
  intro i hJ
  have hi : i ≤ qs.length := hJ.1
  have hz : ∀ q ∈ qs.take i, (monoQ c q most).2 = 0 := hJ.2
  clear hJ
  have lr : ((Y.take i ++ (qs.map ofX).drop i).map rowX).length = qs.length := by
    rw [List.length_map, List.length_append, List.length_take, List.length_drop, l0, l1]; omega
  by_cases hlt : i < qs.length
  · have eI : IntKind.i64.wrap ((i : Int) + 1) = ((i + 1 : Nat) : Int) := by rw [IntWalk.i64_in _ (by omega)]; omega
    have hlt' : i < (qs.map ofX).length := by omega
    have hdr : (qs.map ofX).drop i = ofX qs[i] :: (qs.map ofX).drop (i + 1) := by rw [drop_at hlt', List.getElem_map]
    have ltk : (Y.take i).length = i := by rw [List.length_take]; omega
    have hg : ((Y.take i ++ (qs.map ofX).drop i).map rowX)[i]? = some [.sl 1 (irows .u32 (limbs qs[i].num.natAbs)) false, .val (.bool (decide (qs[i].num < 0))), .sl 1 (irows .u32 (limbs qs[i].den)) false] := by
      rw [hdr, List.getElem?_map, List.getElem?_append_right (by omega), ltk, Nat.sub_self]; rfl
    obtain ⟨d1, d2⟩ := hD _ (List.getElem_mem hlt)
    have hset : ((Y.take i ++ (qs.map ofX).drop i).map rowX).set i (rowX (some ((monoQ c qs[i] most).1, D qs[i]))) = (Y.take (i + 1) ++ (qs.map ofX).drop (i + 1)).map rowX := by
      rw [hdr, take_snoc (show i < Y.length by omega), hYi i hlt, List.map_append, List.map_cons]
      have := set_mid ((Y.take i).map rowX) (rowX (ofX qs[i])) (rowX (some ((monoQ c qs[i] most).1, D qs[i]))) (((qs.map ofX).drop (i + 1)).map rowX)
      rw [List.length_map, ltk] at this
      rw [this]; simp
    by_cases he : (monoQ c qs[i] most).2 = 0
    · rw [he] at d2
      unfold RA at d2
      conv => whnf
      first
        | refine caseb (fun _ => ?_) (fun h => absurd (of_decide_eq_false h) (by omega))
        | refine caseb (fun h => absurd (of_decide_eq_true h) (by omega)) (fun _ => ?_)
        | refine caseb (fun _ => ?_) (fun h => absurd (beq_eq_false_iff_ne.1 h) (by omega))
        | refine caseb (fun h => absurd (eq_of_beq h) (by omega)) (fun _ => ?_)
      conv => whnf
      refine ⟨by omega, ?_⟩
      conv => whnf
      refine ⟨_, by rw [Nat.zero_add, Int.toNat_natCast]; exact hg, ?_⟩
      conv => whnf
      refine ⟨_, d2, ?_⟩
      conv => whnf
      refine ⟨by omega, ?_⟩
      conv => whnf
      refine ⟨by rw [Nat.zero_add, Int.toNat_natCast]; omega, ?_⟩
      conv => whnf
      refine ⟨i + 1, [], (by show qs.length - (i + 1) < qs.length - i; omega), ⟨hlt, fun q hq => ?_⟩, ⟨⟨rfl, rfl⟩, ⟨rfl, rfl⟩, ⟨rfl, rfl⟩, ⟨rfl, rfl⟩, ⟨rfl, rfl⟩, ⟨rfl, rfl⟩, ⟨rfl, rfl⟩, ⟨valI eI, rfl⟩, trivial⟩, ⟨⟨rfl, .inr ⟨rfl, rfl⟩⟩, ⟨rfl, .inr ⟨rfl, rfl⟩⟩, ⟨rfl, .inl ⟨celE ?_, rowsX_noid _⟩⟩, trivial⟩, rfl⟩
      · rw [take_snoc hlt] at hq
        rcases List.mem_append.1 hq with h | h
        · exact hz q h
        · rw [List.mem_singleton.1 h]; exact he
      · rw [← hset]
        show List.set _ (0 + (i : Int).toNat) _ = _
        rw [Nat.zero_add, Int.toNat_natCast]
        rfl
    · have hEe : E = (monoQ c qs[i] most).2 := by
        rw [hE]
        have := firstE_at (l := qs.map fun q => monoQ c q most) (i := i) (by rw [List.length_map]; exact hlt) (fun x hx => by
          rw [← List.map_take] at hx
          obtain ⟨q, hq, rfl⟩ := List.mem_map.1 hx
          exact hz q hq) (by rw [List.getElem_map]; exact he)
        rw [this, List.getElem_map]
      rw [if_neg (by rw [hEe]; exact he), hEe] at hres
      subst hres
      unfold RA at d2
      conv => whnf
      first
        | refine caseb (fun _ => ?_) (fun h => absurd (of_decide_eq_false h) (by omega))
        | refine caseb (fun h => absurd (of_decide_eq_true h) (by omega)) (fun _ => ?_)
        | refine caseb (fun _ => ?_) (fun h => absurd (beq_eq_false_iff_ne.1 h) (by omega))
        | refine caseb (fun h => absurd (eq_of_beq h) (by omega)) (fun _ => ?_)
      conv => whnf
      refine ⟨by omega, ?_⟩
      conv => whnf
      refine ⟨_, by rw [Nat.zero_add, Int.toNat_natCast]; exact hg, ?_⟩
      conv => whnf
      refine ⟨_, d2, ?_⟩
      conv => whnf
      first
        | refine caseb (fun h => absurd (bne_iff_ne.1 h) (by omega)) (fun _ => ?_)
        | refine caseb (fun _ => ?_) (fun h => absurd (bne_eq_false_iff_eq.1 h) (by omega))
      repeat
        conv => whnf
        first
          | refine ⟨_, by assumption, ?_⟩
          | refine ⟨(Nat.le_of_ble_eq_true rfl), _, by assumption, ?_⟩
          | refine ⟨by kernel_rfl, ?_⟩
          | exact rfl
          | exact ⟨Nat.le_of_ble_eq_true rfl, rfl⟩
          | refine ⟨by decide, ?_⟩
  · have hie : i = qs.length := by omega
    have hE0 : E = 0 := by
      rw [hE]
      refine firstE_zero (fun x hx => ?_)
      obtain ⟨q, hq, rfl⟩ := List.mem_map.1 hx
      rw [hie, List.take_length] at hz
      exact hz q hq
    rw [if_pos hE0] at hres
    subst hres
    have e1 : Y.take i ++ (qs.map ofX).drop i = Y := by
      rw [hie, List.take_of_length_le (by omega), List.drop_of_length_le (by omega), List.append_nil]
    rw [e1]
    have key : List.take ((qs.map ofX).map rowX).length (List.drop 0 (Y.map rowX)) = Y.map rowX := by rw [List.drop_zero, List.take_of_length_le (by rw [List.length_map]; omega)]
    conv => whnf
    first
      | refine caseb (fun _ => ?_) (fun h => absurd (of_decide_eq_false h) (by omega))
      | refine caseb (fun h => absurd (of_decide_eq_true h) (by omega)) (fun _ => ?_)
      | refine caseb (fun _ => ?_) (fun h => absurd (beq_eq_false_iff_ne.1 h) (by omega))
      | refine caseb (fun h => absurd (eq_of_beq h) (by omega)) (fun _ => ?_)
    conv => whnf
    refine ⟨_, hS, ?_⟩
    conv => whnf
    rw [key]
    have lY : (Y.map rowX).length = qs.length := by rw [List.length_map]; exact l1
    unfold AA at *
    refine ⟨by show 0 + ((qs.map ofX).map rowX).length ≤ (Y.map rowX).length; omega, _, hN, ?_⟩
    repeat
      conv => whnf
      first
        | refine ⟨_, by assumption, ?_⟩
        | refine ⟨(Nat.le_of_ble_eq_true rfl), _, by assumption, ?_⟩
        | refine ⟨by kernel_rfl, ?_⟩
        | exact rfl
        | exact ⟨Nat.le_of_ble_eq_true rfl, rfl⟩
        | refine ⟨by decide, ?_⟩

/-- What One comes to. -/
theorem POne_ok (c : Int) (sh : List Int) (ch : Bool) (tx : List Int) (qs : List Rat) (most : Int) (hm : most ≤ 200) (hv : vS sh) (hk : kinds sh ch tx.length qs.length) (h2 : tx.length ≤ 1000) (h3 : qs.length ≤ 1000) (hQ : ∀ q ∈ qs, Sz q 5) :
    ∃ l : List (Option (Rat × Nat)), (oneE c ch tx qs most = 0 → l.map valX = qs.map fun q => (monoQ c q most).1) ∧ (∀ o ∈ l, okX o) ∧ l.length = qs.length ∧
      AC Tryz.prog 24 [.val (.int .i32 c), AA sh ch tx (qs.map ofX) true, .val (.int .i64 most)] (.pure (resA sh (oneE c ch tx qs most) l)) := by
  obtain ⟨D, hD⟩ := pick_all (l := qs) (p := fun q d => dn d = (monoQ c q most).1.den ∧ AC Tryz.prog 63 [.val (.int .i32 c), RA q.num q.den, .val (.int .i64 most)] (.pure (.tup [RA (monoQ c q most).1.num d, .val (.int .i64 (monoQ c q most).2)]))) (fun q hq => Mono_ok c q q.den most (dn_den q) hm ((hQ q hq).mono (by decide)))
  have hl : ∀ o ∈ (qs.map fun q => some ((monoQ c q most).1, D q)), okX o := fun o ho => by
    obtain ⟨q, hq, rfl⟩ := List.mem_map.1 ho
    exact (hD q hq).1
  refine ⟨qs.map fun q => some ((monoQ c q most).1, D q), fun _ => by rw [List.map_map]; rfl, hl, List.length_map _, ?_⟩
  unfold oneE
  by_cases hc : isOne c
  · rw [if_pos hc]
    by_cases h0 : ch = true ∧ 0 < tx.length + qs.length
    · rw [if_pos h0]
      obtain ⟨rfl, h0⟩ := h0
      exact resA_err sh _ (by decide) (One_char c sh tx most hc (qs.map ofX) (by omega) (by rw [List.length_map]; omega) (by rw [List.length_map]; exact h0))
    · rw [if_neg h0]
      have hks := hk
      unfold kinds at hks
      by_cases hne : qs = []
      · subst hne
        show AC Tryz.prog 24 _ (.pure (resA sh 0 []))
        unfold resA
        rw [if_pos rfl]
        refine One_nil c sh ch tx most hc (fun h => h0 ⟨h.1, by omega⟩) hv ?_ (by omega)
        cases ch with
        | true =>
          have : ¬ 0 < tx.length + ([] : List Rat).length := fun h => h0 ⟨rfl, h⟩
          have h5 : (tx.length : Int) = cntI sh := hks.1
          omega
        | false =>
          have h5 : ((([] : List Rat).length : Nat) : Int) = cntI sh := hks.1
          have : ([] : List Rat).length = 0 := rfl
          omega
      · have hch : ch = false := by
          cases ch with
          | false => rfl
          | true =>
            have h5 : qs.length = 0 := hks.2
            exact absurd (List.length_eq_zero_iff.1 h5) hne
        subst hch
        have h5 : (qs.length : Int) = cntI sh ∧ tx.length = 0 := hks
        have h6 := One_loop c hc sh tx qs most D hne h3 (List.length_eq_zero_iff.1 h5.2) hD hv h5.1.symm _ rfl
        unfold resA
        by_cases hE : firstE (qs.map fun q => monoQ c q most) = 0
        · rw [if_pos hE] at h6 ⊢
          exact h6
        · rw [if_neg hE] at h6 ⊢
          exact AC.le_res h6 (.tup2 AZ_le (.refl _)) (.tup _ (noid2 (AA_noid _ _ _ _ _) (.val _)))
  · rw [if_neg hc]
    exact resA_err sh _ (by decide) (One_not' c sh ch tx most hc (qs.map ofX))
end Go.Proofs.YtclamnmpleiakaaGreat

/- Arrays: a function of each element (the document's contract). -/
set_option linter.unusedVariables false
namespace Go.Proofs.YtclamnmpleiakaaGreat
open Go Go.AL NM

def resP (sh : List Int) (E : Int) (l : List Rat) : AV := if E = 0 then .tup [PA sh false [] l, .val (.int .i64 0)] else .tup [PA [] false [] [], .val (.int .i64 E)]
theorem resP_err {P : Program} {f : FuncId} {args : List AV} {e : Int} (sh : List Int) (l : List Rat) (he : e ≠ 0) (h : AC P f args (.pure (.tup [PZ, .val (.int .i64 e)]))) : AC P f args (.pure (resP sh e l)) := by
  unfold resP
  rw [if_neg he]
  exact AC.le_res h (.tup2 PZ_le (.refl _)) (.tup _ (noid2 (PA_noid _ _ _ _) (.val _)))
theorem PZt_noid (e : Int) : NoId (.tup [PZ, .val (.int .i64 e)]) := .tup _ (noid2 PZ_noid (.val _))
theorem good_noid (sh : List Int) (l : List Rat) : NoId (.tup [.agg [.sl 1 (irows .i64 sh) false, .val (.bool false), .sl 0 [] true, .sl 3 (l.map rowN) false], .val (.int .i64 0)]) :=
  .tup _ (noid2 (.agg _ (noidF (noid_sl _ _ _) (.val _) (.sl _ _ _ (fun r hr => nomatch hr)) (slN_noid _))) (.val _))

theorem ROne_loop (c : Int) (hc : isOne c) (sh : List Int) (ch : Bool) (qs : List Rat) (most : Int) (hlen : qs.length ≤ 1000)
    (hD : ∀ q ∈ qs, AC Tryz.prog 65 [.val (.int .i32 c), RN q.num q.den, .val (.int .i64 most)] (.pure (.tup [RN (monoQ c q most).1.num (monoQ c q most).1.den, .val (.int .i64 (monoQ c q most).2)])))
    (E : Int) (hE : E = firstE (qs.map fun q => monoQ c q most)) :
    AC Tryz.prog 25 [.val (.int .i32 c), PA sh ch [] qs, .val (.int .i64 most)] (.pure (if E = 0 then .tup [.agg [.sl 1 (irows .i64 sh) false, .val (.bool false), .sl 0 [] true, .sl 3 ((qs.map fun q => (monoQ c q most).1).map rowN) false], .val (.int .i64 0)] else .tup [PZ, .val (.int .i64 E)])) := by
  have hH := SMHas_ok c
  rw [decide_eq_true hc] at hH
  have l2 : (qs.map rowN).length = qs.length := List.length_map _
  obtain ⟨Y, hY⟩ : ∃ Y : List Rat, Y = qs.map fun q => (monoQ c q most).1 := ⟨_, rfl⟩
  rw [← hY]
  have l1 : Y.length = qs.length := by rw [hY, List.length_map]
  have hYi : ∀ i (h : i < qs.length), Y[i]'(by omega) = (monoQ c qs[i] most).1 := fun i h => by
    subst hY; rw [List.getElem_map]
  obtain ⟨res, hres⟩ : ∃ res : AV, res = if E = 0 then .tup [.agg [.sl 1 (irows .i64 sh) false, .val (.bool false), .sl 0 [] true, .sl 3 (Y.map rowN) false], .val (.int .i64 0)] else .tup [PZ, .val (.int .i64 E)] := ⟨_, rfl⟩
  rw [← hres]
  have hnr : NoId res := by
    rw [hres]; split
    · exact good_noid _ _
    · exact PZt_noid _
  refine AC.of_body TTok Tryz.func25 rfl (enter_of Tryz.func25 (by kernel_rfl) (by kernel_rfl)) (noid3 (.val _) (PA_noid _ _ _ _) (.val _)) hnr (Nat.le_of_ble_eq_true rfl) ?_
  unfold PA
  conv => whnf
  refine ⟨_, hH, ?_⟩
  conv => whnf
  refine SW.nilC 104 3 3 rfl rfl ?_
  refine SW.loopM TTok (fun i : Nat => [(0, .val (.int .i32 c)), (2, .val (.int .i64 most)), (4, .lp 0 0), (6, .lp 8 0), (8, .lp 104 0), (9, .val (.int .i64 (i : Int)))])
    (fun i => [(0, .cells 4 [[.sl 1 (irows .i64 sh) false, .val (.bool ch), .sl 1 (irows .i32 []) false, .sl 3 (qs.map rowN) false]]), (8, .cells 4 [[.sl 0 [] true, .val (.bool false), .sl 0 [] true, .sl 0 [] true]]), (104, .cells 4 [[.sl 1 (irows .i64 sh) false, .val (.bool false), .sl 0 [] true, .own 128 0 i]]), (128, .cells 3 ((Y.take i).map rowN))]) 136 53 rfl (fun i => qs.length - i) (fun i => i ≤ qs.length ∧ ∀ q ∈ qs.take i, (monoQ c q most).2 = 0) 0 [] ⟨Nat.zero_le _, fun x hx => nomatch hx⟩
    ⟨⟨rfl, rfl⟩, ⟨rfl, rfl⟩, ⟨rfl, rfl⟩, ⟨rfl, rfl⟩, ⟨rfl, rfl⟩, ⟨rfl, rfl⟩, trivial⟩ ⟨⟨rfl, .inr ⟨rfl, rfl⟩⟩, ⟨rfl, .inr ⟨rfl, rfl⟩⟩, ⟨rfl, .inr ⟨rfl, rfl⟩⟩, ⟨rfl, .inl ⟨rfl, rowsN_noid _⟩⟩, trivial⟩ rfl ?_
  intro i hJ
  have hi : i ≤ qs.length := hJ.1
  have hz : ∀ q ∈ qs.take i, (monoQ c q most).2 = 0 := hJ.2
  clear hJ
  have lr : ((Y.take i).map rowN).length = i := by rw [List.length_map, List.length_take]; omega
  by_cases hlt : i < qs.length
  · have eI : IntKind.i64.wrap ((i : Int) + 1) = ((i + 1 : Nat) : Int) := by rw [IntWalk.i64_in _ (by omega)]; omega
    have hg : (qs.map rowN)[i]? = some [.val (.bool (decide (qs[i].num < 0))), .val (.string (decS qs[i].num.natAbs)), .val (.string (decS qs[i].den))] := by rw [List.getElem?_map, List.getElem?_eq_getElem hlt]; rfl
    have d2 := hD _ (List.getElem_mem hlt)
    have hsn : (Y.take i).map rowN ++ [rowN (monoQ c qs[i] most).1] = (Y.take (i + 1)).map rowN := by
      rw [take_snoc (show i < Y.length by omega), List.map_append, hYi i hlt]; rfl
    have htk : List.take i (List.drop 0 ((Y.take i).map rowN)) = (Y.take i).map rowN := by rw [List.drop_zero, List.take_of_length_le (by omega)]
    by_cases he : (monoQ c qs[i] most).2 = 0
    · rw [he] at d2
      unfold RN at d2
      conv => whnf
      first
        | refine caseb (fun _ => ?_) (fun h => absurd (of_decide_eq_false h) (by omega))
        | refine caseb (fun h => absurd (of_decide_eq_true h) (by omega)) (fun _ => ?_)
        | refine caseb (fun _ => ?_) (fun h => absurd (beq_eq_false_iff_ne.1 h) (by omega))
        | refine caseb (fun h => absurd (eq_of_beq h) (by omega)) (fun _ => ?_)
      conv => whnf
      refine ⟨_, ⟨by omega, hg⟩, ?_⟩
      conv => whnf
      refine ⟨_, d2, ?_⟩
      conv => whnf
      refine ⟨⟨by show 0 + i ≤ _; omega, by show (i + 1) * 40 ≤ 140737488355328; omega, Nat.le_of_ble_eq_true rfl⟩, ?_⟩
      conv => whnf
      refine ⟨i + 1, [(128, 336)], (by show qs.length - (i + 1) < qs.length - i; omega), ⟨hlt, fun q hq => ?_⟩, ⟨⟨rfl, rfl⟩, ⟨rfl, rfl⟩, ⟨rfl, rfl⟩, ⟨rfl, rfl⟩, ⟨rfl, rfl⟩, ⟨valI eI, rfl⟩, trivial⟩, ⟨⟨rfl, .inr ⟨rfl, rfl⟩⟩, ⟨rfl, .inr ⟨rfl, rfl⟩⟩, ⟨rfl, .inr ⟨rfl, rfl⟩⟩, ⟨rfl, .inl ⟨celE ?_, rowsN_noid _⟩⟩, trivial⟩, rfl⟩
      · rw [take_snoc hlt] at hq
        rcases List.mem_append.1 hq with h | h
        · exact hz q h
        · rw [List.mem_singleton.1 h]; exact he
      · rw [← hsn]
        show List.take i (List.drop 0 ((Y.take i).map rowN)) ++ [_] = _
        rw [htk]; rfl
    · have hEe : E = (monoQ c qs[i] most).2 := by
        rw [hE]
        have := firstE_at (l := qs.map fun q => monoQ c q most) (i := i) (by rw [List.length_map]; exact hlt) (fun x hx => by
          rw [← List.map_take] at hx
          obtain ⟨q, hq, rfl⟩ := List.mem_map.1 hx
          exact hz q hq) (by rw [List.getElem_map]; exact he)
        rw [this, List.getElem_map]
      rw [if_neg (by rw [hEe]; exact he), hEe] at hres
      subst hres
      unfold RN at d2
      conv => whnf
      first
        | refine caseb (fun _ => ?_) (fun h => absurd (of_decide_eq_false h) (by omega))
        | refine caseb (fun h => absurd (of_decide_eq_true h) (by omega)) (fun _ => ?_)
        | refine caseb (fun _ => ?_) (fun h => absurd (beq_eq_false_iff_ne.1 h) (by omega))
        | refine caseb (fun h => absurd (eq_of_beq h) (by omega)) (fun _ => ?_)
      conv => whnf
      refine ⟨_, ⟨by omega, hg⟩, ?_⟩
      conv => whnf
      refine ⟨_, d2, ?_⟩
      conv => whnf
      first
        | refine caseb (fun h => absurd (bne_iff_ne.1 h) (by omega)) (fun _ => ?_)
        | refine caseb (fun _ => ?_) (fun h => absurd (bne_eq_false_iff_eq.1 h) (by omega))
      repeat
        conv => whnf
        first
          | refine ⟨_, by assumption, ?_⟩
          | refine ⟨(Nat.le_of_ble_eq_true rfl), _, by assumption, ?_⟩
          | refine ⟨by kernel_rfl, ?_⟩
          | exact rfl
          | exact ⟨Nat.le_of_ble_eq_true rfl, rfl⟩
          | refine ⟨by decide, ?_⟩
  · have hie : i = qs.length := by omega
    have hE0 : E = 0 := by
      rw [hE]
      refine firstE_zero (fun x hx => ?_)
      obtain ⟨q, hq, rfl⟩ := List.mem_map.1 hx
      rw [hie, List.take_length] at hz
      exact hz q hq
    rw [if_pos hE0] at hres
    subst hres
    have e1 : Y.take i = Y := List.take_of_length_le (by omega)
    rw [e1] at lr ⊢
    have key : List.take i (List.drop 0 (Y.map rowN)) = Y.map rowN := by rw [List.drop_zero, List.take_of_length_le (by omega)]
    conv => whnf
    first
      | refine caseb (fun _ => ?_) (fun h => absurd (of_decide_eq_false h) (by omega))
      | refine caseb (fun h => absurd (of_decide_eq_true h) (by omega)) (fun _ => ?_)
      | refine caseb (fun _ => ?_) (fun h => absurd (beq_eq_false_iff_ne.1 h) (by omega))
      | refine caseb (fun h => absurd (eq_of_beq h) (by omega)) (fun _ => ?_)
    conv => whnf
    refine ⟨by show 0 + i ≤ _; omega, ?_⟩
    show AV.tup [AV.agg [_, _, _, AV.sl 3 (List.take i (List.drop 0 (Y.map rowN))) false], _] = _
    rw [key]
    rfl

theorem ROne_not (c : Int) (h : ¬ isOne c) (sh : List Int) (ch : Bool) (tx : List Int) (qs : List Rat) (most : Int) : AC Tryz.prog 25 [.val (.int .i32 c), PA sh ch tx qs, .val (.int .i64 most)] (.pure (.tup [PZ, .val (.int .i64 20)])) := by
  have hH := SMHas_ok c
  rw [decide_eq_false h] at hH
  refine AC.of_body TTok Tryz.func25 rfl (enter_of Tryz.func25 (by kernel_rfl) (by kernel_rfl)) (noid3 (.val _) (PA_noid _ _ _ _) (.val _)) (PZt_noid _) (Nat.le_of_ble_eq_true rfl) ?_
  unfold PA
  repeat
    conv => whnf
    first
      | refine ⟨_, by assumption, ?_⟩
      | refine ⟨(Nat.le_of_ble_eq_true rfl), _, by assumption, ?_⟩
      | refine ⟨by kernel_rfl, ?_⟩
      | exact rfl
      | exact ⟨Nat.le_of_ble_eq_true rfl, rfl⟩
      | refine ⟨by decide, ?_⟩
theorem ROne_char (c : Int) (h : isOne c) (sh : List Int) (ch : Bool) (tx : List Int) (qs : List Rat) (most : Int) (h0 : 0 < tx.length) : AC Tryz.prog 25 [.val (.int .i32 c), PA sh ch tx qs, .val (.int .i64 most)] (.pure (.tup [PZ, .val (.int .i64 22)])) := by
  have hH := SMHas_ok c
  rw [decide_eq_true h] at hH
  have l2 := irows_len .i32 tx
  refine AC.of_body TTok Tryz.func25 rfl (enter_of Tryz.func25 (by kernel_rfl) (by kernel_rfl)) (noid3 (.val _) (PA_noid _ _ _ _) (.val _)) (PZt_noid _) (Nat.le_of_ble_eq_true rfl) ?_
  unfold PA
  repeat
    conv => whnf
    first
      | refine ⟨_, by assumption, ?_⟩
      | refine ⟨(Nat.le_of_ble_eq_true rfl), _, by assumption, ?_⟩
      | refine ⟨by kernel_rfl, ?_⟩
      | exact rfl
      | exact ⟨Nat.le_of_ble_eq_true rfl, rfl⟩
      | refine ⟨by decide, ?_⟩
      | refine caseb (fun _ => ?_) (fun h => absurd (of_decide_eq_false h) (by omega))
      | refine caseb (fun h => absurd (of_decide_eq_true h) (by omega)) (fun _ => ?_)
      | refine caseb (fun _ => ?_) (fun h => absurd (beq_eq_false_iff_ne.1 h) (by omega))
      | refine caseb (fun h => absurd (eq_of_beq h) (by omega)) (fun _ => ?_)
      | refine caseb (fun h => absurd (bne_iff_ne.1 h) (by omega)) (fun _ => ?_)
      | refine caseb (fun _ => ?_) (fun h => absurd (bne_eq_false_iff_eq.1 h) (by omega))
theorem ROne_ok (c : Int) (sh : List Int) (ch : Bool) (tx : List Int) (qs : List Rat) (most : Int) (hm : most ≤ 200) (hk : kinds sh ch tx.length qs.length) (h3 : qs.length ≤ 1000) (hQ : ∀ q ∈ qs, Sz q 5) :
    AC Tryz.prog 25 [.val (.int .i32 c), PA sh ch tx qs, .val (.int .i64 most)] (.pure (resP sh (oneE c ch tx qs most) (qs.map fun q => (monoQ c q most).1))) := by
  have hks := hk
  unfold kinds at hks
  unfold oneE
  by_cases hc : isOne c
  · rw [if_pos hc]
    by_cases h0 : ch = true ∧ 0 < tx.length + qs.length
    · rw [if_pos h0]
      obtain ⟨rfl, h0⟩ := h0
      have h5 : qs.length = 0 := hks.2
      exact resP_err sh _ (by decide) (ROne_char c hc sh true tx qs most (by omega))
    · rw [if_neg h0]
      have ht : tx = [] := by
        cases ch with
        | true => exact List.length_eq_zero_iff.1 (by have : ¬ 0 < tx.length + qs.length := fun h => h0 ⟨rfl, h⟩; omega)
        | false =>
          have h5 : tx.length = 0 := hks.2
          exact List.length_eq_zero_iff.1 h5
      subst ht
      have h6 := ROne_loop c hc sh ch qs most h3 (fun q hq => SMono_ok c q most hm ((hQ q hq).mono (by decide))) _ rfl
      unfold resP
      by_cases hE : firstE (qs.map fun q => monoQ c q most) = 0
      · rw [if_pos hE] at h6 ⊢
        exact AC.le_res h6 (.tup2 (le_agg4 (.refl _) (.refl _) (le_nil 1) (.refl _)) (.refl _)) (.tup _ (noid2 (PA_noid _ _ _ _) (.val _)))
      · rw [if_neg hE] at h6 ⊢
        exact AC.le_res h6 (.tup2 PZ_le (.refl _)) (.tup _ (noid2 (PA_noid _ _ _ _) (.val _)))
  · rw [if_neg hc]
    exact resP_err sh _ (by decide) (ROne_not c hc sh ch tx qs most)
end Go.Proofs.YtclamnmpleiakaaGreat

/- Functions of two numbers: their signs. -/
set_option linter.unusedVariables false
namespace Go.Proofs.YtclamnmpleiakaaGreat
open Go Go.AL NM

def isCmp (c : Int) : Prop := c = 60 ∨ c = 8804 ∨ c = 61 ∨ c = 8805 ∨ c = 62 ∨ c = 8800
instance (c : Int) : Decidable (isCmp c) := inferInstanceAs (Decidable (_ ∨ _ ∨ _ ∨ _ ∨ _ ∨ _))
def isJdg (c : Int) : Prop := c = 8743 ∨ c = 8744 ∨ c = 9074 ∨ c = 9073
instance (c : Int) : Decidable (isJdg c) := inferInstanceAs (Decidable (_ ∨ _ ∨ _ ∨ _))
def isRec (c : Int) : Prop := c = 43 ∨ c = 45 ∨ c = 215 ∨ c = 247 ∨ c = 8968 ∨ c = 8970 ∨ c = 124 ∨ c = 42 ∨ c = 33 ∨ c = 9055 ∨ c = 9675
instance (c : Int) : Decidable (isRec c) := inferInstanceAs (Decidable (_ ∨ _ ∨ _ ∨ _ ∨ _ ∨ _ ∨ _ ∨ _ ∨ _ ∨ _ ∨ _))
def isTwo (c : Int) : Prop := isRec c ∨ isCmp c ∨ isJdg c
instance (c : Int) : Decidable (isTwo c) := inferInstanceAs (Decidable (_ ∨ _))
theorem compares_ok (c : Int) : AC Tryz.prog 91 [.val (.int .i32 c)] (.pure (.val (.bool (decide (isCmp c))))) := by
  refine AC.of_body TTok Tryz.func91 rfl (enter_of Tryz.func91 (by kernel_rfl) (by kernel_rfl)) (noid1 (.val _)) (.val _) (Nat.le_of_ble_eq_true rfl) ?_
  by_cases h0 : c = 60
  · subst h0
    rw [decide_eq_true (show isCmp 60 by decide)]
    repeat
      conv => whnf
      first
        | refine ⟨_, by assumption, ?_⟩
        | refine ⟨(Nat.le_of_ble_eq_true rfl), _, by assumption, ?_⟩
        | refine ⟨by kernel_rfl, ?_⟩
        | exact rfl
        | exact ⟨Nat.le_of_ble_eq_true rfl, rfl⟩
        | refine ⟨by decide, ?_⟩
  by_cases h1 : c = 8804
  · subst h1
    rw [decide_eq_true (show isCmp 8804 by decide)]
    repeat
      conv => whnf
      first
        | refine ⟨_, by assumption, ?_⟩
        | refine ⟨(Nat.le_of_ble_eq_true rfl), _, by assumption, ?_⟩
        | refine ⟨by kernel_rfl, ?_⟩
        | exact rfl
        | exact ⟨Nat.le_of_ble_eq_true rfl, rfl⟩
        | refine ⟨by decide, ?_⟩
  by_cases h2 : c = 61
  · subst h2
    rw [decide_eq_true (show isCmp 61 by decide)]
    repeat
      conv => whnf
      first
        | refine ⟨_, by assumption, ?_⟩
        | refine ⟨(Nat.le_of_ble_eq_true rfl), _, by assumption, ?_⟩
        | refine ⟨by kernel_rfl, ?_⟩
        | exact rfl
        | exact ⟨Nat.le_of_ble_eq_true rfl, rfl⟩
        | refine ⟨by decide, ?_⟩
  by_cases h3 : c = 8805
  · subst h3
    rw [decide_eq_true (show isCmp 8805 by decide)]
    repeat
      conv => whnf
      first
        | refine ⟨_, by assumption, ?_⟩
        | refine ⟨(Nat.le_of_ble_eq_true rfl), _, by assumption, ?_⟩
        | refine ⟨by kernel_rfl, ?_⟩
        | exact rfl
        | exact ⟨Nat.le_of_ble_eq_true rfl, rfl⟩
        | refine ⟨by decide, ?_⟩
  by_cases h4 : c = 62
  · subst h4
    rw [decide_eq_true (show isCmp 62 by decide)]
    repeat
      conv => whnf
      first
        | refine ⟨_, by assumption, ?_⟩
        | refine ⟨(Nat.le_of_ble_eq_true rfl), _, by assumption, ?_⟩
        | refine ⟨by kernel_rfl, ?_⟩
        | exact rfl
        | exact ⟨Nat.le_of_ble_eq_true rfl, rfl⟩
        | refine ⟨by decide, ?_⟩
  by_cases h5 : c = 8800
  · subst h5
    rw [decide_eq_true (show isCmp 8800 by decide)]
    repeat
      conv => whnf
      first
        | refine ⟨_, by assumption, ?_⟩
        | refine ⟨(Nat.le_of_ble_eq_true rfl), _, by assumption, ?_⟩
        | refine ⟨by kernel_rfl, ?_⟩
        | exact rfl
        | exact ⟨Nat.le_of_ble_eq_true rfl, rfl⟩
        | refine ⟨by decide, ?_⟩
  have e0 : (c == 60) = false := beq_false_of_ne h0
  have e1 : (c == 8804) = false := beq_false_of_ne h1
  have e2 : (c == 61) = false := beq_false_of_ne h2
  have e3 : (c == 8805) = false := beq_false_of_ne h3
  have e4 : (c == 62) = false := beq_false_of_ne h4
  have e5 : (c == 8800) = false := beq_false_of_ne h5
  rw [decide_eq_false (show ¬ isCmp c by unfold isCmp; omega)]
  conv => whnf
  refine caseb (fun h => Bool.noConfusion ((e0).symm.trans h)) (fun _ => ?_)
  conv => whnf
  refine caseb (fun h => Bool.noConfusion ((e1).symm.trans h)) (fun _ => ?_)
  conv => whnf
  refine caseb (fun h => Bool.noConfusion ((e2).symm.trans h)) (fun _ => ?_)
  conv => whnf
  refine caseb (fun h => Bool.noConfusion ((e3).symm.trans h)) (fun _ => ?_)
  conv => whnf
  refine caseb (fun h => Bool.noConfusion ((e4).symm.trans h)) (fun _ => ?_)
  conv => whnf
  refine caseb (fun h => Bool.noConfusion ((e5).symm.trans h)) (fun _ => ?_)
  repeat
    conv => whnf
    first
      | refine ⟨_, by assumption, ?_⟩
      | refine ⟨(Nat.le_of_ble_eq_true rfl), _, by assumption, ?_⟩
      | refine ⟨by kernel_rfl, ?_⟩
      | exact rfl
      | exact ⟨Nat.le_of_ble_eq_true rfl, rfl⟩
      | refine ⟨by decide, ?_⟩
theorem judges_ok (c : Int) : AC Tryz.prog 92 [.val (.int .i32 c)] (.pure (.val (.bool (decide (isJdg c))))) := by
  refine AC.of_body TTok Tryz.func92 rfl (enter_of Tryz.func92 (by kernel_rfl) (by kernel_rfl)) (noid1 (.val _)) (.val _) (Nat.le_of_ble_eq_true rfl) ?_
  by_cases h0 : c = 8743
  · subst h0
    rw [decide_eq_true (show isJdg 8743 by decide)]
    repeat
      conv => whnf
      first
        | refine ⟨_, by assumption, ?_⟩
        | refine ⟨(Nat.le_of_ble_eq_true rfl), _, by assumption, ?_⟩
        | refine ⟨by kernel_rfl, ?_⟩
        | exact rfl
        | exact ⟨Nat.le_of_ble_eq_true rfl, rfl⟩
        | refine ⟨by decide, ?_⟩
  by_cases h1 : c = 8744
  · subst h1
    rw [decide_eq_true (show isJdg 8744 by decide)]
    repeat
      conv => whnf
      first
        | refine ⟨_, by assumption, ?_⟩
        | refine ⟨(Nat.le_of_ble_eq_true rfl), _, by assumption, ?_⟩
        | refine ⟨by kernel_rfl, ?_⟩
        | exact rfl
        | exact ⟨Nat.le_of_ble_eq_true rfl, rfl⟩
        | refine ⟨by decide, ?_⟩
  by_cases h2 : c = 9074
  · subst h2
    rw [decide_eq_true (show isJdg 9074 by decide)]
    repeat
      conv => whnf
      first
        | refine ⟨_, by assumption, ?_⟩
        | refine ⟨(Nat.le_of_ble_eq_true rfl), _, by assumption, ?_⟩
        | refine ⟨by kernel_rfl, ?_⟩
        | exact rfl
        | exact ⟨Nat.le_of_ble_eq_true rfl, rfl⟩
        | refine ⟨by decide, ?_⟩
  by_cases h3 : c = 9073
  · subst h3
    rw [decide_eq_true (show isJdg 9073 by decide)]
    repeat
      conv => whnf
      first
        | refine ⟨_, by assumption, ?_⟩
        | refine ⟨(Nat.le_of_ble_eq_true rfl), _, by assumption, ?_⟩
        | refine ⟨by kernel_rfl, ?_⟩
        | exact rfl
        | exact ⟨Nat.le_of_ble_eq_true rfl, rfl⟩
        | refine ⟨by decide, ?_⟩
  have e0 : (c == 8743) = false := beq_false_of_ne h0
  have e1 : (c == 8744) = false := beq_false_of_ne h1
  have e2 : (c == 9074) = false := beq_false_of_ne h2
  have e3 : (c == 9073) = false := beq_false_of_ne h3
  rw [decide_eq_false (show ¬ isJdg c by unfold isJdg; omega)]
  conv => whnf
  refine caseb (fun h => Bool.noConfusion ((e0).symm.trans h)) (fun _ => ?_)
  conv => whnf
  refine caseb (fun h => Bool.noConfusion ((e1).symm.trans h)) (fun _ => ?_)
  conv => whnf
  refine caseb (fun h => Bool.noConfusion ((e2).symm.trans h)) (fun _ => ?_)
  conv => whnf
  refine caseb (fun h => Bool.noConfusion ((e3).symm.trans h)) (fun _ => ?_)
  repeat
    conv => whnf
    first
      | refine ⟨_, by assumption, ?_⟩
      | refine ⟨(Nat.le_of_ble_eq_true rfl), _, by assumption, ?_⟩
      | refine ⟨by kernel_rfl, ?_⟩
      | exact rfl
      | exact ⟨Nat.le_of_ble_eq_true rfl, rfl⟩
      | refine ⟨by decide, ?_⟩
theorem reckons_ok (c : Int) : AC Tryz.prog 90 [.val (.int .i32 c)] (.pure (.val (.bool (decide (isRec c))))) := by
  refine AC.of_body TTok Tryz.func90 rfl (enter_of Tryz.func90 (by kernel_rfl) (by kernel_rfl)) (noid1 (.val _)) (.val _) (Nat.le_of_ble_eq_true rfl) ?_
  by_cases h0 : c = 43
  · subst h0
    rw [decide_eq_true (show isRec 43 by decide)]
    repeat
      conv => whnf
      first
        | refine ⟨_, by assumption, ?_⟩
        | refine ⟨(Nat.le_of_ble_eq_true rfl), _, by assumption, ?_⟩
        | refine ⟨by kernel_rfl, ?_⟩
        | exact rfl
        | exact ⟨Nat.le_of_ble_eq_true rfl, rfl⟩
        | refine ⟨by decide, ?_⟩
  by_cases h1 : c = 45
  · subst h1
    rw [decide_eq_true (show isRec 45 by decide)]
    repeat
      conv => whnf
      first
        | refine ⟨_, by assumption, ?_⟩
        | refine ⟨(Nat.le_of_ble_eq_true rfl), _, by assumption, ?_⟩
        | refine ⟨by kernel_rfl, ?_⟩
        | exact rfl
        | exact ⟨Nat.le_of_ble_eq_true rfl, rfl⟩
        | refine ⟨by decide, ?_⟩
  by_cases h2 : c = 215
  · subst h2
    rw [decide_eq_true (show isRec 215 by decide)]
    repeat
      conv => whnf
      first
        | refine ⟨_, by assumption, ?_⟩
        | refine ⟨(Nat.le_of_ble_eq_true rfl), _, by assumption, ?_⟩
        | refine ⟨by kernel_rfl, ?_⟩
        | exact rfl
        | exact ⟨Nat.le_of_ble_eq_true rfl, rfl⟩
        | refine ⟨by decide, ?_⟩
  by_cases h3 : c = 247
  · subst h3
    rw [decide_eq_true (show isRec 247 by decide)]
    repeat
      conv => whnf
      first
        | refine ⟨_, by assumption, ?_⟩
        | refine ⟨(Nat.le_of_ble_eq_true rfl), _, by assumption, ?_⟩
        | refine ⟨by kernel_rfl, ?_⟩
        | exact rfl
        | exact ⟨Nat.le_of_ble_eq_true rfl, rfl⟩
        | refine ⟨by decide, ?_⟩
  by_cases h4 : c = 8968
  · subst h4
    rw [decide_eq_true (show isRec 8968 by decide)]
    repeat
      conv => whnf
      first
        | refine ⟨_, by assumption, ?_⟩
        | refine ⟨(Nat.le_of_ble_eq_true rfl), _, by assumption, ?_⟩
        | refine ⟨by kernel_rfl, ?_⟩
        | exact rfl
        | exact ⟨Nat.le_of_ble_eq_true rfl, rfl⟩
        | refine ⟨by decide, ?_⟩
  by_cases h5 : c = 8970
  · subst h5
    rw [decide_eq_true (show isRec 8970 by decide)]
    repeat
      conv => whnf
      first
        | refine ⟨_, by assumption, ?_⟩
        | refine ⟨(Nat.le_of_ble_eq_true rfl), _, by assumption, ?_⟩
        | refine ⟨by kernel_rfl, ?_⟩
        | exact rfl
        | exact ⟨Nat.le_of_ble_eq_true rfl, rfl⟩
        | refine ⟨by decide, ?_⟩
  by_cases h6 : c = 124
  · subst h6
    rw [decide_eq_true (show isRec 124 by decide)]
    repeat
      conv => whnf
      first
        | refine ⟨_, by assumption, ?_⟩
        | refine ⟨(Nat.le_of_ble_eq_true rfl), _, by assumption, ?_⟩
        | refine ⟨by kernel_rfl, ?_⟩
        | exact rfl
        | exact ⟨Nat.le_of_ble_eq_true rfl, rfl⟩
        | refine ⟨by decide, ?_⟩
  by_cases h7 : c = 42
  · subst h7
    rw [decide_eq_true (show isRec 42 by decide)]
    repeat
      conv => whnf
      first
        | refine ⟨_, by assumption, ?_⟩
        | refine ⟨(Nat.le_of_ble_eq_true rfl), _, by assumption, ?_⟩
        | refine ⟨by kernel_rfl, ?_⟩
        | exact rfl
        | exact ⟨Nat.le_of_ble_eq_true rfl, rfl⟩
        | refine ⟨by decide, ?_⟩
  by_cases h8 : c = 33
  · subst h8
    rw [decide_eq_true (show isRec 33 by decide)]
    repeat
      conv => whnf
      first
        | refine ⟨_, by assumption, ?_⟩
        | refine ⟨(Nat.le_of_ble_eq_true rfl), _, by assumption, ?_⟩
        | refine ⟨by kernel_rfl, ?_⟩
        | exact rfl
        | exact ⟨Nat.le_of_ble_eq_true rfl, rfl⟩
        | refine ⟨by decide, ?_⟩
  by_cases h9 : c = 9055
  · subst h9
    rw [decide_eq_true (show isRec 9055 by decide)]
    repeat
      conv => whnf
      first
        | refine ⟨_, by assumption, ?_⟩
        | refine ⟨(Nat.le_of_ble_eq_true rfl), _, by assumption, ?_⟩
        | refine ⟨by kernel_rfl, ?_⟩
        | exact rfl
        | exact ⟨Nat.le_of_ble_eq_true rfl, rfl⟩
        | refine ⟨by decide, ?_⟩
  by_cases h10 : c = 9675
  · subst h10
    rw [decide_eq_true (show isRec 9675 by decide)]
    repeat
      conv => whnf
      first
        | refine ⟨_, by assumption, ?_⟩
        | refine ⟨(Nat.le_of_ble_eq_true rfl), _, by assumption, ?_⟩
        | refine ⟨by kernel_rfl, ?_⟩
        | exact rfl
        | exact ⟨Nat.le_of_ble_eq_true rfl, rfl⟩
        | refine ⟨by decide, ?_⟩
  have e0 : (c == 43) = false := beq_false_of_ne h0
  have e1 : (c == 45) = false := beq_false_of_ne h1
  have e2 : (c == 215) = false := beq_false_of_ne h2
  have e3 : (c == 247) = false := beq_false_of_ne h3
  have e4 : (c == 8968) = false := beq_false_of_ne h4
  have e5 : (c == 8970) = false := beq_false_of_ne h5
  have e6 : (c == 124) = false := beq_false_of_ne h6
  have e7 : (c == 42) = false := beq_false_of_ne h7
  have e8 : (c == 33) = false := beq_false_of_ne h8
  have e9 : (c == 9055) = false := beq_false_of_ne h9
  have e10 : (c == 9675) = false := beq_false_of_ne h10
  rw [decide_eq_false (show ¬ isRec c by unfold isRec; omega)]
  conv => whnf
  refine caseb (fun h => Bool.noConfusion ((e0).symm.trans h)) (fun _ => ?_)
  conv => whnf
  refine caseb (fun h => Bool.noConfusion ((e1).symm.trans h)) (fun _ => ?_)
  conv => whnf
  refine caseb (fun h => Bool.noConfusion ((e2).symm.trans h)) (fun _ => ?_)
  conv => whnf
  refine caseb (fun h => Bool.noConfusion ((e3).symm.trans h)) (fun _ => ?_)
  conv => whnf
  refine caseb (fun h => Bool.noConfusion ((e4).symm.trans h)) (fun _ => ?_)
  conv => whnf
  refine caseb (fun h => Bool.noConfusion ((e5).symm.trans h)) (fun _ => ?_)
  conv => whnf
  refine caseb (fun h => Bool.noConfusion ((e6).symm.trans h)) (fun _ => ?_)
  conv => whnf
  refine caseb (fun h => Bool.noConfusion ((e7).symm.trans h)) (fun _ => ?_)
  conv => whnf
  refine caseb (fun h => Bool.noConfusion ((e8).symm.trans h)) (fun _ => ?_)
  conv => whnf
  refine caseb (fun h => Bool.noConfusion ((e9).symm.trans h)) (fun _ => ?_)
  conv => whnf
  refine caseb (fun h => Bool.noConfusion ((e10).symm.trans h)) (fun _ => ?_)
  repeat
    conv => whnf
    first
      | refine ⟨_, by assumption, ?_⟩
      | refine ⟨(Nat.le_of_ble_eq_true rfl), _, by assumption, ?_⟩
      | refine ⟨by kernel_rfl, ?_⟩
      | exact rfl
      | exact ⟨Nat.le_of_ble_eq_true rfl, rfl⟩
      | refine ⟨by decide, ?_⟩
theorem Has_ok (c : Int) : AC Tryz.prog 48 [.val (.int .i32 c)] (.pure (.val (.bool (decide (isTwo c))))) := by
  refine AC.of_body TTok Tryz.func48 rfl (enter_of Tryz.func48 (by kernel_rfl) (by kernel_rfl)) (noid1 (.val _)) (.val _) (Nat.le_of_ble_eq_true rfl) ?_
  have hR := reckons_ok c
  have hC := compares_ok c
  have hJ := judges_ok c
  rw [show decide (isTwo c) = (decide (isRec c) || (decide (isCmp c) || decide (isJdg c))) by
    by_cases h1 : isRec c
    · rw [decide_eq_true h1, decide_eq_true (show isTwo c from .inl h1)]; rfl
    · by_cases h2 : isCmp c
      · rw [decide_eq_true h2, decide_eq_true (show isTwo c from .inr (.inl h2)), Bool.true_or, Bool.or_true]
      · by_cases h3 : isJdg c
        · rw [decide_eq_true h3, decide_eq_true (show isTwo c from .inr (.inr h3)), Bool.or_true, Bool.or_true]
        · rw [decide_eq_false h1, decide_eq_false h2, decide_eq_false h3, decide_eq_false (show ¬ isTwo c from fun h => h.elim h1 (fun h => h.elim h2 h3))]; rfl]
  generalize decide (isRec c) = r at *
  generalize decide (isCmp c) = s at *
  generalize decide (isJdg c) = t at *
  cases r
  · cases s
    · repeat
        conv => whnf
        first
          | refine ⟨_, by assumption, ?_⟩
          | refine ⟨(Nat.le_of_ble_eq_true rfl), _, by assumption, ?_⟩
          | refine ⟨by kernel_rfl, ?_⟩
          | exact rfl
          | exact ⟨Nat.le_of_ble_eq_true rfl, rfl⟩
          | refine ⟨by decide, ?_⟩
    · repeat
        conv => whnf
        first
          | refine ⟨_, by assumption, ?_⟩
          | refine ⟨(Nat.le_of_ble_eq_true rfl), _, by assumption, ?_⟩
          | refine ⟨by kernel_rfl, ?_⟩
          | exact rfl
          | exact ⟨Nat.le_of_ble_eq_true rfl, rfl⟩
          | refine ⟨by decide, ?_⟩
  · repeat
      conv => whnf
      first
        | refine ⟨_, by assumption, ?_⟩
        | refine ⟨(Nat.le_of_ble_eq_true rfl), _, by assumption, ?_⟩
        | refine ⟨by kernel_rfl, ?_⟩
        | exact rfl
        | exact ⟨Nat.le_of_ble_eq_true rfl, rfl⟩
        | refine ⟨by decide, ?_⟩
def signs : List Int := [43, 45, 215, 247, 8968, 8970, 124, 42, 33, 9055, 9675, 60, 8804, 61, 8805, 62, 8800, 8743, 8744, 9074, 9073]
end Go.Proofs.YtclamnmpleiakaaGreat

/- Functions of two numbers: orders and truths. -/
set_option linter.unusedVariables false
namespace Go.Proofs.YtclamnmpleiakaaGreat
open Go Go.AL NM

/-- What a sign tells of an order. -/
def cmpS (c n : Int) : Bool :=
  if c = 60 then decide (n < 0) else if c = 8804 then decide (n ≤ 0) else if c = 61 then n == 0 else if c = 8805 then decide (n ≥ 0) else if c = 62 then decide (n > 0) else n != 0

theorem Compare_ok (c n : Int) : AC Tryz.prog 95 [.val (.int .i32 c), .val (.int .i64 n)] (.pure (.val (.bool (cmpS c n)))) := by
  refine AC.of_body TTok Tryz.func95 rfl (enter_of Tryz.func95 (by kernel_rfl) (by kernel_rfl)) (noid2 (.val _) (.val _)) (.val _) (Nat.le_of_ble_eq_true rfl) ?_
  by_cases h0 : c = 60
  · subst h0
    rw [show cmpS 60 n = decide (n < 0) from rfl]
    repeat
      conv => whnf
      first
        | refine ⟨_, by assumption, ?_⟩
        | refine ⟨(Nat.le_of_ble_eq_true rfl), _, by assumption, ?_⟩
        | refine ⟨by kernel_rfl, ?_⟩
        | exact rfl
        | exact ⟨Nat.le_of_ble_eq_true rfl, rfl⟩
        | refine ⟨by decide, ?_⟩
  by_cases h1 : c = 8804
  · subst h1
    rw [show cmpS 8804 n = decide (n ≤ 0) from rfl]
    repeat
      conv => whnf
      first
        | refine ⟨_, by assumption, ?_⟩
        | refine ⟨(Nat.le_of_ble_eq_true rfl), _, by assumption, ?_⟩
        | refine ⟨by kernel_rfl, ?_⟩
        | exact rfl
        | exact ⟨Nat.le_of_ble_eq_true rfl, rfl⟩
        | refine ⟨by decide, ?_⟩
  by_cases h2 : c = 61
  · subst h2
    rw [show cmpS 61 n = (n == 0) from rfl]
    repeat
      conv => whnf
      first
        | refine ⟨_, by assumption, ?_⟩
        | refine ⟨(Nat.le_of_ble_eq_true rfl), _, by assumption, ?_⟩
        | refine ⟨by kernel_rfl, ?_⟩
        | exact rfl
        | exact ⟨Nat.le_of_ble_eq_true rfl, rfl⟩
        | refine ⟨by decide, ?_⟩
  by_cases h3 : c = 8805
  · subst h3
    rw [show cmpS 8805 n = decide (n ≥ 0) from rfl]
    repeat
      conv => whnf
      first
        | refine ⟨_, by assumption, ?_⟩
        | refine ⟨(Nat.le_of_ble_eq_true rfl), _, by assumption, ?_⟩
        | refine ⟨by kernel_rfl, ?_⟩
        | exact rfl
        | exact ⟨Nat.le_of_ble_eq_true rfl, rfl⟩
        | refine ⟨by decide, ?_⟩
  by_cases h4 : c = 62
  · subst h4
    rw [show cmpS 62 n = decide (n > 0) from rfl]
    repeat
      conv => whnf
      first
        | refine ⟨_, by assumption, ?_⟩
        | refine ⟨(Nat.le_of_ble_eq_true rfl), _, by assumption, ?_⟩
        | refine ⟨by kernel_rfl, ?_⟩
        | exact rfl
        | exact ⟨Nat.le_of_ble_eq_true rfl, rfl⟩
        | refine ⟨by decide, ?_⟩
  have e0 : (c == 60) = false := beq_false_of_ne h0
  have e1 : (c == 8804) = false := beq_false_of_ne h1
  have e2 : (c == 61) = false := beq_false_of_ne h2
  have e3 : (c == 8805) = false := beq_false_of_ne h3
  have e4 : (c == 62) = false := beq_false_of_ne h4
  rw [show cmpS c n = (n != 0) by unfold cmpS; rw [if_neg h0, if_neg h1, if_neg h2, if_neg h3, if_neg h4]]
  conv => whnf
  refine caseb (fun h => Bool.noConfusion ((e0).symm.trans h)) (fun _ => ?_)
  conv => whnf
  refine caseb (fun h => Bool.noConfusion ((e1).symm.trans h)) (fun _ => ?_)
  conv => whnf
  refine caseb (fun h => Bool.noConfusion ((e2).symm.trans h)) (fun _ => ?_)
  conv => whnf
  refine caseb (fun h => Bool.noConfusion ((e3).symm.trans h)) (fun _ => ?_)
  conv => whnf
  refine caseb (fun h => Bool.noConfusion ((e4).symm.trans h)) (fun _ => ?_)
  repeat
    conv => whnf
    first
      | refine ⟨_, by assumption, ?_⟩
      | refine ⟨(Nat.le_of_ble_eq_true rfl), _, by assumption, ?_⟩
      | refine ⟨by kernel_rfl, ?_⟩
      | exact rfl
      | exact ⟨Nat.le_of_ble_eq_true rfl, rfl⟩
      | refine ⟨by decide, ?_⟩
/-- Truths as numbers. -/
def tq (t : Bool) : Rat := if t then 1 else 0
def td (t : Bool) : Nat := if t then 1 else 0
theorem td_dn (t : Bool) : dn (td t) = (tq t).den := by cases t <;> rfl
theorem truth_ok (t : Bool) : AC Tryz.prog 94 [.val (.bool t)] (.pure (RA (tq t).num (td t))) := by
  cases t
  · refine AC.le_res (v := RZ) ?_ RZ_le (RA_noid _ _)
    refine AC.of_body TTok Tryz.func94 rfl (enter_of Tryz.func94 (by kernel_rfl) (by kernel_rfl)) (noid1 (.val _)) RZ_noid (Nat.le_of_ble_eq_true rfl) ?_
    unfold RZ
    repeat
      conv => whnf
      first
        | refine ⟨_, by assumption, ?_⟩
        | refine ⟨(Nat.le_of_ble_eq_true rfl), _, by assumption, ?_⟩
        | refine ⟨by kernel_rfl, ?_⟩
        | exact rfl
        | exact ⟨Nat.le_of_ble_eq_true rfl, rfl⟩
        | refine ⟨by decide, ?_⟩
  · show AC Tryz.prog 94 [.val (.bool true)] (.pure (RA 1 1))
    refine AC.of_body TTok Tryz.func94 rfl (enter_of Tryz.func94 (by kernel_rfl) (by kernel_rfl)) (noid1 (.val _)) (RA_noid _ _) (Nat.le_of_ble_eq_true rfl) ?_
    have hF := RatFrom_ok 1 (by decide)
    unfold RA at *
    repeat
      conv => whnf
      first
        | refine ⟨_, by assumption, ?_⟩
        | refine ⟨(Nat.le_of_ble_eq_true rfl), _, by assumption, ?_⟩
        | refine ⟨by kernel_rfl, ?_⟩
        | exact rfl
        | exact ⟨Nat.le_of_ble_eq_true rfl, rfl⟩
        | refine ⟨by decide, ?_⟩
/-- A truth that a number is. -/
def bitQ (q : Rat) : Option Bool := if q = 0 then some false else if q = 1 then some true else none
def jdgB (c : Int) (x y : Bool) : Bool := if c = 8743 then x && y else if c = 8744 then x || y else if c = 9074 then !(x && y) else !(x || y)
theorem bit_int {q : Rat} (t : Bool) (h : bitQ q = some t) : q = (if t then 1 else 0) := by
  unfold bitQ at h
  split at h
  · cases h; assumption
  · split at h
    · cases h; assumption
    · cases h
def intV (q : Rat) : Int := if fitQ q.num q.den then q.num else 0
theorem intV_fit (q : Rat) : fit (intV q) := by
  unfold intV
  split
  · rename_i h; exact h.2
  · decide
theorem intV_none {q : Rat} (hb : bitQ q = none) : decide (fitQ q.num q.den) = false ∨ intV q < 0 ∨ 1 < intV q := by
  unfold intV
  by_cases h : fitQ q.num q.den
  · rw [if_pos h]
    right
    have : q = (q.num : Rat) := Rat.ext rfl h.1
    unfold bitQ at hb
    have n0 : q.num ≠ 0 := fun e => by rw [if_pos (Rat.num_eq_zero.1 e)] at hb; cases hb
    have n1 : q.num ≠ 1 := fun e => by
      rw [e] at this
      by_cases h0 : q = 0
      · rw [if_pos h0] at hb; cases hb
      · rw [if_neg h0, if_pos (show q = 1 from this)] at hb; cases hb
    omega
  · exact .inl (decide_eq_false h)
theorem intV_bit (q : Rat) (t : Bool) (ht : bitQ q = some t) : decide (fitQ q.num q.den) = true ∧ intV q = if t then 1 else 0 := by
  rw [bit_int t ht]
  cases t
  · exact ⟨rfl, rfl⟩
  · exact ⟨rfl, rfl⟩
theorem int_prog (q : Rat) (i : Nat) (hi : dn i = q.den) (lq : Sz q 1000) : ∃ (v : Int) (ok : Bool), fit v ∧ (bitQ q = none → ok = false ∨ v < 0 ∨ 1 < v) ∧ (∀ t, bitQ q = some t → ok = true ∧ v = if t then 1 else 0) ∧
    AC Tryz.prog 69 [RA q.num i] (.pure (.tup [.val (.int .i64 v), .val (.bool ok)])) := by
  have h1 := RInt_ok q.num i
  rw [hi] at h1
  exact ⟨intV q, _, intV_fit q, intV_none, intV_bit q, h1⟩
/-- What a judging function makes of two numbers. -/
def judgeQ (c : Int) (a b : Rat) : Rat × Int :=
  match bitQ a, bitQ b with
  | some x, some y => (tq (jdgB c x y), 0)
  | _, _ => (0, 22)

theorem jcases {a b : Rat} {v w : Int} {ok is : Bool} (nv : bitQ a = none → ok = false ∨ v < 0 ∨ 1 < v) (nw : bitQ b = none → is = false ∨ w < 0 ∨ 1 < w) (h : bitQ a = none ∨ bitQ b = none) :
    ok = false ∨ (ok = true ∧ is = false) ∨ (ok = true ∧ is = true ∧ ((v < 0 ∨ 1 < v) ∨ (0 ≤ v ∧ v ≤ 1 ∧ (w < 0 ∨ 1 < w)))) := by
  cases ok
  · exact .inl rfl
  · cases is
    · exact .inr (.inl ⟨rfl, rfl⟩)
    · refine .inr (.inr ⟨rfl, rfl, ?_⟩)
      rcases h with h | h
      · rcases nv h with h' | h'
        · cases h'
        · exact .inl h'
      · rcases nw h with h' | h'
        · cases h'
        · by_cases h2 : v < 0 ∨ 1 < v
          · exact .inl h2
          · exact .inr ⟨by omega, by omega, h'⟩
theorem judge_bad (c : Int) (a b : Rat) (i j : Nat) (hi : dn i = a.den) (hj : dn j = b.den) (la : Sz a 1000) (lb : Sz b 1000) (h : bitQ a = none ∨ bitQ b = none) : AC Tryz.prog 97 [.val (.int .i32 c), RA a.num i, RA b.num j] (.pure (.tup [RA 0 0, .val (.int .i64 22)])) := by
  obtain ⟨v, ok, fv, nv, _, A1⟩ := int_prog a i hi la
  obtain ⟨w, is, fw, nw, _, B1⟩ := int_prog b j hj lb
  have cs := jcases nv nw h
  refine AC.le_res (v := .tup [RZ, .val (.int .i64 22)]) ?_ (.tup2 RZ_le (.refl _)) (.tup _ (noid2 (RA_noid _ _) (.val _)))
  refine AC.of_body TTok Tryz.func97 rfl (enter_of Tryz.func97 (by kernel_rfl) (by kernel_rfl)) (noid3 (.val _) (RA_noid _ _) (RA_noid _ _)) (.tup _ (noid2 RZ_noid (.val _))) (Nat.le_of_ble_eq_true rfl) ?_
  unfold RA RZ at *
  rcases cs with rfl | ⟨rfl, rfl⟩ | ⟨rfl, rfl, hv | ⟨v0, v1, hw⟩⟩
  · repeat
      conv => whnf
      first
        | refine ⟨_, by assumption, ?_⟩
        | refine ⟨(Nat.le_of_ble_eq_true rfl), _, by assumption, ?_⟩
        | refine ⟨by kernel_rfl, ?_⟩
        | exact rfl
        | exact ⟨Nat.le_of_ble_eq_true rfl, rfl⟩
        | refine ⟨by decide, ?_⟩
  · repeat
      conv => whnf
      first
        | refine ⟨_, by assumption, ?_⟩
        | refine ⟨(Nat.le_of_ble_eq_true rfl), _, by assumption, ?_⟩
        | refine ⟨by kernel_rfl, ?_⟩
        | exact rfl
        | exact ⟨Nat.le_of_ble_eq_true rfl, rfl⟩
        | refine ⟨by decide, ?_⟩
  · by_cases h0 : v < 0
    · have f1 : decide (v < 0) = true := decide_eq_true h0
      conv => whnf
      refine ⟨_, A1, ?_⟩
      conv => whnf
      refine ⟨_, B1, ?_⟩
      conv => whnf
      refine caseb (fun _ => ?_) (fun h => Bool.noConfusion ((f1).symm.trans h))
      repeat
        conv => whnf
        first
          | refine ⟨_, by assumption, ?_⟩
          | refine ⟨(Nat.le_of_ble_eq_true rfl), _, by assumption, ?_⟩
          | refine ⟨by kernel_rfl, ?_⟩
          | exact rfl
          | exact ⟨Nat.le_of_ble_eq_true rfl, rfl⟩
          | refine ⟨by decide, ?_⟩
    · have f1 : decide (v < 0) = false := decide_eq_false h0
      have f2 : decide (v > 1) = true := decide_eq_true (by omega)
      conv => whnf
      refine ⟨_, A1, ?_⟩
      conv => whnf
      refine ⟨_, B1, ?_⟩
      conv => whnf
      refine caseb (fun h => Bool.noConfusion ((f1).symm.trans h)) (fun _ => ?_)
      conv => whnf
      refine caseb (fun _ => ?_) (fun h => Bool.noConfusion ((f2).symm.trans h))
      repeat
        conv => whnf
        first
          | refine ⟨_, by assumption, ?_⟩
          | refine ⟨(Nat.le_of_ble_eq_true rfl), _, by assumption, ?_⟩
          | refine ⟨by kernel_rfl, ?_⟩
          | exact rfl
          | exact ⟨Nat.le_of_ble_eq_true rfl, rfl⟩
          | refine ⟨by decide, ?_⟩
  · have f1 : decide (v < 0) = false := decide_eq_false (by omega)
    have f2 : decide (v > 1) = false := decide_eq_false (by omega)
    by_cases h0 : w < 0
    · have f3 : decide (w < 0) = true := decide_eq_true h0
      conv => whnf
      refine ⟨_, A1, ?_⟩
      conv => whnf
      refine ⟨_, B1, ?_⟩
      conv => whnf
      refine caseb (fun h => Bool.noConfusion ((f1).symm.trans h)) (fun _ => ?_)
      conv => whnf
      refine caseb (fun h => Bool.noConfusion ((f2).symm.trans h)) (fun _ => ?_)
      conv => whnf
      refine caseb (fun _ => ?_) (fun h => Bool.noConfusion ((f3).symm.trans h))
      repeat
        conv => whnf
        first
          | refine ⟨_, by assumption, ?_⟩
          | refine ⟨(Nat.le_of_ble_eq_true rfl), _, by assumption, ?_⟩
          | refine ⟨by kernel_rfl, ?_⟩
          | exact rfl
          | exact ⟨Nat.le_of_ble_eq_true rfl, rfl⟩
          | refine ⟨by decide, ?_⟩
    · have f3 : decide (w < 0) = false := decide_eq_false h0
      have f4 : decide (w > 1) = true := decide_eq_true (by omega)
      conv => whnf
      refine ⟨_, A1, ?_⟩
      conv => whnf
      refine ⟨_, B1, ?_⟩
      conv => whnf
      refine caseb (fun h => Bool.noConfusion ((f1).symm.trans h)) (fun _ => ?_)
      conv => whnf
      refine caseb (fun h => Bool.noConfusion ((f2).symm.trans h)) (fun _ => ?_)
      conv => whnf
      refine caseb (fun h => Bool.noConfusion ((f3).symm.trans h)) (fun _ => ?_)
      conv => whnf
      refine caseb (fun _ => ?_) (fun h => Bool.noConfusion ((f4).symm.trans h))
      repeat
        conv => whnf
        first
          | refine ⟨_, by assumption, ?_⟩
          | refine ⟨(Nat.le_of_ble_eq_true rfl), _, by assumption, ?_⟩
          | refine ⟨by kernel_rfl, ?_⟩
          | exact rfl
          | exact ⟨Nat.le_of_ble_eq_true rfl, rfl⟩
          | refine ⟨by decide, ?_⟩
set_option maxRecDepth 100000 in
theorem judge_good (c : Int) (hc : isJdg c) (a b : Rat) (i j : Nat) (hi : dn i = a.den) (hj : dn j = b.den) (la : Sz a 1000) (lb : Sz b 1000) (x y : Bool) (hx : bitQ a = some x) (hy : bitQ b = some y) :
    AC Tryz.prog 97 [.val (.int .i32 c), RA a.num i, RA b.num j] (.pure (.tup [RA (tq (jdgB c x y)).num (td (jdgB c x y)), .val (.int .i64 0)])) := by
  obtain ⟨v, ok, _, _, nv, A1⟩ := int_prog a i hi la
  obtain ⟨w, is, _, _, nw, B1⟩ := int_prog b j hj lb
  obtain ⟨rfl, rfl⟩ := nv x hx
  obtain ⟨rfl, rfl⟩ := nw y hy
  have T0 := truth_ok false
  have T1 := truth_ok true
  refine AC.of_body TTok Tryz.func97 rfl (enter_of Tryz.func97 (by kernel_rfl) (by kernel_rfl)) (noid3 (.val _) (RA_noid _ _) (RA_noid _ _)) (.tup _ (noid2 (RA_noid _ _) (.val _))) (Nat.le_of_ble_eq_true rfl) ?_
  clear hx hy nv nw
  unfold RA at *
  cases x <;> cases y <;> rcases hc with rfl | rfl | rfl | rfl
  all_goals
    repeat
      conv => whnf
      first
        | refine ⟨_, by assumption, ?_⟩
        | refine ⟨(Nat.le_of_ble_eq_true rfl), _, by assumption, ?_⟩
        | refine ⟨by kernel_rfl, ?_⟩
        | exact rfl
        | exact ⟨Nat.le_of_ble_eq_true rfl, rfl⟩
        | refine ⟨by decide, ?_⟩
theorem judge_ok (c : Int) (hc : isJdg c) (a b : Rat) (i j : Nat) (hi : dn i = a.den) (hj : dn j = b.den) (la : Sz a 1000) (lb : Sz b 1000) : ∃ d, dn d = (judgeQ c a b).1.den ∧
    AC Tryz.prog 97 [.val (.int .i32 c), RA a.num i, RA b.num j] (.pure (.tup [RA (judgeQ c a b).1.num d, .val (.int .i64 (judgeQ c a b).2)])) := by
  unfold judgeQ
  cases hx : bitQ a with
  | none => exact ⟨0, rfl, judge_bad c a b i j hi hj la lb (.inl hx)⟩
  | some x =>
    cases hy : bitQ b with
    | none => exact ⟨0, rfl, judge_bad c a b i j hi hj la lb (.inr hy)⟩
    | some y => exact ⟨_, td_dn _, judge_good c hc a b i j hi hj la lb x y hx hy⟩
end Go.Proofs.YtclamnmpleiakaaGreat

/- Functions of two numbers: powers. -/
set_option linter.unusedVariables false
namespace Go.Proofs.YtclamnmpleiakaaGreat
open Go Go.AL NM

/-- A number to another one, or why not. -/
def powerQ (a b : Rat) (most : Int) : Rat × Int :=
  if b.den ≠ 1 ∨ (a = 0 ∧ b.num < 0) then (0, 22)
  else if limQ a ∧ b.num ≠ 0 then (if a.num < 0 ∧ b.num.natAbs % 2 = 0 then -a else a, 0)
  else if ¬ fit b.num then (0, 26)
  else ((powQ a b.num most).1, if (powQ a b.num most).2 then 0 else 26)

theorem sig_lit (t : Int) : (t < 0 ∧ sigW t = -1) ∨ (t = 0 ∧ sigW t = 0) ∨ (0 < t ∧ sigW t = 1) := by
  unfold sigW
  rcases Int.lt_trichotomy t 0 with h | h | h
  · left; rw [if_neg (by omega), if_pos h]; exact ⟨h, rfl⟩
  · right; left; rw [if_pos h]; exact ⟨h, rfl⟩
  · right; right; rw [if_neg (by omega), if_neg (by omega)]; exact ⟨h, rfl⟩
theorem RZ22 {P : Program} {f : FuncId} {args : List AV} {e : Int} (h : AC P f args (.pure (.tup [RZ, .val (.int .i64 e)]))) : AC P f args (.pure (.tup [RA 0 0, .val (.int .i64 e)])) :=
  AC.le_res h (.tup2 RZ_le (.refl _)) (.tup _ (noid2 (RA_noid _ _) (.val _)))

theorem Power_ok (a b : Rat) (i j : Nat) (most : Int) (hi : dn i = a.den) (hj : dn j = b.den) (hm : most ≤ 200) (la : Sz a 99) : ∃ d, dn d = (powerQ a b most).1.den ∧ AC Tryz.prog 141 [RA a.num i, RA b.num j, .val (.int .i64 most)] (.pure (.tup [RA (powerQ a b most).1.num d, .val (.int .i64 (powerQ a b most).2)])) := by
  have hW := IsWhole_ok b.num j
  have hSa := RaSign_ok a.num i
  have hSb := RaSign_ok b.num j
  have hL := Limited_ok a.num i
  have hT := RTop_ok b.num j
  have hE := Even_ok b.num.natAbs
  have hM := QMinus_ok a.num i
  have hI := RInt_ok b.num j
  rw [hj] at hW hI
  rw [hi] at hL hM
  unfold powerQ
  by_cases hd : b.den = 1
  rotate_left
  · rw [if_pos (.inl hd)]
    rw [decide_eq_false hd] at hW
    refine ⟨0, rfl, RZ22 ?_⟩
    refine AC.of_body TTok Tryz.func141 rfl (enter_of Tryz.func141 (by kernel_rfl) (by kernel_rfl)) (noid3 (RA_noid _ _) (RA_noid _ _) (.val _)) (.tup _ (noid2 RZ_noid (.val _))) (Nat.le_of_ble_eq_true rfl) ?_
    unfold RA RZ at *
    repeat
      conv => whnf
      first
        | refine ⟨_, by assumption, ?_⟩
        | refine ⟨(Nat.le_of_ble_eq_true rfl), _, by assumption, ?_⟩
        | refine ⟨by kernel_rfl, ?_⟩
        | exact rfl
        | exact ⟨Nat.le_of_ble_eq_true rfl, rfl⟩
        | refine ⟨by decide, ?_⟩
  rw [decide_eq_true hd] at hW
  by_cases hz : a = 0 ∧ b.num < 0
  · rw [if_pos (.inr hz)]
    rw [show sigW a.num = 0 by rw [hz.1]; rfl] at hSa
    rw [show sigW b.num = -1 by unfold sigW; rw [if_neg (by omega), if_pos hz.2]] at hSb
    refine ⟨0, rfl, RZ22 ?_⟩
    refine AC.of_body TTok Tryz.func141 rfl (enter_of Tryz.func141 (by kernel_rfl) (by kernel_rfl)) (noid3 (RA_noid _ _) (RA_noid _ _) (.val _)) (.tup _ (noid2 RZ_noid (.val _))) (Nat.le_of_ble_eq_true rfl) ?_
    unfold RA RZ at *
    repeat
      conv => whnf
      first
        | refine ⟨_, by assumption, ?_⟩
        | refine ⟨(Nat.le_of_ble_eq_true rfl), _, by assumption, ?_⟩
        | refine ⟨by kernel_rfl, ?_⟩
        | exact rfl
        | exact ⟨Nat.le_of_ble_eq_true rfl, rfl⟩
        | refine ⟨by decide, ?_⟩
  rw [if_neg (fun h => h.elim (fun h => h hd) hz)]
  have hz' : ¬ (a.num = 0 ∧ b.num < 0) := fun h => hz ⟨Rat.num_eq_zero.1 h.1, h.2⟩
  by_cases hl : limQ a ∧ b.num ≠ 0
  · have hb0 := hl.2
    rw [if_pos hl]
    rw [decide_eq_true (show a.den = 1 ∧ (a.num.natAbs = 0 ∨ a.num.natAbs = 1) from hl.1)] at hL
    by_cases he : a.num < 0 ∧ b.num.natAbs % 2 = 0
    · rw [if_pos he]
      rw [show sigW a.num = -1 by unfold sigW; rw [if_neg (by omega), if_pos he.1]] at hSa
      rw [decide_eq_true he.2] at hE
      refine ⟨a.den, dn_self a.den_nz, ?_⟩
      refine AC.of_body TTok Tryz.func141 rfl (enter_of Tryz.func141 (by kernel_rfl) (by kernel_rfl)) (noid3 (RA_noid _ _) (RA_noid _ _) (.val _)) (.tup _ (noid2 (RA_noid _ _) (.val _))) (Nat.le_of_ble_eq_true rfl) ?_
      have hM' : AC Tryz.prog 105 [RA a.num i] (.pure (RA (-a).num a.den)) := hM
      clear hM
      rcases sig_lit b.num with ⟨_, e⟩ | ⟨e0, _⟩ | ⟨_, e⟩
      · rw [e] at hSb
        unfold RA WI natA at *
        repeat
          conv => whnf
          first
            | refine ⟨_, by assumption, ?_⟩
            | refine ⟨(Nat.le_of_ble_eq_true rfl), _, by assumption, ?_⟩
            | refine ⟨by kernel_rfl, ?_⟩
            | exact rfl
            | exact ⟨Nat.le_of_ble_eq_true rfl, rfl⟩
            | refine ⟨by decide, ?_⟩
      · exact absurd e0 hb0
      · rw [e] at hSb
        unfold RA WI natA at *
        repeat
          conv => whnf
          first
            | refine ⟨_, by assumption, ?_⟩
            | refine ⟨(Nat.le_of_ble_eq_true rfl), _, by assumption, ?_⟩
            | refine ⟨by kernel_rfl, ?_⟩
            | exact rfl
            | exact ⟨Nat.le_of_ble_eq_true rfl, rfl⟩
            | refine ⟨by decide, ?_⟩
    · rw [if_neg he]
      refine ⟨i, hi, ?_⟩
      refine AC.of_body TTok Tryz.func141 rfl (enter_of Tryz.func141 (by kernel_rfl) (by kernel_rfl)) (noid3 (RA_noid _ _) (RA_noid _ _) (.val _)) (.tup _ (noid2 (RA_noid _ _) (.val _))) (Nat.le_of_ble_eq_true rfl) ?_
      rcases sig_lit a.num with ⟨h1, e1⟩ | ⟨h1, e1⟩ | ⟨h1, e1⟩ <;> rcases sig_lit b.num with ⟨h2, e2⟩ | ⟨h2, e2⟩ | ⟨h2, e2⟩
      all_goals first
        | (exfalso; omega)
        | skip
      all_goals
        rw [e1] at hSa
        rw [e2] at hSb
        first
          | rw [decide_eq_false (show ¬ b.num.natAbs % 2 = 0 from fun h => he ⟨h1, h⟩)] at hE
          | skip
        unfold RA WI natA at *
        repeat
          conv => whnf
          first
            | refine ⟨_, by assumption, ?_⟩
            | refine ⟨(Nat.le_of_ble_eq_true rfl), _, by assumption, ?_⟩
            | refine ⟨by kernel_rfl, ?_⟩
            | exact rfl
            | exact ⟨Nat.le_of_ble_eq_true rfl, rfl⟩
            | refine ⟨by decide, ?_⟩
  rw [if_neg hl]
  have hs : (if decide (a.den = 1 ∧ (a.num.natAbs = 0 ∨ a.num.natAbs = 1)) = true then b.num else 0) = 0 := by
    split
    · rename_i h
      have h' := of_decide_eq_true h
      exact Decidable.of_not_not (fun hb => hl ⟨h', hb⟩)
    · rfl
  by_cases hf : fit b.num
  rotate_left
  · rw [if_pos hf]
    refine ⟨0, rfl, RZ22 ?_⟩
    rw [if_neg (fun h : fitQ b.num b.den => hf h.2), decide_eq_false (fun h : fitQ b.num b.den => hf h.2)] at hI
    refine AC.of_body TTok Tryz.func141 rfl (enter_of Tryz.func141 (by kernel_rfl) (by kernel_rfl)) (noid3 (RA_noid _ _) (RA_noid _ _) (.val _)) (.tup _ (noid2 RZ_noid (.val _))) (Nat.le_of_ble_eq_true rfl) ?_
    generalize decide (a.den = 1 ∧ (a.num.natAbs = 0 ∨ a.num.natAbs = 1)) = s at *
    rcases sig_lit a.num with ⟨h1, e1⟩ | ⟨h1, e1⟩ | ⟨h1, e1⟩ <;> rcases sig_lit b.num with ⟨h2, e2⟩ | ⟨h2, e2⟩ | ⟨h2, e2⟩ <;> cases s
    all_goals simp only [Bool.false_eq_true, if_false, if_true] at hs
    all_goals first
      | (exfalso; omega)
      | skip
    all_goals
      rw [e1] at hSa
      rw [e2] at hSb
      unfold RA RZ at *
      repeat
        conv => whnf
        first
          | refine ⟨_, by assumption, ?_⟩
          | refine ⟨(Nat.le_of_ble_eq_true rfl), _, by assumption, ?_⟩
          | refine ⟨by kernel_rfl, ?_⟩
          | exact rfl
          | exact ⟨Nat.le_of_ble_eq_true rfl, rfl⟩
          | refine ⟨by decide, ?_⟩
  rw [if_neg (fun h => h hf)]
  have hfq : fitQ b.num b.den := ⟨hd, hf⟩
  rw [if_pos hfq, decide_eq_true hfq] at hI
  obtain ⟨d, hd', hP, _⟩ := pow_both a i b.num most hi hf hm la
  refine ⟨d, hd', ?_⟩
  refine AC.of_body TTok Tryz.func141 rfl (enter_of Tryz.func141 (by kernel_rfl) (by kernel_rfl)) (noid3 (RA_noid _ _) (RA_noid _ _) (.val _)) (.tup _ (noid2 (RA_noid _ _) (.val _))) (Nat.le_of_ble_eq_true rfl) ?_
  revert hP
  generalize (powQ a b.num most).1 = r
  generalize (powQ a b.num most).2 = g
  intro hP
  generalize decide (a.den = 1 ∧ (a.num.natAbs = 0 ∨ a.num.natAbs = 1)) = s at *
  rcases sig_lit a.num with ⟨h1, e1⟩ | ⟨h1, e1⟩ | ⟨h1, e1⟩ <;> rcases sig_lit b.num with ⟨h2, e2⟩ | ⟨h2, e2⟩ | ⟨h2, e2⟩ <;> cases s <;> cases g
  all_goals simp only [Bool.false_eq_true, if_false, if_true] at hs
  all_goals first
    | (exfalso; omega)
    | skip
  all_goals
    rw [e1] at hSa
    rw [e2] at hSb
    unfold RA at *
    repeat
      conv => whnf
      first
        | refine ⟨_, by assumption, ?_⟩
        | refine ⟨(Nat.le_of_ble_eq_true rfl), _, by assumption, ?_⟩
        | refine ⟨by kernel_rfl, ?_⟩
        | exact rfl
        | exact ⟨Nat.le_of_ble_eq_true rfl, rfl⟩
        | refine ⟨by decide, ?_⟩

end Go.Proofs.YtclamnmpleiakaaGreat

/- Functions of two numbers: the document's powers. -/
set_option linter.unusedVariables false
namespace Go.Proofs.YtclamnmpleiakaaGreat
open Go Go.AL NM

end Go.Proofs.YtclamnmpleiakaaGreat

/- Functions of two numbers: how many ways there are. -/
set_option linter.unusedVariables false
namespace Go.Proofs.YtclamnmpleiakaaGreat
open Go Go.AL NM

/-- How many ways, factor by factor. -/
def chs (r : Nat) : Nat → Nat
  | 0 => 1
  | i + 1 => chs r i * (r + (i + 1)) / (i + 1)
theorem chs_succ (r i : Nat) : chs r (i + 1) = chs r i * (r + (i + 1)) / (i + 1) := rfl
theorem chs_mono1 (r i : Nat) : chs r i ≤ chs r (i + 1) := by
  rw [chs_succ, Nat.le_div_iff_mul_le (by omega)]
  exact Nat.mul_le_mul_left _ (by omega)
theorem chs_mono (r : Nat) {i j : Nat} (h : i ≤ j) : chs r i ≤ chs r j := by
  induction h with
  | refl => exact Nat.le_refl _
  | step _ ih => exact Nat.le_trans ih (chs_mono1 r _)
theorem chs_big (r : Nat) : ∀ i, i ≤ r → 2 ^ i ≤ chs r i
  | 0, _ => Nat.le_refl _
  | i + 1, h => by
    have ih := chs_big r i (by omega)
    rw [chs_succ, Nat.le_div_iff_mul_le (by omega), Nat.pow_succ, Nat.mul_assoc]
    exact Nat.mul_le_mul ih (by omega)
theorem chs_bound {r i : Nat} (h : i ≤ r) (hl : (limbs (chs r i)).length ≤ 200) : i ≤ 6400 := by
  have h1 := chs_big r i h
  have h2 := val_lt (limbs_lim (chs r i))
  rw [val_limbs, pow32] at h2
  have h3 : 2 ^ i < 2 ^ (32 * (limbs (chs r i)).length) := Nat.lt_of_le_of_lt h1 h2
  have := (Nat.pow_lt_pow_iff_right (by decide : 1 < 2)).1 h3
  omega

/-- Is it fewer limbs than may be? -/
def chsOk (k r : Nat) (most : Int) : Prop := k = 0 ∨ ((limbs (chs r k)).length : Int) ≤ most
instance (k r : Nat) (most : Int) : Decidable (chsOk k r most) := inferInstanceAs (Decidable (_ ∨ _))
def natQ (q : Rat) : Prop := q.den = 1 ∧ 0 ≤ q.num
instance (q : Rat) : Decidable (natQ q) := inferInstanceAs (Decidable (_ ∧ _))
/-- How many ways there are to take so many of others, or why not. -/
def chooseQ (a b : Rat) (most : Int) : Rat × Int :=
  if ¬ (natQ a ∧ natQ b) then (0, 22)
  else if b.num < a.num then (0, 0)
  else if chsOk (min a.num (b.num - a.num)).toNat (max a.num (b.num - a.num)).toNat most then (((chs (max a.num (b.num - a.num)).toNat (min a.num (b.num - a.num)).toNat : Nat) : Int), 0)
  else (0, 26)

theorem int_of {q : Rat} (h : q.den = 1) : q = ((q.num : Int) : Rat) := Rat.ext rfl h
theorem sub_int {a b : Rat} (ha : a.den = 1) (hb : b.den = 1) : (b + -a).num = b.num - a.num ∧ (b + -a).den = 1 := by
  have e : b + -a = ((b.num - a.num : Int) : Rat) := by
    rw [Rat.intCast_sub, ← int_of ha, ← int_of hb, Rat.sub_eq_add_neg]
  rw [e]
  exact ⟨rfl, rfl⟩
theorem floor_nat (x i : Nat) (hi : 0 < i) (hx : (limbs x).length < 1000000) (hl : (limbs i).length < 1000000) : ∃ r, AC Tryz.prog 152 [WI (x : Int), WI (i : Int)] (.pure (.tup [WI ((x / i : Nat) : Int), WI r, .val (.bool true)])) := by
  have h := Floor_ok (x : Int) (i : Int) (by omega) (by rw [Int.natAbs_natCast]; omega) (by rw [Int.natAbs_natCast]; omega) (DivMod_ok _ _ (by rw [Int.natAbs_natCast]; exact hi) (by rw [Int.natAbs_natCast]; omega) (by rw [Int.natAbs_natCast]; omega))
  rw [flQ_ediv _ _ (by omega)] at h
  exact ⟨_, h⟩

theorem Choose_none (a b : Rat) (i j : Nat) (most : Int) (hi : dn i = a.den) (hj : dn j = b.den) (h : ¬ (natQ a ∧ natQ b)) : AC Tryz.prog 142 [RA a.num i, RA b.num j, .val (.int .i64 most)] (.pure (.tup [RA 0 0, .val (.int .i64 22)])) := by
  refine RZ22 ?_
  have hWa := IsWhole_ok a.num i
  have hWb := IsWhole_ok b.num j
  have hSa := RaSign_ok a.num i
  have hSb := RaSign_ok b.num j
  rw [hi] at hWa
  rw [hj] at hWb
  refine AC.of_body TTok Tryz.func142 rfl (enter_of Tryz.func142 (by kernel_rfl) (by kernel_rfl)) (noid3 (RA_noid _ _) (RA_noid _ _) (.val _)) (.tup _ (noid2 RZ_noid (.val _))) (Nat.le_of_ble_eq_true rfl) ?_
  by_cases da : a.den = 1
  · rw [decide_eq_true da] at hWa
    by_cases db : b.den = 1
    · rw [decide_eq_true db] at hWb
      by_cases na : a.num < 0
      · rw [show sigW a.num = -1 by unfold sigW; rw [if_neg (by omega), if_pos na]] at hSa
        unfold RA RZ at *
        repeat
          conv => whnf
          first
            | refine ⟨_, by assumption, ?_⟩
            | refine ⟨(Nat.le_of_ble_eq_true rfl), _, by assumption, ?_⟩
            | refine ⟨by kernel_rfl, ?_⟩
            | exact rfl
            | exact ⟨Nat.le_of_ble_eq_true rfl, rfl⟩
            | refine ⟨by decide, ?_⟩
      · have nb : b.num < 0 := Decidable.of_not_not (fun hb => h ⟨⟨da, by omega⟩, ⟨db, by omega⟩⟩)
        rw [show sigW b.num = -1 by unfold sigW; rw [if_neg (by omega), if_pos nb]] at hSb
        rcases sig_lit a.num with ⟨h1, e1⟩ | ⟨h1, e1⟩ | ⟨h1, e1⟩
        · omega
        · rw [e1] at hSa
          unfold RA RZ at *
          repeat
            conv => whnf
            first
              | refine ⟨_, by assumption, ?_⟩
              | refine ⟨(Nat.le_of_ble_eq_true rfl), _, by assumption, ?_⟩
              | refine ⟨by kernel_rfl, ?_⟩
              | exact rfl
              | exact ⟨Nat.le_of_ble_eq_true rfl, rfl⟩
              | refine ⟨by decide, ?_⟩
        · rw [e1] at hSa
          unfold RA RZ at *
          repeat
            conv => whnf
            first
              | refine ⟨_, by assumption, ?_⟩
              | refine ⟨(Nat.le_of_ble_eq_true rfl), _, by assumption, ?_⟩
              | refine ⟨by kernel_rfl, ?_⟩
              | exact rfl
              | exact ⟨Nat.le_of_ble_eq_true rfl, rfl⟩
              | refine ⟨by decide, ?_⟩
    · rw [decide_eq_false db] at hWb
      unfold RA RZ at *
      repeat
        conv => whnf
        first
          | refine ⟨_, by assumption, ?_⟩
          | refine ⟨(Nat.le_of_ble_eq_true rfl), _, by assumption, ?_⟩
          | refine ⟨by kernel_rfl, ?_⟩
          | exact rfl
          | exact ⟨Nat.le_of_ble_eq_true rfl, rfl⟩
          | refine ⟨by decide, ?_⟩
  · rw [decide_eq_false da] at hWa
    unfold RA RZ at *
    repeat
      conv => whnf
      first
        | refine ⟨_, by assumption, ?_⟩
        | refine ⟨(Nat.le_of_ble_eq_true rfl), _, by assumption, ?_⟩
        | refine ⟨by kernel_rfl, ?_⟩
        | exact rfl
        | exact ⟨Nat.le_of_ble_eq_true rfl, rfl⟩
        | refine ⟨by decide, ?_⟩

section
variable (a b : Rat) (i j : Nat) (most : Int) (hi : dn i = a.den) (hj : dn j = b.den) (hm : most ≤ 200) (la : Sz a 90) (lb : Sz b 90) (na : natQ a) (nb : natQ b)
include hi hj la lb na nb
theorem Choose_less (h : b.num < a.num) : AC Tryz.prog 142 [RA a.num i, RA b.num j, .val (.int .i64 most)] (.pure (.tup [RA 0 0, .val (.int .i64 0)])) := by
  refine RZ22 ?_
  have hWa := IsWhole_ok a.num i
  have hWb := IsWhole_ok b.num j
  have hSa := RaSign_ok a.num i
  have hSb := RaSign_ok b.num j
  have hM := QMinus_ok a.num i
  have hP := QPlus1 b (-a) j a.den hj (dn_den a) (lb.mono (by decide)) ((Sz_neg la).mono (by decide))
  have hSr := RaSign_ok (b + -a).num (b + -a).den
  rw [hi, decide_eq_true na.1] at hWa
  rw [hj, decide_eq_true nb.1] at hWb
  rw [hi] at hM
  have hM : AC Tryz.prog 105 [RA a.num i] (.pure (RA (-a).num a.den)) := hM
  have e1 : sigW a.num = 0 ∨ sigW a.num = 1 := by
    rcases sig_lit a.num with ⟨h1, e1⟩ | ⟨h1, e1⟩ | ⟨h1, e1⟩
    · exact absurd na.2 (by omega)
    · exact .inl e1
    · exact .inr e1
  have e2 : sigW b.num = 0 ∨ sigW b.num = 1 := by
    rcases sig_lit b.num with ⟨h1, e1⟩ | ⟨h1, e1⟩ | ⟨h1, e1⟩
    · exact absurd nb.2 (by omega)
    · exact .inl e1
    · exact .inr e1
  obtain ⟨s1, s2⟩ := sub_int na.1 nb.1
  rw [show sigW (b + -a).num = -1 by unfold sigW; rw [if_neg (by omega), if_pos (by omega)]] at hSr
  refine AC.of_body TTok Tryz.func142 rfl (enter_of Tryz.func142 (by kernel_rfl) (by kernel_rfl)) (noid3 (RA_noid _ _) (RA_noid _ _) (.val _)) (.tup _ (noid2 RZ_noid (.val _))) (Nat.le_of_ble_eq_true rfl) ?_
  clear s1 s2
  revert hP hSr
  generalize b + -a = r
  intro hP hSr
  rcases e1 with e1 | e1 <;> rcases e2 with e2 | e2
  all_goals
    rw [e1] at hSa
    rw [e2] at hSb
    unfold RA RZ rowR at *
    repeat
      conv => whnf
      first
        | refine ⟨_, by assumption, ?_⟩
        | refine ⟨(Nat.le_of_ble_eq_true rfl), _, by assumption, ?_⟩
        | refine ⟨by kernel_rfl, ?_⟩
        | exact rfl
        | exact ⟨Nat.le_of_ble_eq_true rfl, rfl⟩
        | refine ⟨by decide, ?_⟩
include hm
theorem Choose_gen (h : a.num ≤ b.num) (res : AV) (hno : NoId res)
    (r1 : ¬ chsOk (min a.num (b.num - a.num)).toNat (max a.num (b.num - a.num)).toNat most → AV.tup [RZ, .val (.int .i64 26)] = res)
    (r2 : chsOk (min a.num (b.num - a.num)).toNat (max a.num (b.num - a.num)).toNat most → AV.tup [RA ((chs (max a.num (b.num - a.num)).toNat (min a.num (b.num - a.num)).toNat : Nat) : Int) 1, .val (.int .i64 0)] = res) :
    AC Tryz.prog 142 [RA a.num i, RA b.num j, .val (.int .i64 most)] (.pure res) := by
  have hWa := IsWhole_ok a.num i
  have hWb := IsWhole_ok b.num j
  have hSa := RaSign_ok a.num i
  have hSb := RaSign_ok b.num j
  have hM := QMinus_ok a.num i
  have hP := QPlus1 b (-a) j a.den hj (dn_den a) (lb.mono (by decide)) ((Sz_neg la).mono (by decide))
  have hSr := RaSign_ok (b + -a).num (b + -a).den
  rw [hi, decide_eq_true na.1] at hWa
  rw [hj, decide_eq_true nb.1] at hWb
  rw [hi] at hM
  have hM : AC Tryz.prog 105 [RA a.num i] (.pure (RA (-a).num a.den)) := hM
  have e1 : sigW a.num = 0 ∨ sigW a.num = 1 := by
    rcases sig_lit a.num with ⟨h1, e1⟩ | ⟨h1, e1⟩ | ⟨h1, e1⟩
    · exact absurd na.2 (by omega)
    · exact .inl e1
    · exact .inr e1
  have e2 : sigW b.num = 0 ∨ sigW b.num = 1 := by
    rcases sig_lit b.num with ⟨h1, e1⟩ | ⟨h1, e1⟩ | ⟨h1, e1⟩
    · exact absurd nb.2 (by omega)
    · exact .inl e1
    · exact .inr e1
  obtain ⟨s1, s2⟩ := sub_int na.1 nb.1
  have sR : Sz (b + -a) 361 := (Sz_add lb (Sz_neg la)).mono (by decide)
  have hC := QCmp_ok (b + -a) a (b + -a).den i (dn_den _) hi (sR.mono (by decide)) (la.mono (by decide))
  have eR : sigW (b + -a).num = 0 ∨ sigW (b + -a).num = 1 := by
    rcases sig_lit (b + -a).num with ⟨h1, e1⟩ | ⟨h1, e1⟩ | ⟨h1, e1⟩
    · omega
    · exact .inl e1
    · exact .inr e1
  refine AC.of_body TTok Tryz.func142 rfl (enter_of Tryz.func142 (by kernel_rfl) (by kernel_rfl)) (noid3 (RA_noid _ _) (RA_noid _ _) (.val _)) hno (Nat.le_of_ble_eq_true rfl) ?_
  have hlt : cmpQ (b + -a) a < 0 ↔ b.num - a.num < a.num := by
    rw [cmpQ_neg, Rat.lt_iff, s1, s2, na.1]
    simp
  have hdR : dn (b + -a).den = 1 := by rw [dn_den, s2]
  rw [na.1] at hi
  obtain ⟨dr, hdr⟩ : ∃ d, d = (b + -a).den := ⟨_, rfl⟩
  obtain ⟨nr, hnr⟩ : ∃ n, n = (b + -a).num := ⟨_, rfl⟩
  rw [← hdr] at hP hSr hC hdR
  rw [← hnr] at hP hSr hC eR s1
  have f1 : decide (sigW a.num < 0) = false := decide_eq_false (by rcases e1 with e | e <;> rw [e] <;> decide)
  have f2 : decide (sigW b.num < 0) = false := decide_eq_false (by rcases e2 with e | e <;> rw [e] <;> decide)
  have fR : decide (sigW nr < 0) = false := decide_eq_false (by rcases eR with e | e <;> rw [e] <;> decide)
  have lnr := sR.1
  rw [← hnr] at lnr
  clear sR e1 e2 eR
  have han := na.2
  have lan := la.1
  clear na nb la lb
  by_cases hs : b.num - a.num < a.num
  · have fs : decide (cmpQ (b + -a) a < 0) = true := decide_eq_true (hlt.2 hs)
    clear hlt
    generalize cmpQ (b + -a) a = cq at hC fs
    clear hnr hdr
    generalize (b + -a) = qr at hP hC
    generalize -a = qn at hM hP
    generalize sigW a.num = g1 at *
    generalize sigW b.num = g2 at *
    generalize sigW nr = g3 at *
    have hTop := RTop_ok a.num i
    have hI := RInt_ok nr dr
    rw [hdR] at hI
    obtain ⟨k, hk⟩ : ∃ k : Nat, nr = (k : Int) := ⟨(nr).toNat, by omega⟩
    obtain ⟨r, hr⟩ : ∃ r : Nat, a.num = (r : Int) := ⟨(a.num).toNat, by omega⟩
    rw [show (min a.num (b.num - a.num)).toNat = k by omega, show (max a.num (b.num - a.num)).toNat = r by omega] at r1 r2
    have hkr : k ≤ r := by omega
    have lr : (limbs r).length ≤ 400 := by
      have := lan
      rw [show r = (a.num).natAbs by omega]
      omega
    obtain ⟨v, ok, hI, hv⟩ : ∃ v ok, AC Tryz.prog 69 [RA nr dr] (.pure (.tup [.val (.int .i64 v), .val (.bool ok)])) ∧ ((ok = true ∧ v = (k : Int)) ∨ (ok = false ∧ 6500 < k)) := by
      by_cases hf : fit nr
      · rw [if_pos ⟨rfl, hf⟩, decide_eq_true (show fitQ nr 1 from ⟨rfl, hf⟩)] at hI
        exact ⟨_, _, hI, .inl ⟨rfl, hk⟩⟩
      · rw [if_neg (fun h => hf h.2), decide_eq_false (show ¬ fitQ nr 1 from fun h => hf h.2)] at hI
        exact ⟨_, _, hI, .inr ⟨rfl, by unfold fit at hf; omega⟩⟩
    have hF1 := From_ok 1 (by decide)
    have hWh := Whole_ok ((chs r k : Nat) : Int)
    unfold RA WI rowR at *
    conv => whnf
    refine ⟨_, hWa, ?_⟩
    conv => whnf
    refine ⟨_, hWb, ?_⟩
    conv => whnf
    refine ⟨_, hSa, ?_⟩
    conv => whnf
    refine caseb (fun h => Bool.noConfusion ((f1).symm.trans h)) (fun _ => ?_)
    conv => whnf
    refine ⟨_, hSb, ?_⟩
    conv => whnf
    refine caseb (fun h => Bool.noConfusion ((f2).symm.trans h)) (fun _ => ?_)
    conv => whnf
    refine ⟨_, hM, ?_⟩
    conv => whnf
    refine ⟨(Nat.le_of_ble_eq_true rfl), _, hP, ?_⟩
    conv => whnf
    refine ⟨by kernel_rfl, ?_⟩
    conv => whnf
    refine ⟨_, hSr, ?_⟩
    conv => whnf
    refine caseb (fun h => Bool.noConfusion ((fR).symm.trans h)) (fun _ => ?_)
    conv => whnf
    refine ⟨_, hC, ?_⟩
    conv => whnf
    refine caseb (fun _ => ?_) (fun h => Bool.noConfusion ((fs).symm.trans h))
    conv => whnf
    refine ⟨_, hI, ?_⟩
    conv => whnf
    refine ⟨_, hF1, ?_⟩
    conv => whnf
    refine SW.loopM TTok (fun j : Nat => [(2, .val (.int .i64 most)), (6, .lp 16 0), (8, .lp 216 0), (9, .val (.int .i64 v)), (10, .val (.bool ok)), (11, .lp 384 0), (12, .val (.int .i64 ((j : Int) + 1)))])
      (fun j => [(16, .cells 3 [[.sl 0 [] true, .val (.bool false), .sl 0 [] true]]), (216, .cells 3 [[.sl 1 (irows .u32 (limbs (a.num).natAbs)) false, .val (.bool (decide (a.num < 0))), .sl 1 (irows .u32 (limbs i)) false]]), (384, .cells 2 [[.sl 1 (irows .u32 (limbs ((chs r j : Nat) : Int).natAbs)) false, .val (.bool (decide (((chs r j : Nat) : Int) < 0)))]])]) 408 86 rfl (fun j => 6500 - j)
      (fun j => j ≤ k ∧ (j = 0 ∨ ((limbs (chs r j)).length : Int) ≤ most)) 0 [] ⟨Nat.zero_le _, .inl rfl⟩
      ⟨⟨rfl, rfl⟩, ⟨rfl, rfl⟩, ⟨rfl, rfl⟩, ⟨rfl, rfl⟩, ⟨rfl, rfl⟩, ⟨rfl, rfl⟩, ⟨rfl, rfl⟩, trivial⟩ ⟨⟨rfl, .inr ⟨rfl, rfl⟩⟩, ⟨rfl, .inr ⟨rfl, rfl⟩⟩, ⟨rfl, .inr ⟨rfl, rfl⟩⟩, trivial⟩ rfl ?_
    intro j hJ
    have hj1 : j ≤ k := hJ.1
    have hj2 : j = 0 ∨ ((limbs (chs r j)).length : Int) ≤ most := hJ.2
    clear hJ
    have lc : (limbs (chs r j)).length ≤ 200 := by
      rcases hj2 with h | h
      · subst h; exact Nat.le_trans (limbs_small (n := 1) (by decide)) (by decide)
      · omega
    have hjb := chs_bound (Nat.le_trans hj1 hkr) lc
    have lj : (limbs (j + 1)).length ≤ 1 := limbs_small (by omega)
    have hFr := From_ok ((j : Int) + 1) (by omega)
    have lrj := limbs_abs_add (r : Int) ((j : Int) + 1)
    rw [Int.natAbs_natCast, show ((j : Int) + 1).natAbs = j + 1 by omega] at lrj
    have hPl := Plus1 (r : Int) ((j : Int) + 1) (by rw [Int.natAbs_natCast]; omega) (by rw [show ((j : Int) + 1).natAbs = j + 1 by omega]; omega) (by omega)
    have lcr := limbs_abs_mul ((chs r j : Nat) : Int) ((r : Int) + ((j : Int) + 1))
    rw [Int.natAbs_natCast] at lcr
    have ec : ((chs r j : Nat) : Int) * ((r : Int) + ((j : Int) + 1)) = ((chs r j * (r + (j + 1)) : Nat) : Int) := by rw [Int.natCast_mul, Int.natCast_add, Int.natCast_add]; rfl
    have hTi := Times1 ((chs r j : Nat) : Int) ((r : Int) + ((j : Int) + 1)) (by rw [Int.natAbs_natCast]; omega) (by omega) (by omega)
    rw [ec] at hTi lcr
    rw [Int.natAbs_natCast] at lcr
    obtain ⟨w, hFl⟩ := floor_nat (chs r j * (r + (j + 1))) (j + 1) (by omega) (by omega) (by omega)
    rw [← chs_succ, show ((j + 1 : Nat) : Int) = (j : Int) + 1 from rfl] at hFl
    have hLim := Limbs_ok ((chs r (j + 1) : Nat) : Int).natAbs
    rw [← hr] at hPl hTi
    clear ec lcr lrj lj lc
    revert hPl hTi hFl
    generalize ((chs r j * (r + (j + 1)) : Nat) : Int) = y
    generalize a.num + ((j : Int) + 1) = z
    intro hPl hTi hFl
    unfold WI rowW natA at *
    rcases hv with ⟨rfl, rfl⟩ | ⟨rfl, hbig⟩
    · conv => whnf
      refine caseb (fun h4 => ?_) (fun h4 => ?_)
      · have h4' : (j : Int) + 1 ≤ (k : Int) := of_decide_eq_true h4
        conv => whnf
        refine ⟨_, hTop, ?_⟩
        conv => whnf
        refine ⟨_, hFr, ?_⟩
        conv => whnf
        refine ⟨(Nat.le_of_ble_eq_true rfl), _, hPl, ?_⟩
        conv => whnf
        refine ⟨(Nat.le_of_ble_eq_true rfl), _, hTi, ?_⟩
        conv => whnf
        refine ⟨_, hFr, ?_⟩
        conv => whnf
        refine ⟨_, hFl, ?_⟩
        conv => whnf
        refine ⟨by kernel_rfl, ?_⟩
        conv => whnf
        refine ⟨_, hLim, ?_⟩
        conv => whnf
        refine caseb (fun h5 => ?_) (fun h5 => ?_)
        · have h5' : ((limbs (chs r (j + 1))).length : Int) > most := of_decide_eq_true h5
          have hmo := limbs_len_mono (chs_mono r (show j + 1 ≤ k by omega))
          conv => whnf
          exact r1 (fun hc => by rcases hc with hc | hc <;> omega)
        · have h5' : ¬ ((limbs (chs r (j + 1))).length : Int) > most := of_decide_eq_false h5
          conv => whnf
          refine ⟨j + 1, [], (by show 6500 - (j + 1) < 6500 - j; omega), ⟨(by show j + 1 ≤ k; omega), .inr (by show ((limbs (chs r (j + 1))).length : Int) ≤ most; omega)⟩, ⟨⟨rfl, rfl⟩, ⟨rfl, rfl⟩, ⟨rfl, rfl⟩, ⟨rfl, rfl⟩, ⟨rfl, rfl⟩, ⟨rfl, rfl⟩, ⟨valI ?_, rfl⟩, trivial⟩, ⟨⟨rfl, .inr ⟨rfl, rfl⟩⟩, ⟨rfl, .inr ⟨rfl, rfl⟩⟩, ⟨rfl, .inr ⟨rfl, rfl⟩⟩, trivial⟩, rfl⟩
          show IntKind.i64.wrap ((j : Int) + 1 + 1) = ((j + 1 : Nat) : Int) + 1
          rw [IntWalk.i64_in _ (by omega)]; omega
      · have h4' : ¬ (j : Int) + 1 ≤ (k : Int) := of_decide_eq_false h4
        have hjk : j = k := by omega
        rw [hjk] at hj2 ⊢
        conv => whnf
        refine ⟨_, hWh, ?_⟩
        conv => whnf
        exact r2 (by rcases hj2 with h | h; exact .inl h; exact .inr h)
    · have h4' : (j : Int) + 1 ≤ (k : Int) := by omega
      conv => whnf
      refine ⟨_, hTop, ?_⟩
      conv => whnf
      refine ⟨_, hFr, ?_⟩
      conv => whnf
      refine ⟨(Nat.le_of_ble_eq_true rfl), _, hPl, ?_⟩
      conv => whnf
      refine ⟨(Nat.le_of_ble_eq_true rfl), _, hTi, ?_⟩
      conv => whnf
      refine ⟨_, hFr, ?_⟩
      conv => whnf
      refine ⟨_, hFl, ?_⟩
      conv => whnf
      refine ⟨by kernel_rfl, ?_⟩
      conv => whnf
      refine ⟨_, hLim, ?_⟩
      conv => whnf
      refine caseb (fun h5 => ?_) (fun h5 => ?_)
      · have h5' : ((limbs (chs r (j + 1))).length : Int) > most := of_decide_eq_true h5
        have hmo := limbs_len_mono (chs_mono r (show j + 1 ≤ k by omega))
        conv => whnf
        exact r1 (fun hc => by rcases hc with hc | hc <;> omega)
      · have h5' : ¬ ((limbs (chs r (j + 1))).length : Int) > most := of_decide_eq_false h5
        conv => whnf
        refine ⟨j + 1, [], (by show 6500 - (j + 1) < 6500 - j; omega), ⟨(by show j + 1 ≤ k; omega), .inr (by show ((limbs (chs r (j + 1))).length : Int) ≤ most; omega)⟩, ⟨⟨rfl, rfl⟩, ⟨rfl, rfl⟩, ⟨rfl, rfl⟩, ⟨rfl, rfl⟩, ⟨rfl, rfl⟩, ⟨rfl, rfl⟩, ⟨valI ?_, rfl⟩, trivial⟩, ⟨⟨rfl, .inr ⟨rfl, rfl⟩⟩, ⟨rfl, .inr ⟨rfl, rfl⟩⟩, ⟨rfl, .inr ⟨rfl, rfl⟩⟩, trivial⟩, rfl⟩
        show IntKind.i64.wrap ((j : Int) + 1 + 1) = ((j + 1 : Nat) : Int) + 1
        rw [IntWalk.i64_in _ (by omega)]; omega
  · have fs : decide (cmpQ (b + -a) a < 0) = false := decide_eq_false (fun h => hs (hlt.1 h))
    clear hlt
    generalize cmpQ (b + -a) a = cq at hC fs
    clear hnr hdr
    generalize (b + -a) = qr at hP hC
    generalize -a = qn at hM hP
    generalize sigW a.num = g1 at *
    generalize sigW b.num = g2 at *
    generalize sigW nr = g3 at *
    have hTop := RTop_ok nr dr
    have hI := RInt_ok a.num i
    rw [hi] at hI
    obtain ⟨k, hk⟩ : ∃ k : Nat, a.num = (k : Int) := ⟨(a.num).toNat, by omega⟩
    obtain ⟨r, hr⟩ : ∃ r : Nat, nr = (r : Int) := ⟨(nr).toNat, by omega⟩
    rw [show (min a.num (b.num - a.num)).toNat = k by omega, show (max a.num (b.num - a.num)).toNat = r by omega] at r1 r2
    have hkr : k ≤ r := by omega
    have lr : (limbs r).length ≤ 400 := by
      have := lnr
      rw [show r = (nr).natAbs by omega]
      omega
    obtain ⟨v, ok, hI, hv⟩ : ∃ v ok, AC Tryz.prog 69 [RA a.num i] (.pure (.tup [.val (.int .i64 v), .val (.bool ok)])) ∧ ((ok = true ∧ v = (k : Int)) ∨ (ok = false ∧ 6500 < k)) := by
      by_cases hf : fit a.num
      · rw [if_pos ⟨rfl, hf⟩, decide_eq_true (show fitQ a.num 1 from ⟨rfl, hf⟩)] at hI
        exact ⟨_, _, hI, .inl ⟨rfl, hk⟩⟩
      · rw [if_neg (fun h => hf h.2), decide_eq_false (show ¬ fitQ a.num 1 from fun h => hf h.2)] at hI
        exact ⟨_, _, hI, .inr ⟨rfl, by unfold fit at hf; omega⟩⟩
    have hF1 := From_ok 1 (by decide)
    have hWh := Whole_ok ((chs r k : Nat) : Int)
    unfold RA WI rowR at *
    conv => whnf
    refine ⟨_, hWa, ?_⟩
    conv => whnf
    refine ⟨_, hWb, ?_⟩
    conv => whnf
    refine ⟨_, hSa, ?_⟩
    conv => whnf
    refine caseb (fun h => Bool.noConfusion ((f1).symm.trans h)) (fun _ => ?_)
    conv => whnf
    refine ⟨_, hSb, ?_⟩
    conv => whnf
    refine caseb (fun h => Bool.noConfusion ((f2).symm.trans h)) (fun _ => ?_)
    conv => whnf
    refine ⟨_, hM, ?_⟩
    conv => whnf
    refine ⟨(Nat.le_of_ble_eq_true rfl), _, hP, ?_⟩
    conv => whnf
    refine ⟨by kernel_rfl, ?_⟩
    conv => whnf
    refine ⟨_, hSr, ?_⟩
    conv => whnf
    refine caseb (fun h => Bool.noConfusion ((fR).symm.trans h)) (fun _ => ?_)
    conv => whnf
    refine ⟨_, hC, ?_⟩
    conv => whnf
    refine caseb (fun h => Bool.noConfusion ((fs).symm.trans h)) (fun _ => ?_)
    conv => whnf
    refine ⟨_, hI, ?_⟩
    conv => whnf
    refine ⟨_, hF1, ?_⟩
    conv => whnf
    refine SW.loopM TTok (fun j : Nat => [(2, .val (.int .i64 most)), (6, .lp 16 0), (8, .lp 216 0), (9, .val (.int .i64 v)), (10, .val (.bool ok)), (11, .lp 352 0), (12, .val (.int .i64 ((j : Int) + 1)))])
      (fun j => [(16, .cells 3 [[.sl 0 [] true, .val (.bool false), .sl 0 [] true]]), (216, .cells 3 [[.sl 1 (irows .u32 (limbs (nr).natAbs)) false, .val (.bool (decide (nr < 0))), .sl 1 (irows .u32 (limbs dr)) false]]), (352, .cells 2 [[.sl 1 (irows .u32 (limbs ((chs r j : Nat) : Int).natAbs)) false, .val (.bool (decide (((chs r j : Nat) : Int) < 0)))]])]) 376 86 rfl (fun j => 6500 - j)
      (fun j => j ≤ k ∧ (j = 0 ∨ ((limbs (chs r j)).length : Int) ≤ most)) 0 [] ⟨Nat.zero_le _, .inl rfl⟩
      ⟨⟨rfl, rfl⟩, ⟨rfl, rfl⟩, ⟨rfl, rfl⟩, ⟨rfl, rfl⟩, ⟨rfl, rfl⟩, ⟨rfl, rfl⟩, ⟨rfl, rfl⟩, trivial⟩ ⟨⟨rfl, .inr ⟨rfl, rfl⟩⟩, ⟨rfl, .inr ⟨rfl, rfl⟩⟩, ⟨rfl, .inr ⟨rfl, rfl⟩⟩, trivial⟩ rfl ?_
    intro j hJ
    have hj1 : j ≤ k := hJ.1
    have hj2 : j = 0 ∨ ((limbs (chs r j)).length : Int) ≤ most := hJ.2
    clear hJ
    have lc : (limbs (chs r j)).length ≤ 200 := by
      rcases hj2 with h | h
      · subst h; exact Nat.le_trans (limbs_small (n := 1) (by decide)) (by decide)
      · omega
    have hjb := chs_bound (Nat.le_trans hj1 hkr) lc
    have lj : (limbs (j + 1)).length ≤ 1 := limbs_small (by omega)
    have hFr := From_ok ((j : Int) + 1) (by omega)
    have lrj := limbs_abs_add (r : Int) ((j : Int) + 1)
    rw [Int.natAbs_natCast, show ((j : Int) + 1).natAbs = j + 1 by omega] at lrj
    have hPl := Plus1 (r : Int) ((j : Int) + 1) (by rw [Int.natAbs_natCast]; omega) (by rw [show ((j : Int) + 1).natAbs = j + 1 by omega]; omega) (by omega)
    have lcr := limbs_abs_mul ((chs r j : Nat) : Int) ((r : Int) + ((j : Int) + 1))
    rw [Int.natAbs_natCast] at lcr
    have ec : ((chs r j : Nat) : Int) * ((r : Int) + ((j : Int) + 1)) = ((chs r j * (r + (j + 1)) : Nat) : Int) := by rw [Int.natCast_mul, Int.natCast_add, Int.natCast_add]; rfl
    have hTi := Times1 ((chs r j : Nat) : Int) ((r : Int) + ((j : Int) + 1)) (by rw [Int.natAbs_natCast]; omega) (by omega) (by omega)
    rw [ec] at hTi lcr
    rw [Int.natAbs_natCast] at lcr
    obtain ⟨w, hFl⟩ := floor_nat (chs r j * (r + (j + 1))) (j + 1) (by omega) (by omega) (by omega)
    rw [← chs_succ, show ((j + 1 : Nat) : Int) = (j : Int) + 1 from rfl] at hFl
    have hLim := Limbs_ok ((chs r (j + 1) : Nat) : Int).natAbs
    rw [← hr] at hPl hTi
    clear ec lcr lrj lj lc
    revert hPl hTi hFl
    generalize ((chs r j * (r + (j + 1)) : Nat) : Int) = y
    generalize nr + ((j : Int) + 1) = z
    intro hPl hTi hFl
    unfold WI rowW natA at *
    rcases hv with ⟨rfl, rfl⟩ | ⟨rfl, hbig⟩
    · conv => whnf
      refine caseb (fun h4 => ?_) (fun h4 => ?_)
      · have h4' : (j : Int) + 1 ≤ (k : Int) := of_decide_eq_true h4
        conv => whnf
        refine ⟨_, hTop, ?_⟩
        conv => whnf
        refine ⟨_, hFr, ?_⟩
        conv => whnf
        refine ⟨(Nat.le_of_ble_eq_true rfl), _, hPl, ?_⟩
        conv => whnf
        refine ⟨(Nat.le_of_ble_eq_true rfl), _, hTi, ?_⟩
        conv => whnf
        refine ⟨_, hFr, ?_⟩
        conv => whnf
        refine ⟨_, hFl, ?_⟩
        conv => whnf
        refine ⟨by kernel_rfl, ?_⟩
        conv => whnf
        refine ⟨_, hLim, ?_⟩
        conv => whnf
        refine caseb (fun h5 => ?_) (fun h5 => ?_)
        · have h5' : ((limbs (chs r (j + 1))).length : Int) > most := of_decide_eq_true h5
          have hmo := limbs_len_mono (chs_mono r (show j + 1 ≤ k by omega))
          conv => whnf
          exact r1 (fun hc => by rcases hc with hc | hc <;> omega)
        · have h5' : ¬ ((limbs (chs r (j + 1))).length : Int) > most := of_decide_eq_false h5
          conv => whnf
          refine ⟨j + 1, [], (by show 6500 - (j + 1) < 6500 - j; omega), ⟨(by show j + 1 ≤ k; omega), .inr (by show ((limbs (chs r (j + 1))).length : Int) ≤ most; omega)⟩, ⟨⟨rfl, rfl⟩, ⟨rfl, rfl⟩, ⟨rfl, rfl⟩, ⟨rfl, rfl⟩, ⟨rfl, rfl⟩, ⟨rfl, rfl⟩, ⟨valI ?_, rfl⟩, trivial⟩, ⟨⟨rfl, .inr ⟨rfl, rfl⟩⟩, ⟨rfl, .inr ⟨rfl, rfl⟩⟩, ⟨rfl, .inr ⟨rfl, rfl⟩⟩, trivial⟩, rfl⟩
          show IntKind.i64.wrap ((j : Int) + 1 + 1) = ((j + 1 : Nat) : Int) + 1
          rw [IntWalk.i64_in _ (by omega)]; omega
      · have h4' : ¬ (j : Int) + 1 ≤ (k : Int) := of_decide_eq_false h4
        have hjk : j = k := by omega
        rw [hjk] at hj2 ⊢
        conv => whnf
        refine ⟨_, hWh, ?_⟩
        conv => whnf
        exact r2 (by rcases hj2 with h | h; exact .inl h; exact .inr h)
    · have h4' : (j : Int) + 1 ≤ (k : Int) := by omega
      conv => whnf
      refine ⟨_, hTop, ?_⟩
      conv => whnf
      refine ⟨_, hFr, ?_⟩
      conv => whnf
      refine ⟨(Nat.le_of_ble_eq_true rfl), _, hPl, ?_⟩
      conv => whnf
      refine ⟨(Nat.le_of_ble_eq_true rfl), _, hTi, ?_⟩
      conv => whnf
      refine ⟨_, hFr, ?_⟩
      conv => whnf
      refine ⟨_, hFl, ?_⟩
      conv => whnf
      refine ⟨by kernel_rfl, ?_⟩
      conv => whnf
      refine ⟨_, hLim, ?_⟩
      conv => whnf
      refine caseb (fun h5 => ?_) (fun h5 => ?_)
      · have h5' : ((limbs (chs r (j + 1))).length : Int) > most := of_decide_eq_true h5
        have hmo := limbs_len_mono (chs_mono r (show j + 1 ≤ k by omega))
        conv => whnf
        exact r1 (fun hc => by rcases hc with hc | hc <;> omega)
      · have h5' : ¬ ((limbs (chs r (j + 1))).length : Int) > most := of_decide_eq_false h5
        conv => whnf
        refine ⟨j + 1, [], (by show 6500 - (j + 1) < 6500 - j; omega), ⟨(by show j + 1 ≤ k; omega), .inr (by show ((limbs (chs r (j + 1))).length : Int) ≤ most; omega)⟩, ⟨⟨rfl, rfl⟩, ⟨rfl, rfl⟩, ⟨rfl, rfl⟩, ⟨rfl, rfl⟩, ⟨rfl, rfl⟩, ⟨rfl, rfl⟩, ⟨valI ?_, rfl⟩, trivial⟩, ⟨⟨rfl, .inr ⟨rfl, rfl⟩⟩, ⟨rfl, .inr ⟨rfl, rfl⟩⟩, ⟨rfl, .inr ⟨rfl, rfl⟩⟩, trivial⟩, rfl⟩
        show IntKind.i64.wrap ((j : Int) + 1 + 1) = ((j + 1 : Nat) : Int) + 1
        rw [IntWalk.i64_in _ (by omega)]; omega
end

theorem Choose_ok (a b : Rat) (i j : Nat) (most : Int) (hi : dn i = a.den) (hj : dn j = b.den) (hm : most ≤ 200) (la : Sz a 90) (lb : Sz b 90) : ∃ d, dn d = (chooseQ a b most).1.den ∧
    AC Tryz.prog 142 [RA a.num i, RA b.num j, .val (.int .i64 most)] (.pure (.tup [RA (chooseQ a b most).1.num d, .val (.int .i64 (chooseQ a b most).2)])) := by
  unfold chooseQ
  by_cases hn : natQ a ∧ natQ b
  · rw [if_neg (fun h => h hn)]
    by_cases hl : b.num < a.num
    · rw [if_pos hl]
      exact ⟨0, rfl, Choose_less a b i j most hi hj la lb hn.1 hn.2 hl⟩
    · rw [if_neg hl]
      by_cases hc : chsOk (min a.num (b.num - a.num)).toNat (max a.num (b.num - a.num)).toNat most
      · rw [if_pos hc]
        exact ⟨1, rfl, Choose_gen a b i j most hi hj hm la lb hn.1 hn.2 (by omega) _ (.tup _ (noid2 (RA_noid _ _) (.val _))) (fun h => absurd hc h) (fun _ => rfl)⟩
      · rw [if_neg hc]
        exact ⟨0, rfl, RZ22 (Choose_gen a b i j most hi hj hm la lb hn.1 hn.2 (by omega) _ (.tup _ (noid2 RZ_noid (.val _))) (fun _ => rfl) (fun h => absurd h hc))⟩
  · rw [if_pos hn]
    exact ⟨0, rfl, Choose_none a b i j most hi hj hn⟩

end Go.Proofs.YtclamnmpleiakaaGreat

/- Functions of two numbers: the document's ways. -/
set_option linter.unusedVariables false
namespace Go.Proofs.YtclamnmpleiakaaGreat
open Go Go.AL NM

end Go.Proofs.YtclamnmpleiakaaGreat

/- Functions of two numbers: what reckons. -/
set_option linter.unusedVariables false
namespace Go.Proofs.YtclamnmpleiakaaGreat
open Go Go.AL NM

/-- What a reckoning function makes of two numbers. -/
def reckonQ (c : Int) (a b : Rat) (most : Int) : Rat × Int :=
  if c = 43 then (a + b, 0)
  else if c = 45 then (a + -b, 0)
  else if c = 215 then (a * b, 0)
  else if c = 247 then (if b ≠ 0 then (a / b, 0) else if a = 0 then (1, 0) else (0, 22))
  else if c = 8968 then (if a < b then b else a, 0)
  else if c = 8970 then (if a < b then a else b, 0)
  else if c = 124 then (restQ a b, 0)
  else if c = 42 then powerQ a b most
  else if c = 33 then chooseQ a b most
  else (0, 22)
theorem noid4 {a b c d : AV} (ha : NoId a) (hb : NoId b) (hc : NoId c) (hd : NoId d) : ∀ x ∈ [a, b, c, d], NoId x := by
  intro x hx
  simp only [List.mem_cons, List.not_mem_nil, or_false] at hx
  rcases hx with rfl | rfl | rfl | rfl <;> assumption
theorem sig_ne {q : Rat} (h : q ≠ 0) : (sigW q.num == 0) = false := beq_false_of_ne (by unfold sigW; rw [if_neg (num_ne h)]; split <;> decide)
theorem sig_z {q : Rat} (h : q = 0) : (sigW q.num == 0) = true := by rw [h]; rfl
theorem cmp_lt {a b : Rat} (h : a < b) : cmpQ a b = -1 := if_pos h
theorem cmp_ge {a b : Rat} (h : ¬ a < b) : decide (cmpQ a b < 0) = false := decide_eq_false (fun e => h (cmpQ_neg.1 e))


theorem Rec43 (a b : Rat) (i j : Nat) (most : Int) (hi : dn i = a.den) (hj : dn j = b.den) (hm : most ≤ 200) (la : Sz a 20) (lb : Sz b 20) : ∃ d, dn d = (reckonQ 43 a b most).1.den ∧ AC Tryz.prog 98 [.val (.int .i32 43), RA a.num i, RA b.num j, .val (.int .i64 most)] (.pure (.tup [RA (reckonQ 43 a b most).1.num d, .val (.int .i64 (reckonQ 43 a b most).2)])) := by
  rw [show reckonQ 43 a b most = (a + b, 0) from rfl]
  have hP := QPlus1 a b i j hi hj (la.mono (by decide)) (lb.mono (by decide))
  refine ⟨_, dn_den _, ?_⟩
  refine AC.of_body TTok Tryz.func98 rfl (enter_of Tryz.func98 (by kernel_rfl) (by kernel_rfl)) (noid4 (.val _) (RA_noid _ _) (RA_noid _ _) (.val _)) (.tup _ (noid2 (RA_noid _ _) (.val _))) (Nat.le_of_ble_eq_true rfl) ?_
  revert hP
  generalize a + b = r
  intro hP
  unfold RA rowR at *
  repeat
    conv => whnf
    first
      | refine ⟨_, by assumption, ?_⟩
      | refine ⟨(Nat.le_of_ble_eq_true rfl), _, by assumption, ?_⟩
      | refine ⟨by kernel_rfl, ?_⟩
      | exact rfl
      | exact ⟨Nat.le_of_ble_eq_true rfl, rfl⟩
      | refine ⟨by decide, ?_⟩

theorem Rec45 (a b : Rat) (i j : Nat) (most : Int) (hi : dn i = a.den) (hj : dn j = b.den) (hm : most ≤ 200) (la : Sz a 20) (lb : Sz b 20) : ∃ d, dn d = (reckonQ 45 a b most).1.den ∧ AC Tryz.prog 98 [.val (.int .i32 45), RA a.num i, RA b.num j, .val (.int .i64 most)] (.pure (.tup [RA (reckonQ 45 a b most).1.num d, .val (.int .i64 (reckonQ 45 a b most).2)])) := by
  rw [show reckonQ 45 a b most = (a + -b, 0) from rfl]
  have hM := QMinus_ok b.num j
  rw [hj] at hM
  have hM : AC Tryz.prog 105 [RA b.num j] (.pure (RA (-b).num b.den)) := hM
  have hP := QPlus1 a (-b) i b.den hi (dn_den b) (la.mono (by decide)) ((Sz_neg lb).mono (by decide))
  refine ⟨_, dn_den _, ?_⟩
  refine AC.of_body TTok Tryz.func98 rfl (enter_of Tryz.func98 (by kernel_rfl) (by kernel_rfl)) (noid4 (.val _) (RA_noid _ _) (RA_noid _ _) (.val _)) (.tup _ (noid2 (RA_noid _ _) (.val _))) (Nat.le_of_ble_eq_true rfl) ?_
  revert hP
  generalize a + -b = r
  intro hP
  generalize -b = nb at *
  unfold RA rowR at *
  repeat
    conv => whnf
    first
      | refine ⟨_, by assumption, ?_⟩
      | refine ⟨(Nat.le_of_ble_eq_true rfl), _, by assumption, ?_⟩
      | refine ⟨by kernel_rfl, ?_⟩
      | exact rfl
      | exact ⟨Nat.le_of_ble_eq_true rfl, rfl⟩
      | refine ⟨by decide, ?_⟩

theorem Rec215 (a b : Rat) (i j : Nat) (most : Int) (hi : dn i = a.den) (hj : dn j = b.den) (hm : most ≤ 200) (la : Sz a 20) (lb : Sz b 20) : ∃ d, dn d = (reckonQ 215 a b most).1.den ∧ AC Tryz.prog 98 [.val (.int .i32 215), RA a.num i, RA b.num j, .val (.int .i64 most)] (.pure (.tup [RA (reckonQ 215 a b most).1.num d, .val (.int .i64 (reckonQ 215 a b most).2)])) := by
  rw [show reckonQ 215 a b most = (a * b, 0) from rfl]
  have hP := QTimes1 a b i j hi hj (la.mono (by decide)) (lb.mono (by decide))
  refine ⟨_, dn_den _, ?_⟩
  refine AC.of_body TTok Tryz.func98 rfl (enter_of Tryz.func98 (by kernel_rfl) (by kernel_rfl)) (noid4 (.val _) (RA_noid _ _) (RA_noid _ _) (.val _)) (.tup _ (noid2 (RA_noid _ _) (.val _))) (Nat.le_of_ble_eq_true rfl) ?_
  revert hP
  generalize a * b = r
  intro hP
  unfold RA rowR at *
  repeat
    conv => whnf
    first
      | refine ⟨_, by assumption, ?_⟩
      | refine ⟨(Nat.le_of_ble_eq_true rfl), _, by assumption, ?_⟩
      | refine ⟨by kernel_rfl, ?_⟩
      | exact rfl
      | exact ⟨Nat.le_of_ble_eq_true rfl, rfl⟩
      | refine ⟨by decide, ?_⟩

theorem Rec247 (a b : Rat) (i j : Nat) (most : Int) (hi : dn i = a.den) (hj : dn j = b.den) (hm : most ≤ 200) (la : Sz a 20) (lb : Sz b 20) : ∃ d, dn d = (reckonQ 247 a b most).1.den ∧ AC Tryz.prog 98 [.val (.int .i32 247), RA a.num i, RA b.num j, .val (.int .i64 most)] (.pure (.tup [RA (reckonQ 247 a b most).1.num d, .val (.int .i64 (reckonQ 247 a b most).2)])) := by
  rw [show reckonQ 247 a b most = (if b ≠ 0 then (a / b, 0) else if a = 0 then (1, 0) else (0, 22)) from rfl]
  have hSa := RaSign_ok a.num i
  have hSb := RaSign_ok b.num j
  by_cases hb : b = 0
  · rw [if_neg (fun h => h hb)]
    have fb := sig_z hb
    by_cases ha : a = 0
    · rw [if_pos ha]
      have fa := sig_z ha
      have hF := RatFrom_ok 1 (by decide)
      refine ⟨1, rfl, ?_⟩
      show AC Tryz.prog 98 _ (.pure (.tup [RA 1 1, .val (.int .i64 0)]))
      refine AC.of_body TTok Tryz.func98 rfl (enter_of Tryz.func98 (by kernel_rfl) (by kernel_rfl)) (noid4 (.val _) (RA_noid _ _) (RA_noid _ _) (.val _)) (.tup _ (noid2 (RA_noid _ _) (.val _))) (Nat.le_of_ble_eq_true rfl) ?_
      generalize sigW a.num = s at *
      generalize sigW b.num = t at *
      unfold RA at *
      conv => whnf
      refine ⟨_, hSa, ?_⟩
      conv => whnf
      refine caseb (fun _ => ?_) (fun h => Bool.noConfusion ((fa).symm.trans h))
      conv => whnf
      refine ⟨_, hSb, ?_⟩
      conv => whnf
      refine caseb (fun _ => ?_) (fun h => Bool.noConfusion ((fb).symm.trans h))
      repeat
        conv => whnf
        first
          | refine ⟨_, by assumption, ?_⟩
          | refine ⟨(Nat.le_of_ble_eq_true rfl), _, by assumption, ?_⟩
          | refine ⟨by kernel_rfl, ?_⟩
          | exact rfl
          | exact ⟨Nat.le_of_ble_eq_true rfl, rfl⟩
          | refine ⟨by decide, ?_⟩
    · rw [if_neg ha]
      have fa := sig_ne ha
      have hB := By_zero a i j hi (by rw [hj, hb]) (la.mono (by decide))
      rw [← hb] at hB
      refine ⟨0, rfl, ?_⟩
      show AC Tryz.prog 98 _ (.pure (.tup [RA 0 0, .val (.int .i64 22)]))
      refine AC.of_body TTok Tryz.func98 rfl (enter_of Tryz.func98 (by kernel_rfl) (by kernel_rfl)) (noid4 (.val _) (RA_noid _ _) (RA_noid _ _) (.val _)) (.tup _ (noid2 (RA_noid _ _) (.val _))) (Nat.le_of_ble_eq_true rfl) ?_
      generalize sigW a.num = s at *
      unfold RA at *
      conv => whnf
      refine ⟨_, hSa, ?_⟩
      conv => whnf
      refine caseb (fun h => Bool.noConfusion ((fa).symm.trans h)) (fun _ => ?_)
      repeat
        conv => whnf
        first
          | refine ⟨_, by assumption, ?_⟩
          | refine ⟨(Nat.le_of_ble_eq_true rfl), _, by assumption, ?_⟩
          | refine ⟨by kernel_rfl, ?_⟩
          | exact rfl
          | exact ⟨Nat.le_of_ble_eq_true rfl, rfl⟩
          | refine ⟨by decide, ?_⟩
  · rw [if_pos hb]
    have fb := sig_ne hb
    have hB := By_ok a b i j hi hj (la.mono (by decide)) (lb.mono (by decide)) hb
    refine ⟨_, dn_den _, ?_⟩
    refine AC.of_body TTok Tryz.func98 rfl (enter_of Tryz.func98 (by kernel_rfl) (by kernel_rfl)) (noid4 (.val _) (RA_noid _ _) (RA_noid _ _) (.val _)) (.tup _ (noid2 (RA_noid _ _) (.val _))) (Nat.le_of_ble_eq_true rfl) ?_
    revert hB
    generalize a / b = r
    intro hB
    by_cases ha : a = 0
    · have fa := sig_z ha
      generalize sigW a.num = s at *
      generalize sigW b.num = t at *
      unfold RA at *
      conv => whnf
      refine ⟨_, hSa, ?_⟩
      conv => whnf
      refine caseb (fun _ => ?_) (fun h => Bool.noConfusion ((fa).symm.trans h))
      conv => whnf
      refine ⟨_, hSb, ?_⟩
      conv => whnf
      refine caseb (fun h => Bool.noConfusion ((fb).symm.trans h)) (fun _ => ?_)
      repeat
        conv => whnf
        first
          | refine ⟨_, by assumption, ?_⟩
          | refine ⟨(Nat.le_of_ble_eq_true rfl), _, by assumption, ?_⟩
          | refine ⟨by kernel_rfl, ?_⟩
          | exact rfl
          | exact ⟨Nat.le_of_ble_eq_true rfl, rfl⟩
          | refine ⟨by decide, ?_⟩
    · have fa := sig_ne ha
      generalize sigW a.num = s at *
      unfold RA at *
      conv => whnf
      refine ⟨_, hSa, ?_⟩
      conv => whnf
      refine caseb (fun h => Bool.noConfusion ((fa).symm.trans h)) (fun _ => ?_)
      repeat
        conv => whnf
        first
          | refine ⟨_, by assumption, ?_⟩
          | refine ⟨(Nat.le_of_ble_eq_true rfl), _, by assumption, ?_⟩
          | refine ⟨by kernel_rfl, ?_⟩
          | exact rfl
          | exact ⟨Nat.le_of_ble_eq_true rfl, rfl⟩
          | refine ⟨by decide, ?_⟩

theorem Rec8968 (a b : Rat) (i j : Nat) (most : Int) (hi : dn i = a.den) (hj : dn j = b.den) (hm : most ≤ 200) (la : Sz a 20) (lb : Sz b 20) : ∃ d, dn d = (reckonQ 8968 a b most).1.den ∧ AC Tryz.prog 98 [.val (.int .i32 8968), RA a.num i, RA b.num j, .val (.int .i64 most)] (.pure (.tup [RA (reckonQ 8968 a b most).1.num d, .val (.int .i64 (reckonQ 8968 a b most).2)])) := by
  rw [show reckonQ 8968 a b most = (if a < b then b else a, 0) from rfl]
  have hC := QCmp_ok a b i j hi hj (la.mono (by decide)) (lb.mono (by decide))
  by_cases h : a < b
  · rw [if_pos h]
    rw [cmp_lt h] at hC
    refine ⟨j, hj, ?_⟩
    refine AC.of_body TTok Tryz.func98 rfl (enter_of Tryz.func98 (by kernel_rfl) (by kernel_rfl)) (noid4 (.val _) (RA_noid _ _) (RA_noid _ _) (.val _)) (.tup _ (noid2 (RA_noid _ _) (.val _))) (Nat.le_of_ble_eq_true rfl) ?_
    unfold RA at *
    repeat
      conv => whnf
      first
        | refine ⟨_, by assumption, ?_⟩
        | refine ⟨(Nat.le_of_ble_eq_true rfl), _, by assumption, ?_⟩
        | refine ⟨by kernel_rfl, ?_⟩
        | exact rfl
        | exact ⟨Nat.le_of_ble_eq_true rfl, rfl⟩
        | refine ⟨by decide, ?_⟩
  · rw [if_neg h]
    have f1 := cmp_ge h
    refine ⟨i, hi, ?_⟩
    refine AC.of_body TTok Tryz.func98 rfl (enter_of Tryz.func98 (by kernel_rfl) (by kernel_rfl)) (noid4 (.val _) (RA_noid _ _) (RA_noid _ _) (.val _)) (.tup _ (noid2 (RA_noid _ _) (.val _))) (Nat.le_of_ble_eq_true rfl) ?_
    generalize cmpQ a b = s at *
    unfold RA at *
    conv => whnf
    refine ⟨_, hC, ?_⟩
    conv => whnf
    refine caseb (fun h => Bool.noConfusion ((f1).symm.trans h)) (fun _ => ?_)
    repeat
      conv => whnf
      first
        | refine ⟨_, by assumption, ?_⟩
        | refine ⟨(Nat.le_of_ble_eq_true rfl), _, by assumption, ?_⟩
        | refine ⟨by kernel_rfl, ?_⟩
        | exact rfl
        | exact ⟨Nat.le_of_ble_eq_true rfl, rfl⟩
        | refine ⟨by decide, ?_⟩

theorem Rec8970 (a b : Rat) (i j : Nat) (most : Int) (hi : dn i = a.den) (hj : dn j = b.den) (hm : most ≤ 200) (la : Sz a 20) (lb : Sz b 20) : ∃ d, dn d = (reckonQ 8970 a b most).1.den ∧ AC Tryz.prog 98 [.val (.int .i32 8970), RA a.num i, RA b.num j, .val (.int .i64 most)] (.pure (.tup [RA (reckonQ 8970 a b most).1.num d, .val (.int .i64 (reckonQ 8970 a b most).2)])) := by
  rw [show reckonQ 8970 a b most = (if a < b then a else b, 0) from rfl]
  have hC := QCmp_ok a b i j hi hj (la.mono (by decide)) (lb.mono (by decide))
  by_cases h : a < b
  · rw [if_pos h]
    rw [cmp_lt h] at hC
    refine ⟨i, hi, ?_⟩
    refine AC.of_body TTok Tryz.func98 rfl (enter_of Tryz.func98 (by kernel_rfl) (by kernel_rfl)) (noid4 (.val _) (RA_noid _ _) (RA_noid _ _) (.val _)) (.tup _ (noid2 (RA_noid _ _) (.val _))) (Nat.le_of_ble_eq_true rfl) ?_
    unfold RA at *
    repeat
      conv => whnf
      first
        | refine ⟨_, by assumption, ?_⟩
        | refine ⟨(Nat.le_of_ble_eq_true rfl), _, by assumption, ?_⟩
        | refine ⟨by kernel_rfl, ?_⟩
        | exact rfl
        | exact ⟨Nat.le_of_ble_eq_true rfl, rfl⟩
        | refine ⟨by decide, ?_⟩
  · rw [if_neg h]
    by_cases he : a = b
    · have hC0 : cmpQ a b = 0 := cmpQ_eq.2 he
      rw [hC0] at hC
      refine ⟨i, by rw [hi, he], ?_⟩
      rw [show RA b.num i = RA a.num i by rw [he]]
      refine AC.of_body TTok Tryz.func98 rfl (enter_of Tryz.func98 (by kernel_rfl) (by kernel_rfl)) (noid4 (.val _) (RA_noid _ _) (RA_noid _ _) (.val _)) (.tup _ (noid2 (RA_noid _ _) (.val _))) (Nat.le_of_ble_eq_true rfl) ?_
      unfold RA at *
      repeat
        conv => whnf
        first
          | refine ⟨_, by assumption, ?_⟩
          | refine ⟨(Nat.le_of_ble_eq_true rfl), _, by assumption, ?_⟩
          | refine ⟨by kernel_rfl, ?_⟩
          | exact rfl
          | exact ⟨Nat.le_of_ble_eq_true rfl, rfl⟩
          | refine ⟨by decide, ?_⟩
    · have hC1 : cmpQ a b = 1 := by unfold cmpQ; rw [if_neg h, if_neg he]
      rw [hC1] at hC
      refine ⟨j, hj, ?_⟩
      refine AC.of_body TTok Tryz.func98 rfl (enter_of Tryz.func98 (by kernel_rfl) (by kernel_rfl)) (noid4 (.val _) (RA_noid _ _) (RA_noid _ _) (.val _)) (.tup _ (noid2 (RA_noid _ _) (.val _))) (Nat.le_of_ble_eq_true rfl) ?_
      unfold RA at *
      repeat
        conv => whnf
        first
          | refine ⟨_, by assumption, ?_⟩
          | refine ⟨(Nat.le_of_ble_eq_true rfl), _, by assumption, ?_⟩
          | refine ⟨by kernel_rfl, ?_⟩
          | exact rfl
          | exact ⟨Nat.le_of_ble_eq_true rfl, rfl⟩
          | refine ⟨by decide, ?_⟩

theorem Rec124 (a b : Rat) (i j : Nat) (most : Int) (hi : dn i = a.den) (hj : dn j = b.den) (hm : most ≤ 200) (la : Sz a 20) (lb : Sz b 20) : ∃ d, dn d = (reckonQ 124 a b most).1.den ∧ AC Tryz.prog 98 [.val (.int .i32 124), RA a.num i, RA b.num j, .val (.int .i64 most)] (.pure (.tup [RA (reckonQ 124 a b most).1.num d, .val (.int .i64 (reckonQ 124 a b most).2)])) := by
  rw [show reckonQ 124 a b most = (restQ a b, 0) from rfl]
  by_cases h : a = 0
  · have hR := Rest_zero b i j (by rw [hi, h]) hj (lb.mono (by decide))
    rw [← h] at hR
    rw [show restQ a b = b from if_pos h]
    refine ⟨j, hj, ?_⟩
    refine AC.of_body TTok Tryz.func98 rfl (enter_of Tryz.func98 (by kernel_rfl) (by kernel_rfl)) (noid4 (.val _) (RA_noid _ _) (RA_noid _ _) (.val _)) (.tup _ (noid2 (RA_noid _ _) (.val _))) (Nat.le_of_ble_eq_true rfl) ?_
    unfold RA at *
    repeat
      conv => whnf
      first
        | refine ⟨_, by assumption, ?_⟩
        | refine ⟨(Nat.le_of_ble_eq_true rfl), _, by assumption, ?_⟩
        | refine ⟨by kernel_rfl, ?_⟩
        | exact rfl
        | exact ⟨Nat.le_of_ble_eq_true rfl, rfl⟩
        | refine ⟨by decide, ?_⟩
  · have hR := Rest_ok a b i j h hi hj la lb
    refine ⟨_, dn_den _, ?_⟩
    refine AC.of_body TTok Tryz.func98 rfl (enter_of Tryz.func98 (by kernel_rfl) (by kernel_rfl)) (noid4 (.val _) (RA_noid _ _) (RA_noid _ _) (.val _)) (.tup _ (noid2 (RA_noid _ _) (.val _))) (Nat.le_of_ble_eq_true rfl) ?_
    revert hR
    generalize restQ a b = r
    intro hR
    unfold RA at *
    repeat
      conv => whnf
      first
        | refine ⟨_, by assumption, ?_⟩
        | refine ⟨(Nat.le_of_ble_eq_true rfl), _, by assumption, ?_⟩
        | refine ⟨by kernel_rfl, ?_⟩
        | exact rfl
        | exact ⟨Nat.le_of_ble_eq_true rfl, rfl⟩
        | refine ⟨by decide, ?_⟩

theorem Rec42 (a b : Rat) (i j : Nat) (most : Int) (hi : dn i = a.den) (hj : dn j = b.den) (hm : most ≤ 200) (la : Sz a 20) (lb : Sz b 20) : ∃ d, dn d = (reckonQ 42 a b most).1.den ∧ AC Tryz.prog 98 [.val (.int .i32 42), RA a.num i, RA b.num j, .val (.int .i64 most)] (.pure (.tup [RA (reckonQ 42 a b most).1.num d, .val (.int .i64 (reckonQ 42 a b most).2)])) := by
  rw [show reckonQ 42 a b most = powerQ a b most from rfl]
  obtain ⟨d, hd, hP⟩ := Power_ok a b i j most hi hj hm (la.mono (by decide))
  refine ⟨d, hd, ?_⟩
  refine AC.of_body TTok Tryz.func98 rfl (enter_of Tryz.func98 (by kernel_rfl) (by kernel_rfl)) (noid4 (.val _) (RA_noid _ _) (RA_noid _ _) (.val _)) (.tup _ (noid2 (RA_noid _ _) (.val _))) (Nat.le_of_ble_eq_true rfl) ?_
  revert hP
  generalize (powerQ a b most).1 = r
  generalize (powerQ a b most).2 = e
  intro hP
  unfold RA at *
  repeat
    conv => whnf
    first
      | refine ⟨_, by assumption, ?_⟩
      | refine ⟨(Nat.le_of_ble_eq_true rfl), _, by assumption, ?_⟩
      | refine ⟨by kernel_rfl, ?_⟩
      | exact rfl
      | exact ⟨Nat.le_of_ble_eq_true rfl, rfl⟩
      | refine ⟨by decide, ?_⟩

theorem Rec33 (a b : Rat) (i j : Nat) (most : Int) (hi : dn i = a.den) (hj : dn j = b.den) (hm : most ≤ 200) (la : Sz a 20) (lb : Sz b 20) : ∃ d, dn d = (reckonQ 33 a b most).1.den ∧ AC Tryz.prog 98 [.val (.int .i32 33), RA a.num i, RA b.num j, .val (.int .i64 most)] (.pure (.tup [RA (reckonQ 33 a b most).1.num d, .val (.int .i64 (reckonQ 33 a b most).2)])) := by
  rw [show reckonQ 33 a b most = chooseQ a b most from rfl]
  obtain ⟨d, hd, hP⟩ := Choose_ok a b i j most hi hj hm (la.mono (by decide)) (lb.mono (by decide))
  refine ⟨d, hd, ?_⟩
  refine AC.of_body TTok Tryz.func98 rfl (enter_of Tryz.func98 (by kernel_rfl) (by kernel_rfl)) (noid4 (.val _) (RA_noid _ _) (RA_noid _ _) (.val _)) (.tup _ (noid2 (RA_noid _ _) (.val _))) (Nat.le_of_ble_eq_true rfl) ?_
  revert hP
  generalize (chooseQ a b most).1 = r
  generalize (chooseQ a b most).2 = e
  intro hP
  unfold RA at *
  repeat
    conv => whnf
    first
      | refine ⟨_, by assumption, ?_⟩
      | refine ⟨(Nat.le_of_ble_eq_true rfl), _, by assumption, ?_⟩
      | refine ⟨by kernel_rfl, ?_⟩
      | exact rfl
      | exact ⟨Nat.le_of_ble_eq_true rfl, rfl⟩
      | refine ⟨by decide, ?_⟩

theorem Rec9055 (a b : Rat) (i j : Nat) (most : Int) (hi : dn i = a.den) (hj : dn j = b.den) (hm : most ≤ 200) (la : Sz a 20) (lb : Sz b 20) : ∃ d, dn d = (reckonQ 9055 a b most).1.den ∧ AC Tryz.prog 98 [.val (.int .i32 9055), RA a.num i, RA b.num j, .val (.int .i64 most)] (.pure (.tup [RA (reckonQ 9055 a b most).1.num d, .val (.int .i64 (reckonQ 9055 a b most).2)])) := by
  refine ⟨0, rfl, RZ22 ?_⟩
  refine AC.of_body TTok Tryz.func98 rfl (enter_of Tryz.func98 (by kernel_rfl) (by kernel_rfl)) (noid4 (.val _) (RA_noid _ _) (RA_noid _ _) (.val _)) (.tup _ (noid2 RZ_noid (.val _))) (Nat.le_of_ble_eq_true rfl) ?_
  unfold RZ
  repeat
    conv => whnf
    first
      | refine ⟨_, by assumption, ?_⟩
      | refine ⟨(Nat.le_of_ble_eq_true rfl), _, by assumption, ?_⟩
      | refine ⟨by kernel_rfl, ?_⟩
      | exact rfl
      | exact ⟨Nat.le_of_ble_eq_true rfl, rfl⟩
      | refine ⟨by decide, ?_⟩

theorem Rec9675 (a b : Rat) (i j : Nat) (most : Int) (hi : dn i = a.den) (hj : dn j = b.den) (hm : most ≤ 200) (la : Sz a 20) (lb : Sz b 20) : ∃ d, dn d = (reckonQ 9675 a b most).1.den ∧ AC Tryz.prog 98 [.val (.int .i32 9675), RA a.num i, RA b.num j, .val (.int .i64 most)] (.pure (.tup [RA (reckonQ 9675 a b most).1.num d, .val (.int .i64 (reckonQ 9675 a b most).2)])) := by
  refine ⟨0, rfl, RZ22 ?_⟩
  refine AC.of_body TTok Tryz.func98 rfl (enter_of Tryz.func98 (by kernel_rfl) (by kernel_rfl)) (noid4 (.val _) (RA_noid _ _) (RA_noid _ _) (.val _)) (.tup _ (noid2 RZ_noid (.val _))) (Nat.le_of_ble_eq_true rfl) ?_
  unfold RZ
  repeat
    conv => whnf
    first
      | refine ⟨_, by assumption, ?_⟩
      | refine ⟨(Nat.le_of_ble_eq_true rfl), _, by assumption, ?_⟩
      | refine ⟨by kernel_rfl, ?_⟩
      | exact rfl
      | exact ⟨Nat.le_of_ble_eq_true rfl, rfl⟩
      | refine ⟨by decide, ?_⟩

theorem Reckon_ok (a b : Rat) (i j : Nat) (most : Int) (hi : dn i = a.den) (hj : dn j = b.den) (hm : most ≤ 200) (la : Sz a 20) (lb : Sz b 20) (c : Int) (hc : isRec c) : ∃ d, dn d = (reckonQ c a b most).1.den ∧ AC Tryz.prog 98 [.val (.int .i32 c), RA a.num i, RA b.num j, .val (.int .i64 most)] (.pure (.tup [RA (reckonQ c a b most).1.num d, .val (.int .i64 (reckonQ c a b most).2)])) := by
  rcases hc with rfl | rfl | rfl | rfl | rfl | rfl | rfl | rfl | rfl | rfl | rfl
  · exact Rec43 a b i j most hi hj hm la lb
  · exact Rec45 a b i j most hi hj hm la lb
  · exact Rec215 a b i j most hi hj hm la lb
  · exact Rec247 a b i j most hi hj hm la lb
  · exact Rec8968 a b i j most hi hj hm la lb
  · exact Rec8970 a b i j most hi hj hm la lb
  · exact Rec124 a b i j most hi hj hm la lb
  · exact Rec42 a b i j most hi hj hm la lb
  · exact Rec33 a b i j most hi hj hm la lb
  · exact Rec9055 a b i j most hi hj hm la lb
  · exact Rec9675 a b i j most hi hj hm la lb

end Go.Proofs.YtclamnmpleiakaaGreat

/- Functions of two numbers: all of them. -/
set_option linter.unusedVariables false
namespace Go.Proofs.YtclamnmpleiakaaGreat
open Go Go.AL NM

/-- What a function makes of two numbers. -/
def twoQ (c : Int) (a b : Rat) (most : Int) : Rat × Int :=
  if isCmp c then (tq (cmpS c (cmpQ a b)), 0)
  else if isJdg c then judgeQ c a b
  else if ¬ isRec c then (0, 20)
  else if (reckonQ c a b most).2 ≠ 0 then (0, (reckonQ c a b most).2)
  else if most < (qLimbs (reckonQ c a b most).1.num (reckonQ c a b most).1.den : Nat) then (0, 26)
  else ((reckonQ c a b most).1, 0)

section
variable (c : Int) (a b : Rat) (i j : Nat) (most : Int) (hi : dn i = a.den) (hj : dn j = b.den) (hm : most ≤ 200) (la : Sz a 20) (lb : Sz b 20)
include hi hj hm la lb
theorem Two_ok : ∃ d, dn d = (twoQ c a b most).1.den ∧ AC Tryz.prog 52 [.val (.int .i32 c), RA a.num i, RA b.num j, .val (.int .i64 most)] (.pure (.tup [RA (twoQ c a b most).1.num d, .val (.int .i64 (twoQ c a b most).2)])) := by
  unfold twoQ
  have hC := compares_ok c
  have hJ := judges_ok c
  have hR := reckons_ok c
  by_cases h1 : isCmp c
  · rw [if_pos h1]
    rw [decide_eq_true h1] at hC
    have hQ := QCmp_ok a b i j hi hj (la.mono (by decide)) (lb.mono (by decide))
    have hS := Compare_ok c (cmpQ a b)
    have hT := truth_ok (cmpS c (cmpQ a b))
    refine ⟨_, td_dn _, ?_⟩
    refine AC.of_body TTok Tryz.func52 rfl (enter_of Tryz.func52 (by kernel_rfl) (by kernel_rfl)) (noid4 (.val _) (RA_noid _ _) (RA_noid _ _) (.val _)) (.tup _ (noid2 (RA_noid _ _) (.val _))) (Nat.le_of_ble_eq_true rfl) ?_
    revert hQ hS hT
    generalize cmpS c (cmpQ a b) = t
    generalize cmpQ a b = n
    intro hQ hS hT
    generalize td t = e at *
    generalize (tq t).num = f at *
    unfold RA at *
    repeat
      conv => whnf
      first
        | refine ⟨_, by assumption, ?_⟩
        | refine ⟨(Nat.le_of_ble_eq_true rfl), _, by assumption, ?_⟩
        | refine ⟨by kernel_rfl, ?_⟩
        | exact rfl
        | exact ⟨Nat.le_of_ble_eq_true rfl, rfl⟩
        | refine ⟨by decide, ?_⟩
  rw [if_neg h1]
  rw [decide_eq_false h1] at hC
  by_cases h2 : isJdg c
  · rw [if_pos h2]
    rw [decide_eq_true h2] at hJ
    obtain ⟨d, hd, hP⟩ := judge_ok c h2 a b i j hi hj (la.mono (by decide)) (lb.mono (by decide))
    refine ⟨d, hd, ?_⟩
    refine AC.of_body TTok Tryz.func52 rfl (enter_of Tryz.func52 (by kernel_rfl) (by kernel_rfl)) (noid4 (.val _) (RA_noid _ _) (RA_noid _ _) (.val _)) (.tup _ (noid2 (RA_noid _ _) (.val _))) (Nat.le_of_ble_eq_true rfl) ?_
    revert hP
    generalize (judgeQ c a b).1 = r
    generalize (judgeQ c a b).2 = e
    intro hP
    unfold RA at *
    repeat
      conv => whnf
      first
        | refine ⟨_, by assumption, ?_⟩
        | refine ⟨(Nat.le_of_ble_eq_true rfl), _, by assumption, ?_⟩
        | refine ⟨by kernel_rfl, ?_⟩
        | exact rfl
        | exact ⟨Nat.le_of_ble_eq_true rfl, rfl⟩
        | refine ⟨by decide, ?_⟩
  rw [if_neg h2]
  rw [decide_eq_false h2] at hJ
  by_cases h3 : isRec c
  rotate_left
  · rw [if_pos h3]
    rw [decide_eq_false h3] at hR
    refine ⟨0, rfl, RZ22 ?_⟩
    refine AC.of_body TTok Tryz.func52 rfl (enter_of Tryz.func52 (by kernel_rfl) (by kernel_rfl)) (noid4 (.val _) (RA_noid _ _) (RA_noid _ _) (.val _)) (.tup _ (noid2 RZ_noid (.val _))) (Nat.le_of_ble_eq_true rfl) ?_
    unfold RA RZ at *
    repeat
      conv => whnf
      first
        | refine ⟨_, by assumption, ?_⟩
        | refine ⟨(Nat.le_of_ble_eq_true rfl), _, by assumption, ?_⟩
        | refine ⟨by kernel_rfl, ?_⟩
        | exact rfl
        | exact ⟨Nat.le_of_ble_eq_true rfl, rfl⟩
        | refine ⟨by decide, ?_⟩
  rw [if_neg (fun h => h h3)]
  rw [decide_eq_true h3] at hR
  obtain ⟨d, hd, hP⟩ := Reckon_ok a b i j most hi hj hm la lb c h3
  have hL := QLimbs_ok (reckonQ c a b most).1.num d
  rw [hd] at hL
  revert hd hP hL
  generalize (reckonQ c a b most).1 = r
  generalize (reckonQ c a b most).2 = e
  intro hd hP hL
  by_cases he : e = 0
  rotate_left
  · rw [if_pos he]
    have f1 : (e == 0) = false := beq_false_of_ne he
    have f2 : (e != 0) = true := by rw [bne, f1]; rfl
    refine ⟨0, rfl, RZ22 ?_⟩
    refine AC.of_body TTok Tryz.func52 rfl (enter_of Tryz.func52 (by kernel_rfl) (by kernel_rfl)) (noid4 (.val _) (RA_noid _ _) (RA_noid _ _) (.val _)) (.tup _ (noid2 RZ_noid (.val _))) (Nat.le_of_ble_eq_true rfl) ?_
    unfold RA RZ at *
    conv => whnf
    refine ⟨_, hC, ?_⟩
    conv => whnf
    refine ⟨_, hJ, ?_⟩
    conv => whnf
    refine ⟨_, hR, ?_⟩
    conv => whnf
    refine ⟨_, hP, ?_⟩
    conv => whnf
    refine caseb (fun h => Bool.noConfusion ((f1).symm.trans h)) (fun _ => ?_)
    conv => whnf
    refine caseb (fun _ => ?_) (fun h => Bool.noConfusion ((f2).symm.trans h))
    repeat
      conv => whnf
      first
        | refine ⟨_, by assumption, ?_⟩
        | refine ⟨(Nat.le_of_ble_eq_true rfl), _, by assumption, ?_⟩
        | refine ⟨by kernel_rfl, ?_⟩
        | exact rfl
        | exact ⟨Nat.le_of_ble_eq_true rfl, rfl⟩
        | refine ⟨by decide, ?_⟩
  rw [if_neg (fun h => h he)]
  subst he
  by_cases hq : most < (qLimbs r.num r.den : Nat)
  · rw [if_pos hq]
    have f1 : decide (((qLimbs r.num r.den : Nat) : Int) > most) = true := decide_eq_true hq
    refine ⟨0, rfl, RZ22 ?_⟩
    refine AC.of_body TTok Tryz.func52 rfl (enter_of Tryz.func52 (by kernel_rfl) (by kernel_rfl)) (noid4 (.val _) (RA_noid _ _) (RA_noid _ _) (.val _)) (.tup _ (noid2 RZ_noid (.val _))) (Nat.le_of_ble_eq_true rfl) ?_
    generalize ((qLimbs r.num r.den : Nat) : Int) = n at *
    unfold RA RZ at *
    conv => whnf
    refine ⟨_, hC, ?_⟩
    conv => whnf
    refine ⟨_, hJ, ?_⟩
    conv => whnf
    refine ⟨_, hR, ?_⟩
    conv => whnf
    refine ⟨_, hP, ?_⟩
    conv => whnf
    refine ⟨_, hL, ?_⟩
    conv => whnf
    refine caseb (fun _ => ?_) (fun h => Bool.noConfusion ((f1).symm.trans h))
    repeat
      conv => whnf
      first
        | refine ⟨_, by assumption, ?_⟩
        | refine ⟨(Nat.le_of_ble_eq_true rfl), _, by assumption, ?_⟩
        | refine ⟨by kernel_rfl, ?_⟩
        | exact rfl
        | exact ⟨Nat.le_of_ble_eq_true rfl, rfl⟩
        | refine ⟨by decide, ?_⟩
  · rw [if_neg hq]
    have f1 : decide (((qLimbs r.num r.den : Nat) : Int) > most) = false := decide_eq_false hq
    refine ⟨d, hd, ?_⟩
    refine AC.of_body TTok Tryz.func52 rfl (enter_of Tryz.func52 (by kernel_rfl) (by kernel_rfl)) (noid4 (.val _) (RA_noid _ _) (RA_noid _ _) (.val _)) (.tup _ (noid2 (RA_noid _ _) (.val _))) (Nat.le_of_ble_eq_true rfl) ?_
    generalize ((qLimbs r.num r.den : Nat) : Int) = n at *
    unfold RA at *
    conv => whnf
    refine ⟨_, hC, ?_⟩
    conv => whnf
    refine ⟨_, hJ, ?_⟩
    conv => whnf
    refine ⟨_, hR, ?_⟩
    conv => whnf
    refine ⟨_, hP, ?_⟩
    conv => whnf
    refine ⟨_, hL, ?_⟩
    conv => whnf
    refine caseb (fun h => Bool.noConfusion ((f1).symm.trans h)) (fun _ => ?_)
    repeat
      conv => whnf
      first
        | refine ⟨_, by assumption, ?_⟩
        | refine ⟨(Nat.le_of_ble_eq_true rfl), _, by assumption, ?_⟩
        | refine ⟨by kernel_rfl, ?_⟩
        | exact rfl
        | exact ⟨Nat.le_of_ble_eq_true rfl, rfl⟩
        | refine ⟨by decide, ?_⟩
end
end Go.Proofs.YtclamnmpleiakaaGreat

/- Arrays: two of them, element by element: the shape that they make together (plain laws); elements (contracts). -/
set_option linter.unusedVariables false
namespace Go.Proofs.YtclamnmpleiakaaGreat
open Go Go.AL NM

theorem kinds_len {sh : List Int} {ch : Bool} {a b : Nat} (h : kinds sh ch a b) : ((a + b : Nat) : Int) = cntI sh ∧ (if ch then a else b) = a + b := by
  unfold kinds at h
  cases ch with
  | true =>
    have h : (a : Int) = cntI sh ∧ b = 0 := h
    exact ⟨by omega, by show a = a + b; omega⟩
  | false =>
    have h : (b : Int) = cntI sh ∧ a = 0 := h
    exact ⟨by omega, by show b = a + b; omega⟩
/-- An index of one of two arrays: the first one's alone, if it is one for all. -/
def ix (one : Bool) (i : Nat) : Nat := if one then 0 else i
theorem fit_idx {sa sb : List Int} {la lb : Nat} (ha : (la : Int) = cntI sa) (hb : (lb : Int) = cntI sb) (va : vS sa) (vb : vS sb) (he : (fitS sa sb la lb).2.2.2 = 0) :
    vS (fitS sa sb la lb).1 ∧ (cntI (fitS sa sb la lb).1 = la ∨ cntI (fitS sa sb la lb).1 = lb) ∧ ∀ i : Nat, (i : Int) < cntI (fitS sa sb la lb).1 → ix (fitS sa sb la lb).2.1 i < la ∧ ix (fitS sa sb la lb).2.2.1 i < lb := by
  unfold fitS at *
  by_cases hs : sa = sb
  · rw [if_pos hs] at he ⊢
    subst hs
    exact ⟨va, .inl ha.symm, fun i hi => ⟨by have hi : (i : Int) < cntI sa := hi; show i < la; omega, by have hi : (i : Int) < cntI sa := hi; show i < lb; omega⟩⟩
  · rw [if_neg hs] at he ⊢
    by_cases h1 : la = 1 ∧ (lb ≠ 1 ∨ sa.length < sb.length)
    · rw [if_pos h1] at he ⊢
      exact ⟨vb, .inr hb.symm, fun i hi => ⟨by show 0 < la; omega, by have hi : (i : Int) < cntI sb := hi; show i < lb; omega⟩⟩
    · rw [if_neg h1] at he ⊢
      by_cases h2 : lb = 1
      · rw [if_pos h2] at he ⊢
        exact ⟨va, .inl ha.symm, fun i hi => ⟨by have hi : (i : Int) < cntI sa := hi; show i < la; omega, by show 0 < lb; omega⟩⟩
      · rw [if_neg h2] at he
        split at he
        · exact absurd he (by decide)
        · exact absurd he (by decide)
theorem RatX_ok (sh : List Int) (ch : Bool) (tx : List Int) (qs : List Rat) (k : Nat) (hk : k < qs.length) (hb : qs.length ≤ 1000) : AC Tryz.prog 53 [AA sh ch tx (qs.map ofX) true, .val (.int .i64 (k : Int))] (.pure (RA (qs.getD k 0).num (qs.getD k 0).den)) := by
  have h := RatI_ok sh ch tx (qs.map ofX) true k (by rw [List.length_map]; exact hk) (by rw [List.length_map]; omega)
  rw [List.getElem_map] at h
  rw [List.getD_eq_getElem?_getD, List.getElem?_eq_getElem hk]
  exact h
theorem RuneX_ok (sh : List Int) (ch : Bool) (tx : List Int) (ns : List (Option (Rat × Nat))) (k : Nat) (hk : k < tx.length) (hb : tx.length ≤ 1000) : AC Tryz.prog 93 [AA sh ch tx ns true, .val (.int .i64 (k : Int))] (.pure (.val (.int .i32 (tx.getD k 0)))) := by
  have h := RuneI_ok sh ch tx ns true k hk (by omega)
  rw [List.getD_eq_getElem?_getD, List.getElem?_eq_getElem hk]
  exact h
theorem atX_ok (i : Nat) (one : Bool) : AC Tryz.prog 54 [.val (.int .i64 (i : Int)), .val (.bool one)] (.pure (.val (.int .i64 ((ix one i : Nat) : Int)))) := by
  have h := at_ok (i : Int) one
  cases one
  · exact h
  · exact h
/-- What two elements come to. -/
def elemF (c : Int) (ca cb : Bool) (ta tb : List Int) (qa qb : List Rat) (one two : Bool) (most : Int) (i : Nat) : Rat × Int :=
  if ca = true ∨ cb = true then
    if c = 61 ∨ c = 8800 then (if (ca && cb && decide (ta.getD (ix one i) 0 = tb.getD (ix two i) 0)) = decide (c = 61) then 1 else 0, 0) else (0, 22)
  else twoQ c (qa.getD (ix one i) 0) (qb.getD (ix two i) 0) most
end Go.Proofs.YtclamnmpleiakaaGreat
