/- Arrays: how many elements a shape has (contracts of both). -/
import Derived.Test.YtliiekhmpgopnaaGreatB3
import Derived.Test.YtliiekhmpgopnaaGreatB2
set_option linter.unusedVariables false
namespace Go.Proofs.YtliiekhmpgopnaaGreat
open Go Go.AL NM

/-- The product of a shape's numbers, none of them taken as 1. -/
def pmI (sh : List Int) : Int := sh.foldl (fun n d => n * max 1 d) 1
def cntI (sh : List Int) : Int := if 0 ∈ sh then 0 else pmI sh
/-- Is it a shape? -/
def vS (sh : List Int) : Prop := sh.length ≤ 8 ∧ (∀ d ∈ sh, 0 ≤ d) ∧ pmI sh ≤ 4096
instance (sh : List Int) : Decidable (vS sh) := inferInstanceAs (Decidable (_ ∧ _))
theorem take_snoc {α : Type} {l : List α} {k : Nat} (hk : k < l.length) : l.take (k + 1) = l.take k ++ [l[k]] := by rw [List.take_add_one, List.getElem?_eq_getElem hk]; rfl
theorem pm_snoc (a : List Int) (d : Int) : pmI (a ++ [d]) = pmI a * max 1 d := by unfold pmI; rw [List.foldl_append]; rfl
theorem pm_take {sh : List Int} {k : Nat} (hk : k < sh.length) : pmI (sh.take (k + 1)) = pmI (sh.take k) * max 1 sh[k] := by rw [take_snoc hk, pm_snoc]
theorem pm_pos (sh : List Int) : 1 ≤ pmI sh := by
  have : ∀ (l : List Int) (n : Int), 1 ≤ n → 1 ≤ l.foldl (fun n d => n * max 1 d) n := by
    intro l
    induction l with
    | nil => exact fun n h => h
    | cons d l ih =>
      intro n h
      refine ih _ ?_
      show 1 ≤ n * max 1 d
      have h1 : 1 ≤ max 1 d := by omega
      have := Int.mul_le_mul h h1 (by decide) (by omega)
      omega
  exact this sh 1 (Int.le_refl _)
theorem pm_grow (a : List Int) (d : Int) : pmI a ≤ pmI a * max 1 d := by
  have h := Int.mul_le_mul_of_nonneg_left (show (1 : Int) ≤ max 1 d by omega) (show 0 ≤ pmI a by have := pm_pos a; omega)
  omega
theorem pm_mono (sh : List Int) (k : Nat) : pmI (sh.take k) ≤ pmI sh := by
  have key : ∀ j, pmI (sh.take k) ≤ pmI (sh.take (k + j)) := by
    intro j
    induction j with
    | zero => exact Int.le_refl _
    | succ j ih =>
      by_cases h : k + j < sh.length
      · have h1 := pm_grow (sh.take (k + j)) sh[k + j]
        rw [show k + (j + 1) = k + j + 1 by omega, pm_take h]
        omega
      · rw [List.take_of_length_le (show sh.length ≤ k + (j + 1) by omega)]
        rw [List.take_of_length_le (show sh.length ≤ k + j by omega)] at ih
        exact ih
  have := key sh.length
  rwa [List.take_of_length_le (show sh.length ≤ k + sh.length by omega)] at this
theorem vS_not_neg {sh : List Int} {k : Nat} (hk : k < sh.length) (h : sh[k] < 0) : ¬ vS sh := fun hv => by
  have := hv.2.1 _ (List.getElem_mem hk)
  omega
theorem vS_not_big {sh : List Int} {k : Nat} (hk : k < sh.length) (h : 4096 < pmI (sh.take (k + 1))) : ¬ vS sh := fun hv => by
  have := pm_mono sh (k + 1)
  have := hv.2.2
  omega
theorem cnt_snoc_zero {a : List Int} {d : Int} (h : 0 ∈ a ∨ d = 0) : cntI (a ++ [d]) = 0 := by
  unfold cntI; rw [if_pos]
  rcases h with h | rfl
  · exact List.mem_append_left _ h
  · exact List.mem_append_right _ (List.mem_singleton.2 rfl)
def CNT (sh : List Int) : AV := .tup [.val (.int .i64 (if vS sh then cntI sh else 0)), .val (.bool (decide (vS sh)))]
theorem CNT_noid (sh : List Int) : NoId (CNT sh) := .tup _ (noid2 (.val _) (.val _))
theorem CNT_bad {sh : List Int} (h : ¬ vS sh) : CNT sh = .tup [.val (.int .i64 0), .val (.bool false)] := by unfold CNT; rw [if_neg h, decide_eq_false h]
theorem CNT_good {sh : List Int} (h : vS sh) : CNT sh = .tup [.val (.int .i64 (cntI sh)), .val (.bool true)] := by unfold CNT; rw [if_pos h, decide_eq_true h]
theorem quo_test {n d : Int} (hn : 1 ≤ n) (hd : 0 ≤ d) : d > IntKind.i64.wrap ((4096 : Int).tdiv n) ↔ 4096 < n * max 1 d ∧ 1 ≤ d ∨ (4096 < n ∧ 1 ≤ d) := by
  have h0 : (4096 : Int).tdiv n = 4096 / n := Int.tdiv_eq_ediv_of_nonneg (by decide)
  have h1 : 0 ≤ (4096 : Int) / n := Int.ediv_nonneg (by decide) (by omega)
  have h2 : (4096 : Int) / n ≤ 4096 := Int.ediv_le_self _ (by decide)
  rw [h0, IntWalk.i64_in _ (by omega)]
  have h3 : (4096 : Int) / n < d ↔ 4096 < d * n := Int.ediv_lt_iff_lt_mul (by omega)
  rw [gt_iff_lt, h3, Int.mul_comm d n]
  by_cases h4 : 1 ≤ d
  · rw [show max 1 d = d by omega]
    constructor
    · exact fun h => .inl ⟨h, h4⟩
    · rintro (h | h)
      · exact h.1
      · have := Int.mul_le_mul_of_nonneg_left h4 (show 0 ≤ n by omega)
        omega
  · have : d = 0 := by omega
    subst this
    simp
theorem Count_ok (sh : List Int) (hb : sh.length ≤ 1000000) : AC Tryz.prog 49 [.sl 1 (irows .i64 sh) false] (.pure (CNT sh)) := by
  refine AC.of_body TTok Tryz.func49 rfl (enter_of Tryz.func49 (by kernel_rfl) (by kernel_rfl)) (noid1 (noid_sl _ _ _)) (CNT_noid _) (Nat.le_of_ble_eq_true rfl) ?_
  have hlen := irows_len .i64 sh
  by_cases h8 : sh.length > 8
  · have t8 : decide (((irows .i64 sh).length : Int) > 8) = true := decide_eq_true (by omega)
    rw [CNT_bad (fun hv => by have := hv.1; omega)]
    conv => whnf
    refine caseb (fun _ => ?_) (fun h => Bool.noConfusion ((t8).symm.trans h))
    repeat
      conv => whnf
      first
        | refine ⟨_, by assumption, ?_⟩
        | refine ⟨(Nat.le_of_ble_eq_true rfl), _, by assumption, ?_⟩
        | refine ⟨by kernel_rfl, ?_⟩
        | exact rfl
        | exact ⟨Nat.le_of_ble_eq_true rfl, rfl⟩
        | refine ⟨by decide, ?_⟩
  have t8 : decide (((irows .i64 sh).length : Int) > 8) = false := decide_eq_false (by omega)
  conv => whnf
  refine caseb (fun h => Bool.noConfusion ((t8).symm.trans h)) (fun _ => ?_)
  conv => whnf
  refine SW.loopM TTok (fun i : Nat => [(4, .val (.int .i64 (pmI (sh.take i)))), (5, .val (.bool (decide (0 ∈ sh.take i)))), (11, .sl 1 (irows .i64 sh) false), (12, .val (.int .i64 ((irows .i64 sh).length : Int))), (13, .val (.int .i64 (i : Int)))]) (fun i => []) 96 37 rfl (fun i => sh.length - i) (fun i => i ≤ sh.length ∧ pmI (sh.take i) ≤ 4096 ∧ ∀ d ∈ sh.take i, 0 ≤ d) 0 [] ⟨Nat.zero_le _, (by show (1 : Int) ≤ 4096; decide), fun d hd => nomatch hd⟩
    ⟨⟨rfl, rfl⟩, ⟨rfl, rfl⟩, ⟨rfl, rfl⟩, ⟨rfl, rfl⟩, ⟨rfl, rfl⟩, trivial⟩ trivial rfl ?_
  intro i hJ
  have hi : i ≤ sh.length := hJ.1
  have hp : pmI (sh.take i) ≤ 4096 := hJ.2.1
  have hd : ∀ d ∈ sh.take i, 0 ≤ d := hJ.2.2
  clear hJ
  have hp1 := pm_pos (sh.take i)
  by_cases hlt : i < sh.length
  · have hg := irows_get .i64 sh (List.getElem?_eq_getElem hlt)
    have eI : IntKind.i64.wrap ((i : Int) + 1) = ((i + 1 : Nat) : Int) := by rw [IntWalk.i64_in _ (by omega)]; omega
    have hs := pm_take hlt
    have hts := take_snoc hlt
    by_cases hneg : sh[i] < 0
    · rw [CNT_bad (vS_not_neg hlt hneg)]
      conv => whnf
      first
        | refine caseb (fun _ => ?_) (fun h => absurd (of_decide_eq_false h) (by omega))
        | refine caseb (fun h => absurd (of_decide_eq_true h) (by omega)) (fun _ => ?_)
        | refine caseb (fun _ => ?_) (fun h => absurd (beq_eq_false_iff_ne.1 h) (by omega))
        | refine caseb (fun h => absurd (eq_of_beq h) (by omega)) (fun _ => ?_)
      conv => whnf
      refine ⟨_, ⟨by omega, hg⟩, ?_⟩
      conv => whnf
      first
        | refine caseb (fun _ => ?_) (fun h => absurd (of_decide_eq_false h) (by omega))
        | refine caseb (fun h => absurd (of_decide_eq_true h) (by omega)) (fun _ => ?_)
        | refine caseb (fun _ => ?_) (fun h => absurd (beq_eq_false_iff_ne.1 h) (by omega))
        | refine caseb (fun h => absurd (eq_of_beq h) (by omega)) (fun _ => ?_)
      repeat
        conv => whnf
        first
          | refine ⟨_, by assumption, ?_⟩
          | refine ⟨(Nat.le_of_ble_eq_true rfl), _, by assumption, ?_⟩
          | refine ⟨by kernel_rfl, ?_⟩
          | exact rfl
          | exact ⟨Nat.le_of_ble_eq_true rfl, rfl⟩
          | refine ⟨by decide, ?_⟩
    · have hq := quo_test hp1 (Int.not_lt.1 hneg)
      have hnz : pmI (sh.take i) ≠ 0 := by omega
      by_cases hbig : 4096 < pmI (sh.take (i + 1))
      · rw [CNT_bad (vS_not_big hlt hbig)]
        have h1 : 1 ≤ sh[i] := by
          rcases Int.lt_or_le sh[i] 1 with h | h
          · rw [hs, show max 1 sh[i] = 1 by omega] at hbig
            omega
          · exact h
        rw [hs] at hbig
        have tq : decide (sh[i] > IntKind.i64.wrap ((4096 : Int).tdiv (pmI (sh.take i)))) = true := decide_eq_true (hq.2 (.inl ⟨hbig, h1⟩))
        conv => whnf
        first
          | refine caseb (fun _ => ?_) (fun h => absurd (of_decide_eq_false h) (by omega))
          | refine caseb (fun h => absurd (of_decide_eq_true h) (by omega)) (fun _ => ?_)
          | refine caseb (fun _ => ?_) (fun h => absurd (beq_eq_false_iff_ne.1 h) (by omega))
          | refine caseb (fun h => absurd (eq_of_beq h) (by omega)) (fun _ => ?_)
        conv => whnf
        refine ⟨_, ⟨by omega, hg⟩, ?_⟩
        conv => whnf
        first
          | refine caseb (fun _ => ?_) (fun h => absurd (of_decide_eq_false h) (by omega))
          | refine caseb (fun h => absurd (of_decide_eq_true h) (by omega)) (fun _ => ?_)
          | refine caseb (fun _ => ?_) (fun h => absurd (beq_eq_false_iff_ne.1 h) (by omega))
          | refine caseb (fun h => absurd (eq_of_beq h) (by omega)) (fun _ => ?_)
        conv => whnf
        refine ⟨hnz, ?_⟩
        conv => whnf
        refine caseb (fun _ => ?_) (fun h => Bool.noConfusion ((tq).symm.trans h))
        repeat
          conv => whnf
          first
            | refine ⟨_, by assumption, ?_⟩
            | refine ⟨(Nat.le_of_ble_eq_true rfl), _, by assumption, ?_⟩
            | refine ⟨by kernel_rfl, ?_⟩
            | exact rfl
            | exact ⟨Nat.le_of_ble_eq_true rfl, rfl⟩
            | refine ⟨by decide, ?_⟩
      · rw [hs] at hbig
        have tq : decide (sh[i] > IntKind.i64.wrap ((4096 : Int).tdiv (pmI (sh.take i)))) = false := decide_eq_false (fun h => by
          rcases hq.1 h with h | h
          · exact hbig h.1
          · omega)
        have e4 : IntKind.i64.wrap (pmI (sh.take i) * (if sh[i] > 1 then sh[i] else 1)) = pmI (sh.take (i + 1)) := by
          rw [hs, show (if sh[i] > 1 then sh[i] else 1) = max 1 sh[i] by split <;> omega]
          have := pm_grow (sh.take i) sh[i]
          exact IntWalk.i64_in _ (by omega)
        have fin : ∀ b : Bool, b = decide (0 ∈ sh.take (i + 1)) → AV.val (.bool b) = AV.val (.bool (decide (0 ∈ sh.take (i + 1)))) := fun b h => by rw [h]
        have hd' : ∀ d ∈ sh.take (i + 1), 0 ≤ d := by
          rw [hts]
          intro d hdd
          rcases List.mem_append.1 hdd with h | h
          · exact hd d h
          · rw [List.mem_singleton.1 h]; omega
        have hbig' : pmI (sh.take (i + 1)) ≤ 4096 := by rw [hs]; omega
        cases hz : decide (0 ∈ sh.take i) with
        | true =>
          have hz' := of_decide_eq_true hz
          conv => whnf
          first
            | refine caseb (fun _ => ?_) (fun h => absurd (of_decide_eq_false h) (by omega))
            | refine caseb (fun h => absurd (of_decide_eq_true h) (by omega)) (fun _ => ?_)
            | refine caseb (fun _ => ?_) (fun h => absurd (beq_eq_false_iff_ne.1 h) (by omega))
            | refine caseb (fun h => absurd (eq_of_beq h) (by omega)) (fun _ => ?_)
          conv => whnf
          refine ⟨_, ⟨by omega, hg⟩, ?_⟩
          conv => whnf
          first
            | refine caseb (fun _ => ?_) (fun h => absurd (of_decide_eq_false h) (by omega))
            | refine caseb (fun h => absurd (of_decide_eq_true h) (by omega)) (fun _ => ?_)
            | refine caseb (fun _ => ?_) (fun h => absurd (beq_eq_false_iff_ne.1 h) (by omega))
            | refine caseb (fun h => absurd (eq_of_beq h) (by omega)) (fun _ => ?_)
          conv => whnf
          refine ⟨hnz, ?_⟩
          conv => whnf
          refine caseb (fun h => Bool.noConfusion ((tq).symm.trans h)) (fun _ => ?_)
          conv => whnf
          refine ⟨i + 1, [], (by show sh.length - (i + 1) < sh.length - i; omega), ⟨hlt, hbig', hd'⟩, ⟨⟨valI e4, rfl⟩, ⟨fin _ (by rw [hts]; exact (decide_eq_true (List.mem_append_left _ hz')).symm), rfl⟩, ⟨rfl, rfl⟩, ⟨rfl, rfl⟩, ⟨valI eI, rfl⟩, trivial⟩, trivial, rfl⟩
        | false =>
          have hz' := of_decide_eq_false hz
          conv => whnf
          first
            | refine caseb (fun _ => ?_) (fun h => absurd (of_decide_eq_false h) (by omega))
            | refine caseb (fun h => absurd (of_decide_eq_true h) (by omega)) (fun _ => ?_)
            | refine caseb (fun _ => ?_) (fun h => absurd (beq_eq_false_iff_ne.1 h) (by omega))
            | refine caseb (fun h => absurd (eq_of_beq h) (by omega)) (fun _ => ?_)
          conv => whnf
          refine ⟨_, ⟨by omega, hg⟩, ?_⟩
          conv => whnf
          first
            | refine caseb (fun _ => ?_) (fun h => absurd (of_decide_eq_false h) (by omega))
            | refine caseb (fun h => absurd (of_decide_eq_true h) (by omega)) (fun _ => ?_)
            | refine caseb (fun _ => ?_) (fun h => absurd (beq_eq_false_iff_ne.1 h) (by omega))
            | refine caseb (fun h => absurd (eq_of_beq h) (by omega)) (fun _ => ?_)
          conv => whnf
          refine ⟨hnz, ?_⟩
          conv => whnf
          refine caseb (fun h => Bool.noConfusion ((tq).symm.trans h)) (fun _ => ?_)
          conv => whnf
          refine ⟨i + 1, [], (by show sh.length - (i + 1) < sh.length - i; omega), ⟨hlt, hbig', hd'⟩, ⟨⟨valI e4, rfl⟩, ⟨fin _ ?_, rfl⟩, ⟨rfl, rfl⟩, ⟨rfl, rfl⟩, ⟨valI eI, rfl⟩, trivial⟩, trivial, rfl⟩
          rw [hts]
          by_cases h0 : sh[i] = 0
          · rw [show (sh[i] == 0) = true by rw [h0]; rfl]
            exact (decide_eq_true (List.mem_append_right _ (List.mem_singleton.2 h0.symm))).symm
          · rw [show (sh[i] == 0) = false from beq_false_of_ne h0]
            refine (decide_eq_false (fun h => ?_)).symm
            rcases List.mem_append.1 h with h | h
            · exact hz' h
            · exact h0 (List.mem_singleton.1 h).symm
  · have hie : i = sh.length := by omega
    have hta : sh.take i = sh := by rw [hie, List.take_length]
    rw [hta] at hp hd ⊢
    have hv : vS sh := ⟨by omega, hd, hp⟩
    rw [CNT_good hv]
    unfold cntI
    by_cases h0 : 0 ∈ sh
    · rw [if_pos h0, decide_eq_true h0]
      conv => whnf
      first
        | refine caseb (fun _ => ?_) (fun h => absurd (of_decide_eq_false h) (by omega))
        | refine caseb (fun h => absurd (of_decide_eq_true h) (by omega)) (fun _ => ?_)
        | refine caseb (fun _ => ?_) (fun h => absurd (beq_eq_false_iff_ne.1 h) (by omega))
        | refine caseb (fun h => absurd (eq_of_beq h) (by omega)) (fun _ => ?_)
      repeat
        conv => whnf
        first
          | refine ⟨_, by assumption, ?_⟩
          | refine ⟨(Nat.le_of_ble_eq_true rfl), _, by assumption, ?_⟩
          | refine ⟨by kernel_rfl, ?_⟩
          | exact rfl
          | exact ⟨Nat.le_of_ble_eq_true rfl, rfl⟩
          | refine ⟨by decide, ?_⟩
    · rw [if_neg h0, decide_eq_false h0]
      conv => whnf
      first
        | refine caseb (fun _ => ?_) (fun h => absurd (of_decide_eq_false h) (by omega))
        | refine caseb (fun h => absurd (of_decide_eq_true h) (by omega)) (fun _ => ?_)
        | refine caseb (fun _ => ?_) (fun h => absurd (beq_eq_false_iff_ne.1 h) (by omega))
        | refine caseb (fun h => absurd (eq_of_beq h) (by omega)) (fun _ => ?_)
      repeat
        conv => whnf
        first
          | refine ⟨_, by assumption, ?_⟩
          | refine ⟨(Nat.le_of_ble_eq_true rfl), _, by assumption, ?_⟩
          | refine ⟨by kernel_rfl, ?_⟩
          | exact rfl
          | exact ⟨Nat.le_of_ble_eq_true rfl, rfl⟩
          | refine ⟨by decide, ?_⟩
end Go.Proofs.YtliiekhmpgopnaaGreat

/- Arrays: how many elements a shape has (the document's contract); alike lists. -/
set_option linter.unusedVariables false
namespace Go.Proofs.YtliiekhmpgopnaaGreat
open Go Go.AL NM

theorem cnt_snoc {a : List Int} {d : Int} (hd : 0 ≤ d) : cntI (a ++ [d]) = cntI a * d := by
  by_cases h : 0 ∈ a ∨ d = 0
  · rw [cnt_snoc_zero h]
    rcases h with h | rfl
    · unfold cntI; rw [if_pos h, Int.zero_mul]
    · rw [Int.mul_zero]
  · have h1 : ¬ 0 ∈ a := fun x => h (.inl x)
    have h2 : d ≠ 0 := fun x => h (.inr x)
    unfold cntI
    rw [if_neg h1, if_neg (fun x => by
      rcases List.mem_append.1 x with x | x
      · exact h1 x
      · exact h2 (List.mem_singleton.1 x).symm), pm_snoc, show max 1 d = d by omega]
theorem cnt_bd (a : List Int) : 0 ≤ cntI a ∧ cntI a ≤ pmI a := by
  have := pm_pos a
  unfold cntI
  split <;> omega
theorem RCount_ok (sh : List Int) (hb : sh.length ≤ 1000000) : AC Tryz.prog 57 [.sl 1 (irows .i64 sh) false] (.pure (CNT sh)) := by
  refine AC.of_body TTok Tryz.func57 rfl (enter_of Tryz.func57 (by kernel_rfl) (by kernel_rfl)) (noid1 (noid_sl _ _ _)) (CNT_noid _) (Nat.le_of_ble_eq_true rfl) ?_
  have hlen := irows_len .i64 sh
  conv => whnf
  refine SW.loopM TTok (fun i : Nat => [(0, .sl 1 (irows .i64 sh) false), (4, .val (.int .i64 (pmI (sh.take i)))), (5, .val (.int .i64 (cntI (sh.take i)))), (6, .val (.int .i64 (i : Int)))]) (fun i => []) 40 49 rfl (fun i => sh.length - i) (fun i => i ≤ sh.length ∧ i ≤ 8 ∧ pmI (sh.take i) ≤ 4096 ∧ ∀ d ∈ sh.take i, 0 ≤ d) 0 [] ⟨Nat.zero_le _, Nat.zero_le _, (by show (1 : Int) ≤ 4096; decide), fun d hd => nomatch hd⟩
    ⟨⟨rfl, rfl⟩, ⟨rfl, rfl⟩, ⟨rfl, rfl⟩, ⟨rfl, rfl⟩, trivial⟩ trivial rfl ?_
  intro i hJ
  have hi : i ≤ sh.length := hJ.1
  have hi8 : i ≤ 8 := hJ.2.1
  have hp : pmI (sh.take i) ≤ 4096 := hJ.2.2.1
  have hd : ∀ d ∈ sh.take i, 0 ≤ d := hJ.2.2.2
  clear hJ
  have hp1 := pm_pos (sh.take i)
  have hc := cnt_bd (sh.take i)
  by_cases hlt : i < sh.length
  · have hg := irows_get .i64 sh (List.getElem?_eq_getElem hlt)
    have eI : IntKind.i64.wrap ((i : Int) + 1) = ((i + 1 : Nat) : Int) := by rw [IntWalk.i64_in _ (by omega)]; omega
    have hs := pm_take hlt
    have hts := take_snoc hlt
    by_cases h8 : i = 8
    · rw [CNT_bad (fun hv => by have := hv.1; omega)]
      conv => whnf
      first
        | refine caseb (fun _ => ?_) (fun h => absurd (of_decide_eq_false h) (by omega))
        | refine caseb (fun h => absurd (of_decide_eq_true h) (by omega)) (fun _ => ?_)
        | refine caseb (fun _ => ?_) (fun h => absurd (beq_eq_false_iff_ne.1 h) (by omega))
        | refine caseb (fun h => absurd (eq_of_beq h) (by omega)) (fun _ => ?_)
      conv => whnf
      first
        | refine caseb (fun _ => ?_) (fun h => absurd (of_decide_eq_false h) (by omega))
        | refine caseb (fun h => absurd (of_decide_eq_true h) (by omega)) (fun _ => ?_)
        | refine caseb (fun _ => ?_) (fun h => absurd (beq_eq_false_iff_ne.1 h) (by omega))
        | refine caseb (fun h => absurd (eq_of_beq h) (by omega)) (fun _ => ?_)
      repeat
        conv => whnf
        first
          | refine ⟨_, by assumption, ?_⟩
          | refine ⟨(Nat.le_of_ble_eq_true rfl), _, by assumption, ?_⟩
          | refine ⟨by kernel_rfl, ?_⟩
          | exact rfl
          | exact ⟨Nat.le_of_ble_eq_true rfl, rfl⟩
          | refine ⟨by decide, ?_⟩
    by_cases hneg : sh[i] < 0
    · rw [CNT_bad (vS_not_neg hlt hneg)]
      conv => whnf
      first
        | refine caseb (fun _ => ?_) (fun h => absurd (of_decide_eq_false h) (by omega))
        | refine caseb (fun h => absurd (of_decide_eq_true h) (by omega)) (fun _ => ?_)
        | refine caseb (fun _ => ?_) (fun h => absurd (beq_eq_false_iff_ne.1 h) (by omega))
        | refine caseb (fun h => absurd (eq_of_beq h) (by omega)) (fun _ => ?_)
      conv => whnf
      first
        | refine caseb (fun _ => ?_) (fun h => absurd (of_decide_eq_false h) (by omega))
        | refine caseb (fun h => absurd (of_decide_eq_true h) (by omega)) (fun _ => ?_)
        | refine caseb (fun _ => ?_) (fun h => absurd (beq_eq_false_iff_ne.1 h) (by omega))
        | refine caseb (fun h => absurd (eq_of_beq h) (by omega)) (fun _ => ?_)
      conv => whnf
      refine ⟨_, ⟨by omega, hg⟩, ?_⟩
      conv => whnf
      first
        | refine caseb (fun _ => ?_) (fun h => absurd (of_decide_eq_false h) (by omega))
        | refine caseb (fun h => absurd (of_decide_eq_true h) (by omega)) (fun _ => ?_)
        | refine caseb (fun _ => ?_) (fun h => absurd (beq_eq_false_iff_ne.1 h) (by omega))
        | refine caseb (fun h => absurd (eq_of_beq h) (by omega)) (fun _ => ?_)
      repeat
        conv => whnf
        first
          | refine ⟨_, by assumption, ?_⟩
          | refine ⟨(Nat.le_of_ble_eq_true rfl), _, by assumption, ?_⟩
          | refine ⟨by kernel_rfl, ?_⟩
          | exact rfl
          | exact ⟨Nat.le_of_ble_eq_true rfl, rfl⟩
          | refine ⟨by decide, ?_⟩
    have hcs : cntI (sh.take (i + 1)) = cntI (sh.take i) * sh[i] := by rw [hts, cnt_snoc (Int.not_lt.1 hneg)]
    have hgr := pm_grow (sh.take i) sh[i]
    by_cases hbd : sh[i] > 4096
    · have hbig : 4096 < pmI (sh.take (i + 1)) := by
        rw [hs, show max 1 sh[i] = sh[i] by omega]
        have := Int.mul_le_mul_of_nonneg_right hp1 (show 0 ≤ sh[i] by omega)
        omega
      rw [CNT_bad (vS_not_big hlt hbig)]
      conv => whnf
      first
        | refine caseb (fun _ => ?_) (fun h => absurd (of_decide_eq_false h) (by omega))
        | refine caseb (fun h => absurd (of_decide_eq_true h) (by omega)) (fun _ => ?_)
        | refine caseb (fun _ => ?_) (fun h => absurd (beq_eq_false_iff_ne.1 h) (by omega))
        | refine caseb (fun h => absurd (eq_of_beq h) (by omega)) (fun _ => ?_)
      conv => whnf
      first
        | refine caseb (fun _ => ?_) (fun h => absurd (of_decide_eq_false h) (by omega))
        | refine caseb (fun h => absurd (of_decide_eq_true h) (by omega)) (fun _ => ?_)
        | refine caseb (fun _ => ?_) (fun h => absurd (beq_eq_false_iff_ne.1 h) (by omega))
        | refine caseb (fun h => absurd (eq_of_beq h) (by omega)) (fun _ => ?_)
      conv => whnf
      refine ⟨_, ⟨by omega, hg⟩, ?_⟩
      conv => whnf
      first
        | refine caseb (fun _ => ?_) (fun h => absurd (of_decide_eq_false h) (by omega))
        | refine caseb (fun h => absurd (of_decide_eq_true h) (by omega)) (fun _ => ?_)
        | refine caseb (fun _ => ?_) (fun h => absurd (beq_eq_false_iff_ne.1 h) (by omega))
        | refine caseb (fun h => absurd (eq_of_beq h) (by omega)) (fun _ => ?_)
      conv => whnf
      refine ⟨_, ⟨by omega, hg⟩, ?_⟩
      conv => whnf
      first
        | refine caseb (fun _ => ?_) (fun h => absurd (of_decide_eq_false h) (by omega))
        | refine caseb (fun h => absurd (of_decide_eq_true h) (by omega)) (fun _ => ?_)
        | refine caseb (fun _ => ?_) (fun h => absurd (beq_eq_false_iff_ne.1 h) (by omega))
        | refine caseb (fun h => absurd (eq_of_beq h) (by omega)) (fun _ => ?_)
      repeat
        conv => whnf
        first
          | refine ⟨_, by assumption, ?_⟩
          | refine ⟨(Nat.le_of_ble_eq_true rfl), _, by assumption, ?_⟩
          | refine ⟨by kernel_rfl, ?_⟩
          | exact rfl
          | exact ⟨Nat.le_of_ble_eq_true rfl, rfl⟩
          | refine ⟨by decide, ?_⟩
    have hd' : ∀ d ∈ sh.take (i + 1), 0 ≤ d := by
      rw [hts]
      intro d hdd
      rcases List.mem_append.1 hdd with h | h
      · exact hd d h
      · rw [List.mem_singleton.1 h]; omega
    have m1 : cntI (sh.take i) * sh[i] ≤ 4096 * 4096 := by
      have h1 := Int.mul_le_mul_of_nonneg_right (show cntI (sh.take i) ≤ 4096 by omega) (show 0 ≤ sh[i] by omega)
      omega
    have m0 : 0 ≤ cntI (sh.take i) * sh[i] := Int.mul_nonneg hc.1 (by omega)
    have e5 : IntKind.i64.wrap (cntI (sh.take i) * sh[i]) = cntI (sh.take (i + 1)) := by rw [hcs, IntWalk.i64_in _ (by omega)]
    by_cases hz : sh[i] > 0
    · have m2 : pmI (sh.take i) * sh[i] ≤ 4096 * 4096 := by
        have h1 := Int.mul_le_mul_of_nonneg_right hp (show 0 ≤ sh[i] by omega)
        omega
      have m3 : 0 ≤ pmI (sh.take i) * sh[i] := Int.mul_nonneg (by omega) (by omega)
      have e4 : IntKind.i64.wrap (pmI (sh.take i) * sh[i]) = pmI (sh.take (i + 1)) := by rw [hs, show max 1 sh[i] = sh[i] by omega, IntWalk.i64_in _ (by omega)]
      by_cases hbig : 4096 < pmI (sh.take (i + 1))
      · rw [CNT_bad (vS_not_big hlt hbig)]
        have tb : decide (IntKind.i64.wrap (pmI (sh.take i) * sh[i]) > 4096) = true := decide_eq_true (by rw [e4]; exact hbig)
        conv => whnf
        first
          | refine caseb (fun _ => ?_) (fun h => absurd (of_decide_eq_false h) (by omega))
          | refine caseb (fun h => absurd (of_decide_eq_true h) (by omega)) (fun _ => ?_)
          | refine caseb (fun _ => ?_) (fun h => absurd (beq_eq_false_iff_ne.1 h) (by omega))
          | refine caseb (fun h => absurd (eq_of_beq h) (by omega)) (fun _ => ?_)
        conv => whnf
        first
          | refine caseb (fun _ => ?_) (fun h => absurd (of_decide_eq_false h) (by omega))
          | refine caseb (fun h => absurd (of_decide_eq_true h) (by omega)) (fun _ => ?_)
          | refine caseb (fun _ => ?_) (fun h => absurd (beq_eq_false_iff_ne.1 h) (by omega))
          | refine caseb (fun h => absurd (eq_of_beq h) (by omega)) (fun _ => ?_)
        conv => whnf
        refine ⟨_, ⟨by omega, hg⟩, ?_⟩
        conv => whnf
        first
          | refine caseb (fun _ => ?_) (fun h => absurd (of_decide_eq_false h) (by omega))
          | refine caseb (fun h => absurd (of_decide_eq_true h) (by omega)) (fun _ => ?_)
          | refine caseb (fun _ => ?_) (fun h => absurd (beq_eq_false_iff_ne.1 h) (by omega))
          | refine caseb (fun h => absurd (eq_of_beq h) (by omega)) (fun _ => ?_)
        conv => whnf
        refine ⟨_, ⟨by omega, hg⟩, ?_⟩
        conv => whnf
        first
          | refine caseb (fun _ => ?_) (fun h => absurd (of_decide_eq_false h) (by omega))
          | refine caseb (fun h => absurd (of_decide_eq_true h) (by omega)) (fun _ => ?_)
          | refine caseb (fun _ => ?_) (fun h => absurd (beq_eq_false_iff_ne.1 h) (by omega))
          | refine caseb (fun h => absurd (eq_of_beq h) (by omega)) (fun _ => ?_)
        conv => whnf
        refine ⟨_, ⟨by omega, hg⟩, ?_⟩
        conv => whnf
        refine ⟨_, ⟨by omega, hg⟩, ?_⟩
        conv => whnf
        first
          | refine caseb (fun _ => ?_) (fun h => absurd (of_decide_eq_false h) (by omega))
          | refine caseb (fun h => absurd (of_decide_eq_true h) (by omega)) (fun _ => ?_)
          | refine caseb (fun _ => ?_) (fun h => absurd (beq_eq_false_iff_ne.1 h) (by omega))
          | refine caseb (fun h => absurd (eq_of_beq h) (by omega)) (fun _ => ?_)
        conv => whnf
        refine ⟨_, ⟨by omega, hg⟩, ?_⟩
        conv => whnf
        refine caseb (fun _ => ?_) (fun h => Bool.noConfusion ((tb).symm.trans h))
        repeat
          conv => whnf
          first
            | refine ⟨_, by assumption, ?_⟩
            | refine ⟨(Nat.le_of_ble_eq_true rfl), _, by assumption, ?_⟩
            | refine ⟨by kernel_rfl, ?_⟩
            | exact rfl
            | exact ⟨Nat.le_of_ble_eq_true rfl, rfl⟩
            | refine ⟨by decide, ?_⟩
      · have tb : decide (IntKind.i64.wrap (pmI (sh.take i) * sh[i]) > 4096) = false := decide_eq_false (by rw [e4]; exact hbig)
        conv => whnf
        first
          | refine caseb (fun _ => ?_) (fun h => absurd (of_decide_eq_false h) (by omega))
          | refine caseb (fun h => absurd (of_decide_eq_true h) (by omega)) (fun _ => ?_)
          | refine caseb (fun _ => ?_) (fun h => absurd (beq_eq_false_iff_ne.1 h) (by omega))
          | refine caseb (fun h => absurd (eq_of_beq h) (by omega)) (fun _ => ?_)
        conv => whnf
        first
          | refine caseb (fun _ => ?_) (fun h => absurd (of_decide_eq_false h) (by omega))
          | refine caseb (fun h => absurd (of_decide_eq_true h) (by omega)) (fun _ => ?_)
          | refine caseb (fun _ => ?_) (fun h => absurd (beq_eq_false_iff_ne.1 h) (by omega))
          | refine caseb (fun h => absurd (eq_of_beq h) (by omega)) (fun _ => ?_)
        conv => whnf
        refine ⟨_, ⟨by omega, hg⟩, ?_⟩
        conv => whnf
        first
          | refine caseb (fun _ => ?_) (fun h => absurd (of_decide_eq_false h) (by omega))
          | refine caseb (fun h => absurd (of_decide_eq_true h) (by omega)) (fun _ => ?_)
          | refine caseb (fun _ => ?_) (fun h => absurd (beq_eq_false_iff_ne.1 h) (by omega))
          | refine caseb (fun h => absurd (eq_of_beq h) (by omega)) (fun _ => ?_)
        conv => whnf
        refine ⟨_, ⟨by omega, hg⟩, ?_⟩
        conv => whnf
        first
          | refine caseb (fun _ => ?_) (fun h => absurd (of_decide_eq_false h) (by omega))
          | refine caseb (fun h => absurd (of_decide_eq_true h) (by omega)) (fun _ => ?_)
          | refine caseb (fun _ => ?_) (fun h => absurd (beq_eq_false_iff_ne.1 h) (by omega))
          | refine caseb (fun h => absurd (eq_of_beq h) (by omega)) (fun _ => ?_)
        conv => whnf
        refine ⟨_, ⟨by omega, hg⟩, ?_⟩
        conv => whnf
        refine ⟨_, ⟨by omega, hg⟩, ?_⟩
        conv => whnf
        first
          | refine caseb (fun _ => ?_) (fun h => absurd (of_decide_eq_false h) (by omega))
          | refine caseb (fun h => absurd (of_decide_eq_true h) (by omega)) (fun _ => ?_)
          | refine caseb (fun _ => ?_) (fun h => absurd (beq_eq_false_iff_ne.1 h) (by omega))
          | refine caseb (fun h => absurd (eq_of_beq h) (by omega)) (fun _ => ?_)
        conv => whnf
        refine ⟨_, ⟨by omega, hg⟩, ?_⟩
        conv => whnf
        refine caseb (fun h => Bool.noConfusion ((tb).symm.trans h)) (fun _ => ?_)
        conv => whnf
        refine ⟨i + 1, [], (by show sh.length - (i + 1) < sh.length - i; omega), ⟨hlt, (by show i + 1 ≤ 8; omega), (by show pmI (sh.take (i + 1)) ≤ 4096; omega), hd'⟩, ⟨⟨rfl, rfl⟩, ⟨valI e4, rfl⟩, ⟨valI e5, rfl⟩, ⟨valI eI, rfl⟩, trivial⟩, trivial, rfl⟩
    · have e4 : pmI (sh.take i) = pmI (sh.take (i + 1)) := by rw [hs, show max 1 sh[i] = 1 by omega, Int.mul_one]
      conv => whnf
      first
        | refine caseb (fun _ => ?_) (fun h => absurd (of_decide_eq_false h) (by omega))
        | refine caseb (fun h => absurd (of_decide_eq_true h) (by omega)) (fun _ => ?_)
        | refine caseb (fun _ => ?_) (fun h => absurd (beq_eq_false_iff_ne.1 h) (by omega))
        | refine caseb (fun h => absurd (eq_of_beq h) (by omega)) (fun _ => ?_)
      conv => whnf
      first
        | refine caseb (fun _ => ?_) (fun h => absurd (of_decide_eq_false h) (by omega))
        | refine caseb (fun h => absurd (of_decide_eq_true h) (by omega)) (fun _ => ?_)
        | refine caseb (fun _ => ?_) (fun h => absurd (beq_eq_false_iff_ne.1 h) (by omega))
        | refine caseb (fun h => absurd (eq_of_beq h) (by omega)) (fun _ => ?_)
      conv => whnf
      refine ⟨_, ⟨by omega, hg⟩, ?_⟩
      conv => whnf
      first
        | refine caseb (fun _ => ?_) (fun h => absurd (of_decide_eq_false h) (by omega))
        | refine caseb (fun h => absurd (of_decide_eq_true h) (by omega)) (fun _ => ?_)
        | refine caseb (fun _ => ?_) (fun h => absurd (beq_eq_false_iff_ne.1 h) (by omega))
        | refine caseb (fun h => absurd (eq_of_beq h) (by omega)) (fun _ => ?_)
      conv => whnf
      refine ⟨_, ⟨by omega, hg⟩, ?_⟩
      conv => whnf
      first
        | refine caseb (fun _ => ?_) (fun h => absurd (of_decide_eq_false h) (by omega))
        | refine caseb (fun h => absurd (of_decide_eq_true h) (by omega)) (fun _ => ?_)
        | refine caseb (fun _ => ?_) (fun h => absurd (beq_eq_false_iff_ne.1 h) (by omega))
        | refine caseb (fun h => absurd (eq_of_beq h) (by omega)) (fun _ => ?_)
      conv => whnf
      refine ⟨_, ⟨by omega, hg⟩, ?_⟩
      conv => whnf
      refine ⟨_, ⟨by omega, hg⟩, ?_⟩
      conv => whnf
      first
        | refine caseb (fun _ => ?_) (fun h => absurd (of_decide_eq_false h) (by omega))
        | refine caseb (fun h => absurd (of_decide_eq_true h) (by omega)) (fun _ => ?_)
        | refine caseb (fun _ => ?_) (fun h => absurd (beq_eq_false_iff_ne.1 h) (by omega))
        | refine caseb (fun h => absurd (eq_of_beq h) (by omega)) (fun _ => ?_)
      conv => whnf
      first
        | refine caseb (fun _ => ?_) (fun h => absurd (of_decide_eq_false h) (by omega))
        | refine caseb (fun h => absurd (of_decide_eq_true h) (by omega)) (fun _ => ?_)
        | refine caseb (fun _ => ?_) (fun h => absurd (beq_eq_false_iff_ne.1 h) (by omega))
        | refine caseb (fun h => absurd (eq_of_beq h) (by omega)) (fun _ => ?_)
      conv => whnf
      refine ⟨i + 1, [], (by show sh.length - (i + 1) < sh.length - i; omega), ⟨hlt, (by show i + 1 ≤ 8; omega), (by show pmI (sh.take (i + 1)) ≤ 4096; omega), hd'⟩, ⟨⟨rfl, rfl⟩, ⟨valI e4, rfl⟩, ⟨valI e5, rfl⟩, ⟨valI eI, rfl⟩, trivial⟩, trivial, rfl⟩
  · have hie : i = sh.length := by omega
    have hta : sh.take i = sh := by rw [hie, List.take_length]
    rw [hta] at hp hd ⊢
    have hv : vS sh := ⟨by omega, hd, hp⟩
    rw [CNT_good hv]
    conv => whnf
    first
      | refine caseb (fun _ => ?_) (fun h => absurd (of_decide_eq_false h) (by omega))
      | refine caseb (fun h => absurd (of_decide_eq_true h) (by omega)) (fun _ => ?_)
      | refine caseb (fun _ => ?_) (fun h => absurd (beq_eq_false_iff_ne.1 h) (by omega))
      | refine caseb (fun h => absurd (eq_of_beq h) (by omega)) (fun _ => ?_)
    repeat
      conv => whnf
      first
        | refine ⟨_, by assumption, ?_⟩
        | refine ⟨(Nat.le_of_ble_eq_true rfl), _, by assumption, ?_⟩
        | refine ⟨by kernel_rfl, ?_⟩
        | exact rfl
        | exact ⟨Nat.le_of_ble_eq_true rfl, rfl⟩
        | refine ⟨by decide, ?_⟩
end Go.Proofs.YtliiekhmpgopnaaGreat

/- Arrays: alike lists; small functions of arrays (contracts). -/
set_option linter.unusedVariables false
namespace Go.Proofs.YtliiekhmpgopnaaGreat
open Go Go.AL NM

theorem IntsSame_ok (a b : List Int) (ha : a.length ≤ 1000000) (hb : b.length ≤ 1000000) : AC Tryz.prog 23 [.sl 1 (irows .i64 a) false, .sl 1 (irows .i64 b) false] (.pure (.val (.bool (decide (a = b))))) := by
  refine AC.of_body TTok Tryz.func23 rfl (enter_of Tryz.func23 (by kernel_rfl) (by kernel_rfl)) (noid2 (noid_sl _ _ _) (noid_sl _ _ _)) (.val _) (Nat.le_of_ble_eq_true rfl) ?_
  have h1 := irows_len .i64 a
  have h2 := irows_len .i64 b
  by_cases hl : a.length = b.length
  · have tl : (((irows .i64 a).length : Int) != ((irows .i64 b).length : Int)) = false := by rw [h1, h2, hl]; simp
    conv => whnf
    refine caseb (fun h => Bool.noConfusion ((tl).symm.trans h)) (fun _ => ?_)
    conv => whnf
    refine SW.loopM TTok (fun i : Nat => [(0, .sl 1 (irows .i64 a) false), (1, .sl 1 (irows .i64 b) false), (5, .val (.int .i64 (i : Int)))]) (fun i => []) 56 26 rfl (fun i => a.length - i) (fun i => i ≤ a.length ∧ a.take i = b.take i) 0 [] ⟨Nat.zero_le _, rfl⟩
      ⟨⟨rfl, rfl⟩, ⟨rfl, rfl⟩, ⟨rfl, rfl⟩, trivial⟩ trivial rfl ?_
    intro i hJ
    have hi : i ≤ a.length := hJ.1
    have ht : a.take i = b.take i := hJ.2
    clear hJ
    by_cases hlt : i < a.length
    · have hlt' : i < b.length := by omega
      have g1 := irows_get .i64 a (List.getElem?_eq_getElem hlt)
      have g2 := irows_get .i64 b (List.getElem?_eq_getElem hlt')
      have eI : IntKind.i64.wrap ((i : Int) + 1) = ((i + 1 : Nat) : Int) := by rw [IntWalk.i64_in _ (by omega)]; omega
      by_cases he : a[i] = b[i]
      · have te : (a[i] != b[i]) = false := by rw [he]; simp
        conv => whnf
        first
          | refine caseb (fun _ => ?_) (fun h => absurd (of_decide_eq_false h) (by omega))
          | refine caseb (fun h => absurd (of_decide_eq_true h) (by omega)) (fun _ => ?_)
          | refine caseb (fun _ => ?_) (fun h => absurd (beq_eq_false_iff_ne.1 h) (by omega))
          | refine caseb (fun h => absurd (eq_of_beq h) (by omega)) (fun _ => ?_)
        conv => whnf
        refine ⟨_, ⟨by omega, g1⟩, ?_⟩
        conv => whnf
        refine ⟨_, ⟨by omega, g2⟩, ?_⟩
        conv => whnf
        refine ⟨by kernel_rfl, ?_⟩
        conv => whnf
        refine caseb (fun h => Bool.noConfusion ((te).symm.trans h)) (fun _ => ?_)
        conv => whnf
        refine ⟨i + 1, [], (by show a.length - (i + 1) < a.length - i; omega), ⟨hlt, (by show a.take (i + 1) = b.take (i + 1); rw [take_snoc hlt, take_snoc hlt', ht, he])⟩, ⟨⟨rfl, rfl⟩, ⟨rfl, rfl⟩, ⟨valI eI, rfl⟩, trivial⟩, trivial, rfl⟩
      · have te : (a[i] != b[i]) = true := by simpa using he
        rw [decide_eq_false (fun e => he (by subst e; rfl))]
        conv => whnf
        first
          | refine caseb (fun _ => ?_) (fun h => absurd (of_decide_eq_false h) (by omega))
          | refine caseb (fun h => absurd (of_decide_eq_true h) (by omega)) (fun _ => ?_)
          | refine caseb (fun _ => ?_) (fun h => absurd (beq_eq_false_iff_ne.1 h) (by omega))
          | refine caseb (fun h => absurd (eq_of_beq h) (by omega)) (fun _ => ?_)
        conv => whnf
        refine ⟨_, ⟨by omega, g1⟩, ?_⟩
        conv => whnf
        refine ⟨_, ⟨by omega, g2⟩, ?_⟩
        conv => whnf
        refine ⟨by kernel_rfl, ?_⟩
        conv => whnf
        refine caseb (fun _ => ?_) (fun h => Bool.noConfusion ((te).symm.trans h))
        repeat
          conv => whnf
          first
            | refine ⟨_, by assumption, ?_⟩
            | refine ⟨(Nat.le_of_ble_eq_true rfl), _, by assumption, ?_⟩
            | refine ⟨by kernel_rfl, ?_⟩
            | exact rfl
            | exact ⟨Nat.le_of_ble_eq_true rfl, rfl⟩
            | refine ⟨by decide, ?_⟩
    · have hie : i = a.length := by omega
      rw [decide_eq_true (by rw [hie, List.take_length, hl, List.take_length] at ht; exact ht)]
      conv => whnf
      first
        | refine caseb (fun _ => ?_) (fun h => absurd (of_decide_eq_false h) (by omega))
        | refine caseb (fun h => absurd (of_decide_eq_true h) (by omega)) (fun _ => ?_)
        | refine caseb (fun _ => ?_) (fun h => absurd (beq_eq_false_iff_ne.1 h) (by omega))
        | refine caseb (fun h => absurd (eq_of_beq h) (by omega)) (fun _ => ?_)
      repeat
        conv => whnf
        first
          | refine ⟨_, by assumption, ?_⟩
          | refine ⟨(Nat.le_of_ble_eq_true rfl), _, by assumption, ?_⟩
          | refine ⟨by kernel_rfl, ?_⟩
          | exact rfl
          | exact ⟨Nat.le_of_ble_eq_true rfl, rfl⟩
          | refine ⟨by decide, ?_⟩
  · have tl : (((irows .i64 a).length : Int) != ((irows .i64 b).length : Int)) = true := by rw [h1, h2]; simpa using (show ¬ (a.length : Int) = b.length by omega)
    rw [decide_eq_false (fun e => hl (by rw [e]))]
    conv => whnf
    refine caseb (fun _ => ?_) (fun h => Bool.noConfusion ((tl).symm.trans h))
    repeat
      conv => whnf
      first
        | refine ⟨_, by assumption, ?_⟩
        | refine ⟨(Nat.le_of_ble_eq_true rfl), _, by assumption, ?_⟩
        | refine ⟨by kernel_rfl, ?_⟩
        | exact rfl
        | exact ⟨Nat.le_of_ble_eq_true rfl, rfl⟩
        | refine ⟨by decide, ?_⟩

theorem Runes_ok (a b : List Int) (ha : a.length ≤ 1000000) (hb : b.length ≤ 1000000) : AC Tryz.prog 85 [.sl 1 (irows .i32 a) false, .sl 1 (irows .i32 b) false] (.pure (.val (.bool (decide (a = b))))) := by
  refine AC.of_body TTok Tryz.func85 rfl (enter_of Tryz.func85 (by kernel_rfl) (by kernel_rfl)) (noid2 (noid_sl _ _ _) (noid_sl _ _ _)) (.val _) (Nat.le_of_ble_eq_true rfl) ?_
  have h1 := irows_len .i32 a
  have h2 := irows_len .i32 b
  by_cases hl : a.length = b.length
  · have tl : (((irows .i32 a).length : Int) != ((irows .i32 b).length : Int)) = false := by rw [h1, h2, hl]; simp
    conv => whnf
    refine caseb (fun h => Bool.noConfusion ((tl).symm.trans h)) (fun _ => ?_)
    conv => whnf
    refine SW.loopM TTok (fun i : Nat => [(0, .sl 1 (irows .i32 a) false), (1, .sl 1 (irows .i32 b) false), (5, .val (.int .i64 (i : Int)))]) (fun i => []) 56 26 rfl (fun i => a.length - i) (fun i => i ≤ a.length ∧ a.take i = b.take i) 0 [] ⟨Nat.zero_le _, rfl⟩
      ⟨⟨rfl, rfl⟩, ⟨rfl, rfl⟩, ⟨rfl, rfl⟩, trivial⟩ trivial rfl ?_
    intro i hJ
    have hi : i ≤ a.length := hJ.1
    have ht : a.take i = b.take i := hJ.2
    clear hJ
    by_cases hlt : i < a.length
    · have hlt' : i < b.length := by omega
      have g1 := irows_get .i32 a (List.getElem?_eq_getElem hlt)
      have g2 := irows_get .i32 b (List.getElem?_eq_getElem hlt')
      have eI : IntKind.i64.wrap ((i : Int) + 1) = ((i + 1 : Nat) : Int) := by rw [IntWalk.i64_in _ (by omega)]; omega
      by_cases he : a[i] = b[i]
      · have te : (a[i] != b[i]) = false := by rw [he]; simp
        conv => whnf
        first
          | refine caseb (fun _ => ?_) (fun h => absurd (of_decide_eq_false h) (by omega))
          | refine caseb (fun h => absurd (of_decide_eq_true h) (by omega)) (fun _ => ?_)
          | refine caseb (fun _ => ?_) (fun h => absurd (beq_eq_false_iff_ne.1 h) (by omega))
          | refine caseb (fun h => absurd (eq_of_beq h) (by omega)) (fun _ => ?_)
        conv => whnf
        refine ⟨_, ⟨by omega, g1⟩, ?_⟩
        conv => whnf
        refine ⟨_, ⟨by omega, g2⟩, ?_⟩
        conv => whnf
        refine ⟨by kernel_rfl, ?_⟩
        conv => whnf
        refine caseb (fun h => Bool.noConfusion ((te).symm.trans h)) (fun _ => ?_)
        conv => whnf
        refine ⟨i + 1, [], (by show a.length - (i + 1) < a.length - i; omega), ⟨hlt, (by show a.take (i + 1) = b.take (i + 1); rw [take_snoc hlt, take_snoc hlt', ht, he])⟩, ⟨⟨rfl, rfl⟩, ⟨rfl, rfl⟩, ⟨valI eI, rfl⟩, trivial⟩, trivial, rfl⟩
      · have te : (a[i] != b[i]) = true := by simpa using he
        rw [decide_eq_false (fun e => he (by subst e; rfl))]
        conv => whnf
        first
          | refine caseb (fun _ => ?_) (fun h => absurd (of_decide_eq_false h) (by omega))
          | refine caseb (fun h => absurd (of_decide_eq_true h) (by omega)) (fun _ => ?_)
          | refine caseb (fun _ => ?_) (fun h => absurd (beq_eq_false_iff_ne.1 h) (by omega))
          | refine caseb (fun h => absurd (eq_of_beq h) (by omega)) (fun _ => ?_)
        conv => whnf
        refine ⟨_, ⟨by omega, g1⟩, ?_⟩
        conv => whnf
        refine ⟨_, ⟨by omega, g2⟩, ?_⟩
        conv => whnf
        refine ⟨by kernel_rfl, ?_⟩
        conv => whnf
        refine caseb (fun _ => ?_) (fun h => Bool.noConfusion ((te).symm.trans h))
        repeat
          conv => whnf
          first
            | refine ⟨_, by assumption, ?_⟩
            | refine ⟨(Nat.le_of_ble_eq_true rfl), _, by assumption, ?_⟩
            | refine ⟨by kernel_rfl, ?_⟩
            | exact rfl
            | exact ⟨Nat.le_of_ble_eq_true rfl, rfl⟩
            | refine ⟨by decide, ?_⟩
    · have hie : i = a.length := by omega
      rw [decide_eq_true (by rw [hie, List.take_length, hl, List.take_length] at ht; exact ht)]
      conv => whnf
      first
        | refine caseb (fun _ => ?_) (fun h => absurd (of_decide_eq_false h) (by omega))
        | refine caseb (fun h => absurd (of_decide_eq_true h) (by omega)) (fun _ => ?_)
        | refine caseb (fun _ => ?_) (fun h => absurd (beq_eq_false_iff_ne.1 h) (by omega))
        | refine caseb (fun h => absurd (eq_of_beq h) (by omega)) (fun _ => ?_)
      repeat
        conv => whnf
        first
          | refine ⟨_, by assumption, ?_⟩
          | refine ⟨(Nat.le_of_ble_eq_true rfl), _, by assumption, ?_⟩
          | refine ⟨by kernel_rfl, ?_⟩
          | exact rfl
          | exact ⟨Nat.le_of_ble_eq_true rfl, rfl⟩
          | refine ⟨by decide, ?_⟩
  · have tl : (((irows .i32 a).length : Int) != ((irows .i32 b).length : Int)) = true := by rw [h1, h2]; simpa using (show ¬ (a.length : Int) = b.length by omega)
    rw [decide_eq_false (fun e => hl (by rw [e]))]
    conv => whnf
    refine caseb (fun _ => ?_) (fun h => Bool.noConfusion ((tl).symm.trans h))
    repeat
      conv => whnf
      first
        | refine ⟨_, by assumption, ?_⟩
        | refine ⟨(Nat.le_of_ble_eq_true rfl), _, by assumption, ?_⟩
        | refine ⟨by kernel_rfl, ?_⟩
        | exact rfl
        | exact ⟨Nat.le_of_ble_eq_true rfl, rfl⟩
        | refine ⟨by decide, ?_⟩

theorem Equal_ok (a b : List Int) (ha : a.length ≤ 1000000) (hb : b.length ≤ 1000000) : AC Tryz.prog 88 [.sl 1 (irows .i64 a) false, .sl 1 (irows .i64 b) false] (.pure (.val (.bool (decide (a = b))))) := by
  refine AC.of_body TTok Tryz.func88 rfl (enter_of Tryz.func88 (by kernel_rfl) (by kernel_rfl)) (noid2 (noid_sl _ _ _) (noid_sl _ _ _)) (.val _) (Nat.le_of_ble_eq_true rfl) ?_
  have h1 := irows_len .i64 a
  have h2 := irows_len .i64 b
  by_cases hl : a.length = b.length
  · have tl : (((irows .i64 a).length : Int) != ((irows .i64 b).length : Int)) = false := by rw [h1, h2, hl]; simp
    conv => whnf
    refine caseb (fun h => Bool.noConfusion ((tl).symm.trans h)) (fun _ => ?_)
    conv => whnf
    refine SW.loopM TTok (fun i : Nat => [(0, .sl 1 (irows .i64 a) false), (1, .sl 1 (irows .i64 b) false), (12, .val (.int .i64 ((irows .i64 a).length : Int))), (13, .val (.int .i64 (i : Int)))]) (fun i => []) 72 26 rfl (fun i => a.length - i) (fun i => i ≤ a.length ∧ a.take i = b.take i) 0 [] ⟨Nat.zero_le _, rfl⟩
      ⟨⟨rfl, rfl⟩, ⟨rfl, rfl⟩, ⟨rfl, rfl⟩, ⟨rfl, rfl⟩, trivial⟩ trivial rfl ?_
    intro i hJ
    have hi : i ≤ a.length := hJ.1
    have ht : a.take i = b.take i := hJ.2
    clear hJ
    by_cases hlt : i < a.length
    · have hlt' : i < b.length := by omega
      have g1 := irows_get .i64 a (List.getElem?_eq_getElem hlt)
      have g2 := irows_get .i64 b (List.getElem?_eq_getElem hlt')
      have eI : IntKind.i64.wrap ((i : Int) + 1) = ((i + 1 : Nat) : Int) := by rw [IntWalk.i64_in _ (by omega)]; omega
      by_cases he : a[i] = b[i]
      · have te : (a[i] != b[i]) = false := by rw [he]; simp
        conv => whnf
        first
          | refine caseb (fun _ => ?_) (fun h => absurd (of_decide_eq_false h) (by omega))
          | refine caseb (fun h => absurd (of_decide_eq_true h) (by omega)) (fun _ => ?_)
          | refine caseb (fun _ => ?_) (fun h => absurd (beq_eq_false_iff_ne.1 h) (by omega))
          | refine caseb (fun h => absurd (eq_of_beq h) (by omega)) (fun _ => ?_)
        conv => whnf
        refine ⟨_, ⟨by omega, g1⟩, ?_⟩
        conv => whnf
        refine ⟨_, ⟨by omega, g2⟩, ?_⟩
        conv => whnf
        refine ⟨by kernel_rfl, ?_⟩
        conv => whnf
        refine caseb (fun h => Bool.noConfusion ((te).symm.trans h)) (fun _ => ?_)
        conv => whnf
        refine ⟨i + 1, [], (by show a.length - (i + 1) < a.length - i; omega), ⟨hlt, (by show a.take (i + 1) = b.take (i + 1); rw [take_snoc hlt, take_snoc hlt', ht, he])⟩, ⟨⟨rfl, rfl⟩, ⟨rfl, rfl⟩, ⟨rfl, rfl⟩, ⟨valI eI, rfl⟩, trivial⟩, trivial, rfl⟩
      · have te : (a[i] != b[i]) = true := by simpa using he
        rw [decide_eq_false (fun e => he (by subst e; rfl))]
        conv => whnf
        first
          | refine caseb (fun _ => ?_) (fun h => absurd (of_decide_eq_false h) (by omega))
          | refine caseb (fun h => absurd (of_decide_eq_true h) (by omega)) (fun _ => ?_)
          | refine caseb (fun _ => ?_) (fun h => absurd (beq_eq_false_iff_ne.1 h) (by omega))
          | refine caseb (fun h => absurd (eq_of_beq h) (by omega)) (fun _ => ?_)
        conv => whnf
        refine ⟨_, ⟨by omega, g1⟩, ?_⟩
        conv => whnf
        refine ⟨_, ⟨by omega, g2⟩, ?_⟩
        conv => whnf
        refine ⟨by kernel_rfl, ?_⟩
        conv => whnf
        refine caseb (fun _ => ?_) (fun h => Bool.noConfusion ((te).symm.trans h))
        repeat
          conv => whnf
          first
            | refine ⟨_, by assumption, ?_⟩
            | refine ⟨(Nat.le_of_ble_eq_true rfl), _, by assumption, ?_⟩
            | refine ⟨by kernel_rfl, ?_⟩
            | exact rfl
            | exact ⟨Nat.le_of_ble_eq_true rfl, rfl⟩
            | refine ⟨by decide, ?_⟩
    · have hie : i = a.length := by omega
      rw [decide_eq_true (by rw [hie, List.take_length, hl, List.take_length] at ht; exact ht)]
      conv => whnf
      first
        | refine caseb (fun _ => ?_) (fun h => absurd (of_decide_eq_false h) (by omega))
        | refine caseb (fun h => absurd (of_decide_eq_true h) (by omega)) (fun _ => ?_)
        | refine caseb (fun _ => ?_) (fun h => absurd (beq_eq_false_iff_ne.1 h) (by omega))
        | refine caseb (fun h => absurd (eq_of_beq h) (by omega)) (fun _ => ?_)
      repeat
        conv => whnf
        first
          | refine ⟨_, by assumption, ?_⟩
          | refine ⟨(Nat.le_of_ble_eq_true rfl), _, by assumption, ?_⟩
          | refine ⟨by kernel_rfl, ?_⟩
          | exact rfl
          | exact ⟨Nat.le_of_ble_eq_true rfl, rfl⟩
          | refine ⟨by decide, ?_⟩
  · have tl : (((irows .i64 a).length : Int) != ((irows .i64 b).length : Int)) = true := by rw [h1, h2]; simpa using (show ¬ (a.length : Int) = b.length by omega)
    rw [decide_eq_false (fun e => hl (by rw [e]))]
    conv => whnf
    refine caseb (fun _ => ?_) (fun h => Bool.noConfusion ((tl).symm.trans h))
    repeat
      conv => whnf
      first
        | refine ⟨_, by assumption, ?_⟩
        | refine ⟨(Nat.le_of_ble_eq_true rfl), _, by assumption, ?_⟩
        | refine ⟨by kernel_rfl, ?_⟩
        | exact rfl
        | exact ⟨Nat.le_of_ble_eq_true rfl, rfl⟩
        | refine ⟨by decide, ?_⟩

theorem ShSame_ok (a b : List Int) (ha : a.length ≤ 1000000) (hb : b.length ≤ 1000000) : AC Tryz.prog 43 [.sl 1 (irows .i64 a) false, .sl 1 (irows .i64 b) false] (.pure (.val (.bool (decide (a = b))))) := by
  refine AC.of_body TTok Tryz.func43 rfl (enter_of Tryz.func43 (by kernel_rfl) (by kernel_rfl)) (noid2 (noid_sl _ _ _) (noid_sl _ _ _)) (.val _) (Nat.le_of_ble_eq_true rfl) ?_
  have h := Equal_ok a b ha hb
  repeat
    conv => whnf
    first
      | refine ⟨_, by assumption, ?_⟩
      | refine ⟨(Nat.le_of_ble_eq_true rfl), _, by assumption, ?_⟩
      | refine ⟨by kernel_rfl, ?_⟩
      | exact rfl
      | exact ⟨Nat.le_of_ble_eq_true rfl, rfl⟩
      | refine ⟨by decide, ?_⟩
section
variable (sh : List Int) (ch : Bool) (tx : List Int) (ns : List (Option (Rat × Nat))) (made : Bool)
theorem ALen_ok (h1 : tx.length ≤ 1000000) (h2 : ns.length ≤ 1000000) : AC Tryz.prog 40 [AA sh ch tx ns made] (.pure (.val (.int .i64 ((tx.length + ns.length : Nat) : Int)))) := by
  refine AC.of_body TTok Tryz.func40 rfl (enter_of Tryz.func40 (by kernel_rfl) (by kernel_rfl)) (noid1 (AA_noid _ _ _ _ _)) (.val _) (Nat.le_of_ble_eq_true rfl) ?_
  unfold AA
  conv => whnf
  exact valI (by rw [irows_len, List.length_map, IntWalk.i64_in _ (by omega)]; omega)
theorem IsChar_ok : AC Tryz.prog 50 [AA sh ch tx ns made] (.pure (.val (.bool ch))) := by
  refine AC.of_body TTok Tryz.func50 rfl (enter_of Tryz.func50 (by kernel_rfl) (by kernel_rfl)) (noid1 (AA_noid _ _ _ _ _)) (.val _) (Nat.le_of_ble_eq_true rfl) ?_
  unfold AA
  repeat
    conv => whnf
    first
      | refine ⟨_, by assumption, ?_⟩
      | refine ⟨(Nat.le_of_ble_eq_true rfl), _, by assumption, ?_⟩
      | refine ⟨by kernel_rfl, ?_⟩
      | exact rfl
      | exact ⟨Nat.le_of_ble_eq_true rfl, rfl⟩
      | refine ⟨by decide, ?_⟩
theorem Shape_ok (h : sh.length ≤ 1000000) : AC Tryz.prog 33 [AA sh ch tx ns true] (.pure (.sl 1 (irows .i64 sh) false)) := by
  refine AC.of_body TTok Tryz.func33 rfl (enter_of Tryz.func33 (by kernel_rfl) (by kernel_rfl)) (noid1 (AA_noid _ _ _ _ _)) (noid_sl _ _ _) (Nat.le_of_ble_eq_true rfl) ?_
  have hC := CloneI_ok sh h
  unfold AA
  repeat
    conv => whnf
    first
      | refine ⟨_, by assumption, ?_⟩
      | refine ⟨(Nat.le_of_ble_eq_true rfl), _, by assumption, ?_⟩
      | refine ⟨by kernel_rfl, ?_⟩
      | exact rfl
      | exact ⟨Nat.le_of_ble_eq_true rfl, rfl⟩
      | refine ⟨by decide, ?_⟩
theorem Rank_ok (h : sh.length ≤ 1000000) : AC Tryz.prog 31 [AA sh ch tx ns true] (.pure (.val (.int .i64 (sh.length : Nat)))) := by
  refine AC.of_body TTok Tryz.func31 rfl (enter_of Tryz.func31 (by kernel_rfl) (by kernel_rfl)) (noid1 (AA_noid _ _ _ _ _)) (.val _) (Nat.le_of_ble_eq_true rfl) ?_
  have hS := Shape_ok sh ch tx ns h
  unfold AA at *
  conv => whnf
  refine ⟨_, hS, ?_⟩
  conv => whnf
  exact valI (by rw [irows_len])
theorem Runes86_ok (h : tx.length ≤ 1000000) : AC Tryz.prog 86 [AA sh ch tx ns made] (.pure (.sl 1 (irows .i32 tx) false)) := by
  refine AC.of_body TTok Tryz.func86 rfl (enter_of Tryz.func86 (by kernel_rfl) (by kernel_rfl)) (noid1 (AA_noid _ _ _ _ _)) (noid_sl _ _ _) (Nat.le_of_ble_eq_true rfl) ?_
  have hC := CloneR_ok tx h
  unfold AA
  repeat
    conv => whnf
    first
      | refine ⟨_, by assumption, ?_⟩
      | refine ⟨(Nat.le_of_ble_eq_true rfl), _, by assumption, ?_⟩
      | refine ⟨by kernel_rfl, ?_⟩
      | exact rfl
      | exact ⟨Nat.le_of_ble_eq_true rfl, rfl⟩
      | refine ⟨by decide, ?_⟩
theorem Rats_ok (h : ns.length ≤ 1000000) : AC Tryz.prog 62 [AA sh ch tx ns made] (.pure (.sl 3 (ns.map rowX) false)) := by
  refine AC.of_body TTok Tryz.func62 rfl (enter_of Tryz.func62 (by kernel_rfl) (by kernel_rfl)) (noid1 (AA_noid _ _ _ _ _)) (slX_noid _) (Nat.le_of_ble_eq_true rfl) ?_
  have hC := CloneQ_ok ns h
  unfold AA
  repeat
    conv => whnf
    first
      | refine ⟨_, by assumption, ?_⟩
      | refine ⟨(Nat.le_of_ble_eq_true rfl), _, by assumption, ?_⟩
      | refine ⟨by kernel_rfl, ?_⟩
      | exact rfl
      | exact ⟨Nat.le_of_ble_eq_true rfl, rfl⟩
      | refine ⟨by decide, ?_⟩
theorem RatI_ok (k : Nat) (hk : k < ns.length) (hb : ns.length ≤ 1000000) : AC Tryz.prog 53 [AA sh ch tx ns made, .val (.int .i64 (k : Int))] (.pure (.agg (rowX ns[k]))) := by
  refine AC.of_body TTok Tryz.func53 rfl (enter_of Tryz.func53 (by kernel_rfl) (by kernel_rfl)) (noid2 (AA_noid _ _ _ _ _) (.val _)) (.agg _ (rowX_noid _)) (Nat.le_of_ble_eq_true rfl) ?_
  have hlen : (ns.map rowX).length = ns.length := List.length_map _
  have hg : (ns.map rowX)[k]? = some (rowX ns[k]) := by rw [List.getElem?_map, List.getElem?_eq_getElem hk]; rfl
  unfold AA
  cases hr : ns[k] with
  | none =>
    have hg : (ns.map rowX)[k]? = some [.sl 0 [] true, .val (.bool false), .sl 0 [] true] := by rw [hg, hr]; rfl
    conv => whnf
    first
      | refine caseb (fun _ => ?_) (fun h => absurd (of_decide_eq_false h) (by omega))
      | refine caseb (fun h => absurd (of_decide_eq_true h) (by omega)) (fun _ => ?_)
      | refine caseb (fun _ => ?_) (fun h => absurd (beq_eq_false_iff_ne.1 h) (by omega))
      | refine caseb (fun h => absurd (eq_of_beq h) (by omega)) (fun _ => ?_)
    conv => whnf
    refine ⟨_, ⟨by omega, hg⟩, ?_⟩
    repeat
      conv => whnf
      first
        | refine ⟨_, by assumption, ?_⟩
        | refine ⟨(Nat.le_of_ble_eq_true rfl), _, by assumption, ?_⟩
        | refine ⟨by kernel_rfl, ?_⟩
        | exact rfl
        | exact ⟨Nat.le_of_ble_eq_true rfl, rfl⟩
        | refine ⟨by decide, ?_⟩
  | some p =>
    have hg : (ns.map rowX)[k]? = some [.sl 1 (irows .u32 (limbs p.1.num.natAbs)) false, .val (.bool (decide (p.1.num < 0))), .sl 1 (irows .u32 (limbs p.2)) false] := by rw [hg, hr]; rfl
    conv => whnf
    first
      | refine caseb (fun _ => ?_) (fun h => absurd (of_decide_eq_false h) (by omega))
      | refine caseb (fun h => absurd (of_decide_eq_true h) (by omega)) (fun _ => ?_)
      | refine caseb (fun _ => ?_) (fun h => absurd (beq_eq_false_iff_ne.1 h) (by omega))
      | refine caseb (fun h => absurd (eq_of_beq h) (by omega)) (fun _ => ?_)
    conv => whnf
    refine ⟨_, ⟨by omega, hg⟩, ?_⟩
    repeat
      conv => whnf
      first
        | refine ⟨_, by assumption, ?_⟩
        | refine ⟨(Nat.le_of_ble_eq_true rfl), _, by assumption, ?_⟩
        | refine ⟨by kernel_rfl, ?_⟩
        | exact rfl
        | exact ⟨Nat.le_of_ble_eq_true rfl, rfl⟩
        | refine ⟨by decide, ?_⟩
end
theorem RLen_ok (sh : List Int) (ch : Bool) (tx : List Int) (qs : List Rat) (h1 : tx.length ≤ 1000000) (h2 : qs.length ≤ 1000000) : AC Tryz.prog 60 [PA sh ch tx qs] (.pure (.val (.int .i64 ((tx.length + qs.length : Nat) : Int)))) := by
  refine AC.of_body TTok Tryz.func60 rfl (enter_of Tryz.func60 (by kernel_rfl) (by kernel_rfl)) (noid1 (PA_noid _ _ _ _)) (.val _) (Nat.le_of_ble_eq_true rfl) ?_
  unfold PA
  conv => whnf
  exact valI (by rw [irows_len, List.length_map, IntWalk.i64_in _ (by omega)]; omega)
end Go.Proofs.YtliiekhmpgopnaaGreat

/- Arrays: made of numbers; as the page speaks of them (contracts). -/
set_option linter.unusedVariables false
namespace Go.Proofs.YtliiekhmpgopnaaGreat
open Go Go.AL NM

theorem Nums_ok (sh : List Int) (ns : List (Option (Rat × Nat))) (hv : vS sh) (hc : cntI sh = (ns.length : Int)) (hb : ns.length ≤ 1000000) : AC Tryz.prog 55 [.sl 1 (irows .i64 sh) false, .sl 3 (ns.map rowX) false] (.pure (.tup [AA sh false [] ns true, .val (.bool true)])) := by
  have h8 := hv.1
  have hC := Count_ok sh (by omega)
  rw [CNT_good hv, hc] at hC
  have h1 := CloneI_ok sh (by omega)
  have h2 := CloneQ_ok ns hb
  have hlen : (ns.map rowX).length = ns.length := List.length_map _
  refine AC.le_res (?_ : AC Tryz.prog 55 _ (.pure (.tup [.agg [.sl 1 (irows .i64 sh) false, .val (.bool false), .sl 0 [] true, .sl 3 (ns.map rowX) false, .val (.bool true)], .val (.bool true)]))) (.tup2 (le_agg5 (.refl _) (.refl _) (le_nil 1) (.refl _) (.refl _)) (.refl _)) (.tup _ (noid2 (AA_noid _ _ _ _ _) (.val _)))
  refine AC.of_body TTok Tryz.func55 rfl (enter_of Tryz.func55 (by kernel_rfl) (by kernel_rfl)) (noid2 (noid_sl _ _ _) (slX_noid _)) (.tup _ (noid2 (.agg _ (noid5 (noid_sl _ _ _) (.val _) (.sl _ _ _ (fun r hr => nomatch hr)) (slX_noid _) (.val _))) (.val _))) (Nat.le_of_ble_eq_true rfl) ?_
  have t1 : (((ns.length : Nat) : Int) != ((ns.map rowX).length : Int)) = false := by rw [hlen]; simp
  conv => whnf
  refine ⟨_, hC, ?_⟩
  conv => whnf
  refine caseb (fun h => Bool.noConfusion ((t1).symm.trans h)) (fun _ => ?_)
  repeat
    conv => whnf
    first
      | refine ⟨_, by assumption, ?_⟩
      | refine ⟨(Nat.le_of_ble_eq_true rfl), _, by assumption, ?_⟩
      | refine ⟨by kernel_rfl, ?_⟩
      | exact rfl
      | exact ⟨Nat.le_of_ble_eq_true rfl, rfl⟩
      | refine ⟨by decide, ?_⟩
theorem NumX_ok (o : Option (Rat × Nat)) (ho : okX o) (hs : Sz (valX o) 100000) : AC Tryz.prog 87 [.agg (rowX o)] (.pure (RN (valX o).num (valX o).den)) := by
  cases o with
  | none =>
    have hz : AC Tryz.prog 87 [RA 0 0] (.pure (RN 0 1)) := NumS 0 0 rfl ⟨by show (limbs 0).length ≤ _; rw [limbs_zero]; exact Nat.zero_le _, by show (limbs 1).length ≤ _; rw [limbs_1]; decide⟩
    exact AC.le_args hz rfl (fun i x y hx hy => by
      match i with
      | 0 => cases hx; cases hy; exact RZ_le
      | (i + 1) => cases hx) (noid1 RZ_noid)
  | some p => exact NumS p.1 p.2 ho hs

theorem Plain_ok (sh : List Int) (ch : Bool) (tx : List Int) (ns : List (Option (Rat × Nat))) (h1 : sh.length ≤ 1000) (h2 : tx.length ≤ 100000) (h3 : ns.length ≤ 100000) (ho : ∀ o ∈ ns, okX o ∧ Sz (valX o) 100000) :
    AC Tryz.prog 42 [AA sh ch tx ns true] (.pure (PA sh ch tx (ns.map valX))) := by
  refine AC.of_body TTok Tryz.func42 rfl (enter_of Tryz.func42 (by kernel_rfl) (by kernel_rfl)) (noid1 (AA_noid _ _ _ _ _)) (PA_noid _ _ _ _) (Nat.le_of_ble_eq_true rfl) ?_
  have hS := Shape_ok sh ch tx ns (by omega)
  have hR := Runes86_ok sh ch tx ns true (by omega)
  have hlen : (ns.map rowX).length = ns.length := List.length_map _
  unfold AA at *
  conv => whnf
  refine ⟨_, hS, ?_⟩
  conv => whnf
  refine ⟨_, hR, ?_⟩
  conv => whnf
  refine ⟨by kernel_rfl, ?_⟩
  conv => whnf
  refine SW.nilC 72 3 3 rfl rfl ?_
  refine SW.loopM TTok (fun i : Nat => [(2, .lp 8 0), (3, .lp 72 0), (14, .sl 3 (ns.map rowX) false), (15, .val (.int .i64 ((ns.map rowX).length : Int))), (16, .val (.int .i64 (i : Int)))])
    (fun i => [(8, .cells 4 [[.sl 0 [] true, .val (.bool false), .sl 0 [] true, .sl 0 [] true]]), (72, .cells 4 [[.sl 1 (irows .i64 sh) false, .val (.bool ch), .sl 1 (irows .i32 tx) false, .own 120 0 i]]), (120, .cells 3 (((ns.take i).map valX).map rowN))]) 128 29 rfl (fun i => ns.length - i) (fun i => i ≤ ns.length) 0 [] (Nat.zero_le _)
    ⟨⟨rfl, rfl⟩, ⟨rfl, rfl⟩, ⟨rfl, rfl⟩, ⟨rfl, rfl⟩, ⟨rfl, rfl⟩, trivial⟩ ⟨⟨rfl, .inr ⟨rfl, rfl⟩⟩, ⟨rfl, .inr ⟨rfl, rfl⟩⟩, ⟨rfl, .inl ⟨rfl, rowsN_noid _⟩⟩, trivial⟩ rfl ?_
  intro i hi
  have hi : i ≤ ns.length := hi
  have hql : (((ns.take i).map valX).map rowN).length = i := by rw [List.length_map, List.length_map, List.length_take]; omega
  by_cases hlt : i < ns.length
  · have eI : IntKind.i64.wrap ((i : Int) + 1) = ((i + 1 : Nat) : Int) := by rw [IntWalk.i64_in _ (by omega)]; omega
    have hg : (ns.map rowX)[i]? = some (rowX ns[i]) := by rw [List.getElem?_map, List.getElem?_eq_getElem hlt]; rfl
    obtain ⟨o1, o2⟩ := ho _ (List.getElem_mem hlt)
    have hN := NumX_ok ns[i] o1 o2
    have hsn : ((ns.take i).map valX).map rowN ++ [rowN (valX ns[i])] = ((ns.take (i + 1)).map valX).map rowN := by
      rw [take_snoc hlt, List.map_append, List.map_append]; rfl
    have hdt : (((ns.take i).map valX).map rowN).drop 0 = ((ns.take i).map valX).map rowN := rfl
    have htk : ((((ns.take i).map valX).map rowN).drop 0).take i = ((ns.take i).map valX).map rowN := by rw [hdt, List.take_of_length_le (by omega)]
    cases hr : ns[i] with
    | none =>
      rw [hr] at hg hN hsn
      have hg : (ns.map rowX)[i]? = some [.sl 0 [] true, .val (.bool false), .sl 0 [] true] := hg
      have hN : AC Tryz.prog 87 [.agg [.sl 0 [] true, .val (.bool false), .sl 0 [] true]] (.pure (.agg (rowN (valX none)))) := hN
      unfold rowN at hN
      conv => whnf
      first
        | refine caseb (fun _ => ?_) (fun h => absurd (of_decide_eq_false h) (by omega))
        | refine caseb (fun h => absurd (of_decide_eq_true h) (by omega)) (fun _ => ?_)
        | refine caseb (fun _ => ?_) (fun h => absurd (beq_eq_false_iff_ne.1 h) (by omega))
        | refine caseb (fun h => absurd (eq_of_beq h) (by omega)) (fun _ => ?_)
      conv => whnf
      refine ⟨_, ⟨by omega, hg⟩, ?_⟩
      conv => whnf
      refine ⟨_, hN, ?_⟩
      conv => whnf
      refine ⟨⟨by show 0 + i ≤ _; omega, by show (i + 1) * 40 ≤ 140737488355328; omega, Nat.le_of_ble_eq_true rfl⟩, ?_⟩
      conv => whnf
      refine ⟨by kernel_rfl, ?_⟩
      conv => whnf
      refine ⟨i + 1, [(120, 208)], (by show ns.length - (i + 1) < ns.length - i; omega), hlt, ⟨⟨rfl, rfl⟩, ⟨rfl, rfl⟩, ⟨rfl, rfl⟩, ⟨rfl, rfl⟩, ⟨valI eI, rfl⟩, trivial⟩, ⟨⟨rfl, .inr ⟨rfl, rfl⟩⟩, ⟨rfl, .inr ⟨rfl, rfl⟩⟩, ⟨rfl, .inl ⟨celE ?_, rowsN_noid _⟩⟩, trivial⟩, rfl⟩
      rw [← hsn]
      show List.take i (List.drop 0 (((ns.take i).map valX).map rowN)) ++ [rowN (valX none)] = _
      rw [htk]
    | some p =>
      rw [hr] at hg hN hsn
      have hg : (ns.map rowX)[i]? = some [.sl 1 (irows .u32 (limbs p.1.num.natAbs)) false, .val (.bool (decide (p.1.num < 0))), .sl 1 (irows .u32 (limbs p.2)) false] := hg
      have hN : AC Tryz.prog 87 [.agg [.sl 1 (irows .u32 (limbs p.1.num.natAbs)) false, .val (.bool (decide (p.1.num < 0))), .sl 1 (irows .u32 (limbs p.2)) false]] (.pure (.agg (rowN (valX (some p))))) := hN
      unfold rowN at hN
      conv => whnf
      first
        | refine caseb (fun _ => ?_) (fun h => absurd (of_decide_eq_false h) (by omega))
        | refine caseb (fun h => absurd (of_decide_eq_true h) (by omega)) (fun _ => ?_)
        | refine caseb (fun _ => ?_) (fun h => absurd (beq_eq_false_iff_ne.1 h) (by omega))
        | refine caseb (fun h => absurd (eq_of_beq h) (by omega)) (fun _ => ?_)
      conv => whnf
      refine ⟨_, ⟨by omega, hg⟩, ?_⟩
      conv => whnf
      refine ⟨_, hN, ?_⟩
      conv => whnf
      refine ⟨⟨by show 0 + i ≤ _; omega, by show (i + 1) * 40 ≤ 140737488355328; omega, Nat.le_of_ble_eq_true rfl⟩, ?_⟩
      conv => whnf
      refine ⟨by kernel_rfl, ?_⟩
      conv => whnf
      refine ⟨i + 1, [(120, 208)], (by show ns.length - (i + 1) < ns.length - i; omega), hlt, ⟨⟨rfl, rfl⟩, ⟨rfl, rfl⟩, ⟨rfl, rfl⟩, ⟨rfl, rfl⟩, ⟨valI eI, rfl⟩, trivial⟩, ⟨⟨rfl, .inr ⟨rfl, rfl⟩⟩, ⟨rfl, .inr ⟨rfl, rfl⟩⟩, ⟨rfl, .inl ⟨celE ?_, rowsN_noid _⟩⟩, trivial⟩, rfl⟩
      rw [← hsn]
      show List.take i (List.drop 0 (((ns.take i).map valX).map rowN)) ++ [rowN (valX (some p))] = _
      rw [htk]
  · have hie : i = ns.length := by omega
    subst hie
    rw [List.take_length] at *
    conv => whnf
    first
      | refine caseb (fun _ => ?_) (fun h => absurd (of_decide_eq_false h) (by omega))
      | refine caseb (fun h => absurd (of_decide_eq_true h) (by omega)) (fun _ => ?_)
      | refine caseb (fun _ => ?_) (fun h => absurd (beq_eq_false_iff_ne.1 h) (by omega))
      | refine caseb (fun h => absurd (eq_of_beq h) (by omega)) (fun _ => ?_)
    conv => whnf
    refine ⟨by show 0 + ns.length ≤ _; omega, ?_⟩
    show AV.agg [_, _, _, AV.sl 3 (List.take ns.length (List.drop 0 ((ns.map valX).map rowN))) false] = _
    rw [List.drop_zero, List.take_of_length_le (by omega)]
    rfl

theorem Num_ok' (q : Rat) (d : Nat) : AC Tryz.prog 68 [RA q.num d] (.pure (AA [] false [] [some (q, d)] true)) := by
  refine AC.le_res (?_ : AC Tryz.prog 68 _ (.pure (.agg [.sl 0 [] true, .val (.bool false), .sl 0 [] true, .sl 3 [rowR (q, d)] false, .val (.bool true)]))) (le_agg5 (le_nil 1) (.refl _) (le_nil 1) (.refl _) (.refl _)) (AA_noid _ _ _ _ _)
  refine AC.of_body TTok Tryz.func68 rfl (enter_of Tryz.func68 (by kernel_rfl) (by kernel_rfl)) (noid1 (RA_noid _ _)) (.agg _ (noid5 (.sl _ _ _ (fun r hr => nomatch hr)) (.val _) (.sl _ _ _ (fun r hr => nomatch hr)) (slX_noid [some (q, d)]) (.val _))) (Nat.le_of_ble_eq_true rfl) ?_
  unfold RA rowR
  conv => whnf
  exact ⟨Nat.le_refl _, rfl⟩
theorem AInt_ok (n : Int) (hn : -9223372036854775808 ≤ n ∧ n < 9223372036854775808) : AC Tryz.prog 28 [.val (.int .i64 n)] (.pure (AA [] false [] [some ((n : Rat), 1)] true)) := by
  refine AC.of_body TTok Tryz.func28 rfl (enter_of Tryz.func28 (by kernel_rfl) (by kernel_rfl)) (noid1 (.val _)) (AA_noid _ _ _ _ _) (Nat.le_of_ble_eq_true rfl) ?_
  have h1 := RatFrom_ok n hn
  have h2 := Num_ok' (n : Rat) 1
  rw [Rat.num_intCast] at h2
  generalize some ((n : Rat), 1) = o at *
  unfold RA AA at *
  repeat
    conv => whnf
    first
      | refine ⟨_, by assumption, ?_⟩
      | refine ⟨(Nat.le_of_ble_eq_true rfl), _, by assumption, ?_⟩
      | refine ⟨by kernel_rfl, ?_⟩
      | exact rfl
      | exact ⟨Nat.le_of_ble_eq_true rfl, rfl⟩
      | refine ⟨by decide, ?_⟩
theorem Text_ok' (l : List Int) (hb : l.length ≤ 1000000) : AC Tryz.prog 46 [.sl 1 (irows .i32 l) false] (.pure (AA [(l.length : Int)] true l [] true)) := by
  refine AC.le_res (?_ : AC Tryz.prog 46 _ (.pure (.agg [.sl 1 (irows .i64 [(l.length : Int)]) false, .val (.bool true), .sl 1 (irows .i32 l) false, .sl 0 [] true, .val (.bool true)]))) (le_agg5 (.refl _) (.refl _) (.refl _) (le_nil 3) (.refl _)) (AA_noid _ _ _ _ _)
  refine AC.of_body TTok Tryz.func46 rfl (enter_of Tryz.func46 (by kernel_rfl) (by kernel_rfl)) (noid1 (noid_sl _ _ _)) (.agg _ (noid5 (noid_sl _ _ _) (.val _) (noid_sl _ _ _) (.sl _ _ _ (fun r hr => nomatch hr)) (.val _))) (Nat.le_of_ble_eq_true rfl) ?_
  have h := CloneR_ok l hb
  have hl := irows_len .i32 l
  conv => whnf
  refine ⟨_, h, ?_⟩
  conv => whnf
  refine ⟨Nat.le_refl _, ?_⟩
  rw [hl]; rfl
end Go.Proofs.YtliiekhmpgopnaaGreat

/- Arrays: lists of whole numbers (contracts of both). -/
set_option linter.unusedVariables false
namespace Go.Proofs.YtliiekhmpgopnaaGreat
open Go Go.AL NM

def intX (n : Int) : Option (Rat × Nat) := some ((n : Rat), 1)
def i64b (n : Int) : Prop := -9223372036854775808 ≤ n ∧ n < 9223372036854775808
theorem intX_row (n : Int) : rowX (intX n) = [.sl 1 (irows .u32 (limbs n.natAbs)) false, .val (.bool (decide (n < 0))), .sl 1 (irows .u32 (limbs 1)) false] := by
  show [AV.sl 1 (irows .u32 (limbs ((n : Rat)).num.natAbs)) false, AV.val (.bool (decide (((n : Rat)).num < 0))), AV.sl 1 (irows .u32 (limbs 1)) false] = _
  rw [Rat.num_intCast]
theorem intN_row (n : Int) : rowN (n : Rat) = [.val (.bool (decide (n < 0))), .val (.string (decS n.natAbs)), .val (.string (decS 1))] := by
  unfold rowN
  rw [Rat.num_intCast, Rat.den_intCast]
theorem noid_own5 (n : Int) (l : List (Option (Rat × Nat))) : NoId (.agg [.sl 1 [[.val (.int .i64 n)]] false, .val (.bool false), .sl 0 [] true, .sl 3 (l.map rowX) false, .val (.bool true)]) :=
  .agg _ (noid5 (noid_sl .i64 [n] false) (.val _) (.sl _ _ _ (fun r hr => nomatch hr)) (slX_noid _) (.val _))
theorem AInts_ok (l : List Int) (hb : l.length ≤ 100000) (hl : ∀ n ∈ l, i64b n) : AC Tryz.prog 27 [.sl 1 (irows .i64 l) false] (.pure (AA [(l.length : Int)] false [] (l.map intX) true)) := by
  have hlen := irows_len .i64 l
  refine AC.le_res (?_ : AC Tryz.prog 27 _ (.pure (.agg [.sl 1 [[.val (.int .i64 ((irows .i64 l).length : Int))]] false, .val (.bool false), .sl 0 [] true, .sl 3 ((l.map intX).map rowX) false, .val (.bool true)]))) (by rw [hlen]; exact le_agg5 (.refl _) (.refl _) (le_nil 1) (.refl _) (.refl _)) (AA_noid _ _ _ _ _)
  refine AC.of_body TTok Tryz.func27 rfl (enter_of Tryz.func27 (by kernel_rfl) (by kernel_rfl)) (noid1 (noid_sl _ _ _)) (noid_own5 _ _) (Nat.le_of_ble_eq_true rfl) ?_
  conv => whnf
  refine SW.nilC 40 3 3 rfl rfl ?_
  refine SW.loopM TTok (fun i : Nat => [(2, .lp 0 0), (3, .lp 40 0), (10, .sl 1 (irows .i64 l) false), (11, .val (.int .i64 ((irows .i64 l).length : Int))), (12, .val (.int .i64 (i : Int)))])
    (fun i => [(0, .cells 5 [[.sl 0 [] true, .val (.bool false), .sl 0 [] true, .sl 0 [] true, .val (.bool false)]]), (24, .cells 1 [[.val (.int .i64 ((irows .i64 l).length : Int))]]), (40, .cells 5 [[.own 24 0 1, .val (.bool false), .sl 0 [] true, .own 80 0 i, .val (.bool true)]]), (80, .cells 3 (((l.take i).map intX).map rowX))]) 88 25 rfl (fun i => l.length - i) (fun i => i ≤ l.length) 0 [] (Nat.zero_le _)
    ⟨⟨rfl, rfl⟩, ⟨rfl, rfl⟩, ⟨rfl, rfl⟩, ⟨rfl, rfl⟩, ⟨rfl, rfl⟩, trivial⟩ ⟨⟨rfl, .inr ⟨rfl, rfl⟩⟩, ⟨rfl, .inr ⟨rfl, rfl⟩⟩, ⟨rfl, .inr ⟨rfl, rfl⟩⟩, ⟨rfl, .inl ⟨rfl, rowsX_noid _⟩⟩, trivial⟩ rfl ?_
  intro i hi
  have hi : i ≤ l.length := hi
  have hql : (((l.take i).map intX).map rowX).length = i := by rw [List.length_map, List.length_map, List.length_take]; omega
  by_cases hlt : i < l.length
  · have eI : IntKind.i64.wrap ((i : Int) + 1) = ((i + 1 : Nat) : Int) := by rw [IntWalk.i64_in _ (by omega)]; omega
    have hg := irows_get .i64 l (List.getElem?_eq_getElem hlt)
    have hF := RatFrom_ok l[i] (hl _ (List.getElem_mem hlt))
    have hsn : ((l.take i).map intX).map rowX ++ [rowX (intX l[i])] = ((l.take (i + 1)).map intX).map rowX := by
      rw [take_snoc hlt, List.map_append, List.map_append]; rfl
    have htk : ((((l.take i).map intX).map rowX).drop 0).take i = ((l.take i).map intX).map rowX := by rw [List.drop_zero, List.take_of_length_le (by omega)]
    unfold RA at hF
    conv => whnf
    first
      | refine caseb (fun _ => ?_) (fun h => absurd (of_decide_eq_false h) (by omega))
      | refine caseb (fun h => absurd (of_decide_eq_true h) (by omega)) (fun _ => ?_)
      | refine caseb (fun _ => ?_) (fun h => absurd (beq_eq_false_iff_ne.1 h) (by omega))
      | refine caseb (fun h => absurd (eq_of_beq h) (by omega)) (fun _ => ?_)
    conv => whnf
    refine ⟨_, ⟨by omega, hg⟩, ?_⟩
    conv => whnf
    refine ⟨_, hF, ?_⟩
    conv => whnf
    refine ⟨⟨by show 0 + i ≤ _; omega, by show (i + 1) * 56 ≤ 140737488355328; omega, Nat.le_of_ble_eq_true rfl⟩, ?_⟩
    conv => whnf
    refine ⟨by kernel_rfl, ?_⟩
    conv => whnf
    refine ⟨i + 1, [(80, 160)], (by show l.length - (i + 1) < l.length - i; omega), hlt, ⟨⟨rfl, rfl⟩, ⟨rfl, rfl⟩, ⟨rfl, rfl⟩, ⟨rfl, rfl⟩, ⟨valI eI, rfl⟩, trivial⟩, ⟨⟨rfl, .inr ⟨rfl, rfl⟩⟩, ⟨rfl, .inr ⟨rfl, rfl⟩⟩, ⟨rfl, .inr ⟨rfl, rfl⟩⟩, ⟨rfl, .inl ⟨celE ?_, rowsX_noid _⟩⟩, trivial⟩, rfl⟩
    rw [← hsn, intX_row]
    show List.take i (List.drop 0 (((l.take i).map intX).map rowX)) ++ [_] = _
    rw [htk]; rfl
  · have hie : i = l.length := by omega
    subst hie
    rw [List.take_length] at *
    conv => whnf
    first
      | refine caseb (fun _ => ?_) (fun h => absurd (of_decide_eq_false h) (by omega))
      | refine caseb (fun h => absurd (of_decide_eq_true h) (by omega)) (fun _ => ?_)
      | refine caseb (fun _ => ?_) (fun h => absurd (beq_eq_false_iff_ne.1 h) (by omega))
      | refine caseb (fun h => absurd (eq_of_beq h) (by omega)) (fun _ => ?_)
    conv => whnf
    refine ⟨⟨by first | exact Nat.le_refl _ | (show 0 + l.length ≤ _; omega), by first | exact Nat.le_refl _ | (show 0 + l.length ≤ _; omega)⟩, ?_⟩
    have e : List.take l.length (List.drop 0 ((l.map intX).map rowX)) = (l.map intX).map rowX := by rw [List.drop_zero, List.take_of_length_le (by omega)]
    show AV.agg [_, _, _, AV.sl 3 (List.take l.length (List.drop 0 ((l.map intX).map rowX))) false, _] = _
    rw [e]
    rfl
theorem noid_own4 (n : Int) (l : List Rat) : NoId (.agg [.sl 1 [[.val (.int .i64 n)]] false, .val (.bool false), .sl 0 [] true, .sl 3 (l.map rowN) false]) :=
  .agg _ (noidF (noid_sl .i64 [n] false) (.val _) (.sl _ _ _ (fun r hr => nomatch hr)) (slN_noid _))
theorem RInts_ok (l : List Int) (hb : l.length ≤ 100000) (hl : ∀ n ∈ l, i64b n) : AC Tryz.prog 30 [.sl 1 (irows .i64 l) false] (.pure (PA [(l.length : Int)] false [] (l.map fun n : Int => (n : Rat)))) := by
  have hlen := irows_len .i64 l
  refine AC.le_res (?_ : AC Tryz.prog 30 _ (.pure (.agg [.sl 1 [[.val (.int .i64 ((irows .i64 l).length : Int))]] false, .val (.bool false), .sl 0 [] true, .sl 3 ((l.map fun n : Int => (n : Rat)).map rowN) false]))) (by rw [hlen]; exact le_agg4 (.refl _) (.refl _) (le_nil 1) (.refl _)) (PA_noid _ _ _ _)
  refine AC.of_body TTok Tryz.func30 rfl (enter_of Tryz.func30 (by kernel_rfl) (by kernel_rfl)) (noid1 (noid_sl _ _ _)) (noid_own4 _ _) (Nat.le_of_ble_eq_true rfl) ?_
  conv => whnf
  refine SW.nilC 40 3 3 rfl rfl ?_
  refine SW.loopM TTok (fun i : Nat => [(0, .sl 1 (irows .i64 l) false), (2, .lp 0 0), (3, .lp 40 0), (4, .val (.int .i64 (i : Int)))])
    (fun i => [(0, .cells 4 [[.sl 0 [] true, .val (.bool false), .sl 0 [] true, .sl 0 [] true]]), (24, .cells 1 [[.val (.int .i64 ((irows .i64 l).length : Int))]]), (40, .cells 4 [[.own 24 0 1, .val (.bool false), .sl 0 [] true, .own 64 0 i]]), (64, .cells 3 (((l.take i).map fun n : Int => (n : Rat)).map rowN))]) 72 26 rfl (fun i => l.length - i) (fun i => i ≤ l.length) 0 [] (Nat.zero_le _)
    ⟨⟨rfl, rfl⟩, ⟨rfl, rfl⟩, ⟨rfl, rfl⟩, ⟨rfl, rfl⟩, trivial⟩ ⟨⟨rfl, .inr ⟨rfl, rfl⟩⟩, ⟨rfl, .inr ⟨rfl, rfl⟩⟩, ⟨rfl, .inr ⟨rfl, rfl⟩⟩, ⟨rfl, .inl ⟨rfl, rowsN_noid _⟩⟩, trivial⟩ rfl ?_
  intro i hi
  have hi : i ≤ l.length := hi
  have hql : (((l.take i).map fun n : Int => (n : Rat)).map rowN).length = i := by rw [List.length_map, List.length_map, List.length_take]; omega
  by_cases hlt : i < l.length
  · have eI : IntKind.i64.wrap ((i : Int) + 1) = ((i + 1 : Nat) : Int) := by rw [IntWalk.i64_in _ (by omega)]; omega
    have hg := irows_get .i64 l (List.getElem?_eq_getElem hlt)
    have hF := SFrom_ok l[i] (hl _ (List.getElem_mem hlt))
    have hsn : ((l.take i).map fun n : Int => (n : Rat)).map rowN ++ [rowN ((l[i] : Int) : Rat)] = ((l.take (i + 1)).map fun n : Int => (n : Rat)).map rowN := by
      rw [take_snoc hlt, List.map_append, List.map_append]; rfl
    have htk : ((((l.take i).map fun n : Int => (n : Rat)).map rowN).drop 0).take i = ((l.take i).map fun n : Int => (n : Rat)).map rowN := by rw [List.drop_zero, List.take_of_length_le (by omega)]
    unfold RN at hF
    conv => whnf
    first
      | refine caseb (fun _ => ?_) (fun h => absurd (of_decide_eq_false h) (by omega))
      | refine caseb (fun h => absurd (of_decide_eq_true h) (by omega)) (fun _ => ?_)
      | refine caseb (fun _ => ?_) (fun h => absurd (beq_eq_false_iff_ne.1 h) (by omega))
      | refine caseb (fun h => absurd (eq_of_beq h) (by omega)) (fun _ => ?_)
    conv => whnf
    refine ⟨_, ⟨by omega, hg⟩, ?_⟩
    conv => whnf
    refine ⟨_, hF, ?_⟩
    conv => whnf
    refine ⟨⟨by show 0 + i ≤ _; omega, by show (i + 1) * 40 ≤ 140737488355328; omega, Nat.le_of_ble_eq_true rfl⟩, ?_⟩
    conv => whnf
    refine ⟨by kernel_rfl, ?_⟩
    conv => whnf
    refine ⟨i + 1, [(64, 168)], (by show l.length - (i + 1) < l.length - i; omega), hlt, ⟨⟨rfl, rfl⟩, ⟨rfl, rfl⟩, ⟨rfl, rfl⟩, ⟨valI eI, rfl⟩, trivial⟩, ⟨⟨rfl, .inr ⟨rfl, rfl⟩⟩, ⟨rfl, .inr ⟨rfl, rfl⟩⟩, ⟨rfl, .inr ⟨rfl, rfl⟩⟩, ⟨rfl, .inl ⟨celE ?_, rowsN_noid _⟩⟩, trivial⟩, rfl⟩
    rw [← hsn, intN_row]
    show List.take i (List.drop 0 (((l.take i).map fun n : Int => (n : Rat)).map rowN)) ++ [_] = _
    rw [htk]; rfl
  · have hie : i = l.length := by omega
    subst hie
    rw [List.take_length] at *
    conv => whnf
    first
      | refine caseb (fun _ => ?_) (fun h => absurd (of_decide_eq_false h) (by omega))
      | refine caseb (fun h => absurd (of_decide_eq_true h) (by omega)) (fun _ => ?_)
      | refine caseb (fun _ => ?_) (fun h => absurd (beq_eq_false_iff_ne.1 h) (by omega))
      | refine caseb (fun h => absurd (eq_of_beq h) (by omega)) (fun _ => ?_)
    conv => whnf
    refine ⟨⟨by first | exact Nat.le_refl _ | (show 0 + l.length ≤ _; omega), by first | exact Nat.le_refl _ | (show 0 + l.length ≤ _; omega)⟩, ?_⟩
    have e : List.take l.length (List.drop 0 ((l.map fun n : Int => (n : Rat)).map rowN)) = (l.map fun n : Int => (n : Rat)).map rowN := by rw [List.drop_zero, List.take_of_length_le (by omega)]
    show AV.agg [_, _, _, AV.sl 3 (List.take l.length (List.drop 0 ((l.map fun n : Int => (n : Rat)).map rowN))) false] = _
    rw [e]
    rfl
end Go.Proofs.YtliiekhmpgopnaaGreat

/- Arrays: which ones the page speaks of (the document's contracts). -/
set_option linter.unusedVariables false
namespace Go.Proofs.YtliiekhmpgopnaaGreat
open Go Go.AL NM

abbrev TX := Bool × List Int × List Int
def rowB (x : TX) : List AV := [.val (.bool x.1), .val (.string (strL x.2.1)), .val (.string (strL x.2.2))]
theorem rowsB_noid (l : List TX) : ∀ r ∈ l.map rowB, ∀ x ∈ r, NoId x := by
  intro r hr
  obtain ⟨o, _, rfl⟩ := List.mem_map.1 hr
  exact noid3 (.val _) (.val _) (.val _)
theorem slB_noid (l : List TX) : NoId (.sl 3 (l.map rowB) false) := .sl _ _ _ (rowsB_noid l)
def PB (sh : List Int) (ch : Bool) (tx : List Int) (L : List TX) : AV :=
  .agg [.sl 1 (irows .i64 sh) false, .val (.bool ch), .sl 1 (irows .i32 tx) false, .sl 3 (L.map rowB) false]
theorem PB_noid (sh : List Int) (ch : Bool) (tx : List Int) (L : List TX) : NoId (PB sh ch tx L) := .agg _ (noidF (noid_sl _ _ _) (.val _) (noid_sl _ _ _) (slB_noid _))
def RQx (x : TX) : Prop := RQ x.1 x.2.1 x.2.2
def qX (x : TX) : Rat := qOf x.1 x.2.1 x.2.2
def bytX (x : TX) : Prop := Byt x.2.1 ∧ Byt x.2.2
def smX (x : TX) : Prop := x.2.1.length ≤ 40 ∧ x.2.2.length ≤ 40
/-- Does the kind fit the number of elements? -/
def kinds (sh : List Int) (ch : Bool) (a b : Nat) : Prop := if ch then (a : Int) = cntI sh ∧ b = 0 else (b : Int) = cntI sh ∧ a = 0
open Classical in
noncomputable def goodB (sh : List Int) (ch : Bool) (tx : List Int) (L : List TX) : Bool := decide (vS sh ∧ kinds sh ch tx.length L.length ∧ ∀ x ∈ L, RQx x)
open Classical in
theorem goodB_false {sh : List Int} {ch : Bool} {tx : List Int} {L : List TX} (h : ¬ (vS sh ∧ kinds sh ch tx.length L.length ∧ ∀ x ∈ L, RQx x)) : goodB sh ch tx L = false := by unfold goodB; exact decide_eq_false h
open Classical in
theorem goodB_true {sh : List Int} {ch : Bool} {tx : List Int} {L : List TX} (h : vS sh ∧ kinds sh ch tx.length L.length ∧ ∀ x ∈ L, RQx x) : goodB sh ch tx L = true := by unfold goodB; exact decide_eq_true h
open Classical in
theorem goodB_is {sh : List Int} {ch : Bool} {tx : List Int} {L : List TX} (h : goodB sh ch tx L = true) : vS sh ∧ kinds sh ch tx.length L.length ∧ ∀ x ∈ L, RQx x := by unfold goodB at h; exact of_decide_eq_true h

theorem PRight_ok (sh : List Int) (ch : Bool) (tx : List Int) (L : List TX) (h1 : sh.length ≤ 1000) (h2 : tx.length ≤ 1000) (h3 : L.length ≤ 1000) (hB : ∀ x ∈ L, bytX x ∧ smX x) : AC Tryz.prog 66 [PB sh ch tx L] (.pure (.val (.bool (goodB sh ch tx L)))) := by
  refine AC.of_body TTok Tryz.func66 rfl (enter_of Tryz.func66 (by kernel_rfl) (by kernel_rfl)) (noid1 (PB_noid _ _ _ _)) (.val _) (Nat.le_of_ble_eq_true rfl) ?_
  have hC := RCount_ok sh (by omega)
  have l2 := irows_len .i32 tx
  have l3 : (L.map rowB).length = L.length := List.length_map _
  unfold PB
  by_cases hv : vS sh
  · rw [CNT_good hv] at hC
    by_cases hk : kinds sh ch tx.length L.length
    · have hk' := hk
      unfold kinds at hk'
      cases ch with
      | true =>
        obtain ⟨k1, k2⟩ := hk'
        generalize hcn : cntI sh = cn at *
        conv => whnf
        refine ⟨_, hC, ?_⟩
        conv => whnf
        first
          | refine caseb (fun h => absurd (bne_iff_ne.1 h) (by omega)) (fun _ => ?_)
          | refine caseb (fun _ => ?_) (fun h => absurd (bne_eq_false_iff_eq.1 h) (by omega))
        conv => whnf
        first
          | refine caseb (fun h => absurd (bne_iff_ne.1 h) (by omega)) (fun _ => ?_)
          | refine caseb (fun _ => ?_) (fun h => absurd (bne_eq_false_iff_eq.1 h) (by omega))
        conv => whnf
        refine SW.loopM TTok (fun i : Nat => [(1, .lp 0 0), (5, .val (.int .i64 (i : Int)))]) (fun i => [(0, .cells 4 [[.sl 1 (irows .i64 sh) false, .val (.bool true), .sl 1 (irows .i32 tx) false, .sl 3 (L.map rowB) false]])]) 384 63 rfl (fun i => L.length - i) (fun i => i ≤ L.length ∧ ∀ x ∈ L.take i, RQx x) 0 [] ⟨Nat.zero_le _, fun x hx => nomatch hx⟩
          ⟨⟨rfl, rfl⟩, ⟨rfl, rfl⟩, trivial⟩ ⟨⟨rfl, .inr ⟨rfl, rfl⟩⟩, trivial⟩ rfl ?_
        intro i hJ
        have hi : i ≤ L.length := hJ.1
        have hie : L = [] := List.length_eq_zero_iff.1 k2
        rw [goodB_true ⟨hv, hk, by rw [hie]; exact fun x hx => nomatch hx⟩]
        conv => whnf
        first
          | refine caseb (fun _ => ?_) (fun h => absurd (of_decide_eq_false h) (by omega))
          | refine caseb (fun h => absurd (of_decide_eq_true h) (by omega)) (fun _ => ?_)
          | refine caseb (fun _ => ?_) (fun h => absurd (beq_eq_false_iff_ne.1 h) (by omega))
          | refine caseb (fun h => absurd (eq_of_beq h) (by omega)) (fun _ => ?_)
        repeat
          conv => whnf
          first
            | refine ⟨_, by assumption, ?_⟩
            | refine ⟨(Nat.le_of_ble_eq_true rfl), _, by assumption, ?_⟩
            | refine ⟨by kernel_rfl, ?_⟩
            | exact rfl
            | exact ⟨Nat.le_of_ble_eq_true rfl, rfl⟩
            | refine ⟨by decide, ?_⟩
      | false =>
        obtain ⟨k1, k2⟩ := hk'
        generalize hcn : cntI sh = cn at *
        conv => whnf
        refine ⟨_, hC, ?_⟩
        conv => whnf
        first
          | refine caseb (fun h => absurd (bne_iff_ne.1 h) (by omega)) (fun _ => ?_)
          | refine caseb (fun _ => ?_) (fun h => absurd (bne_eq_false_iff_eq.1 h) (by omega))
        conv => whnf
        first
          | refine caseb (fun h => absurd (bne_iff_ne.1 h) (by omega)) (fun _ => ?_)
          | refine caseb (fun _ => ?_) (fun h => absurd (bne_eq_false_iff_eq.1 h) (by omega))
        conv => whnf
        refine SW.loopM TTok (fun i : Nat => [(1, .lp 0 0), (5, .val (.int .i64 (i : Int)))]) (fun i => [(0, .cells 4 [[.sl 1 (irows .i64 sh) false, .val (.bool false), .sl 1 (irows .i32 tx) false, .sl 3 (L.map rowB) false]])]) 384 63 rfl (fun i => L.length - i) (fun i => i ≤ L.length ∧ ∀ x ∈ L.take i, RQx x) 0 [] ⟨Nat.zero_le _, fun x hx => nomatch hx⟩
          ⟨⟨rfl, rfl⟩, ⟨rfl, rfl⟩, trivial⟩ ⟨⟨rfl, .inr ⟨rfl, rfl⟩⟩, trivial⟩ rfl ?_
        intro i hJ
        have hi : i ≤ L.length := hJ.1
        have hq : ∀ x ∈ L.take i, RQx x := hJ.2
        clear hJ
        by_cases hlt : i < L.length
        · have eI : IntKind.i64.wrap ((i : Int) + 1) = ((i + 1 : Nat) : Int) := by rw [IntWalk.i64_in _ (by omega)]; omega
          have hg : (L.map rowB)[i]? = some [.val (.bool L[i].1), .val (.string (strL L[i].2.1)), .val (.string (strL L[i].2.2))] := by rw [List.getElem?_map, List.getElem?_eq_getElem hlt]; rfl
          obtain ⟨⟨b1, b2⟩, b3, b4⟩ := hB _ (List.getElem_mem hlt)
          have hR := SRight_ok L[i].1 L[i].2.1 L[i].2.2 b1 b2 (by omega) (by omega)
          unfold RT at hR
          by_cases hr : RQ L[i].1 L[i].2.1 L[i].2.2
          · rw [decide_eq_true hr] at hR
            conv => whnf
            first
              | refine caseb (fun _ => ?_) (fun h => absurd (of_decide_eq_false h) (by omega))
              | refine caseb (fun h => absurd (of_decide_eq_true h) (by omega)) (fun _ => ?_)
              | refine caseb (fun _ => ?_) (fun h => absurd (beq_eq_false_iff_ne.1 h) (by omega))
              | refine caseb (fun h => absurd (eq_of_beq h) (by omega)) (fun _ => ?_)
            conv => whnf
            refine ⟨_, ⟨by omega, hg⟩, ?_⟩
            conv => whnf
            refine ⟨_, hR, ?_⟩
            conv => whnf
            refine ⟨i + 1, [], (by show L.length - (i + 1) < L.length - i; omega), ⟨hlt, fun x hx => ?_⟩, ⟨⟨rfl, rfl⟩, ⟨valI eI, rfl⟩, trivial⟩, ⟨⟨rfl, .inr ⟨rfl, rfl⟩⟩, trivial⟩, rfl⟩
            rw [take_snoc hlt] at hx
            rcases List.mem_append.1 hx with h | h
            · exact hq x h
            · rw [List.mem_singleton.1 h]; exact hr
          · rw [decide_eq_false hr] at hR
            rw [goodB_false (fun h => hr (h.2.2 _ (List.getElem_mem hlt)))]
            conv => whnf
            first
              | refine caseb (fun _ => ?_) (fun h => absurd (of_decide_eq_false h) (by omega))
              | refine caseb (fun h => absurd (of_decide_eq_true h) (by omega)) (fun _ => ?_)
              | refine caseb (fun _ => ?_) (fun h => absurd (beq_eq_false_iff_ne.1 h) (by omega))
              | refine caseb (fun h => absurd (eq_of_beq h) (by omega)) (fun _ => ?_)
            conv => whnf
            refine ⟨_, ⟨by omega, hg⟩, ?_⟩
            conv => whnf
            refine ⟨_, hR, ?_⟩
            repeat
              conv => whnf
              first
                | refine ⟨_, by assumption, ?_⟩
                | refine ⟨(Nat.le_of_ble_eq_true rfl), _, by assumption, ?_⟩
                | refine ⟨by kernel_rfl, ?_⟩
                | exact rfl
                | exact ⟨Nat.le_of_ble_eq_true rfl, rfl⟩
                | refine ⟨by decide, ?_⟩
        · have hie : i = L.length := by omega
          rw [goodB_true ⟨hv, hk, by rw [hie, List.take_length] at hq; exact hq⟩]
          conv => whnf
          first
            | refine caseb (fun _ => ?_) (fun h => absurd (of_decide_eq_false h) (by omega))
            | refine caseb (fun h => absurd (of_decide_eq_true h) (by omega)) (fun _ => ?_)
            | refine caseb (fun _ => ?_) (fun h => absurd (beq_eq_false_iff_ne.1 h) (by omega))
            | refine caseb (fun h => absurd (eq_of_beq h) (by omega)) (fun _ => ?_)
          repeat
            conv => whnf
            first
              | refine ⟨_, by assumption, ?_⟩
              | refine ⟨(Nat.le_of_ble_eq_true rfl), _, by assumption, ?_⟩
              | refine ⟨by kernel_rfl, ?_⟩
              | exact rfl
              | exact ⟨Nat.le_of_ble_eq_true rfl, rfl⟩
              | refine ⟨by decide, ?_⟩
    · rw [goodB_false (fun h => hk h.2.1)]
      unfold kinds at hk
      cases ch with
      | true =>
        generalize cntI sh = cn at *
        have hk : ¬ ((tx.length : Int) = cn ∧ L.length = 0) := hk
        by_cases h : (tx.length : Int) = cn
        · conv => whnf
          refine ⟨_, hC, ?_⟩
          conv => whnf
          first
            | refine caseb (fun h => absurd (bne_iff_ne.1 h) (by omega)) (fun _ => ?_)
            | refine caseb (fun _ => ?_) (fun h => absurd (bne_eq_false_iff_eq.1 h) (by omega))
          conv => whnf
          first
            | refine caseb (fun h => absurd (bne_iff_ne.1 h) (by omega)) (fun _ => ?_)
            | refine caseb (fun _ => ?_) (fun h => absurd (bne_eq_false_iff_eq.1 h) (by omega))
          repeat
            conv => whnf
            first
              | refine ⟨_, by assumption, ?_⟩
              | refine ⟨(Nat.le_of_ble_eq_true rfl), _, by assumption, ?_⟩
              | refine ⟨by kernel_rfl, ?_⟩
              | exact rfl
              | exact ⟨Nat.le_of_ble_eq_true rfl, rfl⟩
              | refine ⟨by decide, ?_⟩
        · conv => whnf
          refine ⟨_, hC, ?_⟩
          conv => whnf
          first
            | refine caseb (fun h => absurd (bne_iff_ne.1 h) (by omega)) (fun _ => ?_)
            | refine caseb (fun _ => ?_) (fun h => absurd (bne_eq_false_iff_eq.1 h) (by omega))
          repeat
            conv => whnf
            first
              | refine ⟨_, by assumption, ?_⟩
              | refine ⟨(Nat.le_of_ble_eq_true rfl), _, by assumption, ?_⟩
              | refine ⟨by kernel_rfl, ?_⟩
              | exact rfl
              | exact ⟨Nat.le_of_ble_eq_true rfl, rfl⟩
              | refine ⟨by decide, ?_⟩
      | false =>
        generalize cntI sh = cn at *
        have hk : ¬ ((L.length : Int) = cn ∧ tx.length = 0) := hk
        by_cases h : (L.length : Int) = cn
        · conv => whnf
          refine ⟨_, hC, ?_⟩
          conv => whnf
          first
            | refine caseb (fun h => absurd (bne_iff_ne.1 h) (by omega)) (fun _ => ?_)
            | refine caseb (fun _ => ?_) (fun h => absurd (bne_eq_false_iff_eq.1 h) (by omega))
          conv => whnf
          first
            | refine caseb (fun h => absurd (bne_iff_ne.1 h) (by omega)) (fun _ => ?_)
            | refine caseb (fun _ => ?_) (fun h => absurd (bne_eq_false_iff_eq.1 h) (by omega))
          repeat
            conv => whnf
            first
              | refine ⟨_, by assumption, ?_⟩
              | refine ⟨(Nat.le_of_ble_eq_true rfl), _, by assumption, ?_⟩
              | refine ⟨by kernel_rfl, ?_⟩
              | exact rfl
              | exact ⟨Nat.le_of_ble_eq_true rfl, rfl⟩
              | refine ⟨by decide, ?_⟩
        · conv => whnf
          refine ⟨_, hC, ?_⟩
          conv => whnf
          first
            | refine caseb (fun h => absurd (bne_iff_ne.1 h) (by omega)) (fun _ => ?_)
            | refine caseb (fun _ => ?_) (fun h => absurd (bne_eq_false_iff_eq.1 h) (by omega))
          repeat
            conv => whnf
            first
              | refine ⟨_, by assumption, ?_⟩
              | refine ⟨(Nat.le_of_ble_eq_true rfl), _, by assumption, ?_⟩
              | refine ⟨by kernel_rfl, ?_⟩
              | exact rfl
              | exact ⟨Nat.le_of_ble_eq_true rfl, rfl⟩
              | refine ⟨by decide, ?_⟩
  · rw [CNT_bad hv] at hC
    rw [goodB_false (fun h => hv h.1)]
    repeat
      conv => whnf
      first
        | refine ⟨_, by assumption, ?_⟩
        | refine ⟨(Nat.le_of_ble_eq_true rfl), _, by assumption, ?_⟩
        | refine ⟨by kernel_rfl, ?_⟩
        | exact rfl
        | exact ⟨Nat.le_of_ble_eq_true rfl, rfl⟩
        | refine ⟨by decide, ?_⟩
end Go.Proofs.YtliiekhmpgopnaaGreat

/- Arrays: light ones (the document's contract). -/
set_option linter.unusedVariables false
namespace Go.Proofs.YtliiekhmpgopnaaGreat
open Go Go.AL NM

theorem Light_ok (sh : List Int) (ch : Bool) (tx : List Int) (L : List TX) (most : Int) (hm : most ≤ 1000) (h1 : sh.length < 9223372036854775808) (h2 : tx.length < 9223372036854775808) (h3 : L.length < 9223372036854775808) (hB : ∀ x ∈ L, bytX x ∧ x.2.1.length < 9223372036854775808 ∧ x.2.2.length < 9223372036854775808) :
    ∃ r : Bool, (r = true → (tx.length : Int) ≤ most ∧ (L.length : Int) ≤ most ∧ (∀ x ∈ L, smX x) ∧ vS sh ∧ kinds sh ch tx.length L.length ∧ ∀ x ∈ L, RQx x) ∧ AC Tryz.prog 26 [PB sh ch tx L, .val (.int .i64 most)] (.pure (.val (.bool r))) := by
  have l1 := irows_len .i64 sh
  have l2 := irows_len .i32 tx
  have l3 : (L.map rowB).length = L.length := List.length_map _
  by_cases hs : (tx.length : Int) ≤ most ∧ (L.length : Int) ≤ most ∧ sh.length ≤ 8
  · obtain ⟨s1, s2, s3⟩ := hs
    have hloop : ∀ (r : Bool), ((∀ x ∈ L, smX x) → AC Tryz.prog 66 [PB sh ch tx L] (.pure (.val (.bool r)))) → ((¬ ∀ x ∈ L, smX x) → r = false) → AC Tryz.prog 26 [PB sh ch tx L, .val (.int .i64 most)] (.pure (.val (.bool r))) := by
      intro r hr1 hr2
      refine AC.of_body TTok Tryz.func26 rfl (enter_of Tryz.func26 (by kernel_rfl) (by kernel_rfl)) (noid2 (PB_noid _ _ _ _) (.val _)) (.val _) (Nat.le_of_ble_eq_true rfl) ?_
      unfold PB at *
      conv => whnf
      first
        | refine caseb (fun _ => ?_) (fun h => absurd (of_decide_eq_false h) (by omega))
        | refine caseb (fun h => absurd (of_decide_eq_true h) (by omega)) (fun _ => ?_)
        | refine caseb (fun _ => ?_) (fun h => absurd (beq_eq_false_iff_ne.1 h) (by omega))
        | refine caseb (fun h => absurd (eq_of_beq h) (by omega)) (fun _ => ?_)
      conv => whnf
      first
        | refine caseb (fun _ => ?_) (fun h => absurd (of_decide_eq_false h) (by omega))
        | refine caseb (fun h => absurd (of_decide_eq_true h) (by omega)) (fun _ => ?_)
        | refine caseb (fun _ => ?_) (fun h => absurd (beq_eq_false_iff_ne.1 h) (by omega))
        | refine caseb (fun h => absurd (eq_of_beq h) (by omega)) (fun _ => ?_)
      conv => whnf
      first
        | refine caseb (fun _ => ?_) (fun h => absurd (of_decide_eq_false h) (by omega))
        | refine caseb (fun h => absurd (of_decide_eq_true h) (by omega)) (fun _ => ?_)
        | refine caseb (fun _ => ?_) (fun h => absurd (beq_eq_false_iff_ne.1 h) (by omega))
        | refine caseb (fun h => absurd (eq_of_beq h) (by omega)) (fun _ => ?_)
      conv => whnf
      refine SW.loopM TTok (fun i : Nat => [(2, .lp 0 0), (5, .val (.int .i64 (i : Int)))]) (fun i => [(0, .cells 4 [[.sl 1 (irows .i64 sh) false, .val (.bool ch), .sl 1 (irows .i32 tx) false, .sl 3 (L.map rowB) false]])]) 168 51 rfl (fun i => L.length - i) (fun i => i ≤ L.length ∧ ∀ x ∈ L.take i, smX x) 0 [] ⟨Nat.zero_le _, fun x hx => nomatch hx⟩
        ⟨⟨rfl, rfl⟩, ⟨rfl, rfl⟩, trivial⟩ ⟨⟨rfl, .inr ⟨rfl, rfl⟩⟩, trivial⟩ rfl ?_
      intro i hJ
      have hi : i ≤ L.length := hJ.1
      have hq : ∀ x ∈ L.take i, smX x := hJ.2
      clear hJ
      by_cases hlt : i < L.length
      · have eI : IntKind.i64.wrap ((i : Int) + 1) = ((i + 1 : Nat) : Int) := by rw [IntWalk.i64_in _ (by omega)]; omega
        have hg : (L.map rowB)[i]? = some [.val (.bool L[i].1), .val (.string (strL L[i].2.1)), .val (.string (strL L[i].2.2))] := by rw [List.getElem?_map, List.getElem?_eq_getElem hlt]; rfl
        have z1 := strL_size L[i].2.1
        have z2 := strL_size L[i].2.2
        by_cases hx1 : L[i].2.1.length ≤ 40
        · have f1 : decide (((strL L[i].2.1).size : Int) > 40) = false := decide_eq_false (by omega)
          by_cases hx2 : L[i].2.2.length ≤ 40
          · have f2 : decide (((strL L[i].2.2).size : Int) > 40) = false := decide_eq_false (by omega)
            conv => whnf
            first
              | refine caseb (fun _ => ?_) (fun h => absurd (of_decide_eq_false h) (by omega))
              | refine caseb (fun h => absurd (of_decide_eq_true h) (by omega)) (fun _ => ?_)
              | refine caseb (fun _ => ?_) (fun h => absurd (beq_eq_false_iff_ne.1 h) (by omega))
              | refine caseb (fun h => absurd (eq_of_beq h) (by omega)) (fun _ => ?_)
            conv => whnf
            refine ⟨_, ⟨by omega, hg⟩, ?_⟩
            conv => whnf
            refine caseb (fun h => Bool.noConfusion ((f1).symm.trans h)) (fun _ => ?_)
            conv => whnf
            refine ⟨_, ⟨by omega, hg⟩, ?_⟩
            conv => whnf
            refine caseb (fun h => Bool.noConfusion ((f2).symm.trans h)) (fun _ => ?_)
            conv => whnf
            refine ⟨i + 1, [], (by show L.length - (i + 1) < L.length - i; omega), ⟨hlt, fun x hx => ?_⟩, ⟨⟨rfl, rfl⟩, ⟨valI eI, rfl⟩, trivial⟩, ⟨⟨rfl, .inr ⟨rfl, rfl⟩⟩, trivial⟩, rfl⟩
            rw [take_snoc hlt] at hx
            rcases List.mem_append.1 hx with h | h
            · exact hq x h
            · rw [List.mem_singleton.1 h]; exact ⟨hx1, hx2⟩
          · have f2 : decide (((strL L[i].2.2).size : Int) > 40) = true := decide_eq_true (by omega)
            rw [hr2 (fun h => hx2 (h _ (List.getElem_mem hlt)).2)]
            conv => whnf
            first
              | refine caseb (fun _ => ?_) (fun h => absurd (of_decide_eq_false h) (by omega))
              | refine caseb (fun h => absurd (of_decide_eq_true h) (by omega)) (fun _ => ?_)
              | refine caseb (fun _ => ?_) (fun h => absurd (beq_eq_false_iff_ne.1 h) (by omega))
              | refine caseb (fun h => absurd (eq_of_beq h) (by omega)) (fun _ => ?_)
            conv => whnf
            refine ⟨_, ⟨by omega, hg⟩, ?_⟩
            conv => whnf
            refine caseb (fun h => Bool.noConfusion ((f1).symm.trans h)) (fun _ => ?_)
            conv => whnf
            refine ⟨_, ⟨by omega, hg⟩, ?_⟩
            conv => whnf
            refine caseb (fun _ => ?_) (fun h => Bool.noConfusion ((f2).symm.trans h))
            repeat
              conv => whnf
              first
                | refine ⟨_, by assumption, ?_⟩
                | refine ⟨(Nat.le_of_ble_eq_true rfl), _, by assumption, ?_⟩
                | refine ⟨by kernel_rfl, ?_⟩
                | exact rfl
                | exact ⟨Nat.le_of_ble_eq_true rfl, rfl⟩
                | refine ⟨by decide, ?_⟩
        · have f1 : decide (((strL L[i].2.1).size : Int) > 40) = true := decide_eq_true (by omega)
          rw [hr2 (fun h => hx1 (h _ (List.getElem_mem hlt)).1)]
          conv => whnf
          first
            | refine caseb (fun _ => ?_) (fun h => absurd (of_decide_eq_false h) (by omega))
            | refine caseb (fun h => absurd (of_decide_eq_true h) (by omega)) (fun _ => ?_)
            | refine caseb (fun _ => ?_) (fun h => absurd (beq_eq_false_iff_ne.1 h) (by omega))
            | refine caseb (fun h => absurd (eq_of_beq h) (by omega)) (fun _ => ?_)
          conv => whnf
          refine ⟨_, ⟨by omega, hg⟩, ?_⟩
          conv => whnf
          refine caseb (fun _ => ?_) (fun h => Bool.noConfusion ((f1).symm.trans h))
          repeat
            conv => whnf
            first
              | refine ⟨_, by assumption, ?_⟩
              | refine ⟨(Nat.le_of_ble_eq_true rfl), _, by assumption, ?_⟩
              | refine ⟨by kernel_rfl, ?_⟩
              | exact rfl
              | exact ⟨Nat.le_of_ble_eq_true rfl, rfl⟩
              | refine ⟨by decide, ?_⟩
      · have hie : i = L.length := by omega
        have hR := hr1 (by rw [hie, List.take_length] at hq; exact hq)
        conv => whnf
        first
          | refine caseb (fun _ => ?_) (fun h => absurd (of_decide_eq_false h) (by omega))
          | refine caseb (fun h => absurd (of_decide_eq_true h) (by omega)) (fun _ => ?_)
          | refine caseb (fun _ => ?_) (fun h => absurd (beq_eq_false_iff_ne.1 h) (by omega))
          | refine caseb (fun h => absurd (eq_of_beq h) (by omega)) (fun _ => ?_)
        repeat
          conv => whnf
          first
            | refine ⟨_, by assumption, ?_⟩
            | refine ⟨(Nat.le_of_ble_eq_true rfl), _, by assumption, ?_⟩
            | refine ⟨by kernel_rfl, ?_⟩
            | exact rfl
            | exact ⟨Nat.le_of_ble_eq_true rfl, rfl⟩
            | refine ⟨by decide, ?_⟩
    by_cases hall : ∀ x ∈ L, smX x
    · refine ⟨goodB sh ch tx L, fun h => ?_, hloop _ (fun _ => PRight_ok sh ch tx L (by omega) (by omega) (by omega) (fun x hx => ⟨(hB x hx).1, hall x hx⟩)) (fun h => absurd hall h)⟩
      obtain ⟨g1, g2, g3⟩ := goodB_is h
      exact ⟨s1, s2, hall, g1, g2, g3⟩
    · exact ⟨false, fun h => Bool.noConfusion h, hloop false (fun h => absurd h hall) (fun _ => rfl)⟩
  · refine ⟨false, fun h => Bool.noConfusion h, ?_⟩
    refine AC.of_body TTok Tryz.func26 rfl (enter_of Tryz.func26 (by kernel_rfl) (by kernel_rfl)) (noid2 (PB_noid _ _ _ _) (.val _)) (.val _) (Nat.le_of_ble_eq_true rfl) ?_
    unfold PB
    by_cases c1 : (tx.length : Int) ≤ most
    · by_cases c2 : (L.length : Int) ≤ most
      · have c3 : ¬ sh.length ≤ 8 := fun h => hs ⟨c1, c2, h⟩
        conv => whnf
        first
          | refine caseb (fun _ => ?_) (fun h => absurd (of_decide_eq_false h) (by omega))
          | refine caseb (fun h => absurd (of_decide_eq_true h) (by omega)) (fun _ => ?_)
          | refine caseb (fun _ => ?_) (fun h => absurd (beq_eq_false_iff_ne.1 h) (by omega))
          | refine caseb (fun h => absurd (eq_of_beq h) (by omega)) (fun _ => ?_)
        conv => whnf
        first
          | refine caseb (fun _ => ?_) (fun h => absurd (of_decide_eq_false h) (by omega))
          | refine caseb (fun h => absurd (of_decide_eq_true h) (by omega)) (fun _ => ?_)
          | refine caseb (fun _ => ?_) (fun h => absurd (beq_eq_false_iff_ne.1 h) (by omega))
          | refine caseb (fun h => absurd (eq_of_beq h) (by omega)) (fun _ => ?_)
        conv => whnf
        first
          | refine caseb (fun _ => ?_) (fun h => absurd (of_decide_eq_false h) (by omega))
          | refine caseb (fun h => absurd (of_decide_eq_true h) (by omega)) (fun _ => ?_)
          | refine caseb (fun _ => ?_) (fun h => absurd (beq_eq_false_iff_ne.1 h) (by omega))
          | refine caseb (fun h => absurd (eq_of_beq h) (by omega)) (fun _ => ?_)
        repeat
          conv => whnf
          first
            | refine ⟨_, by assumption, ?_⟩
            | refine ⟨(Nat.le_of_ble_eq_true rfl), _, by assumption, ?_⟩
            | refine ⟨by kernel_rfl, ?_⟩
            | exact rfl
            | exact ⟨Nat.le_of_ble_eq_true rfl, rfl⟩
            | refine ⟨by decide, ?_⟩
      · conv => whnf
        first
          | refine caseb (fun _ => ?_) (fun h => absurd (of_decide_eq_false h) (by omega))
          | refine caseb (fun h => absurd (of_decide_eq_true h) (by omega)) (fun _ => ?_)
          | refine caseb (fun _ => ?_) (fun h => absurd (beq_eq_false_iff_ne.1 h) (by omega))
          | refine caseb (fun h => absurd (eq_of_beq h) (by omega)) (fun _ => ?_)
        conv => whnf
        first
          | refine caseb (fun _ => ?_) (fun h => absurd (of_decide_eq_false h) (by omega))
          | refine caseb (fun h => absurd (of_decide_eq_true h) (by omega)) (fun _ => ?_)
          | refine caseb (fun _ => ?_) (fun h => absurd (beq_eq_false_iff_ne.1 h) (by omega))
          | refine caseb (fun h => absurd (eq_of_beq h) (by omega)) (fun _ => ?_)
        repeat
          conv => whnf
          first
            | refine ⟨_, by assumption, ?_⟩
            | refine ⟨(Nat.le_of_ble_eq_true rfl), _, by assumption, ?_⟩
            | refine ⟨by kernel_rfl, ?_⟩
            | exact rfl
            | exact ⟨Nat.le_of_ble_eq_true rfl, rfl⟩
            | refine ⟨by decide, ?_⟩
    · conv => whnf
      first
        | refine caseb (fun _ => ?_) (fun h => absurd (of_decide_eq_false h) (by omega))
        | refine caseb (fun h => absurd (of_decide_eq_true h) (by omega)) (fun _ => ?_)
        | refine caseb (fun _ => ?_) (fun h => absurd (beq_eq_false_iff_ne.1 h) (by omega))
        | refine caseb (fun h => absurd (eq_of_beq h) (by omega)) (fun _ => ?_)
      repeat
        conv => whnf
        first
          | refine ⟨_, by assumption, ?_⟩
          | refine ⟨(Nat.le_of_ble_eq_true rfl), _, by assumption, ?_⟩
          | refine ⟨by kernel_rfl, ?_⟩
          | exact rfl
          | exact ⟨Nat.le_of_ble_eq_true rfl, rfl⟩
          | refine ⟨by decide, ?_⟩
/-- What is read of an array as the page speaks of it, if it is light. -/
theorem PB_PA {sh : List Int} {ch : Bool} {tx : List Int} {L : List TX} (h : ∀ x ∈ L, RQx x) : PB sh ch tx L = PA sh ch tx (L.map qX) := by
  have : L.map rowB = (L.map qX).map rowN := by
    rw [List.map_map]
    refine List.map_congr_left (fun x hx => ?_)
    have := RQ_is (h x hx)
    unfold RT RN at this
    exact AV.agg.inj this
  unfold PB PA
  rw [this]
/-- A number as the page speaks of it, short. -/
def QR (q : Rat) : Prop := ∃ b s t, RQ b s t ∧ Byt s ∧ Byt t ∧ s.length ≤ 40 ∧ t.length ≤ 40 ∧ q = qOf b s t
theorem QR.sz {q : Rat} (h : QR q) : Sz q 5 := by
  obtain ⟨b, s, t, h1, _, _, h4, h5, rfl⟩ := h
  exact RQ_sz h1 h4 h5 (by decide)
theorem QR.of {q : Rat} (h : QR q) : AC Tryz.prog 79 [RN q.num q.den] (.pure (.tup [RA q.num q.den, .val (.bool true)])) := by
  obtain ⟨b, s, t, h1, h2, h3, h4, h5, rfl⟩ := h
  have hO := SOf_ok b s t h2 h3 (by omega) (by omega) h1.1 h1.2.1 h1.2.2.2.2.1
  rw [decide_eq_true h1, RQ_is h1] at hO
  exact hO
theorem QR.right {q : Rat} (h : QR q) : AC Tryz.prog 121 [RN q.num q.den] (.pure (.val (.bool true))) := by
  obtain ⟨b, s, t, h1, h2, h3, h4, h5, rfl⟩ := h
  have hR := SRight_ok b s t h2 h3 (by omega) (by omega)
  rw [decide_eq_true h1, RQ_is h1] at hR
  exact hR
end Go.Proofs.YtliiekhmpgopnaaGreat

/- Arrays: made of what the page speaks of (the program's contract). -/
set_option linter.unusedVariables false
namespace Go.Proofs.YtliiekhmpgopnaaGreat
open Go Go.AL NM

def ofX (q : Rat) : Option (Rat × Nat) := some (q, q.den)
theorem AOf_ok (sh : List Int) (ch : Bool) (tx : List Int) (qs : List Rat) (hv : vS sh) (hk : kinds sh ch tx.length qs.length) (hQ : ∀ q ∈ qs, QR q) (h2 : tx.length ≤ 1000) (h3 : qs.length ≤ 1000) : AC Tryz.prog 36 [PA sh ch tx qs] (.pure (.tup [AA sh ch tx (qs.map ofX) true, .val (.bool true)])) := by
  refine AC.of_body TTok Tryz.func36 rfl (enter_of Tryz.func36 (by kernel_rfl) (by kernel_rfl)) (noid1 (PA_noid _ _ _ _)) (.tup _ (noid2 (AA_noid _ _ _ _ _) (.val _))) (Nat.le_of_ble_eq_true rfl) ?_
  have h8 := hv.1
  have hC := Count_ok sh (by omega)
  rw [CNT_good hv] at hC
  have h1c := CloneI_ok sh (by omega)
  have h2c := CloneR_ok tx (by omega)
  have l2 := irows_len .i32 tx
  have l3 : (qs.map rowN).length = qs.length := List.length_map _
  unfold kinds at hk
  unfold PA
  cases ch with
  | true =>
    obtain ⟨k1, k2⟩ := hk
    generalize hcn : cntI sh = cn at *
    conv => whnf
    refine ⟨_, hC, ?_⟩
    conv => whnf
    first
      | refine caseb (fun h => absurd (bne_iff_ne.1 h) (by omega)) (fun _ => ?_)
      | refine caseb (fun _ => ?_) (fun h => absurd (bne_eq_false_iff_eq.1 h) (by omega))
    conv => whnf
    first
      | refine caseb (fun _ => ?_) (fun h => absurd (of_decide_eq_false h) (by omega))
      | refine caseb (fun h => absurd (of_decide_eq_true h) (by omega)) (fun _ => ?_)
      | refine caseb (fun _ => ?_) (fun h => absurd (beq_eq_false_iff_ne.1 h) (by omega))
      | refine caseb (fun h => absurd (eq_of_beq h) (by omega)) (fun _ => ?_)
    conv => whnf
    refine ⟨_, h1c, ?_⟩
    conv => whnf
    refine ⟨_, h2c, ?_⟩
    conv => whnf
    refine ⟨by kernel_rfl, ?_⟩
    conv => whnf
    refine SW.nilC 456 3 3 rfl rfl ?_
    refine SW.loopM TTok (fun i : Nat => [(2, .lp 8 0), (6, .lp 456 0), (65, .sl 3 (qs.map rowN) false), (66, .val (.int .i64 ((qs.map rowN).length : Int))), (67, .val (.int .i64 (i : Int)))])
      (fun i => [(8, .cells 5 [[.sl 0 [] true, .val (.bool false), .sl 0 [] true, .sl 0 [] true, .val (.bool false)]]), (456, .cells 5 [[.sl 1 (irows .i64 sh) false, .val (.bool true), .sl 1 (irows .i32 tx) false, .own 504 0 i, .val (.bool true)]]), (504, .cells 3 (((qs.take i).map ofX).map rowX))]) 512 87 rfl (fun i => qs.length - i) (fun i => i ≤ qs.length) 0 [] (Nat.zero_le _)
      ⟨⟨rfl, rfl⟩, ⟨rfl, rfl⟩, ⟨rfl, rfl⟩, ⟨rfl, rfl⟩, ⟨rfl, rfl⟩, trivial⟩ ⟨⟨rfl, .inr ⟨rfl, rfl⟩⟩, ⟨rfl, .inr ⟨rfl, rfl⟩⟩, ⟨rfl, .inl ⟨rfl, rowsX_noid _⟩⟩, trivial⟩ rfl ?_
    intro i hi
    have hi : i ≤ qs.length := hi
    have hql : (((qs.take i).map ofX).map rowX).length = i := by rw [List.length_map, List.length_map, List.length_take]; omega
    by_cases hlt : i < qs.length
    · have eI : IntKind.i64.wrap ((i : Int) + 1) = ((i + 1 : Nat) : Int) := by rw [IntWalk.i64_in _ (by omega)]; omega
      have hg : (qs.map rowN)[i]? = some [.val (.bool (decide (qs[i].num < 0))), .val (.string (decS qs[i].num.natAbs)), .val (.string (decS qs[i].den))] := by rw [List.getElem?_map, List.getElem?_eq_getElem hlt]; rfl
      have hF := (hQ _ (List.getElem_mem hlt)).of
      have hsn : ((qs.take i).map ofX).map rowX ++ [rowX (ofX qs[i])] = ((qs.take (i + 1)).map ofX).map rowX := by
        rw [take_snoc hlt, List.map_append, List.map_append]; rfl
      have htk : ((((qs.take i).map ofX).map rowX).drop 0).take i = ((qs.take i).map ofX).map rowX := by rw [List.drop_zero, List.take_of_length_le (by omega)]
      unfold RA RN at hF
      conv => whnf
      first
        | refine caseb (fun _ => ?_) (fun h => absurd (of_decide_eq_false h) (by omega))
        | refine caseb (fun h => absurd (of_decide_eq_true h) (by omega)) (fun _ => ?_)
        | refine caseb (fun _ => ?_) (fun h => absurd (beq_eq_false_iff_ne.1 h) (by omega))
        | refine caseb (fun h => absurd (eq_of_beq h) (by omega)) (fun _ => ?_)
      conv => whnf
      refine ⟨_, ⟨by omega, hg⟩, ?_⟩
      conv => whnf
      refine ⟨_, hF, ?_⟩
      conv => whnf
      refine ⟨⟨by show 0 + i ≤ _; omega, by show (i + 1) * 56 ≤ 140737488355328; omega, Nat.le_of_ble_eq_true rfl⟩, ?_⟩
      conv => whnf
      refine ⟨i + 1, [(504, 664)], (by show qs.length - (i + 1) < qs.length - i; omega), hlt, ⟨⟨rfl, rfl⟩, ⟨rfl, rfl⟩, ⟨rfl, rfl⟩, ⟨rfl, rfl⟩, ⟨valI eI, rfl⟩, trivial⟩, ⟨⟨rfl, .inr ⟨rfl, rfl⟩⟩, ⟨rfl, .inr ⟨rfl, rfl⟩⟩, ⟨rfl, .inl ⟨celE ?_, rowsX_noid _⟩⟩, trivial⟩, rfl⟩
      rw [← hsn]
      show List.take i (List.drop 0 (((qs.take i).map ofX).map rowX)) ++ [_] = _
      rw [htk]; rfl
    · have hie : i = qs.length := by omega
      rw [hie, List.take_length] at hql
      rw [hie, List.take_length]
      conv => whnf
      first
        | refine caseb (fun _ => ?_) (fun h => absurd (of_decide_eq_false h) (by omega))
        | refine caseb (fun h => absurd (of_decide_eq_true h) (by omega)) (fun _ => ?_)
        | refine caseb (fun _ => ?_) (fun h => absurd (beq_eq_false_iff_ne.1 h) (by omega))
        | refine caseb (fun h => absurd (eq_of_beq h) (by omega)) (fun _ => ?_)
      conv => whnf
      refine ⟨by show 0 + qs.length ≤ _; omega, ?_⟩
      have e : List.take qs.length (List.drop 0 ((qs.map ofX).map rowX)) = (qs.map ofX).map rowX := by rw [List.drop_zero, List.take_of_length_le (by omega)]
      show AV.tup [AV.agg [_, _, _, AV.sl 3 (List.take qs.length (List.drop 0 ((qs.map ofX).map rowX))) false, _], _] = _
      rw [e]
      rfl
  | false =>
    obtain ⟨k1, k2⟩ := hk
    generalize hcn : cntI sh = cn at *
    conv => whnf
    refine ⟨_, hC, ?_⟩
    conv => whnf
    first
      | refine caseb (fun h => absurd (bne_iff_ne.1 h) (by omega)) (fun _ => ?_)
      | refine caseb (fun _ => ?_) (fun h => absurd (bne_eq_false_iff_eq.1 h) (by omega))
    conv => whnf
    first
      | refine caseb (fun _ => ?_) (fun h => absurd (of_decide_eq_false h) (by omega))
      | refine caseb (fun h => absurd (of_decide_eq_true h) (by omega)) (fun _ => ?_)
      | refine caseb (fun _ => ?_) (fun h => absurd (beq_eq_false_iff_ne.1 h) (by omega))
      | refine caseb (fun h => absurd (eq_of_beq h) (by omega)) (fun _ => ?_)
    conv => whnf
    refine ⟨_, h1c, ?_⟩
    conv => whnf
    refine ⟨_, h2c, ?_⟩
    conv => whnf
    refine ⟨by kernel_rfl, ?_⟩
    conv => whnf
    refine SW.nilC 456 3 3 rfl rfl ?_
    refine SW.loopM TTok (fun i : Nat => [(2, .lp 8 0), (6, .lp 456 0), (65, .sl 3 (qs.map rowN) false), (66, .val (.int .i64 ((qs.map rowN).length : Int))), (67, .val (.int .i64 (i : Int)))])
      (fun i => [(8, .cells 5 [[.sl 0 [] true, .val (.bool false), .sl 0 [] true, .sl 0 [] true, .val (.bool false)]]), (456, .cells 5 [[.sl 1 (irows .i64 sh) false, .val (.bool false), .sl 1 (irows .i32 tx) false, .own 504 0 i, .val (.bool true)]]), (504, .cells 3 (((qs.take i).map ofX).map rowX))]) 512 87 rfl (fun i => qs.length - i) (fun i => i ≤ qs.length) 0 [] (Nat.zero_le _)
      ⟨⟨rfl, rfl⟩, ⟨rfl, rfl⟩, ⟨rfl, rfl⟩, ⟨rfl, rfl⟩, ⟨rfl, rfl⟩, trivial⟩ ⟨⟨rfl, .inr ⟨rfl, rfl⟩⟩, ⟨rfl, .inr ⟨rfl, rfl⟩⟩, ⟨rfl, .inl ⟨rfl, rowsX_noid _⟩⟩, trivial⟩ rfl ?_
    intro i hi
    have hi : i ≤ qs.length := hi
    have hql : (((qs.take i).map ofX).map rowX).length = i := by rw [List.length_map, List.length_map, List.length_take]; omega
    by_cases hlt : i < qs.length
    · have eI : IntKind.i64.wrap ((i : Int) + 1) = ((i + 1 : Nat) : Int) := by rw [IntWalk.i64_in _ (by omega)]; omega
      have hg : (qs.map rowN)[i]? = some [.val (.bool (decide (qs[i].num < 0))), .val (.string (decS qs[i].num.natAbs)), .val (.string (decS qs[i].den))] := by rw [List.getElem?_map, List.getElem?_eq_getElem hlt]; rfl
      have hF := (hQ _ (List.getElem_mem hlt)).of
      have hsn : ((qs.take i).map ofX).map rowX ++ [rowX (ofX qs[i])] = ((qs.take (i + 1)).map ofX).map rowX := by
        rw [take_snoc hlt, List.map_append, List.map_append]; rfl
      have htk : ((((qs.take i).map ofX).map rowX).drop 0).take i = ((qs.take i).map ofX).map rowX := by rw [List.drop_zero, List.take_of_length_le (by omega)]
      unfold RA RN at hF
      conv => whnf
      first
        | refine caseb (fun _ => ?_) (fun h => absurd (of_decide_eq_false h) (by omega))
        | refine caseb (fun h => absurd (of_decide_eq_true h) (by omega)) (fun _ => ?_)
        | refine caseb (fun _ => ?_) (fun h => absurd (beq_eq_false_iff_ne.1 h) (by omega))
        | refine caseb (fun h => absurd (eq_of_beq h) (by omega)) (fun _ => ?_)
      conv => whnf
      refine ⟨_, ⟨by omega, hg⟩, ?_⟩
      conv => whnf
      refine ⟨_, hF, ?_⟩
      conv => whnf
      refine ⟨⟨by show 0 + i ≤ _; omega, by show (i + 1) * 56 ≤ 140737488355328; omega, Nat.le_of_ble_eq_true rfl⟩, ?_⟩
      conv => whnf
      refine ⟨i + 1, [(504, 664)], (by show qs.length - (i + 1) < qs.length - i; omega), hlt, ⟨⟨rfl, rfl⟩, ⟨rfl, rfl⟩, ⟨rfl, rfl⟩, ⟨rfl, rfl⟩, ⟨valI eI, rfl⟩, trivial⟩, ⟨⟨rfl, .inr ⟨rfl, rfl⟩⟩, ⟨rfl, .inr ⟨rfl, rfl⟩⟩, ⟨rfl, .inl ⟨celE ?_, rowsX_noid _⟩⟩, trivial⟩, rfl⟩
      rw [← hsn]
      show List.take i (List.drop 0 (((qs.take i).map ofX).map rowX)) ++ [_] = _
      rw [htk]; rfl
    · have hie : i = qs.length := by omega
      rw [hie, List.take_length] at hql
      rw [hie, List.take_length]
      conv => whnf
      first
        | refine caseb (fun _ => ?_) (fun h => absurd (of_decide_eq_false h) (by omega))
        | refine caseb (fun h => absurd (of_decide_eq_true h) (by omega)) (fun _ => ?_)
        | refine caseb (fun _ => ?_) (fun h => absurd (beq_eq_false_iff_ne.1 h) (by omega))
        | refine caseb (fun h => absurd (eq_of_beq h) (by omega)) (fun _ => ?_)
      conv => whnf
      refine ⟨by show 0 + qs.length ≤ _; omega, ?_⟩
      have e : List.take qs.length (List.drop 0 ((qs.map ofX).map rowX)) = (qs.map ofX).map rowX := by rw [List.drop_zero, List.take_of_length_le (by omega)]
      show AV.tup [AV.agg [_, _, _, AV.sl 3 (List.take qs.length (List.drop 0 ((qs.map ofX).map rowX))) false, _], _] = _
      rw [e]
      rfl
theorem LOf_ok (sh : List Int) (ch : Bool) (tx : List Int) (qs : List Rat) (hv : vS sh) (hk : kinds sh ch tx.length qs.length) (hQ : ∀ q ∈ qs, QR q) (h2 : tx.length ≤ 1000) (h3 : qs.length ≤ 1000) : AC Tryz.prog 11 [PA sh ch tx qs] (.pure (AA sh ch tx (qs.map ofX) true)) := by
  refine AC.of_body TTok Tryz.func11 rfl (enter_of Tryz.func11 (by kernel_rfl) (by kernel_rfl)) (noid1 (PA_noid _ _ _ _)) (AA_noid _ _ _ _ _) (Nat.le_of_ble_eq_true rfl) ?_
  have h := AOf_ok sh ch tx qs hv hk hQ h2 h3
  generalize (qs.map ofX) = X at *
  unfold PA AA at *
  repeat
    conv => whnf
    first
      | refine ⟨_, by assumption, ?_⟩
      | refine ⟨(Nat.le_of_ble_eq_true rfl), _, by assumption, ?_⟩
      | refine ⟨by kernel_rfl, ?_⟩
      | exact rfl
      | exact ⟨Nat.le_of_ble_eq_true rfl, rfl⟩
      | refine ⟨by decide, ?_⟩
end Go.Proofs.YtliiekhmpgopnaaGreat

/- Arrays: alike ones; the shape of two (contracts). -/
set_option linter.unusedVariables false
namespace Go.Proofs.YtliiekhmpgopnaaGreat
open Go Go.AL NM

theorem PSame_ok (sh : List Int) (ch : Bool) (tx : List Int) (qs : List Rat) (h1 : sh.length ≤ 1000) (h2 : tx.length ≤ 100000) (h3 : qs.length ≤ 100000) : AC Tryz.prog 41 [PA sh ch tx qs, PA sh ch tx qs] (.pure (.val (.bool true))) := by
  refine AC.of_body TTok Tryz.func41 rfl (enter_of Tryz.func41 (by kernel_rfl) (by kernel_rfl)) (noid2 (PA_noid _ _ _ _) (PA_noid _ _ _ _)) (.val _) (Nat.le_of_ble_eq_true rfl) ?_
  have hI := IntsSame_ok sh sh (by omega) (by omega)
  rw [decide_eq_true rfl] at hI
  have hR := Runes_ok tx tx (by omega) (by omega)
  rw [decide_eq_true rfl] at hR
  have l3 : (qs.map rowN).length = qs.length := List.length_map _
  have hbb : (!(ch == ch)) = false := by cases ch <;> rfl
  unfold PA
  conv => whnf
  refine caseb (fun h => Bool.noConfusion ((hbb).symm.trans h)) (fun _ => ?_)
  conv => whnf
  refine ⟨_, hI, ?_⟩
  conv => whnf
  refine ⟨_, hR, ?_⟩
  conv => whnf
  first
    | refine caseb (fun h => absurd (bne_iff_ne.1 h) (by omega)) (fun _ => ?_)
    | refine caseb (fun _ => ?_) (fun h => absurd (bne_eq_false_iff_eq.1 h) (by omega))
  conv => whnf
  refine SW.loopM TTok (fun i : Nat => [(2, .lp 0 0), (3, .lp 8 0), (5, .val (.int .i64 (i : Int)))]) (fun i => [(0, .cells 4 [[.sl 1 (irows .i64 sh) false, .val (.bool ch), .sl 1 (irows .i32 tx) false, .sl 3 (qs.map rowN) false]]), (8, .cells 4 [[.sl 1 (irows .i64 sh) false, .val (.bool ch), .sl 1 (irows .i32 tx) false, .sl 3 (qs.map rowN) false]])]) 272 54 rfl (fun i => qs.length - i) (fun i => i ≤ qs.length) 0 [] (Nat.zero_le _)
    ⟨⟨rfl, rfl⟩, ⟨rfl, rfl⟩, ⟨rfl, rfl⟩, trivial⟩ ⟨⟨rfl, .inr ⟨rfl, rfl⟩⟩, ⟨rfl, .inr ⟨rfl, rfl⟩⟩, trivial⟩ rfl ?_
  intro i hi
  have hi : i ≤ qs.length := hi
  by_cases hlt : i < qs.length
  · have eI : IntKind.i64.wrap ((i : Int) + 1) = ((i + 1 : Nat) : Int) := by rw [IntWalk.i64_in _ (by omega)]; omega
    have hg : (qs.map rowN)[i]? = some [.val (.bool (decide (qs[i].num < 0))), .val (.string (decS qs[i].num.natAbs)), .val (.string (decS qs[i].den))] := by rw [List.getElem?_map, List.getElem?_eq_getElem hlt]; rfl
    conv => whnf
    first
      | refine caseb (fun _ => ?_) (fun h => absurd (of_decide_eq_false h) (by omega))
      | refine caseb (fun h => absurd (of_decide_eq_true h) (by omega)) (fun _ => ?_)
      | refine caseb (fun _ => ?_) (fun h => absurd (beq_eq_false_iff_ne.1 h) (by omega))
      | refine caseb (fun h => absurd (eq_of_beq h) (by omega)) (fun _ => ?_)
    conv => whnf
    refine ⟨_, ⟨by omega, hg⟩, ?_⟩
    conv => whnf
    refine ⟨_, ⟨by omega, hg⟩, ?_⟩
    conv => whnf
    refine ⟨by kernel_rfl, ?_⟩
    conv => whnf
    refine caseb (fun h => Bool.noConfusion ((RN_selfn _ _ _).symm.trans h)) (fun _ => ?_)
    conv => whnf
    refine ⟨i + 1, [], (by show qs.length - (i + 1) < qs.length - i; omega), hlt, ⟨⟨rfl, rfl⟩, ⟨rfl, rfl⟩, ⟨valI eI, rfl⟩, trivial⟩, ⟨⟨rfl, .inr ⟨rfl, rfl⟩⟩, ⟨rfl, .inr ⟨rfl, rfl⟩⟩, trivial⟩, rfl⟩
  · conv => whnf
    first
      | refine caseb (fun _ => ?_) (fun h => absurd (of_decide_eq_false h) (by omega))
      | refine caseb (fun h => absurd (of_decide_eq_true h) (by omega)) (fun _ => ?_)
      | refine caseb (fun _ => ?_) (fun h => absurd (beq_eq_false_iff_ne.1 h) (by omega))
      | refine caseb (fun h => absurd (eq_of_beq h) (by omega)) (fun _ => ?_)
    repeat
      conv => whnf
      first
        | refine ⟨_, by assumption, ?_⟩
        | refine ⟨(Nat.le_of_ble_eq_true rfl), _, by assumption, ?_⟩
        | refine ⟨by kernel_rfl, ?_⟩
        | exact rfl
        | exact ⟨Nat.le_of_ble_eq_true rfl, rfl⟩
        | refine ⟨by decide, ?_⟩
/-- The shape that two arrays make together. -/
def fitS (sa sb : List Int) (la lb : Nat) : List Int × Bool × Bool × Int :=
  if sa = sb then (sa, false, false, 0)
  else if la = 1 ∧ (lb ≠ 1 ∨ sa.length < sb.length) then (sb, true, false, 0)
  else if lb = 1 then (sa, false, true, 0)
  else if sa.length ≠ sb.length then ([], false, false, 23) else ([], false, false, 24)
def FV (x : List Int × Bool × Bool × Int) : AV := .tup [.sl 1 (irows .i64 x.1) false, .val (.bool x.2.1), .val (.bool x.2.2.1), .val (.int .i64 x.2.2.2)]
section
variable (sa sb : List Int) (ca cb : Bool) (ta tb : List Int)
end
end Go.Proofs.YtliiekhmpgopnaaGreat

/- Functions of one number: their signs, how large an answer may be, the truth turned about. -/
set_option linter.unusedVariables false
namespace Go.Proofs.YtliiekhmpgopnaaGreat
open Go Go.AL NM

def isOne (c : Int) : Prop := c = 43 ∨ c = 45 ∨ c = 215 ∨ c = 247 ∨ c = 8968 ∨ c = 8970 ∨ c = 124 ∨ c = 42 ∨ c = 33 ∨ c = 126 ∨ c = 9055 ∨ c = 9675
instance (c : Int) : Decidable (isOne c) := inferInstanceAs (Decidable (_ ∨ _ ∨ _ ∨ _ ∨ _ ∨ _ ∨ _ ∨ _ ∨ _ ∨ _ ∨ _ ∨ _))
/-- A number, if it is of at most so many limbs. -/
def withQ (x : Rat) (most : Int) : Rat × Int := if most < (qLimbs x.num x.den : Nat) then (0, 26) else (x, 0)
/-- The truth turned about. -/
def notQ (x : Rat) : Rat × Int := if x = 0 then (1, 0) else if x = 1 then (0, 0) else (0, 22)
end Go.Proofs.YtliiekhmpgopnaaGreat

/- Functions of one number: the product of all whole numbers up to one. -/
set_option linter.unusedVariables false
namespace Go.Proofs.YtliiekhmpgopnaaGreat
open Go Go.AL NM

def fac : Nat → Nat
  | 0 => 1
  | i + 1 => fac i * (i + 1)
def natQm (q : Rat) : Prop := q.den = 1 ∧ 0 ≤ q.num
instance (q : Rat) : Decidable (natQm q) := inferInstanceAs (Decidable (_ ∧ _))
/-- The product of all whole numbers from 1 up to a number. -/
def facQ (x : Rat) (most : Int) : Rat × Int := if natQm x then withQ (((fac x.num.toNat : Nat) : Int) : Rat) most else (0, 22)
end Go.Proofs.YtliiekhmpgopnaaGreat

/- Functions of one number: all of them. -/
set_option linter.unusedVariables false
namespace Go.Proofs.YtliiekhmpgopnaaGreat
open Go Go.AL NM

/-- What a function makes of one number. -/
def monoQ (c : Int) (x : Rat) (most : Int) : Rat × Int :=
  if c = 43 then withQ x most
  else if c = 45 then withQ (-x) most
  else if c = 215 then withQ ((sigW x.num : Int) : Rat) most
  else if c = 247 then (if x = 0 then (0, 22) else withQ (1 / x) most)
  else if c = 8968 then withQ ((x.ceil : Int) : Rat) most
  else if c = 8970 then withQ ((x.floor : Int) : Rat) most
  else if c = 124 then withQ (if x.num < 0 then -x else x) most
  else if c = 33 then facQ x most
  else if c = 126 then notQ x
  else if isOne c then (0, 22) else (0, 20)
end Go.Proofs.YtliiekhmpgopnaaGreat

/- Functions of one number: the document's. -/
set_option linter.unusedVariables false
namespace Go.Proofs.YtliiekhmpgopnaaGreat
open Go Go.AL NM

end Go.Proofs.YtliiekhmpgopnaaGreat

/- Arrays: a function of each element (the program's contract). -/
set_option linter.unusedVariables false
namespace Go.Proofs.YtliiekhmpgopnaaGreat
open Go Go.AL NM

/-- The first error of a list's elements (0: none). -/
def firstE : List (Rat × Int) → Int
  | [] => 0
  | x :: l => if x.2 = 0 then firstE l else x.2
/-- What an array's element by element function comes to. -/
def resA (sh : List Int) (E : Int) (l : List (Option (Rat × Nat))) : AV := if E = 0 then .tup [AA sh false [] l true, .val (.int .i64 0)] else .tup [AA [] false [] [] false, .val (.int .i64 E)]
section
variable (c : Int) (sh : List Int) (ch : Bool) (tx : List Int) (qs : List Rat) (most : Int)
def oneE : Int := if isOne c then (if ch = true ∧ 0 < tx.length + qs.length then 22 else firstE (qs.map fun q => monoQ c q most)) else 20
end
end Go.Proofs.YtliiekhmpgopnaaGreat

/- Arrays: a function of each element (the program's contract: the loop). -/
set_option linter.unusedVariables false
namespace Go.Proofs.YtliiekhmpgopnaaGreat
open Go Go.AL NM

end Go.Proofs.YtliiekhmpgopnaaGreat

/- Arrays: a function of each element (the document's contract). -/
set_option linter.unusedVariables false
namespace Go.Proofs.YtliiekhmpgopnaaGreat
open Go Go.AL NM

def resP (sh : List Int) (E : Int) (l : List Rat) : AV := if E = 0 then .tup [PA sh false [] l, .val (.int .i64 0)] else .tup [PA [] false [] [], .val (.int .i64 E)]
end Go.Proofs.YtliiekhmpgopnaaGreat

/- Functions of two numbers: their signs. -/
set_option linter.unusedVariables false
namespace Go.Proofs.YtliiekhmpgopnaaGreat
open Go Go.AL NM

def isCmp (c : Int) : Prop := c = 60 ∨ c = 8804 ∨ c = 61 ∨ c = 8805 ∨ c = 62 ∨ c = 8800
instance (c : Int) : Decidable (isCmp c) := inferInstanceAs (Decidable (_ ∨ _ ∨ _ ∨ _ ∨ _ ∨ _))
def isJdg (c : Int) : Prop := c = 8743 ∨ c = 8744 ∨ c = 9074 ∨ c = 9073
instance (c : Int) : Decidable (isJdg c) := inferInstanceAs (Decidable (_ ∨ _ ∨ _ ∨ _))
def isRec (c : Int) : Prop := c = 43 ∨ c = 45 ∨ c = 215 ∨ c = 247 ∨ c = 8968 ∨ c = 8970 ∨ c = 124 ∨ c = 42 ∨ c = 33 ∨ c = 9055 ∨ c = 9675
instance (c : Int) : Decidable (isRec c) := inferInstanceAs (Decidable (_ ∨ _ ∨ _ ∨ _ ∨ _ ∨ _ ∨ _ ∨ _ ∨ _ ∨ _ ∨ _))
def isTwo (c : Int) : Prop := isRec c ∨ isCmp c ∨ isJdg c
instance (c : Int) : Decidable (isTwo c) := inferInstanceAs (Decidable (_ ∨ _))
def signs : List Int := [43, 45, 215, 247, 8968, 8970, 124, 42, 33, 9055, 9675, 60, 8804, 61, 8805, 62, 8800, 8743, 8744, 9074, 9073]
end Go.Proofs.YtliiekhmpgopnaaGreat

/- Functions of two numbers: orders and truths. -/
set_option linter.unusedVariables false
namespace Go.Proofs.YtliiekhmpgopnaaGreat
open Go Go.AL NM

/-- What a sign tells of an order. -/
def cmpS (c n : Int) : Bool :=
  if c = 60 then decide (n < 0) else if c = 8804 then decide (n ≤ 0) else if c = 61 then n == 0 else if c = 8805 then decide (n ≥ 0) else if c = 62 then decide (n > 0) else n != 0

/-- Truths as numbers. -/
def tq (t : Bool) : Rat := if t then 1 else 0
def td (t : Bool) : Nat := if t then 1 else 0
/-- A truth that a number is. -/
def bitQ (q : Rat) : Option Bool := if q = 0 then some false else if q = 1 then some true else none
def jdgB (c : Int) (x y : Bool) : Bool := if c = 8743 then x && y else if c = 8744 then x || y else if c = 9074 then !(x && y) else !(x || y)
def intV (q : Rat) : Int := if fitQ q.num q.den then q.num else 0
/-- What a judging function makes of two numbers. -/
def judgeQ (c : Int) (a b : Rat) : Rat × Int :=
  match bitQ a, bitQ b with
  | some x, some y => (tq (jdgB c x y), 0)
  | _, _ => (0, 22)

end Go.Proofs.YtliiekhmpgopnaaGreat

/- Functions of two numbers: powers. -/
set_option linter.unusedVariables false
namespace Go.Proofs.YtliiekhmpgopnaaGreat
open Go Go.AL NM

/-- A number to another one, or why not. -/
def powerQ (a b : Rat) (most : Int) : Rat × Int :=
  if b.den ≠ 1 ∨ (a = 0 ∧ b.num < 0) then (0, 22)
  else if limQ a ∧ b.num ≠ 0 then (if a.num < 0 ∧ b.num.natAbs % 2 = 0 then -a else a, 0)
  else if ¬ fit b.num then (0, 26)
  else ((powQ a b.num most).1, if (powQ a b.num most).2 then 0 else 26)

end Go.Proofs.YtliiekhmpgopnaaGreat

/- Functions of two numbers: the document's powers. -/
set_option linter.unusedVariables false
namespace Go.Proofs.YtliiekhmpgopnaaGreat
open Go Go.AL NM

end Go.Proofs.YtliiekhmpgopnaaGreat

/- Functions of two numbers: how many ways there are. -/
set_option linter.unusedVariables false
namespace Go.Proofs.YtliiekhmpgopnaaGreat
open Go Go.AL NM

/-- How many ways, factor by factor. -/
def chs (r : Nat) : Nat → Nat
  | 0 => 1
  | i + 1 => chs r i * (r + (i + 1)) / (i + 1)
/-- Is it fewer limbs than may be? -/
def chsOk (k r : Nat) (most : Int) : Prop := k = 0 ∨ ((limbs (chs r k)).length : Int) ≤ most
instance (k r : Nat) (most : Int) : Decidable (chsOk k r most) := inferInstanceAs (Decidable (_ ∨ _))
def natQ (q : Rat) : Prop := q.den = 1 ∧ 0 ≤ q.num
instance (q : Rat) : Decidable (natQ q) := inferInstanceAs (Decidable (_ ∧ _))
/-- How many ways there are to take so many of others, or why not. -/
def chooseQ (a b : Rat) (most : Int) : Rat × Int :=
  if ¬ (natQ a ∧ natQ b) then (0, 22)
  else if b.num < a.num then (0, 0)
  else if chsOk (min a.num (b.num - a.num)).toNat (max a.num (b.num - a.num)).toNat most then (((chs (max a.num (b.num - a.num)).toNat (min a.num (b.num - a.num)).toNat : Nat) : Int), 0)
  else (0, 26)

section
variable (a b : Rat) (i j : Nat) (most : Int) (hi : dn i = a.den) (hj : dn j = b.den) (hm : most ≤ 200) (la : Sz a 90) (lb : Sz b 90) (na : natQ a) (nb : natQ b)
include hi hj la lb na nb
include hm
end

end Go.Proofs.YtliiekhmpgopnaaGreat

/- Functions of two numbers: the document's ways. -/
set_option linter.unusedVariables false
namespace Go.Proofs.YtliiekhmpgopnaaGreat
open Go Go.AL NM

end Go.Proofs.YtliiekhmpgopnaaGreat

/- Functions of two numbers: what reckons. -/
set_option linter.unusedVariables false
namespace Go.Proofs.YtliiekhmpgopnaaGreat
open Go Go.AL NM

/-- What a reckoning function makes of two numbers. -/
def reckonQ (c : Int) (a b : Rat) (most : Int) : Rat × Int :=
  if c = 43 then (a + b, 0)
  else if c = 45 then (a + -b, 0)
  else if c = 215 then (a * b, 0)
  else if c = 247 then (if b ≠ 0 then (a / b, 0) else if a = 0 then (1, 0) else (0, 22))
  else if c = 8968 then (if a < b then b else a, 0)
  else if c = 8970 then (if a < b then a else b, 0)
  else if c = 124 then (restQ a b, 0)
  else if c = 42 then powerQ a b most
  else if c = 33 then chooseQ a b most
  else (0, 22)
theorem cmp_lt {a b : Rat} (h : a < b) : cmpQ a b = -1 := if_pos h
end Go.Proofs.YtliiekhmpgopnaaGreat

/- Functions of two numbers: all of them. -/
set_option linter.unusedVariables false
namespace Go.Proofs.YtliiekhmpgopnaaGreat
open Go Go.AL NM

/-- What a function makes of two numbers. -/
def twoQ (c : Int) (a b : Rat) (most : Int) : Rat × Int :=
  if isCmp c then (tq (cmpS c (cmpQ a b)), 0)
  else if isJdg c then judgeQ c a b
  else if ¬ isRec c then (0, 20)
  else if (reckonQ c a b most).2 ≠ 0 then (0, (reckonQ c a b most).2)
  else if most < (qLimbs (reckonQ c a b most).1.num (reckonQ c a b most).1.den : Nat) then (0, 26)
  else ((reckonQ c a b most).1, 0)

section
variable (c : Int) (a b : Rat) (i j : Nat) (most : Int) (hi : dn i = a.den) (hj : dn j = b.den) (hm : most ≤ 200) (la : Sz a 20) (lb : Sz b 20)
include hi hj hm la lb
end
end Go.Proofs.YtliiekhmpgopnaaGreat

/- Arrays: two of them, element by element: the shape that they make together (plain laws); elements (contracts). -/
set_option linter.unusedVariables false
namespace Go.Proofs.YtliiekhmpgopnaaGreat
open Go Go.AL NM

theorem kinds_len {sh : List Int} {ch : Bool} {a b : Nat} (h : kinds sh ch a b) : ((a + b : Nat) : Int) = cntI sh ∧ (if ch then a else b) = a + b := by
  unfold kinds at h
  cases ch with
  | true =>
    have h : (a : Int) = cntI sh ∧ b = 0 := h
    exact ⟨by omega, by show a = a + b; omega⟩
  | false =>
    have h : (b : Int) = cntI sh ∧ a = 0 := h
    exact ⟨by omega, by show b = a + b; omega⟩
/-- An index of one of two arrays: the first one's alone, if it is one for all. -/
def ix (one : Bool) (i : Nat) : Nat := if one then 0 else i
/-- What two elements come to. -/
def elemF (c : Int) (ca cb : Bool) (ta tb : List Int) (qa qb : List Rat) (one two : Bool) (most : Int) (i : Nat) : Rat × Int :=
  if ca = true ∨ cb = true then
    if c = 61 ∨ c = 8800 then (if (ca && cb && decide (ta.getD (ix one i) 0 = tb.getD (ix two i) 0)) = decide (c = 61) then 1 else 0, 0) else (0, 22)
  else twoQ c (qa.getD (ix one i) 0) (qb.getD (ix two i) 0) most
end Go.Proofs.YtliiekhmpgopnaaGreat

/- Arrays: a function of two, element by element: numbers (the program's contract). -/
set_option linter.unusedVariables false
namespace Go.Proofs.YtliiekhmpgopnaaGreat
open Go Go.AL NM

end Go.Proofs.YtliiekhmpgopnaaGreat

/- Arrays: characters compared, element by element (the program's contract). -/
set_option linter.unusedVariables false
namespace Go.Proofs.YtliiekhmpgopnaaGreat
open Go Go.AL NM

/-- Whether two elements are the same character. -/
def smE (ca cb : Bool) (ta tb : List Int) (one two : Bool) (i : Nat) : Bool := ca && cb && decide (ta.getD (ix one i) 0 = tb.getD (ix two i) 0)
def chE (c : Int) (ca cb : Bool) (ta tb : List Int) (one two : Bool) (i : Nat) : Option (Rat × Nat) := if smE ca cb ta tb one two i = decide (c = 61) then some (1, 1) else none
end Go.Proofs.YtliiekhmpgopnaaGreat

/- Arrays: what a function of two comes to, element by element (the program's contract). -/
set_option linter.unusedVariables false
namespace Go.Proofs.YtliiekhmpgopnaaGreat
open Go Go.AL NM

section
variable (c : Int) (sa sb : List Int) (ca cb : Bool) (ta tb : List Int)
end
end Go.Proofs.YtliiekhmpgopnaaGreat

/- Arrays: what a function of two comes to: all cases (the program's contract). -/
set_option linter.unusedVariables false
namespace Go.Proofs.YtliiekhmpgopnaaGreat
open Go Go.AL NM

/-- The first error of a function of two arrays (0: none). -/
def twoE (c : Int) (sa sb : List Int) (ca cb : Bool) (ta tb : List Int) (qa qb : List Rat) (most : Int) : Int :=
  if isTwo c then (if (fitS sa sb (ta.length + qa.length) (tb.length + qb.length)).2.2.2 ≠ 0 then (fitS sa sb (ta.length + qa.length) (tb.length + qb.length)).2.2.2
    else firstE ((List.range (cntI (fitS sa sb (ta.length + qa.length) (tb.length + qb.length)).1).toNat).map (elemF c ca cb ta tb qa qb (fitS sa sb (ta.length + qa.length) (tb.length + qb.length)).2.1 (fitS sa sb (ta.length + qa.length) (tb.length + qb.length)).2.2.1 most))) else 20
/-- Its elements. -/
def twoV (c : Int) (sa sb : List Int) (ca cb : Bool) (ta tb : List Int) (qa qb : List Rat) (most : Int) : List Rat :=
  (List.range (cntI (fitS sa sb (ta.length + qa.length) (tb.length + qb.length)).1).toNat).map fun i => (elemF c ca cb ta tb qa qb (fitS sa sb (ta.length + qa.length) (tb.length + qb.length)).2.1 (fitS sa sb (ta.length + qa.length) (tb.length + qb.length)).2.2.1 most i).1
end Go.Proofs.YtliiekhmpgopnaaGreat

/- Arrays: an element of an array, a function of two elements (the document's contracts). -/
set_option linter.unusedVariables false
namespace Go.Proofs.YtliiekhmpgopnaaGreat
open Go Go.AL NM

def PE (ch : Bool) (x : Int) (q : Rat) : AV := if ch then PA [] true [x] [] else PA [] false [] [q]
/-- What two elements come to, alone. -/
def pairV (c : Int) (ca cb : Bool) (x y : Int) (p q : Rat) (most : Int) : Rat × Int :=
  if ca = true ∨ cb = true then
    if c = 61 ∨ c = 8800 then (if (ca && cb && decide (x = y)) = decide (c = 61) then 1 else 0, 0) else (0, 22)
  else twoQ c p q most
def pairR (r : Rat × Int) : AV := .tup [RN r.1.num r.1.den, .val (.int .i64 r.2)]
section
variable (c : Int) (ca cb : Bool) (x y : Int) (p q : Rat) (most : Int) (hm : most ≤ 200) (lp : Sz p 5) (lq : Sz q 5)
include hm lp lq
end
end Go.Proofs.YtliiekhmpgopnaaGreat

/- Arrays: a function of two, element by element (the document's contract). -/
set_option linter.unusedVariables false
namespace Go.Proofs.YtliiekhmpgopnaaGreat
open Go Go.AL NM

def PEt (ch : Bool) (x : Int) : List (List AV) := if ch then [[.val (.int .i32 x)]] else []
def PEn (ch : Bool) (q : Rat) : List (List AV) := if ch then [] else [rowN q]
end Go.Proofs.YtliiekhmpgopnaaGreat

/- Arrays: a function of two, element by element: all cases (the document's contract). -/
set_option linter.unusedVariables false
namespace Go.Proofs.YtliiekhmpgopnaaGreat
open Go Go.AL NM

theorem getD_sz {l : List Rat} (h : ∀ q ∈ l, Sz q 5) (k : Nat) : Sz (l.getD k 0) 5 := by
  rw [List.getD_eq_getElem?_getD]
  by_cases hk : k < l.length
  · rw [List.getElem?_eq_getElem hk]; exact h _ (List.getElem_mem hk)
  · rw [List.getElem?_eq_none (by omega)]; exact Sz_zero.mono (by decide)

end Go.Proofs.YtliiekhmpgopnaaGreat

/- Arrays: the chapter's examples (contracts). -/
set_option linter.unusedVariables false
namespace Go.Proofs.YtliiekhmpgopnaaGreat
open Go Go.AL NM

theorem sz_nat (n : Nat) (h : n < 4294967296) : Sz ((n : Int) : Rat) 1 := Sz_small (by
  show ((n : Int)).natAbs < _
  rw [Int.natAbs_natCast]; exact h) (by show (1 : Nat) < 4294967296; decide)
end Go.Proofs.YtliiekhmpgopnaaGreat

/- Arrays: an argument that is an array as the page speaks of it (opened). -/
set_option linter.unusedVariables false
namespace Go.Proofs.YtliiekhmpgopnaaGreat
open Go Go.AL NM

theorem uP4 : Tryz.prog.underlying 4 = some .bool := by kernel_rfl
theorem uP9 : Tryz.prog.underlying 9 = some .string := by kernel_rfl
theorem uP3 : Tryz.prog.underlying 3 = some (.int .i64) := by kernel_rfl
theorem uP21 : Tryz.prog.underlying 21 = some (.int .i32) := by kernel_rfl
theorem uP22 : Tryz.prog.underlying 22 = some (.slice 3) := by kernel_rfl
theorem uP23 : Tryz.prog.underlying 23 = some (.slice 21) := by kernel_rfl
theorem uP24 : Tryz.prog.underlying 24 = some (.slice 94) := by kernel_rfl
theorem uP94 : Tryz.prog.underlying 94 = some (.struct (Tryz.prog.fieldsOf 94)) := by kernel_rfl
theorem uP26 : Tryz.prog.underlying 26 = some (.struct (Tryz.prog.fieldsOf 26)) := by kernel_rfl
theorem opNum : Opens Tryz.prog 94 (fun xs => ∃ b s t, xs = [.val (.bool b), .val (.string s), .val (.string t)] ∧ s.size ≤ maxLen ∧ t.size ≤ maxLen) := by
  have h := opens_struct (l := [(0, 4), (1, 9), (2, 9)]) (n := 3) uP94 (by kernel_rfl) (by kernel_rfl) (.cons _ _ 0 1 3 _ _ (by kernel_rfl) (opens_bool uP4) (.cons _ _ 1 1 3 _ _ (by kernel_rfl) (opens_str uP9) (.cons _ _ 2 1 3 _ _ (by kernel_rfl) (opens_str uP9) (.nil 3))))
  refine h.mono ?_
  rintro xs ⟨a, b, rfl, ⟨x, rfl⟩, c, d, rfl, ⟨y, rfl, hy⟩, e, f, rfl, ⟨z, rfl, hz⟩, rfl⟩
  exact ⟨x, y, z, rfl, hy, hz⟩
theorem opInts : Opens Tryz.prog 22 (fun xs => ∃ L : List Int, xs = [.sl 1 (irows .i64 L) false] ∧ L.length < 9223372036854775808) := by
  refine (opens_slice (c := 1) uP22 (by kernel_rfl) (Nat.le_of_ble_eq_true rfl) (opens_int uP3)).mono ?_
  rintro xs ⟨rows, rfl, hl, hr⟩
  have key : ∀ rows : List (List AV), (∀ r ∈ rows, r.length = 1 ∧ ∃ n, r = [.val (.int .i64 n)] ∧ (Lit.int .i64 n).wf = true) → ∃ L : List Int, rows = irows .i64 L := by
    intro rows
    induction rows with
    | nil => exact fun _ => ⟨[], rfl⟩
    | cons r rows ih =>
      intro h
      obtain ⟨_, n, hn, _⟩ := h r List.mem_cons_self
      obtain ⟨L, hL⟩ := ih (fun r hr => h r (List.mem_cons_of_mem _ hr))
      exact ⟨n :: L, by rw [hn, hL]; rfl⟩
  obtain ⟨L, rfl⟩ := key rows hr
  refine ⟨L, rfl, ?_⟩
  rw [irows_len] at hl
  unfold maxLen at hl
  omega
theorem opRunes : Opens Tryz.prog 23 (fun xs => ∃ L : List Int, xs = [.sl 1 (irows .i32 L) false] ∧ L.length < 9223372036854775808) := by
  refine (opens_slice (c := 1) uP23 (by kernel_rfl) (Nat.le_of_ble_eq_true rfl) (opens_int uP21)).mono ?_
  rintro xs ⟨rows, rfl, hl, hr⟩
  have key : ∀ rows : List (List AV), (∀ r ∈ rows, r.length = 1 ∧ ∃ n, r = [.val (.int .i32 n)] ∧ (Lit.int .i32 n).wf = true) → ∃ L : List Int, rows = irows .i32 L := by
    intro rows
    induction rows with
    | nil => exact fun _ => ⟨[], rfl⟩
    | cons r rows ih =>
      intro h
      obtain ⟨_, n, hn, _⟩ := h r List.mem_cons_self
      obtain ⟨L, hL⟩ := ih (fun r hr => h r (List.mem_cons_of_mem _ hr))
      exact ⟨n :: L, by rw [hn, hL]; rfl⟩
  obtain ⟨L, rfl⟩ := key rows hr
  refine ⟨L, rfl, ?_⟩
  rw [irows_len] at hl
  unfold maxLen at hl
  omega
/-- What is known of the numbers of such an argument. -/
def GN (L : List TX) : Prop := ∀ x ∈ L, bytX x ∧ x.2.1.length < 9223372036854775808 ∧ x.2.2.length < 9223372036854775808
theorem bytesL_len (s : ByteArray) : (bytesL s).length = s.size := by unfold bytesL; rw [List.length_map, Array.length_toList]; rfl
theorem opNums : Opens Tryz.prog 24 (fun xs => ∃ L : List TX, xs = [.sl 3 (L.map rowB) false] ∧ L.length < 9223372036854775808 ∧ GN L) := by
  refine (opens_slice (c := 3) uP24 (by kernel_rfl) (Nat.le_of_ble_eq_true rfl) opNum).mono ?_
  rintro xs ⟨rows, rfl, hl, hr⟩
  have key : ∀ rows : List (List AV), (∀ r ∈ rows, r.length = 3 ∧ ∃ b s t, r = [.val (.bool b), .val (.string s), .val (.string t)] ∧ s.size ≤ maxLen ∧ t.size ≤ maxLen) → ∃ L : List TX, rows = L.map rowB ∧ GN L := by
    intro rows
    induction rows with
    | nil => exact fun _ => ⟨[], rfl, fun x hx => nomatch hx⟩
    | cons r rows ih =>
      intro h
      obtain ⟨_, b, s, t, hn, hs, ht⟩ := h r List.mem_cons_self
      obtain ⟨L, hL, hG⟩ := ih (fun r hr => h r (List.mem_cons_of_mem _ hr))
      refine ⟨(b, bytesL s, bytesL t) :: L, ?_, fun x hx => ?_⟩
      · rw [hn, hL]
        show _ = rowB (b, bytesL s, bytesL t) :: L.map rowB
        unfold rowB
        rw [strL_bytesL, strL_bytesL]
      · rcases List.mem_cons.1 hx with rfl | hx
        · have l1 := bytesL_len s
          have l2 := bytesL_len t
          unfold maxLen at hs ht
          exact ⟨⟨bytesL_byt s, bytesL_byt t⟩, by show (bytesL s).length < _; omega, by show (bytesL t).length < _; omega⟩
        · exact hG x hx
  obtain ⟨L, rfl, hG⟩ := key rows hr
  refine ⟨L, rfl, ?_, hG⟩
  rw [List.length_map] at hl
  unfold maxLen at hl
  omega
theorem opPlain : Opens Tryz.prog 26 (fun xs => ∃ sh ch tx L, xs = [.sl 1 (irows .i64 sh) false, .val (.bool ch), .sl 1 (irows .i32 tx) false, .sl 3 (L.map rowB) false] ∧ sh.length < 9223372036854775808 ∧ tx.length < 9223372036854775808 ∧ L.length < 9223372036854775808 ∧ GN L) := by
  have h := opens_struct (l := [(0, 22), (1, 4), (2, 23), (3, 24)]) (n := 4) uP26 (by kernel_rfl) (by kernel_rfl) (.cons _ _ 0 1 4 _ _ (by kernel_rfl) opInts (.cons _ _ 1 1 4 _ _ (by kernel_rfl) (opens_bool uP4) (.cons _ _ 2 1 4 _ _ (by kernel_rfl) opRunes (.cons _ _ 3 1 4 _ _ (by kernel_rfl) opNums (.nil 4)))))
  refine h.mono ?_
  rintro xs ⟨a, b, rfl, ⟨sh, rfl, h1⟩, c, d, rfl, ⟨ch, rfl⟩, e, f, rfl, ⟨tx, rfl, h2⟩, g, i, rfl, ⟨L, rfl, h3, h4⟩, rfl⟩
  exact ⟨sh, ch, tx, L, rfl, h1, h2, h3, h4⟩
end Go.Proofs.YtliiekhmpgopnaaGreat

/- Arrays: light ones: what is read of them. -/
set_option linter.unusedVariables false
namespace Go.Proofs.YtliiekhmpgopnaaGreat
open Go Go.AL NM

/-- What is read of a light array. -/
def Lite (sh : List Int) (ch : Bool) (tx : List Int) (L : List TX) (most : Nat) (qs : List Rat) : Prop :=
  PB sh ch tx L = PA sh ch tx qs ∧ vS sh ∧ kinds sh ch tx.length qs.length ∧ tx.length ≤ most ∧ qs.length ≤ most ∧ ∀ q ∈ qs, QR q
theorem lite_ok (sh : List Int) (ch : Bool) (tx : List Int) (L : List TX) (most : Nat) (hm : most ≤ 1000) (z : sh.length < 9223372036854775808 ∧ tx.length < 9223372036854775808 ∧ L.length < 9223372036854775808 ∧ GN L) :
    ∃ r : Bool, AC Tryz.prog 26 [PB sh ch tx L, .val (.int .i64 (most : Int))] (.pure (.val (.bool r))) ∧ (r = true → ∃ qs, Lite sh ch tx L most qs) := by
  obtain ⟨z1, z2, z3, z4⟩ := z
  obtain ⟨r, hr, hP⟩ := Light_ok sh ch tx L (most : Int) (by omega) z1 z2 z3 z4
  refine ⟨r, hP, fun h => ?_⟩
  obtain ⟨g1, g2, g3, g4, g5, g6⟩ := hr h
  refine ⟨L.map qX, PB_PA g6, g4, by rw [List.length_map]; exact g5, by omega, by rw [List.length_map]; omega, fun q hq => ?_⟩
  obtain ⟨x, hx, rfl⟩ := List.mem_map.1 hq
  exact ⟨_, _, _, g6 x hx, (z4 x hx).1.1, (z4 x hx).1.2, (g3 x hx).1, (g3 x hx).2, rfl⟩
end Go.Proofs.YtliiekhmpgopnaaGreat

/- Arrays: what is shown of a function's result. -/
set_option linter.unusedVariables false
namespace Go.Proofs.YtliiekhmpgopnaaGreat
open Go Go.AL NM

end Go.Proofs.YtliiekhmpgopnaaGreat

/- Shapes: all indices of a shape, and where they lie (plain laws). -/
set_option linter.unusedVariables false
namespace Go.Proofs.YtliiekhmpgopnaaGreat
open Go Go.AL

/-- How many indices a shape has. -/
def pr : List Int → Nat
  | [] => 1
  | d :: v => d.toNat * pr v
/-- The index at a place. -/
def dig : List Int → Nat → List Int
  | [], _ => []
  | _ :: v, i => ((i / pr v : Nat) : Int) :: dig v (i % pr v)
/-- All indices. -/
def allS : List Int → List (List Int)
  | [] => [[]]
  | d :: v => (List.range d.toNat).flatMap fun n : Nat => (allS v).map fun w => (n : Int) :: w
/-- An index's place. -/
def plS (n : Int) : List Int → List Int → Int
  | d :: v, a :: w => if a < 0 ∨ d ≤ a then -1 else plS (n * d + a) v w
  | _, _ => n
theorem pr_append (u v : List Int) : pr (u ++ v) = pr u * pr v := by
  induction u with
  | nil => rw [List.nil_append]; exact (Nat.one_mul _).symm
  | cons d u ih => show d.toNat * pr (u ++ v) = d.toNat * pr u * pr v; rw [ih, Nat.mul_assoc]
theorem range_mul (d L : Nat) : List.range (d * L) = (List.range d).flatMap fun n => (List.range L).map fun j => n * L + j := by
  induction d with
  | zero => rw [Nat.zero_mul]; rfl
  | succ d ih =>
    rw [Nat.succ_mul, List.range_add, ih, List.range_succ, List.flatMap_append]
    simp
theorem allS_eq (s : List Int) : allS s = (List.range (pr s)).map (dig s) := by
  induction s with
  | nil => rfl
  | cons d v ih =>
    show (List.range d.toNat).flatMap (fun n : Nat => (allS v).map fun w => (n : Int) :: w) = (List.range (d.toNat * pr v)).map (dig (d :: v))
    rw [range_mul, List.map_flatMap, ih]
    have : ∀ n : Nat, ((List.range (pr v)).map (dig v)).map (fun w => (n : Int) :: w) = ((List.range (pr v)).map fun j => n * pr v + j).map (dig (d :: v)) := fun n => by
      rw [List.map_map, List.map_map]
      refine List.map_congr_left fun j hj => ?_
      have hj := List.mem_range.1 hj
      show (n : Int) :: dig v j = (((n * pr v + j) / pr v : Nat) : Int) :: dig v ((n * pr v + j) % pr v)
      rw [Nat.mul_comm n, Nat.mul_add_div (by omega), Nat.div_eq_of_lt hj, Nat.add_zero, Nat.mul_add_mod, Nat.mod_eq_of_lt hj]
    simp only [this]
theorem allS_len (s : List Int) : (allS s).length = pr s := by rw [allS_eq, List.length_map, List.length_range]
theorem allS_get (s : List Int) (i : Nat) (h : i < pr s) : (allS s)[i]? = some (dig s i) := by
  rw [allS_eq, List.getElem?_map, List.getElem?_range h]; rfl
theorem dig_len (s : List Int) : ∀ i, (dig s i).length = s.length := by
  induction s with
  | nil => intro i; rfl
  | cons d v ih => intro i; show (dig v _).length + 1 = _; rw [ih]; rfl
theorem dig_append (u v : List Int) : ∀ i, i < pr (u ++ v) → dig (u ++ v) i = dig u (i / pr v) ++ dig v (i % pr v) := by
  induction u with
  | nil =>
    intro i h
    have h : i < pr v := h
    show dig v i = dig v (i % pr v)
    rw [Nat.mod_eq_of_lt h]
  | cons d u ih =>
    intro i h
    have h : i < d.toNat * pr (u ++ v) := h
    have hp : 0 < pr (u ++ v) := Nat.pos_of_ne_zero fun e => by rw [e] at h; omega
    show ((i / pr (u ++ v) : Nat) : Int) :: dig (u ++ v) (i % pr (u ++ v)) = ((i / pr v / pr u : Nat) : Int) :: (dig u (i / pr v % pr u) ++ dig v (i % pr v))
    rw [ih _ (Nat.mod_lt _ hp), pr_append]
    rw [Nat.div_div_eq_div_mul, Nat.mul_comm (pr v)]
    congr 2
    · congr 1
      exact Nat.mod_mul_left_div_self _ _ _
    · congr 1
      exact Nat.mod_mul_left_mod _ _ _
/-- Digits are within their shape. -/
theorem pl_dig (s : List Int) : ∀ (n : Nat) (i : Nat), i < pr s → plS (n : Int) s (dig s i) = ((n * pr s + i : Nat) : Int) := by
  induction s with
  | nil =>
    intro n i h
    have h : i < 1 := h
    show (n : Int) = ((n * 1 + i : Nat) : Int)
    omega
  | cons d v ih =>
    intro n i h
    have h : i < d.toNat * pr v := h
    have hp : 0 < pr v := Nat.pos_of_ne_zero fun e => by rw [e] at h; omega
    have hq : i / pr v < d.toNat := Nat.div_lt_of_lt_mul (by rw [Nat.mul_comm]; exact h)
    show (if ((i / pr v : Nat) : Int) < 0 ∨ d ≤ ((i / pr v : Nat) : Int) then -1 else plS ((n : Int) * d + ((i / pr v : Nat) : Int)) v (dig v (i % pr v))) = ((n * (d.toNat * pr v) + i : Nat) : Int)
    have e2 : ∀ q : Nat, q < d.toNat → ¬ ((q : Int) < 0 ∨ d ≤ (q : Int)) ∧ ((d.toNat : Nat) : Int) = d := fun q hq => by omega
    rw [if_neg (e2 _ hq).1]
    have e : (n : Int) * d + ((i / pr v : Nat) : Int) = ((n * d.toNat + i / pr v : Nat) : Int) := by
      rw [Int.natCast_add, Int.natCast_mul, (e2 _ hq).2]
    rw [e, ih _ _ (Nat.mod_lt _ hp)]
    congr 1
    rw [Nat.add_mul, Nat.mul_assoc, Nat.add_assoc, Nat.mul_comm (i / pr v), Nat.div_add_mod]
theorem pl_append (u v : List Int) : ∀ (n : Int) (a b : List Int), a.length = u.length → (∀ m, plS n u a = m → m ≠ -1) → plS n (u ++ v) (a ++ b) = plS (plS n u a) v b := by
  induction u with
  | nil =>
    intro n a b h _
    have : a = [] := List.length_eq_zero_iff.1 h
    subst this
    rfl
  | cons d u ih =>
    intro n a b h h1
    cases a with
    | nil => cases h
    | cons x a =>
      have h1 : ∀ m, (if x < 0 ∨ d ≤ x then -1 else plS (n * d + x) u a) = m → m ≠ -1 := h1
      by_cases hx : x < 0 ∨ d ≤ x
      · rw [if_pos hx] at h1
        exact absurd rfl (h1 _ rfl)
      · rw [if_neg hx] at h1
        show (if x < 0 ∨ d ≤ x then -1 else plS (n * d + x) (u ++ v) (a ++ b)) = plS (if x < 0 ∨ d ≤ x then -1 else plS (n * d + x) u a) v b
        rw [if_neg hx, if_neg hx]
        exact ih _ _ _ (by simpa using h) h1
/-- An index along one axis, and its place in another shape that is alike but for that axis. -/
theorem pl_axis (u v : List Int) (d n : Int) (k : Nat) (hn : (k : Int) < n) (i : Nat) (h : i < pr (u ++ d :: v)) :
    dig (u ++ d :: v) i = dig u (i / pr v / d.toNat) ++ ((i / pr v % d.toNat : Nat) : Int) :: dig v (i % pr v) ∧
    plS 0 (u ++ n :: v) (dig u (i / pr v / d.toNat) ++ (k : Int) :: dig v (i % pr v)) = (((i / pr v / d.toNat) * n.toNat + k) * pr v + i % pr v : Nat) := by
  have h' := h
  rw [pr_append] at h'
  have h' : i < pr u * (d.toNat * pr v) := h'
  have hv : 0 < pr v := Nat.pos_of_ne_zero fun e => by rw [e] at h'; omega
  have hd : 0 < d.toNat := Nat.pos_of_ne_zero fun e => by rw [e] at h'; omega
  have hu : i / pr v / d.toNat < pr u := by
    rw [Nat.div_div_eq_div_mul]
    exact Nat.div_lt_of_lt_mul (by rw [Nat.mul_comm, Nat.mul_comm (pr v)]; exact h')
  refine ⟨?_, ?_⟩
  · rw [dig_append _ _ _ h]
    show dig u (i / (d.toNat * pr v)) ++ (((i % (d.toNat * pr v)) / pr v : Nat) : Int) :: dig v (i % (d.toNat * pr v) % pr v) = _
    rw [Nat.mod_mul_left_mod, Nat.mod_mul_left_div_self, Nat.div_div_eq_div_mul, Nat.mul_comm (pr v)]
  · have e1 := pl_dig u 0 _ hu
    rw [Nat.zero_mul, Nat.zero_add] at e1
    have e1 : plS 0 u (dig u (i / pr v / d.toNat)) = ((i / pr v / d.toNat : Nat) : Int) := e1
    rw [pl_append u (n :: v) 0 _ _ (dig_len _ _) (fun m hm => by rw [e1] at hm; rw [← hm]; exact Int.noConfusion), e1]
    show (if (k : Int) < 0 ∨ n ≤ (k : Int) then -1 else plS (((i / pr v / d.toNat : Nat) : Int) * n + (k : Int)) v (dig v (i % pr v))) = _
    rw [if_neg (by omega)]
    have e : ((i / pr v / d.toNat : Nat) : Int) * n + (k : Int) = ((i / pr v / d.toNat * n.toNat + k : Nat) : Int) := by
      have : ((n.toNat : Nat) : Int) = n := by omega
      rw [Int.natCast_add, Int.natCast_mul, this]
    rw [e, pl_dig v _ _ (Nat.mod_lt _ hv)]
end Go.Proofs.YtliiekhmpgopnaaGreat

/- Shapes: how many elements they have, along an axis and beside it (plain laws). -/
set_option linter.unusedVariables false
namespace Go.Proofs.YtliiekhmpgopnaaGreat
open Go Go.AL NM

theorem pm_from (v : List Int) : ∀ n : Int, v.foldl (fun n d => n * max 1 d) n = n * pmI v := by
  induction v with
  | nil => intro n; exact (Int.mul_one n).symm
  | cons d v ih =>
    intro n
    show v.foldl (fun n d => n * max 1 d) (n * max 1 d) = n * v.foldl (fun n d => n * max 1 d) (1 * max 1 d)
    rw [ih, ih, Int.one_mul, Int.mul_assoc]
theorem pm_cons (d : Int) (v : List Int) : pmI (d :: v) = max 1 d * pmI v := by
  show v.foldl (fun n d => n * max 1 d) (1 * max 1 d) = _
  rw [pm_from, Int.one_mul]
theorem pm_append (u v : List Int) : pmI (u ++ v) = pmI u * pmI v := by
  induction u with
  | nil => exact (Int.one_mul _).symm
  | cons d u ih => rw [List.cons_append, pm_cons, pm_cons, ih, Int.mul_assoc]
theorem pr_zero {s : List Int} (h : 0 ∈ s) : pr s = 0 := by
  induction s with
  | nil => cases h
  | cons d v ih =>
    show d.toNat * pr v = 0
    rcases List.mem_cons.1 h with h | h
    · rw [← h]; exact Nat.zero_mul _
    · rw [ih h, Nat.mul_zero]
theorem cnt_pr {s : List Int} (h : ∀ d ∈ s, 0 ≤ d) : cntI s = (pr s : Int) := by
  unfold cntI
  by_cases h0 : 0 ∈ s
  · rw [if_pos h0, pr_zero h0]; rfl
  · rw [if_neg h0]
    induction s with
    | nil => rfl
    | cons d v ih =>
      rw [pm_cons]
      have hd := h d List.mem_cons_self
      have hn : d ≠ 0 := fun e => h0 (by rw [e]; exact List.mem_cons_self)
      rw [ih (fun x hx => h x (List.mem_cons_of_mem _ hx)) (fun hx => h0 (List.mem_cons_of_mem _ hx))]
      show _ = ((d.toNat * pr v : Nat) : Int)
      rw [Int.natCast_mul, show max 1 d = ((d.toNat : Nat) : Int) by omega]
theorem pr_le_pm {s : List Int} (h : ∀ d ∈ s, 0 ≤ d) : (pr s : Int) ≤ pmI s := by
  rw [← cnt_pr h]
  unfold cntI
  split
  · have := pm_pos s; omega
  · exact Int.le_refl _
theorem vS_pr {s : List Int} (h : vS s) : cntI s = (pr s : Int) ∧ pr s ≤ 4096 := by
  refine ⟨cnt_pr h.2.1, ?_⟩
  have := pr_le_pm h.2.1
  have := h.2.2
  omega
theorem mid_split {s : List Int} {k : Nat} (hk : k < s.length) : s = s.take k ++ s[k] :: s.drop (k + 1) := by
  rw [← List.drop_eq_getElem_cons hk, List.take_append_drop]
theorem vS_mid {u v : List Int} {d : Int} : vS (u ++ d :: v) ↔ u.length + v.length ≤ 7 ∧ (∀ x ∈ u, 0 ≤ x) ∧ 0 ≤ d ∧ (∀ x ∈ v, 0 ≤ x) ∧ pmI u * (max 1 d * pmI v) ≤ 4096 := by
  unfold vS
  rw [pm_append, pm_cons, List.length_append, List.length_cons]
  constructor
  · rintro ⟨h1, h2, h3⟩
    exact ⟨by omega, fun x hx => h2 x (List.mem_append_left _ hx), h2 d (List.mem_append_right _ List.mem_cons_self), fun x hx => h2 x (List.mem_append_right _ (List.mem_cons_of_mem _ hx)), h3⟩
  · rintro ⟨h1, h2, h3, h4, h5⟩
    refine ⟨by omega, fun x hx => ?_, h5⟩
    rcases List.mem_append.1 hx with h | h
    · exact h2 x h
    · rcases List.mem_cons.1 h with rfl | h
      · exact h3
      · exact h4 x h
theorem vS_app {u v : List Int} : vS (u ++ v) ↔ u.length + v.length ≤ 8 ∧ (∀ x ∈ u, 0 ≤ x) ∧ (∀ x ∈ v, 0 ≤ x) ∧ pmI u * pmI v ≤ 4096 := by
  unfold vS
  rw [pm_append, List.length_append]
  constructor
  · rintro ⟨h1, h2, h3⟩
    exact ⟨h1, fun x hx => h2 x (List.mem_append_left _ hx), fun x hx => h2 x (List.mem_append_right _ hx), h3⟩
  · rintro ⟨h1, h2, h3, h4⟩
    refine ⟨h1, fun x hx => ?_, h4⟩
    rcases List.mem_append.1 hx with h | h
    · exact h2 x h
    · exact h3 x h
theorem vS_parts {u v : List Int} (h : vS (u ++ v)) : vS u ∧ vS v := by
  obtain ⟨h1, h2, h3, h4⟩ := vS_app.1 h
  have p1 := pm_pos u
  have p2 := pm_pos v
  have m1 : pmI u * 1 ≤ pmI u * pmI v := Int.mul_le_mul_of_nonneg_left p2 (by omega)
  have m2 : 1 * pmI v ≤ pmI u * pmI v := Int.mul_le_mul_of_nonneg_right p1 (by omega)
  exact ⟨⟨by omega, h2, by omega⟩, ⟨by omega, h3, by omega⟩⟩
theorem vS_one {u v : List Int} {d : Int} (h : vS (u ++ d :: v)) : vS (u ++ 1 :: v) := by
  obtain ⟨h1, h2, h3, h4, h5⟩ := vS_mid.1 h
  refine vS_mid.2 ⟨h1, h2, by decide, h4, ?_⟩
  have p1 := pm_pos u
  have p2 := pm_pos v
  have m1 : max 1 1 * pmI v ≤ max 1 d * pmI v := Int.mul_le_mul_of_nonneg_right (by omega) (by omega)
  exact Int.le_trans (Int.mul_le_mul_of_nonneg_left m1 (by omega)) h5
theorem vS_ins {u v : List Int} (h : vS (u ++ v)) (hl : u.length + v.length ≤ 7) : vS (u ++ 1 :: v) := by
  obtain ⟨h1, h2, h3, h4⟩ := vS_app.1 h
  exact vS_mid.2 ⟨hl, h2, by decide, h3, by rw [show max (1 : Int) 1 = 1 from rfl, Int.one_mul]; exact h4⟩
theorem vS_dim {s : List Int} (h : vS s) {d : Int} (hd : d ∈ s) : d ≤ 4096 := by
  obtain ⟨u, v, rfl⟩ := List.append_of_mem hd
  obtain ⟨h1, h2, h3, h4, h5⟩ := vS_mid.1 h
  have p1 := pm_pos u
  have p2 := pm_pos v
  have m1 : max 1 d * 1 ≤ max 1 d * pmI v := Int.mul_le_mul_of_nonneg_left p2 (by omega)
  have m2 : 1 * (max 1 d * pmI v) ≤ pmI u * (max 1 d * pmI v) := Int.mul_le_mul_of_nonneg_right p1 (by omega)
  omega
/-- All indices, axis by axis. -/
theorem allS_snoc (u : List Int) (d : Int) : allS (u ++ [d]) = (allS u).flatMap fun w => (List.range d.toNat).map fun n : Nat => w ++ [(n : Int)] := by
  induction u with
  | nil =>
    show (List.range d.toNat).flatMap (fun n : Nat => ([[]] : List (List Int)).map fun w => (n : Int) :: w) = ([[]] : List (List Int)).flatMap _
    simp [List.flatMap_cons, List.map_eq_flatMap]
  | cons e u ih =>
    show (List.range e.toNat).flatMap (fun n : Nat => (allS (u ++ [d])).map fun w => (n : Int) :: w) = ((List.range e.toNat).flatMap fun n : Nat => (allS u).map fun w => (n : Int) :: w).flatMap _
    rw [List.flatMap_assoc]
    congr 1
    funext m
    rw [ih, List.map_flatMap, List.flatMap_map]
    congr 1
    funext w
    rw [List.map_map]
    rfl
end Go.Proofs.YtliiekhmpgopnaaGreat

/- An abstract program logic over tree values (part 34): a live block that stands in another block's cell is frozen there. -/
set_option linter.unusedVariables false
set_option linter.unusedSimpArgs false
namespace Go.AL
open Go Go.RowKit

end Go.AL

/- Shapes laid one behind the other: slices.Grow, slices.Concat, shape.Join (contracts). -/
set_option linter.unusedVariables false
namespace Go.Proofs.YtliiekhmpgopnaaGreat
open Go Go.AL NM

theorem Grow_zero : AC Tryz.prog 134 [.sl 0 [] true, .val (.int .i64 0)] (.pure (.sl 0 [] true)) := by
  refine AC.of_body TTok Tryz.func134 rfl (enter_of Tryz.func134 (by kernel_rfl) (by kernel_rfl)) (noid2 (.sl _ _ _ (fun r hr => nomatch hr)) (.val _)) (.sl _ _ _ (fun r hr => nomatch hr)) (Nat.le_of_ble_eq_true rfl) ?_
  repeat
    conv => whnf
    first
      | refine ⟨_, by assumption, ?_⟩
      | refine ⟨(Nat.le_of_ble_eq_true rfl), _, by assumption, ?_⟩
      | refine ⟨by kernel_rfl, ?_⟩
      | exact rfl
      | exact ⟨Nat.le_of_ble_eq_true rfl, rfl⟩
      | refine ⟨by decide, ?_⟩
theorem Grow_pos (n : Nat) (h0 : 0 < n) (hb : n ≤ 1000000) : AC Tryz.prog 134 [.sl 0 [] true, .val (.int .i64 (n : Int))] (.fresh 1 []) := by
  have e1 : IntKind.i64.wrap ((n : Int) - IntKind.i64.wrap ((([] : List (List AV)).length : Int) - (([] : List (List AV)).length : Int))) = (n : Int) := by
    rw [show (([] : List (List AV)).length : Int) - (([] : List (List AV)).length : Int) = 0 from rfl, show IntKind.i64.wrap 0 = 0 by decide, Int.sub_zero, IntWalk.i64_in _ (by omega)]
  refine AC.of_body TTok Tryz.func134 rfl (enter_of Tryz.func134 (by kernel_rfl) (by kernel_rfl)) (noid2 (.sl _ _ _ (fun r hr => nomatch hr)) (.val _)) (fun r hr => nomatch hr) (Nat.le_of_ble_eq_true rfl) ?_
  conv => whnf
  refine caseb (fun _ => ?_) (fun h => absurd (of_decide_eq_false h) (by rw [e1]; omega))
  conv => whnf
  refine ⟨by decide, ?_⟩
  conv => whnf
  refine ⟨by rw [e1]; exact ⟨by omega, by show (n : Int) * 8 ≤ 140737488355328; omega⟩, ?_⟩
  conv => whnf
  refine ⟨⟨Int.le_refl _, Int.natCast_nonneg _⟩, ?_⟩
  conv => whnf
  exact ⟨rfl, Nat.zero_le _, rfl⟩

def lrows (ls : List (List Int)) : List (List AV) := ls.map fun l => [.sl 1 (irows .i64 l) false]
theorem lrows_len (ls : List (List Int)) : (lrows ls).length = ls.length := List.length_map _
theorem lrows_noid (ls : List (List Int)) : ∀ r ∈ lrows ls, ∀ x ∈ r, NoId x := by
  intro r hr x hx
  obtain ⟨l, _, rfl⟩ := List.mem_map.1 hr
  rw [List.mem_singleton.1 hx]
  exact noid_sl _ _ _
theorem flat_snoc {ls : List (List Int)} {i : Nat} (h : i < ls.length) : (ls.take (i + 1)).flatten = (ls.take i).flatten ++ ls[i] := by
  rw [take_snoc h, List.flatten_append]; simp
theorem Concat_ok (ls : List (List Int)) (hl : ls.length ≤ 1000) (hb : ls.flatten.length ≤ 100000) : AC Tryz.prog 89 [.sl 1 (lrows ls) false] (.pure (.sl 1 (irows .i64 ls.flatten) false)) := by
  have lr := lrows_len ls
  have hle : ∀ i, i ≤ ls.length → (ls.take i).flatten.length ≤ ls.flatten.length := fun i hi => by
    have := List.take_append_drop i ls
    have h2 : ls.flatten = (ls.take i).flatten ++ (ls.drop i).flatten := by rw [← List.flatten_append, this]
    rw [h2, List.length_append]; omega
  refine AC.of_body TTok Tryz.func89 rfl (enter_of Tryz.func89 (by kernel_rfl) (by kernel_rfl)) (noid1 (.sl _ _ _ (lrows_noid _))) (noid_sl _ _ _) (Nat.le_of_ble_eq_true rfl) ?_
  conv => whnf
  refine SW.loopM TTok (fun i : Nat => [(0, .sl 1 (lrows ls) false), (3, .val (.int .i64 ((ls.take i).flatten.length : Nat))), (9, .sl 1 (lrows ls) false), (10, .val (.int .i64 ((lrows ls).length : Nat))), (11, .val (.int .i64 (i : Int)))]) (fun _ => []) 40 36 rfl (fun i => ls.length - i) (fun i => i ≤ ls.length) 0 [] (Nat.zero_le _)
    ⟨⟨rfl, rfl⟩, ⟨rfl, rfl⟩, ⟨rfl, rfl⟩, ⟨rfl, rfl⟩, ⟨rfl, rfl⟩, trivial⟩ trivial rfl ?_
  intro i hJ
  have hi : i ≤ ls.length := hJ
  clear hJ
  have b1 := hle i hi
  by_cases hlt : i < ls.length
  · have eI : IntKind.i64.wrap ((i : Int) + 1) = ((i + 1 : Nat) : Int) := by rw [IntWalk.i64_in _ (by omega)]; omega
    have b2 := hle (i + 1) hlt
    have hg : (lrows ls)[i]? = some [.sl 1 (irows .i64 ls[i]) false] := by unfold lrows; rw [List.getElem?_map, List.getElem?_eq_getElem hlt]; rfl
    have hs := flat_snoc hlt
    have hsl : (ls.take (i + 1)).flatten.length = (ls.take i).flatten.length + ls[i].length := by rw [hs, List.length_append]
    have ln := irows_len .i64 ls[i]
    have eS : IntKind.i64.wrap (((ls.take i).flatten.length : Nat) + ((irows .i64 ls[i]).length : Int)) = (((ls.take (i + 1)).flatten.length : Nat) : Int) := by rw [ln, IntWalk.i64_in _ (by omega), hsl]; omega
    conv => whnf
    first
      | refine caseb (fun _ => ?_) (fun h => absurd (of_decide_eq_false h) (by omega))
      | refine caseb (fun h => absurd (of_decide_eq_true h) (by omega)) (fun _ => ?_)
      | refine caseb (fun _ => ?_) (fun h => absurd (beq_eq_false_iff_ne.1 h) (by omega))
      | refine caseb (fun h => absurd (eq_of_beq h) (by omega)) (fun _ => ?_)
    conv => whnf
    refine ⟨_, ⟨by omega, by rw [Int.toNat_natCast]; exact hg⟩, ?_⟩
    conv => whnf
    refine caseb (fun h => absurd (of_decide_eq_true h) (by rw [eS]; omega)) (fun _ => ?_)
    conv => whnf
    exact ⟨i + 1, [], (by show ls.length - (i + 1) < ls.length - i; omega), hlt, ⟨⟨rfl, rfl⟩, ⟨valI eS, rfl⟩, ⟨rfl, rfl⟩, ⟨rfl, rfl⟩, ⟨valI eI, rfl⟩, trivial⟩, trivial, rfl⟩
  · have hie : i = ls.length := by omega
    have e0 : ls.take i = ls := by rw [hie, List.take_length]
    rw [e0]
    obtain ⟨n, hn⟩ : ∃ n, n = ls.flatten.length := ⟨_, rfl⟩
    rw [← hn] at hb hle ⊢
    by_cases hn0 : n = 0
    · subst hn0
      have hG := Grow_zero
      conv => whnf
      first
        | refine caseb (fun _ => ?_) (fun h => absurd (of_decide_eq_false h) (by omega))
        | refine caseb (fun h => absurd (of_decide_eq_true h) (by omega)) (fun _ => ?_)
        | refine caseb (fun _ => ?_) (fun h => absurd (beq_eq_false_iff_ne.1 h) (by omega))
        | refine caseb (fun h => absurd (eq_of_beq h) (by omega)) (fun _ => ?_)
      conv => whnf
      refine ⟨_, hG, ?_⟩
      conv => whnf
      refine SW.nil 6 1 rfl ?_
      refine SW.loopM TTok (fun i : Nat => [(6, .own 96 0 (ls.take i).flatten.length), (25, .sl 1 (lrows ls) false), (26, .val (.int .i64 ((lrows ls).length : Nat))), (27, .val (.int .i64 (i : Int)))]) (fun i => [(96, .cells 1 (irows .i64 (ls.take i).flatten))]) 104 36 rfl (fun i => ls.length - i) (fun i => i ≤ ls.length) 0 [] (Nat.zero_le _)
        ⟨⟨rfl, rfl⟩, ⟨rfl, rfl⟩, ⟨rfl, rfl⟩, ⟨rfl, rfl⟩, trivial⟩ ⟨⟨rfl, .inr ⟨rfl, rfl⟩⟩, trivial⟩ rfl ?_
      intro i hJ
      have hi : i ≤ ls.length := hJ
      clear hJ
      have b1 := hle i hi
      have lf := irows_len .i64 (ls.take i).flatten
      by_cases hlt : i < ls.length
      · have eI : IntKind.i64.wrap ((i : Int) + 1) = ((i + 1 : Nat) : Int) := by rw [IntWalk.i64_in _ (by omega)]; omega
        have b2 := hle (i + 1) hlt
        have hg : (lrows ls)[i]? = some [.sl 1 (irows .i64 ls[i]) false] := by unfold lrows; rw [List.getElem?_map, List.getElem?_eq_getElem hlt]; rfl
        have hs := flat_snoc hlt
        have hsl : (ls.take (i + 1)).flatten.length = (ls.take i).flatten.length + ls[i].length := by rw [hs, List.length_append]
        have ln := irows_len .i64 ls[i]
        conv => whnf
        first
          | refine caseb (fun _ => ?_) (fun h => absurd (of_decide_eq_false h) (by omega))
          | refine caseb (fun h => absurd (of_decide_eq_true h) (by omega)) (fun _ => ?_)
          | refine caseb (fun _ => ?_) (fun h => absurd (beq_eq_false_iff_ne.1 h) (by omega))
          | refine caseb (fun h => absurd (eq_of_beq h) (by omega)) (fun _ => ?_)
        conv => whnf
        refine ⟨_, ⟨by omega, by rw [Int.toNat_natCast]; exact hg⟩, ?_⟩
        conv => whnf
        refine ⟨⟨by show 0 + _ ≤ _; omega, by show ((ls.take i).flatten.length + (irows .i64 ls[i]).length) * 8 ≤ 140737488355328; omega⟩, ?_⟩
        conv => whnf
        refine ⟨i + 1, [(96, 152)], (by show ls.length - (i + 1) < ls.length - i; omega), hlt, ⟨⟨ownE rfl (by rw [hsl, ln]), rfl⟩, ⟨rfl, rfl⟩, ⟨rfl, rfl⟩, ⟨valI eI, rfl⟩, trivial⟩, ⟨⟨rfl, .inl ⟨celE ?_, irows_noid _ _⟩⟩, trivial⟩, rfl⟩
        show List.take _ (List.drop 0 (irows .i64 (ls.take i).flatten)) ++ irows .i64 ls[i] = _
        rw [List.drop_zero, List.take_of_length_le (by omega), hs, ← irows_append]
      · have hie : i = ls.length := by omega
        have e0 : ls.take i = ls := by rw [hie, List.take_length]
        rw [e0] at lf ⊢
        conv => whnf
        first
          | refine caseb (fun _ => ?_) (fun h => absurd (of_decide_eq_false h) (by omega))
          | refine caseb (fun h => absurd (of_decide_eq_true h) (by omega)) (fun _ => ?_)
          | refine caseb (fun _ => ?_) (fun h => absurd (beq_eq_false_iff_ne.1 h) (by omega))
          | refine caseb (fun h => absurd (eq_of_beq h) (by omega)) (fun _ => ?_)
        conv => whnf
        refine ⟨by show 0 + _ ≤ _; omega, ?_⟩
        show AV.sl 1 (List.take _ (List.drop 0 (irows .i64 ls.flatten))) false = _
        rw [List.drop_zero, List.take_of_length_le (by omega)]
    · have hG := Grow_pos n (by omega) (by omega)
      conv => whnf
      first
        | refine caseb (fun _ => ?_) (fun h => absurd (of_decide_eq_false h) (by omega))
        | refine caseb (fun h => absurd (of_decide_eq_true h) (by omega)) (fun _ => ?_)
        | refine caseb (fun _ => ?_) (fun h => absurd (beq_eq_false_iff_ne.1 h) (by omega))
        | refine caseb (fun h => absurd (eq_of_beq h) (by omega)) (fun _ => ?_)
      conv => whnf
      refine ⟨_, hG, ?_⟩
      conv => whnf
      refine SW.loopM TTok (fun i : Nat => [(6, .own 56 0 (ls.take i).flatten.length), (25, .sl 1 (lrows ls) false), (26, .val (.int .i64 ((lrows ls).length : Nat))), (27, .val (.int .i64 (i : Int)))]) (fun i => [(56, .cells 1 (irows .i64 (ls.take i).flatten))]) 96 36 rfl (fun i => ls.length - i) (fun i => i ≤ ls.length) 0 [] (Nat.zero_le _)
        ⟨⟨rfl, rfl⟩, ⟨rfl, rfl⟩, ⟨rfl, rfl⟩, ⟨rfl, rfl⟩, trivial⟩ ⟨⟨rfl, .inr ⟨rfl, rfl⟩⟩, trivial⟩ rfl ?_
      intro i hJ
      have hi : i ≤ ls.length := hJ
      clear hJ
      have b1 := hle i hi
      have lf := irows_len .i64 (ls.take i).flatten
      by_cases hlt : i < ls.length
      · have eI : IntKind.i64.wrap ((i : Int) + 1) = ((i + 1 : Nat) : Int) := by rw [IntWalk.i64_in _ (by omega)]; omega
        have b2 := hle (i + 1) hlt
        have hg : (lrows ls)[i]? = some [.sl 1 (irows .i64 ls[i]) false] := by unfold lrows; rw [List.getElem?_map, List.getElem?_eq_getElem hlt]; rfl
        have hs := flat_snoc hlt
        have hsl : (ls.take (i + 1)).flatten.length = (ls.take i).flatten.length + ls[i].length := by rw [hs, List.length_append]
        have ln := irows_len .i64 ls[i]
        conv => whnf
        first
          | refine caseb (fun _ => ?_) (fun h => absurd (of_decide_eq_false h) (by omega))
          | refine caseb (fun h => absurd (of_decide_eq_true h) (by omega)) (fun _ => ?_)
          | refine caseb (fun _ => ?_) (fun h => absurd (beq_eq_false_iff_ne.1 h) (by omega))
          | refine caseb (fun h => absurd (eq_of_beq h) (by omega)) (fun _ => ?_)
        conv => whnf
        refine ⟨_, ⟨by omega, by rw [Int.toNat_natCast]; exact hg⟩, ?_⟩
        conv => whnf
        refine ⟨⟨by show 0 + _ ≤ _; omega, by show ((ls.take i).flatten.length + (irows .i64 ls[i]).length) * 8 ≤ 140737488355328; omega⟩, ?_⟩
        conv => whnf
        refine ⟨i + 1, [(56, 144)], (by show ls.length - (i + 1) < ls.length - i; omega), hlt, ⟨⟨ownE rfl (by rw [hsl, ln]), rfl⟩, ⟨rfl, rfl⟩, ⟨rfl, rfl⟩, ⟨valI eI, rfl⟩, trivial⟩, ⟨⟨rfl, .inl ⟨celE ?_, irows_noid _ _⟩⟩, trivial⟩, rfl⟩
        show List.take _ (List.drop 0 (irows .i64 (ls.take i).flatten)) ++ irows .i64 ls[i] = _
        rw [List.drop_zero, List.take_of_length_le (by omega), hs, ← irows_append]
      · have hie : i = ls.length := by omega
        have e0 : ls.take i = ls := by rw [hie, List.take_length]
        rw [e0] at lf ⊢
        conv => whnf
        first
          | refine caseb (fun _ => ?_) (fun h => absurd (of_decide_eq_false h) (by omega))
          | refine caseb (fun h => absurd (of_decide_eq_true h) (by omega)) (fun _ => ?_)
          | refine caseb (fun _ => ?_) (fun h => absurd (beq_eq_false_iff_ne.1 h) (by omega))
          | refine caseb (fun h => absurd (eq_of_beq h) (by omega)) (fun _ => ?_)
        conv => whnf
        refine ⟨by show 0 + _ ≤ _; omega, ?_⟩
        show AV.sl 1 (List.take _ (List.drop 0 (irows .i64 ls.flatten))) false = _
        rw [List.drop_zero, List.take_of_length_le (by omega)]
theorem ShJoin_ok (ls : List (List Int)) (hl : ls.length ≤ 1000) (hb : ls.flatten.length ≤ 100000) : AC Tryz.prog 44 [.sl 1 (lrows ls) false] (.pure (.sl 1 (irows .i64 ls.flatten) false)) := by
  have hC := Concat_ok ls hl hb
  refine AC.of_body TTok Tryz.func44 rfl (enter_of Tryz.func44 (by kernel_rfl) (by kernel_rfl)) (noid1 (.sl _ _ _ (lrows_noid _))) (noid_sl _ _ _) (Nat.le_of_ble_eq_true rfl) ?_
  repeat
    conv => whnf
    first
      | refine ⟨_, by assumption, ?_⟩
      | refine ⟨(Nat.le_of_ble_eq_true rfl), _, by assumption, ?_⟩
      | refine ⟨by kernel_rfl, ?_⟩
      | exact rfl
      | exact ⟨Nat.le_of_ble_eq_true rfl, rfl⟩
      | refine ⟨by decide, ?_⟩
end Go.Proofs.YtliiekhmpgopnaaGreat

/- Shapes with an axis replaced, without an axis, split at an axis (contracts). -/
set_option linter.unusedVariables false
namespace Go.Proofs.YtliiekhmpgopnaaGreat
open Go Go.AL NM

theorem CloneI_fresh (l : List Int) (hne : l ≠ []) (hb : l.length ≤ 1000000) : AC Tryz.prog 73 [.sl 1 (irows .i64 l) false] (.fresh 1 (irows .i64 l)) := by
  refine AC.of_sw TTok Tryz.func73 rfl (enter_of Tryz.func73 (by kernel_rfl) (by kernel_rfl)) (noid1 (noid_sl _ _ _)) (irows_noid _ _) (Nat.le_of_ble_eq_true rfl) ?_
  have hlen := irows_len .i64 l
  refine SW.seqA TTok ?_
  conv => whnf
  refine SW.seq (SW.seq ?_)
  refine SW.regionNil (sz := 1) (rows := irows .i64 l) (tight := false) TTok _ rfl rfl rfl rfl (show Tryz.prog.underlying 22 = some (.slice 3) by kernel_rfl) ?_
  conv => whnf
  refine ⟨rfl, rfl, by decide, fun bv hbv => ?_⟩
  conv => whnf
  cases bv with
  | true =>
    have := hbv rfl
    rw [this] at hlen
    exact absurd (List.length_eq_zero_iff.1 hlen.symm) hne
  | false =>
    refine SW.cond (t := false) rfl (fun h => Bool.noConfusion h) (fun _ => ?_)
    refine axp_sound TTok _ _ _ ?_
    conv => whnf
    refine axp_sound TTok _ _ _ ?_
    conv => whnf
    refine ⟨⟨Nat.le_refl _, by show (0 + (irows .i64 l).length) * 8 ≤ 140737488355328; omega⟩, ?_⟩
    conv => whnf
    refine ⟨rfl, by show 0 + (0 + (irows .i64 l).length) ≤ (irows .i64 l).length; omega, ?_⟩
    show (irows .i64 l).take (0 + (irows .i64 l).length) = _
    rw [Nat.zero_add, List.take_length]

theorem irows_set (k : IntKind) (l : List Int) (i : Nat) (x : Int) : (irows k l).set i [.val (.int k x)] = irows k (l.set i x) := by unfold irows; rw [List.map_set]
theorem irows_take (k : IntKind) (l : List Int) (i : Nat) : (irows k l).take i = irows k (l.take i) := by unfold irows; rw [List.map_take]
theorem irows_drop (k : IntKind) (l : List Int) (i : Nat) : (irows k l).drop i = irows k (l.drop i) := by unfold irows; rw [List.map_drop]
theorem With_ok (s : List Int) (k : Nat) (n : Int) (hk : k < s.length) (hb : s.length ≤ 1000000) : AC Tryz.prog 74 [.sl 1 (irows .i64 s) false, .val (.int .i64 (k : Int)), .val (.int .i64 n)] (.pure (.sl 1 (irows .i64 (s.set k n)) false)) := by
  have hC := CloneI_fresh s (fun h => by rw [h] at hk; exact absurd hk (Nat.not_lt_zero _)) hb
  have ln := irows_len .i64 s
  refine AC.of_body TTok Tryz.func74 rfl (enter_of Tryz.func74 (by kernel_rfl) (by kernel_rfl)) (noid3 (noid_sl _ _ _) (.val _) (.val _)) (noid_sl _ _ _) (Nat.le_of_ble_eq_true rfl) ?_
  conv => whnf
  refine ⟨_, hC, ?_⟩
  conv => whnf
  first
    | refine caseb (fun _ => ?_) (fun h => absurd (of_decide_eq_false h) (by omega))
    | refine caseb (fun h => absurd (of_decide_eq_true h) (by omega)) (fun _ => ?_)
    | refine caseb (fun _ => ?_) (fun h => absurd (beq_eq_false_iff_ne.1 h) (by omega))
    | refine caseb (fun h => absurd (eq_of_beq h) (by omega)) (fun _ => ?_)
  conv => whnf
  refine ⟨by omega, ?_⟩
  conv => whnf
  refine ⟨by rw [Nat.zero_add, Int.toNat_natCast]; omega, ?_⟩
  conv => whnf
  refine ⟨by show 0 + _ ≤ ((irows .i64 s).set _ _).length; rw [List.length_set]; omega, ?_⟩
  show AV.sl 1 (List.take _ (List.drop 0 ((irows .i64 s).set (0 + (k : Int).toNat) [.val (.int .i64 n)]))) false = _
  rw [List.drop_zero, Nat.zero_add, Int.toNat_natCast, irows_set, List.take_of_length_le (by rw [irows_len, List.length_set]; omega)]
theorem Without_ok (s : List Int) (k : Nat) (hk : k < s.length) (hb : s.length ≤ 100000) : AC Tryz.prog 75 [.sl 1 (irows .i64 s) false, .val (.int .i64 (k : Int))] (.pure (.sl 1 (irows .i64 (s.take k ++ s.drop (k + 1))) false)) := by
  have hC := Concat_ok [s.take k, s.drop (k + 1)] (by show 2 ≤ 1000; omega) (by simp; omega)
  rw [show [s.take k, s.drop (k + 1)].flatten = s.take k ++ s.drop (k + 1) by simp] at hC
  have ln := irows_len .i64 s
  have eK : IntKind.i64.wrap ((k : Int) + 1) = ((k + 1 : Nat) : Int) := by rw [IntWalk.i64_in _ (by omega)]; omega
  have e1 : lrows [s.take k, s.drop (k + 1)] = [[.sl 1 (List.drop 0 (List.take (k : Int).toNat (irows .i64 s))) false], [.sl 1 (List.drop (IntKind.i64.wrap ((k : Int) + 1)).toNat (List.take (irows .i64 s).length (irows .i64 s))) false]] := by
    rw [eK, Int.toNat_natCast, Int.toNat_natCast, List.drop_zero, List.take_length, irows_take, irows_drop]; rfl
  rw [e1] at hC
  refine AC.of_body TTok Tryz.func75 rfl (enter_of Tryz.func75 (by kernel_rfl) (by kernel_rfl)) (noid2 (noid_sl _ _ _) (.val _)) (noid_sl _ _ _) (Nat.le_of_ble_eq_true rfl) ?_
  conv => whnf
  first
    | refine caseb (fun _ => ?_) (fun h => absurd (of_decide_eq_false h) (by omega))
    | refine caseb (fun h => absurd (of_decide_eq_true h) (by omega)) (fun _ => ?_)
    | refine caseb (fun _ => ?_) (fun h => absurd (beq_eq_false_iff_ne.1 h) (by omega))
    | refine caseb (fun h => absurd (eq_of_beq h) (by omega)) (fun _ => ?_)
  conv => whnf
  refine ⟨by omega, ?_⟩
  conv => whnf
  refine ⟨by rw [eK]; omega, ?_⟩
  conv => whnf
  refine ⟨(Nat.le_of_ble_eq_true rfl), _, hC, ?_⟩
  conv => whnf
  refine ⟨by kernel_rfl, ?_⟩
  repeat
    conv => whnf
    first
      | refine ⟨_, by assumption, ?_⟩
      | refine ⟨(Nat.le_of_ble_eq_true rfl), _, by assumption, ?_⟩
      | refine ⟨by kernel_rfl, ?_⟩
      | exact rfl
      | exact ⟨Nat.le_of_ble_eq_true rfl, rfl⟩
      | refine ⟨by decide, ?_⟩
theorem Split_ok (s : List Int) (k : Nat) (hk : k < s.length) (hv : vS s) : AC Tryz.prog 76 [.sl 1 (irows .i64 s) false, .val (.int .i64 (k : Int))] (.pure (.tup [.val (.int .i64 (pr (s.take k))), .val (.int .i64 s[k]), .val (.int .i64 (pr (s.drop (k + 1)))), .val (.bool true)])) := by
  have h8 := hv.1
  have hp := mid_split hk
  have v1 : vS (s.take k) := (vS_parts (by rw [← List.take_append_drop k s] at hv; exact hv)).1
  have v2 : vS (s.drop (k + 1)) := (vS_parts (by rw [← List.take_append_drop (k + 1) s] at hv; exact hv)).2
  have c0 := Count_ok s (by omega)
  have c1 := Count_ok (s.take k) (by rw [List.length_take]; omega)
  have c2 := Count_ok (s.drop (k + 1)) (by rw [List.length_drop]; omega)
  rw [CNT_good hv] at c0
  rw [CNT_good v1, (vS_pr v1).1] at c1
  rw [CNT_good v2, (vS_pr v2).1] at c2
  have ln := irows_len .i64 s
  have eK : IntKind.i64.wrap ((k : Int) + 1) = ((k + 1 : Nat) : Int) := by rw [IntWalk.i64_in _ (by omega)]; omega
  have e1 : irows .i64 (s.take k) = List.drop 0 (List.take (k : Int).toNat (irows .i64 s)) := by rw [Int.toNat_natCast, List.drop_zero, irows_take]
  have e2 : irows .i64 (s.drop (k + 1)) = List.drop (IntKind.i64.wrap ((k : Int) + 1)).toNat (List.take (irows .i64 s).length (irows .i64 s)) := by rw [eK, Int.toNat_natCast, List.take_length, irows_drop]
  rw [e1] at c1
  rw [e2] at c2
  have hg : (irows .i64 s)[k]? = some [.val (.int .i64 s[k])] := irows_get .i64 s (List.getElem?_eq_getElem hk)
  refine AC.of_body TTok Tryz.func76 rfl (enter_of Tryz.func76 (by kernel_rfl) (by kernel_rfl)) (noid2 (noid_sl _ _ _) (.val _)) (.tup _ (noidF (.val _) (.val _) (.val _) (.val _))) (Nat.le_of_ble_eq_true rfl) ?_
  conv => whnf
  refine ⟨_, c0, ?_⟩
  conv => whnf
  first
    | refine caseb (fun _ => ?_) (fun h => absurd (of_decide_eq_false h) (by omega))
    | refine caseb (fun h => absurd (of_decide_eq_true h) (by omega)) (fun _ => ?_)
    | refine caseb (fun _ => ?_) (fun h => absurd (beq_eq_false_iff_ne.1 h) (by omega))
    | refine caseb (fun h => absurd (eq_of_beq h) (by omega)) (fun _ => ?_)
  conv => whnf
  refine ⟨by omega, ?_⟩
  conv => whnf
  refine ⟨_, c1, ?_⟩
  conv => whnf
  refine ⟨by rw [eK]; omega, ?_⟩
  conv => whnf
  refine ⟨_, c2, ?_⟩
  conv => whnf
  refine ⟨_, ⟨by omega, by rw [Int.toNat_natCast]; exact hg⟩, ?_⟩
  repeat
    conv => whnf
    first
      | refine ⟨_, by assumption, ?_⟩
      | refine ⟨(Nat.le_of_ble_eq_true rfl), _, by assumption, ?_⟩
      | refine ⟨by kernel_rfl, ?_⟩
      | exact rfl
      | exact ⟨Nat.le_of_ble_eq_true rfl, rfl⟩
      | refine ⟨by decide, ?_⟩
end Go.Proofs.YtliiekhmpgopnaaGreat

/- The document's shapes: with an axis replaced, with an axis put in, all indices, an index's place (contracts). -/
set_option linter.unusedVariables false
namespace Go.Proofs.YtliiekhmpgopnaaGreat
open Go Go.AL NM

theorem RWith_ok (s : List Int) (k : Nat) (n : Int) (hk : k < s.length) (hb : s.length ≤ 100000) : AC Tryz.prog 80 [.sl 1 (irows .i64 s) false, .val (.int .i64 (k : Int)), .val (.int .i64 n)] (.pure (.sl 1 (irows .i64 (s.set k n)) false)) := by
  have ln := irows_len .i64 s
  obtain ⟨Y, hY⟩ : ∃ Y, Y = s.set k n := ⟨_, rfl⟩
  have lY : Y.length = s.length := by rw [hY, List.length_set]
  rw [← hY]
  refine AC.of_body TTok Tryz.func80 rfl (enter_of Tryz.func80 (by kernel_rfl) (by kernel_rfl)) (noid3 (noid_sl _ _ _) (.val _) (.val _)) (noid_sl _ _ _) (Nat.le_of_ble_eq_true rfl) ?_
  conv => whnf
  refine SW.nil 7 1 rfl ?_
  refine SW.loopM TTok (fun i : Nat => [(0, .sl 1 (irows .i64 s) false), (1, .val (.int .i64 (k : Int))), (2, .val (.int .i64 n)), (7, .own 24 0 i), (8, .val (.int .i64 (i : Int)))]) (fun i => [(24, .cells 1 (irows .i64 (Y.take i)))]) 32 30 rfl (fun i => s.length - i) (fun i => i ≤ s.length) 0 [] (Nat.zero_le _)
    ⟨⟨rfl, rfl⟩, ⟨rfl, rfl⟩, ⟨rfl, rfl⟩, ⟨rfl, rfl⟩, ⟨rfl, rfl⟩, trivial⟩ ⟨⟨rfl, .inr ⟨rfl, rfl⟩⟩, trivial⟩ rfl ?_
  intro i hJ
  have hi : i ≤ s.length := hJ
  clear hJ
  have lf : (irows .i64 (Y.take i)).length = i := by rw [irows_len, List.length_take]; omega
  by_cases hlt : i < s.length
  · have eI : IntKind.i64.wrap ((i : Int) + 1) = ((i + 1 : Nat) : Int) := by rw [IntWalk.i64_in _ (by omega)]; omega
    have hYs : irows .i64 (Y.take i) ++ irows .i64 [Y[i]] = irows .i64 (Y.take (i + 1)) := by rw [take_snoc (by omega), irows_append]
    by_cases hik : i = k
    · have e1 : Y[i] = n := by subst hY; subst hik; rw [List.getElem_set_self]
      rw [e1] at hYs
      conv => whnf
      first
        | refine caseb (fun _ => ?_) (fun h => absurd (of_decide_eq_false h) (by omega))
        | refine caseb (fun h => absurd (of_decide_eq_true h) (by omega)) (fun _ => ?_)
        | refine caseb (fun _ => ?_) (fun h => absurd (beq_eq_false_iff_ne.1 h) (by omega))
        | refine caseb (fun h => absurd (eq_of_beq h) (by omega)) (fun _ => ?_)
      conv => whnf
      first
        | refine caseb (fun _ => ?_) (fun h => absurd (of_decide_eq_false h) (by omega))
        | refine caseb (fun h => absurd (of_decide_eq_true h) (by omega)) (fun _ => ?_)
        | refine caseb (fun _ => ?_) (fun h => absurd (beq_eq_false_iff_ne.1 h) (by omega))
        | refine caseb (fun h => absurd (eq_of_beq h) (by omega)) (fun _ => ?_)
      conv => whnf
      refine ⟨⟨by show 0 + i ≤ _; omega, by show (i + 1) * 8 ≤ 140737488355328; omega, Nat.le_of_ble_eq_true rfl⟩, ?_⟩
      conv => whnf
      refine ⟨i + 1, [(24, 112)], (by show s.length - (i + 1) < s.length - i; omega), hlt, ⟨⟨rfl, rfl⟩, ⟨rfl, rfl⟩, ⟨rfl, rfl⟩, ⟨rfl, rfl⟩, ⟨valI eI, rfl⟩, trivial⟩, ⟨⟨rfl, .inl ⟨celE ?_, irows_noid _ _⟩⟩, trivial⟩, rfl⟩
      rw [← hYs]
      show List.take i (List.drop 0 (irows .i64 (Y.take i))) ++ [_] = _
      rw [List.drop_zero, List.take_of_length_le (by omega)]; rfl
    · have e1 : Y[i] = s[i] := by subst hY; rw [List.getElem_set_ne (fun h => hik h.symm)]
      rw [e1] at hYs
      have hg : (irows .i64 s)[i]? = some [.val (.int .i64 s[i])] := irows_get .i64 s (List.getElem?_eq_getElem hlt)
      conv => whnf
      first
        | refine caseb (fun _ => ?_) (fun h => absurd (of_decide_eq_false h) (by omega))
        | refine caseb (fun h => absurd (of_decide_eq_true h) (by omega)) (fun _ => ?_)
        | refine caseb (fun _ => ?_) (fun h => absurd (beq_eq_false_iff_ne.1 h) (by omega))
        | refine caseb (fun h => absurd (eq_of_beq h) (by omega)) (fun _ => ?_)
      conv => whnf
      first
        | refine caseb (fun _ => ?_) (fun h => absurd (of_decide_eq_false h) (by omega))
        | refine caseb (fun h => absurd (of_decide_eq_true h) (by omega)) (fun _ => ?_)
        | refine caseb (fun _ => ?_) (fun h => absurd (beq_eq_false_iff_ne.1 h) (by omega))
        | refine caseb (fun h => absurd (eq_of_beq h) (by omega)) (fun _ => ?_)
      conv => whnf
      refine ⟨_, ⟨by omega, by rw [Int.toNat_natCast]; exact hg⟩, ?_⟩
      conv => whnf
      refine ⟨⟨by show 0 + i ≤ _; omega, by show (i + 1) * 8 ≤ 140737488355328; omega, Nat.le_of_ble_eq_true rfl⟩, ?_⟩
      conv => whnf
      refine ⟨i + 1, [(24, 136)], (by show s.length - (i + 1) < s.length - i; omega), hlt, ⟨⟨rfl, rfl⟩, ⟨rfl, rfl⟩, ⟨rfl, rfl⟩, ⟨rfl, rfl⟩, ⟨valI eI, rfl⟩, trivial⟩, ⟨⟨rfl, .inl ⟨celE ?_, irows_noid _ _⟩⟩, trivial⟩, rfl⟩
      rw [← hYs]
      show List.take i (List.drop 0 (irows .i64 (Y.take i))) ++ [_] = _
      rw [List.drop_zero, List.take_of_length_le (by omega)]; rfl
  · have hie : i = s.length := by omega
    have e0 : Y.take i = Y := List.take_of_length_le (by omega)
    rw [e0] at lf ⊢
    conv => whnf
    first
      | refine caseb (fun _ => ?_) (fun h => absurd (of_decide_eq_false h) (by omega))
      | refine caseb (fun h => absurd (of_decide_eq_true h) (by omega)) (fun _ => ?_)
      | refine caseb (fun _ => ?_) (fun h => absurd (beq_eq_false_iff_ne.1 h) (by omega))
      | refine caseb (fun h => absurd (eq_of_beq h) (by omega)) (fun _ => ?_)
    conv => whnf
    refine ⟨by show 0 + i ≤ _; omega, ?_⟩
    show AV.sl 1 (List.take i (List.drop 0 (irows .i64 Y))) false = _
    rw [List.drop_zero, List.take_of_length_le (by omega)]
theorem part_ok (s : List Int) (k : Nat) (hk : k ≤ s.length) (hb : s.length ≤ 100000) : AC Tryz.prog 45 [.sl 1 (irows .i64 s) false, .val (.int .i64 (k : Int))] (.pure (.sl 1 (irows .i64 (s.take k ++ 1 :: s.drop k)) false)) := by
  have ln := irows_len .i64 s
  have lt1 : (List.drop 0 (List.take (k : Int).toNat (irows .i64 s))).length = k := by rw [List.drop_zero, List.length_take, Int.toNat_natCast]; omega
  have lt2 : (List.drop (k : Int).toNat (List.take (irows .i64 s).length (irows .i64 s))).length = s.length - k := by rw [List.length_drop, List.take_length, Int.toNat_natCast]; omega
  refine AC.of_body TTok Tryz.func45 rfl (enter_of Tryz.func45 (by kernel_rfl) (by kernel_rfl)) (noid2 (noid_sl _ _ _) (.val _)) (noid_sl _ _ _) (Nat.le_of_ble_eq_true rfl) ?_
  conv => whnf
  refine ⟨by omega, ?_⟩
  obtain ⟨R1, hR1⟩ : ∃ R, R = List.drop 0 (List.take (k : Int).toNat (irows .i64 s)) := ⟨_, rfl⟩
  obtain ⟨R2, hR2⟩ : ∃ R, R = List.drop (k : Int).toNat (List.take (irows .i64 s).length (irows .i64 s)) := ⟨_, rfl⟩
  rw [← hR1] at lt1
  rw [← hR2] at lt2
  conv => whnf
  rw [← hR1]
  refine ⟨⟨Nat.le_refl _, by show (0 + R1.length) * 8 ≤ 140737488355328; omega⟩, ?_⟩
  conv => whnf
  refine ⟨⟨by show 0 + (0 + R1.length) ≤ (List.take 0 (List.drop 0 ([] : List (List AV))) ++ R1).length; simp, by show (0 + R1.length + 1) * 8 ≤ 140737488355328; omega, Nat.le_refl _⟩, ?_⟩
  conv => whnf
  refine ⟨by omega, ?_⟩
  conv => whnf
  rw [← hR2]
  refine ⟨⟨by show 0 + (0 + R1.length + 1) ≤ (List.take (0 + R1.length) (List.drop 0 (List.take 0 (List.drop 0 ([] : List (List AV))) ++ R1)) ++ [[AV.val (.int .i64 1)]]).length; simp, by show (0 + R1.length + 1 + R2.length) * 8 ≤ 140737488355328; omega⟩, ?_⟩
  conv => whnf
  refine ⟨by kernel_rfl, ?_⟩
  conv => whnf
  refine ⟨by show 0 + (0 + R1.length + 1 + R2.length) ≤ (List.take (0 + R1.length + 1) (List.drop 0 (List.take (0 + R1.length) (List.drop 0 (List.take 0 (List.drop 0 ([] : List (List AV))) ++ R1)) ++ [[AV.val (.int .i64 1)]])) ++ R2).length; simp, ?_⟩
  show AV.sl 1 (List.take (0 + R1.length + 1 + R2.length) (List.drop 0 (List.take (0 + R1.length + 1) (List.drop 0 (List.take (0 + R1.length) (List.drop 0 (List.take 0 (List.drop 0 ([] : List (List AV))) ++ R1)) ++ [[AV.val (.int .i64 1)]])) ++ R2))) false = _
  have e : List.take (0 + R1.length + 1 + R2.length) (List.drop 0 (List.take (0 + R1.length + 1) (List.drop 0 (List.take (0 + R1.length) (List.drop 0 (List.take 0 (List.drop 0 ([] : List (List AV))) ++ R1)) ++ [[AV.val (.int .i64 1)]])) ++ R2)) = R1 ++ ([[AV.val (.int .i64 1)]] ++ R2) := by
    simp only [List.drop_zero, List.take_zero, List.nil_append, Nat.zero_add, List.take_length]
    rw [List.take_of_length_le (show (R1 ++ [[AV.val (.int .i64 1)]]).length ≤ R1.length + 1 by simp), List.take_of_length_le (by simp; omega), List.append_assoc]
  rw [e, hR1, hR2, Int.toNat_natCast, List.drop_zero, List.take_length, irows_take, irows_drop]
  show AV.sl 1 (irows .i64 (s.take k) ++ (irows .i64 [1] ++ irows .i64 (s.drop k))) false = _
  rw [irows_append, irows_append]
  rfl
end Go.Proofs.YtliiekhmpgopnaaGreat

/- The document's shapes: an index's place, all indices (contracts). -/
set_option linter.unusedVariables false
namespace Go.Proofs.YtliiekhmpgopnaaGreat
open Go Go.AL NM

theorem plS_neg (v w : List Int) (d a n : Int) (h : a < 0 ∨ d ≤ a) : plS n (d :: v) (a :: w) = -1 := if_pos h
/-- What is before an axis: the place so far is small. -/
def plB (s : List Int) (i : Nat) (n : Int) : Prop := 0 ≤ n ∧ n < pmI (s.take i)
theorem plB_step {s : List Int} (hv : vS s) {i : Nat} (hi : i < s.length) {n a : Int} (h : plB s i n) (h0 : 0 ≤ a) (h1 : a < s[i]) : plB s (i + 1) (n * s[i] + a) := by
  obtain ⟨b0, b1⟩ := h
  rw [plB, pm_take hi]
  have hd : 0 ≤ s[i] := by omega
  have m0 : 0 ≤ n * s[i] := Int.mul_nonneg b0 hd
  have m1 : (n + 1) * s[i] ≤ pmI (s.take i) * s[i] := Int.mul_le_mul_of_nonneg_right (by omega) hd
  rw [Int.add_mul, Int.one_mul] at m1
  rw [show max 1 s[i] = s[i] by omega]
  omega
theorem plB_small {s : List Int} (hv : vS s) {i : Nat} {n : Int} (h : plB s i n) : 0 ≤ n ∧ n < 4096 := by
  have := pm_mono s i
  have := hv.2.2
  exact ⟨h.1, by have := h.2; omega⟩
theorem RPlace_ok (s idx : List Int) (hv : vS s) (hl : idx.length = s.length) : AC Tryz.prog 130 [.sl 1 (irows .i64 s) false, .sl 1 (irows .i64 idx) false] (.pure (.val (.int .i64 (plS 0 s idx)))) := by
  have h8 := hv.1
  have ls := irows_len .i64 s
  have li := irows_len .i64 idx
  obtain ⟨res, hres⟩ : ∃ res, res = plS 0 s idx := ⟨_, rfl⟩
  rw [← hres]
  refine AC.of_body TTok Tryz.func130 rfl (enter_of Tryz.func130 (by kernel_rfl) (by kernel_rfl)) (noid2 (noid_sl _ _ _) (noid_sl _ _ _)) (.val _) (Nat.le_of_ble_eq_true rfl) ?_
  conv => whnf
  refine SW.loopM TTok (fun x : Nat × Int => [(0, .sl 1 (irows .i64 s) false), (1, .sl 1 (irows .i64 idx) false), (5, .val (.int .i64 x.2)), (6, .val (.int .i64 (x.1 : Int)))]) (fun _ => []) 24 47 rfl (fun x => s.length - x.1) (fun x => x.1 ≤ s.length ∧ plB s x.1 x.2 ∧ plS x.2 (s.drop x.1) (idx.drop x.1) = res) (0, 0) [] ⟨Nat.zero_le _, ⟨Int.le_refl _, by show (0 : Int) < 1; decide⟩, hres.symm⟩
    ⟨⟨rfl, rfl⟩, ⟨rfl, rfl⟩, ⟨rfl, rfl⟩, ⟨rfl, rfl⟩, trivial⟩ trivial rfl ?_
  rintro ⟨i, n⟩ ⟨hi, hB, hP⟩
  have hi : i ≤ s.length := hi
  have hP : plS n (s.drop i) (idx.drop i) = res := hP
  have hB : plB s i n := hB
  obtain ⟨b0, b1⟩ := plB_small hv hB
  by_cases hlt : i < s.length
  · have eI : IntKind.i64.wrap ((i : Int) + 1) = ((i + 1 : Nat) : Int) := by rw [IntWalk.i64_in _ (by omega)]; omega
    have hlx : i < idx.length := by omega
    have hg1 : (irows .i64 s)[i]? = some [.val (.int .i64 s[i])] := irows_get .i64 s (List.getElem?_eq_getElem hlt)
    have hg2 : (irows .i64 idx)[i]? = some [.val (.int .i64 idx[i])] := irows_get .i64 idx (List.getElem?_eq_getElem hlx)
    rw [List.drop_eq_getElem_cons hlt, List.drop_eq_getElem_cons hlx] at hP
    have hd4 := vS_dim hv (List.getElem_mem hlt)
    obtain ⟨a, ha⟩ : ∃ a, a = idx[i] := ⟨_, rfl⟩
    obtain ⟨d, hd⟩ : ∃ d, d = s[i] := ⟨_, rfl⟩
    rw [← ha, ← hd] at hP
    rw [← ha] at hg2
    rw [← hd] at hg1 hd4
    by_cases h0 : a < 0
    · rw [plS_neg _ _ _ _ _ (.inl h0)] at hP
      subst hP
      conv => whnf
      first
        | refine caseb (fun _ => ?_) (fun h => absurd (of_decide_eq_false h) (by omega))
        | refine caseb (fun h => absurd (of_decide_eq_true h) (by omega)) (fun _ => ?_)
        | refine caseb (fun _ => ?_) (fun h => absurd (beq_eq_false_iff_ne.1 h) (by omega))
        | refine caseb (fun h => absurd (eq_of_beq h) (by omega)) (fun _ => ?_)
      conv => whnf
      first
        | refine caseb (fun _ => ?_) (fun h => absurd (of_decide_eq_false h) (by omega))
        | refine caseb (fun h => absurd (of_decide_eq_true h) (by omega)) (fun _ => ?_)
        | refine caseb (fun _ => ?_) (fun h => absurd (beq_eq_false_iff_ne.1 h) (by omega))
        | refine caseb (fun h => absurd (eq_of_beq h) (by omega)) (fun _ => ?_)
      conv => whnf
      refine ⟨_, ⟨by omega, by rw [Int.toNat_natCast]; exact hg2⟩, ?_⟩
      conv => whnf
      first
        | refine caseb (fun _ => ?_) (fun h => absurd (of_decide_eq_false h) (by omega))
        | refine caseb (fun h => absurd (of_decide_eq_true h) (by omega)) (fun _ => ?_)
        | refine caseb (fun _ => ?_) (fun h => absurd (beq_eq_false_iff_ne.1 h) (by omega))
        | refine caseb (fun h => absurd (eq_of_beq h) (by omega)) (fun _ => ?_)
      repeat
        conv => whnf
        first
          | refine ⟨_, by assumption, ?_⟩
          | refine ⟨(Nat.le_of_ble_eq_true rfl), _, by assumption, ?_⟩
          | refine ⟨by kernel_rfl, ?_⟩
          | exact rfl
          | exact ⟨Nat.le_of_ble_eq_true rfl, rfl⟩
          | refine ⟨by decide, ?_⟩
    · by_cases h1 : d ≤ a
      · rw [plS_neg _ _ _ _ _ (.inr h1)] at hP
        subst hP
        conv => whnf
        first
          | refine caseb (fun _ => ?_) (fun h => absurd (of_decide_eq_false h) (by omega))
          | refine caseb (fun h => absurd (of_decide_eq_true h) (by omega)) (fun _ => ?_)
          | refine caseb (fun _ => ?_) (fun h => absurd (beq_eq_false_iff_ne.1 h) (by omega))
          | refine caseb (fun h => absurd (eq_of_beq h) (by omega)) (fun _ => ?_)
        conv => whnf
        first
          | refine caseb (fun _ => ?_) (fun h => absurd (of_decide_eq_false h) (by omega))
          | refine caseb (fun h => absurd (of_decide_eq_true h) (by omega)) (fun _ => ?_)
          | refine caseb (fun _ => ?_) (fun h => absurd (beq_eq_false_iff_ne.1 h) (by omega))
          | refine caseb (fun h => absurd (eq_of_beq h) (by omega)) (fun _ => ?_)
        conv => whnf
        refine ⟨_, ⟨by omega, by rw [Int.toNat_natCast]; exact hg2⟩, ?_⟩
        conv => whnf
        first
          | refine caseb (fun _ => ?_) (fun h => absurd (of_decide_eq_false h) (by omega))
          | refine caseb (fun h => absurd (of_decide_eq_true h) (by omega)) (fun _ => ?_)
          | refine caseb (fun _ => ?_) (fun h => absurd (beq_eq_false_iff_ne.1 h) (by omega))
          | refine caseb (fun h => absurd (eq_of_beq h) (by omega)) (fun _ => ?_)
        conv => whnf
        refine ⟨_, ⟨by omega, by rw [Int.toNat_natCast]; exact hg2⟩, ?_⟩
        conv => whnf
        refine ⟨_, ⟨by omega, by rw [Int.toNat_natCast]; exact hg1⟩, ?_⟩
        conv => whnf
        refine ⟨by kernel_rfl, ?_⟩
        conv => whnf
        first
          | refine caseb (fun _ => ?_) (fun h => absurd (of_decide_eq_false h) (by omega))
          | refine caseb (fun h => absurd (of_decide_eq_true h) (by omega)) (fun _ => ?_)
          | refine caseb (fun _ => ?_) (fun h => absurd (beq_eq_false_iff_ne.1 h) (by omega))
          | refine caseb (fun h => absurd (eq_of_beq h) (by omega)) (fun _ => ?_)
        repeat
          conv => whnf
          first
            | refine ⟨_, by assumption, ?_⟩
            | refine ⟨(Nat.le_of_ble_eq_true rfl), _, by assumption, ?_⟩
            | refine ⟨by kernel_rfl, ?_⟩
            | exact rfl
            | exact ⟨Nat.le_of_ble_eq_true rfl, rfl⟩
            | refine ⟨by decide, ?_⟩
      · have hst := plB_step hv hlt hB (a := a) (by omega) (by rw [← hd]; omega)
        rw [← hd] at hst
        obtain ⟨c0, c1⟩ := plB_small hv hst
        have m0 : 0 ≤ n * d := Int.mul_nonneg b0 (by omega)
        have eN : IntKind.i64.wrap (IntKind.i64.wrap (n * d) + a) = n * d + a := by rw [IntWalk.i64_in (n * d) (by omega), IntWalk.i64_in _ (by omega)]
        have hP' : (if a < 0 ∨ d ≤ a then -1 else plS (n * d + a) (s.drop (i + 1)) (idx.drop (i + 1))) = res := hP
        rw [if_neg (by omega)] at hP'
        conv => whnf
        first
          | refine caseb (fun _ => ?_) (fun h => absurd (of_decide_eq_false h) (by omega))
          | refine caseb (fun h => absurd (of_decide_eq_true h) (by omega)) (fun _ => ?_)
          | refine caseb (fun _ => ?_) (fun h => absurd (beq_eq_false_iff_ne.1 h) (by omega))
          | refine caseb (fun h => absurd (eq_of_beq h) (by omega)) (fun _ => ?_)
        conv => whnf
        first
          | refine caseb (fun _ => ?_) (fun h => absurd (of_decide_eq_false h) (by omega))
          | refine caseb (fun h => absurd (of_decide_eq_true h) (by omega)) (fun _ => ?_)
          | refine caseb (fun _ => ?_) (fun h => absurd (beq_eq_false_iff_ne.1 h) (by omega))
          | refine caseb (fun h => absurd (eq_of_beq h) (by omega)) (fun _ => ?_)
        conv => whnf
        refine ⟨_, ⟨by omega, by rw [Int.toNat_natCast]; exact hg2⟩, ?_⟩
        conv => whnf
        first
          | refine caseb (fun _ => ?_) (fun h => absurd (of_decide_eq_false h) (by omega))
          | refine caseb (fun h => absurd (of_decide_eq_true h) (by omega)) (fun _ => ?_)
          | refine caseb (fun _ => ?_) (fun h => absurd (beq_eq_false_iff_ne.1 h) (by omega))
          | refine caseb (fun h => absurd (eq_of_beq h) (by omega)) (fun _ => ?_)
        conv => whnf
        refine ⟨_, ⟨by omega, by rw [Int.toNat_natCast]; exact hg2⟩, ?_⟩
        conv => whnf
        refine ⟨_, ⟨by omega, by rw [Int.toNat_natCast]; exact hg1⟩, ?_⟩
        conv => whnf
        refine ⟨by kernel_rfl, ?_⟩
        conv => whnf
        first
          | refine caseb (fun _ => ?_) (fun h => absurd (of_decide_eq_false h) (by omega))
          | refine caseb (fun h => absurd (of_decide_eq_true h) (by omega)) (fun _ => ?_)
          | refine caseb (fun _ => ?_) (fun h => absurd (beq_eq_false_iff_ne.1 h) (by omega))
          | refine caseb (fun h => absurd (eq_of_beq h) (by omega)) (fun _ => ?_)
        conv => whnf
        refine ⟨_, ⟨by omega, by rw [Int.toNat_natCast]; exact hg1⟩, ?_⟩
        conv => whnf
        refine ⟨_, ⟨by omega, by rw [Int.toNat_natCast]; exact hg2⟩, ?_⟩
        conv => whnf
        refine ⟨by kernel_rfl, ?_⟩
        conv => whnf
        exact ⟨(i + 1, n * d + a), [], (by show s.length - (i + 1) < s.length - i; omega), ⟨hlt, hst, hP'⟩, ⟨⟨rfl, rfl⟩, ⟨rfl, rfl⟩, ⟨valI eN, rfl⟩, ⟨valI eI, rfl⟩, trivial⟩, trivial, rfl⟩
  · have hie : i = s.length := by omega
    have e1 : s.drop i = [] := List.drop_of_length_le (by omega)
    have e2 : idx.drop i = [] := List.drop_of_length_le (by omega)
    rw [e1, e2] at hP
    have hP : n = res := hP
    subst hP
    conv => whnf
    first
      | refine caseb (fun _ => ?_) (fun h => absurd (of_decide_eq_false h) (by omega))
      | refine caseb (fun h => absurd (of_decide_eq_true h) (by omega)) (fun _ => ?_)
      | refine caseb (fun _ => ?_) (fun h => absurd (beq_eq_false_iff_ne.1 h) (by omega))
      | refine caseb (fun h => absurd (eq_of_beq h) (by omega)) (fun _ => ?_)
    repeat
      conv => whnf
      first
        | refine ⟨_, by assumption, ?_⟩
        | refine ⟨(Nat.le_of_ble_eq_true rfl), _, by assumption, ?_⟩
        | refine ⟨by kernel_rfl, ?_⟩
        | exact rfl
        | exact ⟨Nat.le_of_ble_eq_true rfl, rfl⟩
        | refine ⟨by decide, ?_⟩
theorem place_ok (sh : List Int) (ch : Bool) (tx : List Int) (qs : List Rat) (s idx : List Int) (hv : vS s) (hl : idx.length = s.length) (hsh : sh.length ≤ 1000) :
    AC Tryz.prog 82 [PA sh ch tx qs, .sl 1 (irows .i64 s) false, .sl 1 (irows .i64 idx) false] (.pure (.val (.int .i64 (if sh = [] then 0 else plS 0 s idx)))) := by
  have hP := RPlace_ok s idx hv hl
  have ls := irows_len .i64 sh
  refine AC.of_body TTok Tryz.func82 rfl (enter_of Tryz.func82 (by kernel_rfl) (by kernel_rfl)) (noid3 (PA_noid _ _ _ _) (noid_sl _ _ _) (noid_sl _ _ _)) (.val _) (Nat.le_of_ble_eq_true rfl) ?_
  unfold PA
  by_cases h0 : sh = []
  · rw [if_pos h0]
    have : sh.length = 0 := by rw [h0]; rfl
    conv => whnf
    first
      | refine caseb (fun _ => ?_) (fun h => absurd (of_decide_eq_false h) (by omega))
      | refine caseb (fun h => absurd (of_decide_eq_true h) (by omega)) (fun _ => ?_)
      | refine caseb (fun _ => ?_) (fun h => absurd (beq_eq_false_iff_ne.1 h) (by omega))
      | refine caseb (fun h => absurd (eq_of_beq h) (by omega)) (fun _ => ?_)
    repeat
      conv => whnf
      first
        | refine ⟨_, by assumption, ?_⟩
        | refine ⟨(Nat.le_of_ble_eq_true rfl), _, by assumption, ?_⟩
        | refine ⟨by kernel_rfl, ?_⟩
        | exact rfl
        | exact ⟨Nat.le_of_ble_eq_true rfl, rfl⟩
        | refine ⟨by decide, ?_⟩
  · rw [if_neg h0]
    have : sh.length ≠ 0 := fun h => h0 (List.length_eq_zero_iff.1 h)
    conv => whnf
    first
      | refine caseb (fun _ => ?_) (fun h => absurd (of_decide_eq_false h) (by omega))
      | refine caseb (fun h => absurd (of_decide_eq_true h) (by omega)) (fun _ => ?_)
      | refine caseb (fun _ => ?_) (fun h => absurd (beq_eq_false_iff_ne.1 h) (by omega))
      | refine caseb (fun h => absurd (eq_of_beq h) (by omega)) (fun _ => ?_)
    repeat
      conv => whnf
      first
        | refine ⟨_, by assumption, ?_⟩
        | refine ⟨(Nat.le_of_ble_eq_true rfl), _, by assumption, ?_⟩
        | refine ⟨by kernel_rfl, ?_⟩
        | exact rfl
        | exact ⟨Nat.le_of_ble_eq_true rfl, rfl⟩
        | refine ⟨by decide, ?_⟩
end Go.Proofs.YtliiekhmpgopnaaGreat

/- The document's shapes: all indices (contract). -/
set_option linter.unusedVariables false
namespace Go.Proofs.YtliiekhmpgopnaaGreat
open Go Go.AL NM

def gA (D : Nat) (w : List Int) : List (List Int) := (List.range D).map fun n : Nat => w ++ [(n : Int)]
theorem gA_len (D : Nat) (w : List Int) : (gA D w).length = D := by unfold gA; rw [List.length_map, List.length_range]
theorem flatA_len (D : Nat) (Y : List (List Int)) : (Y.flatMap (gA D)).length = Y.length * D := by
  induction Y with
  | nil => exact (Nat.zero_mul D).symm
  | cons w Y ih => rw [List.flatMap_cons, List.length_append, ih, gA_len, List.length_cons, Nat.add_mul, Nat.one_mul, Nat.add_comm]
theorem lrows_append (a b : List (List Int)) : lrows (a ++ b) = lrows a ++ lrows b := List.map_append
set_option maxRecDepth 20000 in
theorem All_ok (s : List Int) (hv : vS s) : AC Tryz.prog 81 [.sl 1 (irows .i64 s) false] (.pure (.sl 1 (lrows (allS s)) false)) := by
  have ls := irows_len .i64 s
  have h8 := hv.1
  obtain ⟨W, hW⟩ : ∃ W, W = allS s := ⟨_, rfl⟩
  rw [← hW]
  refine AC.of_body TTok Tryz.func81 rfl (enter_of Tryz.func81 (by kernel_rfl) (by kernel_rfl)) (noid1 (noid_sl _ _ _)) (.sl _ _ _ (lrows_noid _)) (Nat.le_of_ble_eq_true rfl) ?_
  conv => whnf
  refine ⟨⟨Nat.le_refl _, noid1 (.sl _ _ _ (fun r hr => nomatch hr))⟩, ?_⟩
  conv => whnf
  refine SW.loopM TTok (fun i : Nat => [(0, .sl 1 (irows .i64 s) false), (3, .own 16 0 (allS (s.take i)).length), (4, .val (.int .i64 (i : Int)))]) (fun i => [(16, .cells 1 (lrows (allS (s.take i))))]) 40 48 rfl (fun i => s.length - i) (fun i => i ≤ s.length) 0 [] (Nat.zero_le _)
    ⟨⟨rfl, rfl⟩, ⟨rfl, rfl⟩, ⟨rfl, rfl⟩, trivial⟩ ⟨⟨rfl, .inr ⟨rfl, rfl⟩⟩, trivial⟩ rfl ?_
  intro i hJ
  have hi : i ≤ s.length := hJ
  clear hJ
  obtain ⟨Y, hY⟩ : ∃ Y, Y = allS (s.take i) := ⟨_, rfl⟩
  rw [← hY]
  have vi : vS (s.take i) := (vS_parts (by rw [← List.take_append_drop i s] at hv; exact hv)).1
  have lY : Y.length ≤ 4096 := by rw [hY, allS_len]; exact (vS_pr vi).2
  by_cases hlt : i < s.length
  · have eI : IntKind.i64.wrap ((i : Int) + 1) = ((i + 1 : Nat) : Int) := by rw [IntWalk.i64_in _ (by omega)]; omega
    obtain ⟨D, hD⟩ : ∃ D : Nat, (D : Int) = s[i] := ⟨s[i].toNat, by have := hv.2.1 _ (List.getElem_mem hlt); omega⟩
    have hD4 : D ≤ 4096 := by have := vS_dim hv (List.getElem_mem hlt); omega
    have hg1 : (irows .i64 s)[i]? = some [.val (.int .i64 (D : Int))] := by rw [hD]; exact irows_get .i64 s (List.getElem?_eq_getElem hlt)
    have hnext : allS (s.take (i + 1)) = Y.flatMap (gA D) := by
      rw [take_snoc hlt, allS_snoc, ← hY, ← hD, Int.toNat_natCast]; rfl
    conv => whnf
    first
      | refine caseb (fun _ => ?_) (fun h => absurd (of_decide_eq_false h) (by omega))
      | refine caseb (fun h => absurd (of_decide_eq_true h) (by omega)) (fun _ => ?_)
      | refine caseb (fun _ => ?_) (fun h => absurd (beq_eq_false_iff_ne.1 h) (by omega))
      | refine caseb (fun h => absurd (eq_of_beq h) (by omega)) (fun _ => ?_)
    conv => whnf
    refine SW.nil 5 1 rfl ?_
    refine SW.loopM TTok (fun k : Nat => [(0, .sl 1 (irows .i64 s) false), (3, .own 16 0 Y.length), (4, .val (.int .i64 (i : Int))), (5, .own 88 0 (k * D)), (6, .val (.int .i64 (k : Int)))]) (fun k => [(16, .cells 1 (lrows Y)), (88, .cells 1 (lrows ((Y.take k).flatMap (gA D))))]) 96 48 rfl (fun k => Y.length - k) (fun k => k ≤ Y.length) 0 [] (Nat.zero_le _)
      ⟨⟨rfl, rfl⟩, ⟨rfl, rfl⟩, ⟨rfl, rfl⟩, ⟨ownE rfl (Nat.zero_mul D).symm, rfl⟩, ⟨rfl, rfl⟩, trivial⟩ ⟨⟨rfl, .inl ⟨rfl, lrows_noid _⟩⟩, ⟨rfl, .inr ⟨rfl, rfl⟩⟩, trivial⟩ rfl ?_
    intro k hJ
    have hk : k ≤ Y.length := hJ
    clear hJ
    by_cases hkt : k < Y.length
    · have eK : IntKind.i64.wrap ((k : Int) + 1) = ((k + 1 : Nat) : Int) := by rw [IntWalk.i64_in _ (by omega)]; omega
      have hgY : (lrows Y)[k]? = some [.sl 1 (irows .i64 Y[k]) false] := by unfold lrows; rw [List.getElem?_map, List.getElem?_eq_getElem hkt]; rfl
      have lw : Y[k].length ≤ 8 := by
        have : Y[k]? = some Y[k] := List.getElem?_eq_getElem hkt
        have h2 : Y[k]? = some (dig (s.take i) k) := by rw [hY]; exact allS_get _ _ (by rw [← allS_len, ← hY]; exact hkt)
        rw [this] at h2
        rw [Option.some.inj h2, dig_len, List.length_take]; omega
      obtain ⟨w, hw⟩ : ∃ w, w = Y[k] := ⟨_, rfl⟩
      rw [← hw] at hgY lw
      have lnw := irows_len .i64 w
      have lZ : (lrows ((Y.take k).flatMap (gA D))).length = k * D := by rw [lrows_len, flatA_len, List.length_take, Nat.min_eq_left (by omega)]
      have hkD : k * D ≤ 4096 * 4096 := Nat.mul_le_mul (by omega) hD4
      obtain ⟨Z, hZ⟩ : ∃ Z, Z = (Y.take k).flatMap (gA D) := ⟨_, rfl⟩
      rw [← hZ] at lZ ⊢
      obtain ⟨z, hz⟩ : ∃ z : Nat → Int, ∀ j, z j = (j : Int) := ⟨fun j => j, fun _ => rfl⟩
      conv => whnf
      first
        | refine caseb (fun _ => ?_) (fun h => absurd (of_decide_eq_false h) (by omega))
        | refine caseb (fun h => absurd (of_decide_eq_true h) (by omega)) (fun _ => ?_)
        | refine caseb (fun _ => ?_) (fun h => absurd (beq_eq_false_iff_ne.1 h) (by omega))
        | refine caseb (fun h => absurd (eq_of_beq h) (by omega)) (fun _ => ?_)
      conv => whnf
      refine SW.loopM TTok (fun j : Nat => [(0, .sl 1 (irows .i64 s) false), (3, .own 16 0 Y.length), (4, .val (.int .i64 (i : Int))), (5, .own 88 0 (k * D + j)), (6, .val (.int .i64 (k : Int))), (7, .val (.int .i64 (z j)))]) (fun j => [(16, .cells 1 (lrows Y)), (88, .cells 1 (lrows (Z ++ (gA D w).take j)))]) 136 48 rfl (fun j => D - j) (fun j => j ≤ D) 0 [] (Nat.zero_le _)
        ⟨⟨rfl, rfl⟩, ⟨rfl, rfl⟩, ⟨rfl, rfl⟩, ⟨rfl, rfl⟩, ⟨rfl, rfl⟩, ⟨valI (hz 0).symm, rfl⟩, trivial⟩ ⟨⟨rfl, .inl ⟨rfl, lrows_noid _⟩⟩, ⟨rfl, .inl ⟨celE (by rw [List.take_zero, List.append_nil]), lrows_noid _⟩⟩, trivial⟩ rfl ?_
      intro j hJ
      have hj : j ≤ D := hJ
      clear hJ
      have lX : (lrows (Z ++ (gA D w).take j)).length = k * D + j := by
        rw [lrows_append, List.length_append, lZ, lrows_len, List.length_take, gA_len, Nat.min_eq_left hj]
      by_cases hjt : j < D
      · have hzj := hz j
        have eJ : IntKind.i64.wrap (z j + 1) = z (j + 1) := by rw [hz (j + 1), IntWalk.i64_in _ (by omega)]; omega
        have hgj : (gA D w).take (j + 1) = (gA D w).take j ++ [w ++ [(j : Int)]] := by
          rw [take_snoc (by rw [gA_len]; exact hjt)]
          congr 2
          unfold gA
          rw [List.getElem_map, List.getElem_range]
        conv => whnf
        refine ⟨_, ⟨by omega, by rw [Int.toNat_natCast]; exact hg1⟩, ?_⟩
        conv => whnf
        first
          | refine caseb (fun _ => ?_) (fun h => absurd (of_decide_eq_false h) (by omega))
          | refine caseb (fun h => absurd (of_decide_eq_true h) (by omega)) (fun _ => ?_)
          | refine caseb (fun _ => ?_) (fun h => absurd (beq_eq_false_iff_ne.1 h) (by omega))
          | refine caseb (fun h => absurd (eq_of_beq h) (by omega)) (fun _ => ?_)
        conv => whnf
        first
          | refine caseb (fun _ => ?_) (fun h => absurd (of_decide_eq_false h) (by omega))
          | refine caseb (fun h => absurd (of_decide_eq_true h) (by omega)) (fun _ => ?_)
          | refine caseb (fun _ => ?_) (fun h => absurd (beq_eq_false_iff_ne.1 h) (by omega))
          | refine caseb (fun h => absurd (eq_of_beq h) (by omega)) (fun _ => ?_)
        conv => whnf
        refine ⟨by omega, ?_⟩
        conv => whnf
        refine ⟨_, by rw [Nat.zero_add, Int.toNat_natCast]; exact hgY, ?_⟩
        conv => whnf
        refine ⟨⟨Nat.le_refl _, by show (0 + (irows .i64 w).length) * 8 ≤ 140737488355328; omega⟩, ?_⟩
        conv => whnf
        refine ⟨⟨by show 0 + (0 + (irows .i64 w).length) ≤ (List.take 0 (List.drop 0 ([] : List (List AV))) ++ irows .i64 w).length; simp, by show (0 + (irows .i64 w).length + 1) * 8 ≤ 140737488355328; omega, Nat.le_refl _⟩, ?_⟩
        conv => whnf
        have key : List.take (0 + (irows .i64 w).length + 1) (List.drop 0 (List.take (0 + (irows .i64 w).length) (List.drop 0 (List.take 0 (List.drop 0 ([] : List (List AV))) ++ irows .i64 w)) ++ [[AV.val (.int .i64 (z j))]])) = irows .i64 (w ++ [(j : Int)]) := by
          simp only [List.drop_zero, List.take_zero, List.nil_append, Nat.zero_add, List.take_length]
          rw [List.take_of_length_le (by simp), hzj, ← irows_append]; rfl
        refine ⟨⟨by show 0 + (0 + (irows .i64 w).length + 1) ≤ (List.take (0 + (irows .i64 w).length) (List.drop 0 (List.take 0 (List.drop 0 ([] : List (List AV))) ++ irows .i64 w)) ++ [[AV.val (.int .i64 (z j))]]).length; simp, noid1 (by show NoId (.sl 1 (List.take (0 + (irows .i64 w).length + 1) (List.drop 0 (List.take (0 + (irows .i64 w).length) (List.drop 0 (List.take 0 (List.drop 0 ([] : List (List AV))) ++ irows .i64 w)) ++ [[AV.val (.int .i64 (z j))]]))) false); rw [key]; exact noid_sl _ _ _)⟩, ?_⟩
        conv => whnf
        refine ⟨⟨by show 0 + (k * D + j) ≤ (lrows (Z ++ (gA D w).take j)).length; omega, by show (k * D + j + 1) * 24 ≤ 140737488355328; omega, Nat.le_refl _⟩, ?_⟩
        conv => whnf
        refine ⟨j + 1, [(88, 304)], (by show D - (j + 1) < D - j; omega), hjt, ⟨⟨rfl, rfl⟩, ⟨rfl, rfl⟩, ⟨rfl, rfl⟩, ⟨rfl, rfl⟩, ⟨rfl, rfl⟩, ⟨valI eJ, rfl⟩, trivial⟩, ⟨⟨rfl, .inl ⟨rfl, lrows_noid _⟩⟩, ⟨rfl, .inl ⟨celE ?_, lrows_noid _⟩⟩, trivial⟩, rfl⟩
        have hA : List.take (k * D + j) (List.drop 0 (lrows (Z ++ (gA D w).take j))) = lrows (Z ++ (gA D w).take j) := by rw [List.drop_zero, List.take_of_length_le (by omega)]
        show List.take (k * D + j) (List.drop 0 (lrows (Z ++ (gA D w).take j))) ++ [[AV.sl 1 (List.take (0 + (irows .i64 w).length + 1) (List.drop 0 (List.take (0 + (irows .i64 w).length) (List.drop 0 (List.take 0 (List.drop 0 ([] : List (List AV))) ++ irows .i64 w)) ++ [[AV.val (.int .i64 (z j))]]))) false]] = _
        rw [key, hA, hgj, ← List.append_assoc, lrows_append (Z ++ (gA D w).take j)]
        rfl
      · have hje : j = D := by omega
        have eT : (gA D w).take j = gA D w := List.take_of_length_le (by rw [gA_len]; omega)
        have hzj := hz j
        have hfl : (Y.take (k + 1)).flatMap (gA D) = Z ++ gA D w := by
          rw [take_snoc hkt, List.flatMap_append, ← hw, hZ]; simp
        rw [eT]
        conv => whnf
        refine ⟨_, ⟨by omega, by rw [Int.toNat_natCast]; exact hg1⟩, ?_⟩
        conv => whnf
        first
          | refine caseb (fun _ => ?_) (fun h => absurd (of_decide_eq_false h) (by omega))
          | refine caseb (fun h => absurd (of_decide_eq_true h) (by omega)) (fun _ => ?_)
          | refine caseb (fun _ => ?_) (fun h => absurd (beq_eq_false_iff_ne.1 h) (by omega))
          | refine caseb (fun h => absurd (eq_of_beq h) (by omega)) (fun _ => ?_)
        conv => whnf
        exact ⟨k + 1, [], (by show Y.length - (k + 1) < Y.length - k; omega), hkt, ⟨⟨rfl, rfl⟩, ⟨rfl, rfl⟩, ⟨rfl, rfl⟩, ⟨ownE rfl (by rw [hje, Nat.succ_mul]), rfl⟩, ⟨valI eK, rfl⟩, trivial⟩, ⟨⟨rfl, .inl ⟨rfl, lrows_noid _⟩⟩, ⟨rfl, .inl ⟨celE (by rw [hfl]), lrows_noid _⟩⟩, trivial⟩, rfl⟩
    · have hke : k = Y.length := by omega
      have eT : Y.take k = Y := List.take_of_length_le (by omega)
      rw [eT]
      conv => whnf
      first
        | refine caseb (fun _ => ?_) (fun h => absurd (of_decide_eq_false h) (by omega))
        | refine caseb (fun h => absurd (of_decide_eq_true h) (by omega)) (fun _ => ?_)
        | refine caseb (fun _ => ?_) (fun h => absurd (beq_eq_false_iff_ne.1 h) (by omega))
        | refine caseb (fun h => absurd (eq_of_beq h) (by omega)) (fun _ => ?_)
      conv => whnf
      exact ⟨i + 1, [(16, 88)], (by show s.length - (i + 1) < s.length - i; omega), hlt, ⟨⟨rfl, rfl⟩, ⟨ownE rfl (by rw [hnext, flatA_len, hke]), rfl⟩, ⟨valI eI, rfl⟩, trivial⟩, ⟨⟨rfl, .inl ⟨celE (by rw [hnext]), lrows_noid _⟩⟩, trivial⟩, rfl⟩
  · have hie : i = s.length := by omega
    have eT : s.take i = s := List.take_of_length_le (by omega)
    have hYW : Y = W := by rw [hY, hW, eT]
    rw [hYW]
    have lW := lrows_len W
    conv => whnf
    first
      | refine caseb (fun _ => ?_) (fun h => absurd (of_decide_eq_false h) (by omega))
      | refine caseb (fun h => absurd (of_decide_eq_true h) (by omega)) (fun _ => ?_)
      | refine caseb (fun _ => ?_) (fun h => absurd (beq_eq_false_iff_ne.1 h) (by omega))
      | refine caseb (fun h => absurd (eq_of_beq h) (by omega)) (fun _ => ?_)
    conv => whnf
    refine ⟨by show 0 + W.length ≤ _; omega, ?_⟩
    show AV.sl 1 (List.take W.length (List.drop 0 (lrows W))) false = _
    rw [List.drop_zero, List.take_of_length_le (by omega)]
end Go.Proofs.YtliiekhmpgopnaaGreat

/- An abstract program logic over tree values (part 35): ways that meet again; what stands there is weakened first. -/
set_option linter.unusedVariables false
set_option linter.unusedSimpArgs false
namespace Go.AL
open Go Go.RowKit

theorem SW.cutW {P : Program} {TT : Nat → Option TI} (hT : TTok P TT) {α : Type} {x y : Code} {Q : Exit → St → Prop} {s : St} (ts : α → List (Nat × AV)) (hs : α → List (Nat × LB)) (n m : Nat) (hm : s.m = m) (J : α → Prop)
    (h : axp P TT x (loopQ Q fun s2 => ∃ (s3 : St) (a : α) (σ : List (Nat × Nat)), Wk s2 s3 ∧ s3.m = s2.m ∧ J a ∧ okT s3 (σf σ) n (ts a) ∧ okH s3 (σf σ) n (hs a) ∧ distinct (((hs a).map (·.1)).map (σf σ)) = true) s)
    (hy : ∀ a, J a → SW P y Q (mkS (ts a) (hs a) n m)) : SW P (.seq x y) Q s := by
  refine SW.cut (fun s3 => ∃ a, J a ∧ s3 = mkS (ts a) (hs a) n m) (((axp_sound hT _ _ _ h).keep).mono fun e s' hq => ?_) ?_
  · obtain ⟨hq, hms⟩ := hq
    cases e with
    | normal =>
      obtain ⟨s4, a, σ, w1, w2, g2, g3, g4, g5⟩ := hq
      exact ⟨mkS (ts a) (hs a) n m, w1.trans (Wk.of _ _ _ _ _ (by rw [w2, hms, hm]) g3 g4 g5), (by rw [hms, hm]; rfl), a, g2, rfl⟩
    | _ => exact hq
  · rintro s3 hm3 ⟨a, hJ, rfl⟩
    exact hy a hJ

end Go.AL

/- Arrays: elements picked (contracts). -/
set_option linter.unusedVariables false
namespace Go.Proofs.YtliiekhmpgopnaaGreat
open Go Go.AL NM

/-- An element at a place; what stands for none, where there is no such place. -/
def getX (ns : List (Option (Rat × Nat))) (k : Int) : Option (Rat × Nat) := if 0 ≤ k then ns.getD k.toNat none else none
def getT (tx : List Int) (k : Int) : Int := if 0 ≤ k then tx.getD k.toNat 32 else 32
def getQ (qs : List Rat) (k : Int) : Rat := if 0 ≤ k then qs.getD k.toNat 0 else 0
theorem getX_in {ns : List (Option (Rat × Nat))} {k : Nat} (h : k < ns.length) : getX ns (k : Int) = ns[k] := by
  unfold getX
  rw [if_pos (by omega), Int.toNat_natCast, List.getD_eq_getElem?_getD, List.getElem?_eq_getElem h]; rfl
theorem getX_out {ns : List (Option (Rat × Nat))} {k : Int} (h : k < 0 ∨ (ns.length : Int) ≤ k) : getX ns k = none := by
  unfold getX
  split
  · rw [List.getD_eq_getElem?_getD, List.getElem?_eq_none (by omega)]; rfl
  · rfl
theorem getT_in {tx : List Int} {k : Nat} (h : k < tx.length) : getT tx (k : Int) = tx[k] := by
  unfold getT
  rw [if_pos (by omega), Int.toNat_natCast, List.getD_eq_getElem?_getD, List.getElem?_eq_getElem h]; rfl
theorem getT_out {tx : List Int} {k : Int} (h : k < 0 ∨ (tx.length : Int) ≤ k) : getT tx k = 32 := by
  unfold getT
  split
  · rw [List.getD_eq_getElem?_getD, List.getElem?_eq_none (by omega)]; rfl
  · rfl
theorem getQ_in {qs : List Rat} {k : Nat} (h : k < qs.length) : getQ qs (k : Int) = qs[k] := by
  unfold getQ
  rw [if_pos (by omega), Int.toNat_natCast, List.getD_eq_getElem?_getD, List.getElem?_eq_getElem h]; rfl
theorem getQ_out {qs : List Rat} {k : Int} (h : k < 0 ∨ (qs.length : Int) ≤ k) : getQ qs k = 0 := by
  unfold getQ
  split
  · rw [List.getD_eq_getElem?_getD, List.getElem?_eq_none (by omega)]; rfl
  · rfl
theorem getX_val (ns : List (Option (Rat × Nat))) (k : Int) : valX (getX ns k) = getQ (ns.map valX) k := by
  by_cases h : k < 0 ∨ (ns.length : Int) ≤ k
  · rw [getX_out h, getQ_out (by rw [List.length_map]; exact h)]; rfl
  · obtain ⟨j, rfl⟩ := Int.eq_ofNat_of_zero_le (show 0 ≤ k by omega)
    rw [getX_in (show j < ns.length by omega), getQ_in (show j < (ns.map valX).length by rw [List.length_map]; omega), List.getElem_map]
theorem getX_ok {ns : List (Option (Rat × Nat))} (h : ∀ o ∈ ns, okX o) (k : Int) : okX (getX ns k) := by
  by_cases hk : k < 0 ∨ (ns.length : Int) ≤ k
  · rw [getX_out hk]; trivial
  · obtain ⟨j, rfl⟩ := Int.eq_ofNat_of_zero_le (show 0 ≤ k by omega)
    rw [getX_in (show j < ns.length by omega)]
    exact h _ (List.getElem_mem _)
theorem RatAny_ok (sh : List Int) (ch : Bool) (tx : List Int) (ns : List (Option (Rat × Nat))) (made : Bool) (k : Int) (hb : ns.length ≤ 1000000) : AC Tryz.prog 53 [AA sh ch tx ns made, .val (.int .i64 k)] (.pure (.agg (rowX (getX ns k)))) := by
  by_cases h : k < 0 ∨ (ns.length : Int) ≤ k
  · rw [getX_out h]
    refine AC.of_body TTok Tryz.func53 rfl (enter_of Tryz.func53 (by kernel_rfl) (by kernel_rfl)) (noid2 (AA_noid _ _ _ _ _) (.val _)) (.agg _ (rowX_noid none)) (Nat.le_of_ble_eq_true rfl) ?_
    have hlen : (ns.map rowX).length = ns.length := List.length_map _
    unfold AA
    by_cases h0 : k < 0
    · conv => whnf
      first
        | refine caseb (fun _ => ?_) (fun h => absurd (of_decide_eq_false h) (by omega))
        | refine caseb (fun h => absurd (of_decide_eq_true h) (by omega)) (fun _ => ?_)
        | refine caseb (fun _ => ?_) (fun h => absurd (beq_eq_false_iff_ne.1 h) (by omega))
        | refine caseb (fun h => absurd (eq_of_beq h) (by omega)) (fun _ => ?_)
      repeat
        conv => whnf
        first
          | refine ⟨_, by assumption, ?_⟩
          | refine ⟨(Nat.le_of_ble_eq_true rfl), _, by assumption, ?_⟩
          | refine ⟨by kernel_rfl, ?_⟩
          | exact rfl
          | exact ⟨Nat.le_of_ble_eq_true rfl, rfl⟩
          | refine ⟨by decide, ?_⟩
    · conv => whnf
      first
        | refine caseb (fun _ => ?_) (fun h => absurd (of_decide_eq_false h) (by omega))
        | refine caseb (fun h => absurd (of_decide_eq_true h) (by omega)) (fun _ => ?_)
        | refine caseb (fun _ => ?_) (fun h => absurd (beq_eq_false_iff_ne.1 h) (by omega))
        | refine caseb (fun h => absurd (eq_of_beq h) (by omega)) (fun _ => ?_)
      conv => whnf
      first
        | refine caseb (fun _ => ?_) (fun h => absurd (of_decide_eq_false h) (by omega))
        | refine caseb (fun h => absurd (of_decide_eq_true h) (by omega)) (fun _ => ?_)
        | refine caseb (fun _ => ?_) (fun h => absurd (beq_eq_false_iff_ne.1 h) (by omega))
        | refine caseb (fun h => absurd (eq_of_beq h) (by omega)) (fun _ => ?_)
      repeat
        conv => whnf
        first
          | refine ⟨_, by assumption, ?_⟩
          | refine ⟨(Nat.le_of_ble_eq_true rfl), _, by assumption, ?_⟩
          | refine ⟨by kernel_rfl, ?_⟩
          | exact rfl
          | exact ⟨Nat.le_of_ble_eq_true rfl, rfl⟩
          | refine ⟨by decide, ?_⟩
  · obtain ⟨j, rfl⟩ := Int.eq_ofNat_of_zero_le (show 0 ≤ k by omega)
    rw [getX_in (show j < ns.length by omega)]
    exact RatI_ok sh ch tx ns made j (by omega) hb
theorem rowX_eq (o : Option (Rat × Nat)) : ∃ (k : Nat) (l1 l2 : List (List AV)) (z : Bool) (b : Bool), rowX o = [.sl k l1 z, .val (.bool b), .sl k l2 z] := by
  cases o with
  | none => exact ⟨0, [], [], true, false, rfl⟩
  | some p => exact ⟨1, _, _, false, _, rfl⟩
/-- Numbers picked (the program). -/
theorem PickN_ok (sh : List Int) (tx : List Int) (ns : List (Option (Rat × Nat))) (s at_ : List Int) (hv : vS s) (hc : cntI s = (at_.length : Int)) (hb : ns.length ≤ 100000) :
    AC Tryz.prog 72 [AA sh false tx ns true, .sl 1 (irows .i64 s) false, .sl 1 (irows .i64 at_) false] (.pure (.tup [AA s false [] (at_.map (getX ns)) true, .val (.bool true)])) := by
  have l4 : at_.length ≤ 4096 := by have := vS_pr hv; omega
  have hC := Count_ok s (by have := hv.1; omega)
  rw [CNT_good hv, hc] at hC
  have hK := CloneI_ok s (by have := hv.1; omega)
  have la := irows_len .i64 at_
  obtain ⟨Y, hY⟩ : ∃ Y, Y = at_.map (getX ns) := ⟨_, rfl⟩
  have lY : Y.length = at_.length := by rw [hY, List.length_map]
  have hYi : ∀ i (h : i < at_.length), Y[i]'(by omega) = getX ns at_[i] := fun i h => by subst hY; rw [List.getElem_map]
  have hR : ∀ i (h : i < at_.length), AC Tryz.prog 53 [AA sh false tx ns true, .val (.int .i64 at_[i])] (.pure (.agg (rowX (getX ns at_[i])))) := fun i h => RatAny_ok sh false tx ns true _ (by omega)
  rw [← hY]
  refine AC.le_res (?_ : AC Tryz.prog 72 _ (.pure (.tup [.agg [.sl 1 (irows .i64 s) false, .val (.bool false), .sl 0 [] true, .sl 3 (Y.map rowX) false, .val (.bool true)], .val (.bool true)]))) (.tup2 (le_agg5 (.refl _) (.refl _) (le_nil 1) (.refl _) (.refl _)) (.refl _)) (.tup _ (noid2 (AA_noid _ _ _ _ _) (.val _)))
  refine AC.of_body TTok Tryz.func72 rfl (enter_of Tryz.func72 (by kernel_rfl) (by kernel_rfl)) (noid3 (AA_noid _ _ _ _ _) (noid_sl _ _ _) (noid_sl _ _ _)) (.tup _ (noid2 (.agg _ (noid5 (noid_sl _ _ _) (.val _) (.sl _ _ _ (fun r hr => nomatch hr)) (slX_noid _) (.val _))) (.val _))) (Nat.le_of_ble_eq_true rfl) ?_
  unfold AA at hR ⊢
  conv => whnf
  refine ⟨_, hC, ?_⟩
  conv => whnf
  first
    | refine caseb (fun h => absurd (bne_iff_ne.1 h) (by omega)) (fun _ => ?_)
    | refine caseb (fun _ => ?_) (fun h => absurd (bne_eq_false_iff_eq.1 h) (by omega))
  conv => whnf
  refine ⟨_, hK, ?_⟩
  conv => whnf
  refine ⟨by kernel_rfl, ?_⟩
  conv => whnf
  refine SW.nilC 184 3 3 rfl rfl ?_
  refine SW.loopM TTok (fun i : Nat => [(3, .lp 0 0), (6, .lp 8 0), (10, .lp 184 0), (32, .sl 1 (irows .i64 at_) false), (33, .val (.int .i64 ((irows .i64 at_).length : Nat))), (34, .val (.int .i64 (i : Int)))])
    (fun i => [(0, .cells 5 [[.sl 1 (irows .i64 sh) false, .val (.bool false), .sl 1 (irows .i32 tx) false, .sl 3 (ns.map rowX) false, .val (.bool true)]]), (8, .cells 5 [[.sl 0 [] true, .val (.bool false), .sl 0 [] true, .sl 0 [] true, .val (.bool false)]]), (184, .cells 5 [[.sl 1 (irows .i64 s) false, .val (.bool false), .sl 0 [] true, .own 224 0 i, .val (.bool true)]]), (224, .cells 3 ((Y.take i).map rowX))]) 232 77 rfl (fun i => at_.length - i) (fun i => i ≤ at_.length) 0 [] (Nat.zero_le _)
    ⟨⟨rfl, rfl⟩, ⟨rfl, rfl⟩, ⟨rfl, rfl⟩, ⟨rfl, rfl⟩, ⟨rfl, rfl⟩, ⟨rfl, rfl⟩, trivial⟩ ⟨⟨rfl, .inr ⟨rfl, rfl⟩⟩, ⟨rfl, .inr ⟨rfl, rfl⟩⟩, ⟨rfl, .inr ⟨rfl, rfl⟩⟩, ⟨rfl, .inr ⟨rfl, rfl⟩⟩, trivial⟩ rfl ?_
  intro i hJ
  have hi : i ≤ at_.length := hJ
  clear hJ
  have lr : ((Y.take i).map rowX).length = i := by rw [List.length_map, List.length_take]; omega
  by_cases hlt : i < at_.length
  · have eI : IntKind.i64.wrap ((i : Int) + 1) = ((i + 1 : Nat) : Int) := by rw [IntWalk.i64_in _ (by omega)]; omega
    have hg : (irows .i64 at_)[i]? = some [.val (.int .i64 at_[i])] := irows_get .i64 at_ (List.getElem?_eq_getElem hlt)
    have d2 := hR i hlt
    have hsn : (Y.take i).map rowX ++ [rowX (getX ns at_[i])] = (Y.take (i + 1)).map rowX := by
      rw [take_snoc (show i < Y.length by omega), List.map_append, hYi i hlt]; rfl
    have htk : List.take i (List.drop 0 ((Y.take i).map rowX)) = (Y.take i).map rowX := by rw [List.drop_zero, List.take_of_length_le (by omega)]
    obtain ⟨k, l1, l2, z, b, hrow⟩ := rowX_eq (getX ns at_[i])
    rw [hrow] at d2 hsn
    conv => whnf
    first
      | refine caseb (fun _ => ?_) (fun h => absurd (of_decide_eq_false h) (by omega))
      | refine caseb (fun h => absurd (of_decide_eq_true h) (by omega)) (fun _ => ?_)
      | refine caseb (fun _ => ?_) (fun h => absurd (beq_eq_false_iff_ne.1 h) (by omega))
      | refine caseb (fun h => absurd (eq_of_beq h) (by omega)) (fun _ => ?_)
    conv => whnf
    refine ⟨_, ⟨by omega, by rw [Int.toNat_natCast]; exact hg⟩, ?_⟩
    conv => whnf
    refine ⟨_, d2, ?_⟩
    conv => whnf
    refine ⟨⟨by show 0 + i ≤ _; omega, by show (i + 1) * 56 ≤ 140737488355328; omega, Nat.le_of_ble_eq_true rfl⟩, ?_⟩
    conv => whnf
    refine ⟨by kernel_rfl, ?_⟩
    conv => whnf
    refine ⟨i + 1, [(224, 344)], (by show at_.length - (i + 1) < at_.length - i; omega), hlt, ⟨⟨rfl, rfl⟩, ⟨rfl, rfl⟩, ⟨rfl, rfl⟩, ⟨rfl, rfl⟩, ⟨rfl, rfl⟩, ⟨valI eI, rfl⟩, trivial⟩, ⟨⟨rfl, .inr ⟨rfl, rfl⟩⟩, ⟨rfl, .inr ⟨rfl, rfl⟩⟩, ⟨rfl, .inr ⟨rfl, rfl⟩⟩, ⟨rfl, .inl ⟨celE ?_, rowsX_noid _⟩⟩, trivial⟩, rfl⟩
    rw [← hsn]
    show List.take i (List.drop 0 ((Y.take i).map rowX)) ++ [_] = _
    rw [htk]
    rfl
  · have hie : i = at_.length := by omega
    have e1 : Y.take i = Y := List.take_of_length_le (by omega)
    rw [e1] at lr ⊢
    have key : List.take i (List.drop 0 (Y.map rowX)) = Y.map rowX := by rw [List.drop_zero, List.take_of_length_le (by omega)]
    conv => whnf
    first
      | refine caseb (fun _ => ?_) (fun h => absurd (of_decide_eq_false h) (by omega))
      | refine caseb (fun h => absurd (of_decide_eq_true h) (by omega)) (fun _ => ?_)
      | refine caseb (fun _ => ?_) (fun h => absurd (beq_eq_false_iff_ne.1 h) (by omega))
      | refine caseb (fun h => absurd (eq_of_beq h) (by omega)) (fun _ => ?_)
    conv => whnf
    refine ⟨by show 0 + i ≤ _; omega, ?_⟩
    show AV.tup [AV.agg [_, _, _, AV.sl 3 (List.take i (List.drop 0 (Y.map rowX))) false, _], _] = _
    rw [key]
    rfl
/-- Characters picked (the program). -/
theorem PickT_ok (sh : List Int) (tx : List Int) (ns : List (Option (Rat × Nat))) (s at_ : List Int) (hv : vS s) (hc : cntI s = (at_.length : Int)) (hb : tx.length ≤ 100000) :
    AC Tryz.prog 72 [AA sh true tx ns true, .sl 1 (irows .i64 s) false, .sl 1 (irows .i64 at_) false] (.pure (.tup [AA s true (at_.map (getT tx)) [] true, .val (.bool true)])) := by
  have l4 : at_.length ≤ 4096 := by have := vS_pr hv; omega
  have hC := Count_ok s (by have := hv.1; omega)
  rw [CNT_good hv, hc] at hC
  have hK := CloneI_ok s (by have := hv.1; omega)
  have la := irows_len .i64 at_
  have lt := irows_len .i32 tx
  obtain ⟨Y, hY⟩ : ∃ Y, Y = at_.map (getT tx) := ⟨_, rfl⟩
  have lY : Y.length = at_.length := by rw [hY, List.length_map]
  have hYi : ∀ i (h : i < at_.length), Y[i]'(by omega) = getT tx at_[i] := fun i h => by subst hY; rw [List.getElem_map]
  rw [← hY]
  refine AC.le_res (?_ : AC Tryz.prog 72 _ (.pure (.tup [.agg [.sl 1 (irows .i64 s) false, .val (.bool true), .sl 1 (irows .i32 Y) false, .sl 0 [] true, .val (.bool true)], .val (.bool true)]))) (.tup2 (le_agg5 (.refl _) (.refl _) (.refl _) (le_nil 3) (.refl _)) (.refl _)) (.tup _ (noid2 (AA_noid _ _ _ _ _) (.val _)))
  refine AC.of_body TTok Tryz.func72 rfl (enter_of Tryz.func72 (by kernel_rfl) (by kernel_rfl)) (noid3 (AA_noid _ _ _ _ _) (noid_sl _ _ _) (noid_sl _ _ _)) (.tup _ (noid2 (.agg _ (noid5 (noid_sl _ _ _) (.val _) (noid_sl _ _ _) (.sl _ _ _ (fun r hr => nomatch hr)) (.val _))) (.val _))) (Nat.le_of_ble_eq_true rfl) ?_
  unfold AA
  conv => whnf
  refine ⟨_, hC, ?_⟩
  conv => whnf
  first
    | refine caseb (fun h => absurd (bne_iff_ne.1 h) (by omega)) (fun _ => ?_)
    | refine caseb (fun _ => ?_) (fun h => absurd (bne_eq_false_iff_eq.1 h) (by omega))
  conv => whnf
  refine ⟨_, hK, ?_⟩
  conv => whnf
  refine ⟨by kernel_rfl, ?_⟩
  conv => whnf
  refine SW.nilC 184 2 1 rfl rfl ?_
  refine SW.loopM TTok (fun i : Nat => [(3, .lp 0 0), (6, .lp 8 0), (10, .lp 184 0), (32, .sl 1 (irows .i64 at_) false), (33, .val (.int .i64 ((irows .i64 at_).length : Nat))), (34, .val (.int .i64 (i : Int)))])
    (fun i => [(0, .cells 5 [[.sl 1 (irows .i64 sh) false, .val (.bool true), .sl 1 (irows .i32 tx) false, .sl 3 (ns.map rowX) false, .val (.bool true)]]), (8, .cells 5 [[.sl 0 [] true, .val (.bool false), .sl 0 [] true, .sl 0 [] true, .val (.bool false)]]), (184, .cells 5 [[.sl 1 (irows .i64 s) false, .val (.bool true), .own 224 0 i, .sl 0 [] true, .val (.bool true)]]), (224, .cells 1 (irows .i32 (Y.take i)))]) 232 77 rfl (fun i => at_.length - i) (fun i => i ≤ at_.length) 0 [] (Nat.zero_le _)
    ⟨⟨rfl, rfl⟩, ⟨rfl, rfl⟩, ⟨rfl, rfl⟩, ⟨rfl, rfl⟩, ⟨rfl, rfl⟩, ⟨rfl, rfl⟩, trivial⟩ ⟨⟨rfl, .inr ⟨rfl, rfl⟩⟩, ⟨rfl, .inr ⟨rfl, rfl⟩⟩, ⟨rfl, .inr ⟨rfl, rfl⟩⟩, ⟨rfl, .inr ⟨rfl, rfl⟩⟩, trivial⟩ rfl ?_
  intro i hJ
  have hi : i ≤ at_.length := hJ
  clear hJ
  have lr : (irows .i32 (Y.take i)).length = i := by rw [irows_len, List.length_take]; omega
  by_cases hlt : i < at_.length
  · have eI : IntKind.i64.wrap ((i : Int) + 1) = ((i + 1 : Nat) : Int) := by rw [IntWalk.i64_in _ (by omega)]; omega
    have hg : (irows .i64 at_)[i]? = some [.val (.int .i64 at_[i])] := irows_get .i64 at_ (List.getElem?_eq_getElem hlt)
    have hsn : irows .i32 (Y.take i) ++ irows .i32 [getT tx at_[i]] = irows .i32 (Y.take (i + 1)) := by
      rw [take_snoc (show i < Y.length by omega), hYi i hlt, irows_append]
    have htk : List.take i (List.drop 0 (irows .i32 (Y.take i))) = irows .i32 (Y.take i) := by rw [List.drop_zero, List.take_of_length_le (by omega)]
    obtain ⟨k, hk⟩ : ∃ k, k = at_[i] := ⟨_, rfl⟩
    rw [← hk] at hg hsn
    by_cases h0 : k < 0
    · rw [getT_out (.inl h0)] at hsn
      conv => whnf
      first
        | refine caseb (fun _ => ?_) (fun h => absurd (of_decide_eq_false h) (by omega))
        | refine caseb (fun h => absurd (of_decide_eq_true h) (by omega)) (fun _ => ?_)
        | refine caseb (fun _ => ?_) (fun h => absurd (beq_eq_false_iff_ne.1 h) (by omega))
        | refine caseb (fun h => absurd (eq_of_beq h) (by omega)) (fun _ => ?_)
      conv => whnf
      refine ⟨_, ⟨by omega, by rw [Int.toNat_natCast]; exact hg⟩, ?_⟩
      conv => whnf
      first
        | refine caseb (fun _ => ?_) (fun h => absurd (of_decide_eq_false h) (by omega))
        | refine caseb (fun h => absurd (of_decide_eq_true h) (by omega)) (fun _ => ?_)
        | refine caseb (fun _ => ?_) (fun h => absurd (beq_eq_false_iff_ne.1 h) (by omega))
        | refine caseb (fun h => absurd (eq_of_beq h) (by omega)) (fun _ => ?_)
      conv => whnf
      refine ⟨⟨by show 0 + i ≤ _; omega, by show (i + 1) * 4 ≤ 140737488355328; omega, Nat.le_of_ble_eq_true rfl⟩, ?_⟩
      conv => whnf
      refine ⟨i + 1, [(224, 400)], (by show at_.length - (i + 1) < at_.length - i; omega), hlt, ⟨⟨rfl, rfl⟩, ⟨rfl, rfl⟩, ⟨rfl, rfl⟩, ⟨rfl, rfl⟩, ⟨rfl, rfl⟩, ⟨valI eI, rfl⟩, trivial⟩, ⟨⟨rfl, .inr ⟨rfl, rfl⟩⟩, ⟨rfl, .inr ⟨rfl, rfl⟩⟩, ⟨rfl, .inr ⟨rfl, rfl⟩⟩, ⟨rfl, .inl ⟨celE ?_, irows_noid _ _⟩⟩, trivial⟩, rfl⟩
      rw [← hsn]
      show List.take i (List.drop 0 (irows .i32 (Y.take i))) ++ [_] = _
      rw [htk]; rfl
    · by_cases h1 : (tx.length : Int) ≤ k
      · rw [getT_out (.inr h1)] at hsn
        conv => whnf
        first
          | refine caseb (fun _ => ?_) (fun h => absurd (of_decide_eq_false h) (by omega))
          | refine caseb (fun h => absurd (of_decide_eq_true h) (by omega)) (fun _ => ?_)
          | refine caseb (fun _ => ?_) (fun h => absurd (beq_eq_false_iff_ne.1 h) (by omega))
          | refine caseb (fun h => absurd (eq_of_beq h) (by omega)) (fun _ => ?_)
        conv => whnf
        refine ⟨_, ⟨by omega, by rw [Int.toNat_natCast]; exact hg⟩, ?_⟩
        conv => whnf
        first
          | refine caseb (fun _ => ?_) (fun h => absurd (of_decide_eq_false h) (by omega))
          | refine caseb (fun h => absurd (of_decide_eq_true h) (by omega)) (fun _ => ?_)
          | refine caseb (fun _ => ?_) (fun h => absurd (beq_eq_false_iff_ne.1 h) (by omega))
          | refine caseb (fun h => absurd (eq_of_beq h) (by omega)) (fun _ => ?_)
        conv => whnf
        first
          | refine caseb (fun _ => ?_) (fun h => absurd (of_decide_eq_false h) (by omega))
          | refine caseb (fun h => absurd (of_decide_eq_true h) (by omega)) (fun _ => ?_)
          | refine caseb (fun _ => ?_) (fun h => absurd (beq_eq_false_iff_ne.1 h) (by omega))
          | refine caseb (fun h => absurd (eq_of_beq h) (by omega)) (fun _ => ?_)
        conv => whnf
        refine ⟨⟨by show 0 + i ≤ _; omega, by show (i + 1) * 4 ≤ 140737488355328; omega, Nat.le_of_ble_eq_true rfl⟩, ?_⟩
        conv => whnf
        refine ⟨i + 1, [(224, 400)], (by show at_.length - (i + 1) < at_.length - i; omega), hlt, ⟨⟨rfl, rfl⟩, ⟨rfl, rfl⟩, ⟨rfl, rfl⟩, ⟨rfl, rfl⟩, ⟨rfl, rfl⟩, ⟨valI eI, rfl⟩, trivial⟩, ⟨⟨rfl, .inr ⟨rfl, rfl⟩⟩, ⟨rfl, .inr ⟨rfl, rfl⟩⟩, ⟨rfl, .inr ⟨rfl, rfl⟩⟩, ⟨rfl, .inl ⟨celE ?_, irows_noid _ _⟩⟩, trivial⟩, rfl⟩
        rw [← hsn]
        show List.take i (List.drop 0 (irows .i32 (Y.take i))) ++ [_] = _
        rw [htk]; rfl
      · obtain ⟨j, rfl⟩ := Int.eq_ofNat_of_zero_le (show 0 ≤ k by omega)
        rw [getT_in (show j < tx.length by omega)] at hsn
        have hg2 : (irows .i32 tx)[j]? = some [.val (.int .i32 tx[j])] := irows_get .i32 tx (List.getElem?_eq_getElem (by omega))
        conv => whnf
        first
          | refine caseb (fun _ => ?_) (fun h => absurd (of_decide_eq_false h) (by omega))
          | refine caseb (fun h => absurd (of_decide_eq_true h) (by omega)) (fun _ => ?_)
          | refine caseb (fun _ => ?_) (fun h => absurd (beq_eq_false_iff_ne.1 h) (by omega))
          | refine caseb (fun h => absurd (eq_of_beq h) (by omega)) (fun _ => ?_)
        conv => whnf
        refine ⟨_, ⟨by omega, by rw [Int.toNat_natCast]; exact hg⟩, ?_⟩
        conv => whnf
        first
          | refine caseb (fun _ => ?_) (fun h => absurd (of_decide_eq_false h) (by omega))
          | refine caseb (fun h => absurd (of_decide_eq_true h) (by omega)) (fun _ => ?_)
          | refine caseb (fun _ => ?_) (fun h => absurd (beq_eq_false_iff_ne.1 h) (by omega))
          | refine caseb (fun h => absurd (eq_of_beq h) (by omega)) (fun _ => ?_)
        conv => whnf
        refine ⟨_, ⟨by omega, by rw [Int.toNat_natCast]; exact hg2⟩, ?_⟩
        conv => whnf
        refine ⟨⟨by show 0 + i ≤ _; omega, by show (i + 1) * 4 ≤ 140737488355328; omega, Nat.le_of_ble_eq_true rfl⟩, ?_⟩
        conv => whnf
        refine ⟨by kernel_rfl, ?_⟩
        conv => whnf
        refine ⟨i + 1, [(224, 440)], (by show at_.length - (i + 1) < at_.length - i; omega), hlt, ⟨⟨rfl, rfl⟩, ⟨rfl, rfl⟩, ⟨rfl, rfl⟩, ⟨rfl, rfl⟩, ⟨rfl, rfl⟩, ⟨valI eI, rfl⟩, trivial⟩, ⟨⟨rfl, .inr ⟨rfl, rfl⟩⟩, ⟨rfl, .inr ⟨rfl, rfl⟩⟩, ⟨rfl, .inr ⟨rfl, rfl⟩⟩, ⟨rfl, .inl ⟨celE ?_, irows_noid _ _⟩⟩, trivial⟩, rfl⟩
        rw [← hsn]
        show List.take i (List.drop 0 (irows .i32 (Y.take i))) ++ [_] = _
        rw [htk]; rfl
  · have hie : i = at_.length := by omega
    have e1 : Y.take i = Y := List.take_of_length_le (by omega)
    rw [e1] at lr ⊢
    have key : List.take i (List.drop 0 (irows .i32 Y)) = irows .i32 Y := by rw [List.drop_zero, List.take_of_length_le (by omega)]
    conv => whnf
    first
      | refine caseb (fun _ => ?_) (fun h => absurd (of_decide_eq_false h) (by omega))
      | refine caseb (fun h => absurd (of_decide_eq_true h) (by omega)) (fun _ => ?_)
      | refine caseb (fun _ => ?_) (fun h => absurd (beq_eq_false_iff_ne.1 h) (by omega))
      | refine caseb (fun h => absurd (eq_of_beq h) (by omega)) (fun _ => ?_)
    conv => whnf
    refine ⟨by show 0 + i ≤ _; omega, ?_⟩
    show AV.tup [AV.agg [_, _, AV.sl 1 (List.take i (List.drop 0 (irows .i32 Y))) false, _, _], _] = _
    rw [key]
    rfl
end Go.Proofs.YtliiekhmpgopnaaGreat

/- Arrays: elements picked (the document's contracts). -/
set_option linter.unusedVariables false
namespace Go.Proofs.YtliiekhmpgopnaaGreat
open Go Go.AL NM

theorem RPickN_ok (sh : List Int) (qs : List Rat) (s at_ : List Int) (hs : s.length ≤ 1000) (ha : at_.length ≤ 5000) (hb : qs.length ≤ 100000) :
    AC Tryz.prog 83 [PA sh false [] qs, .sl 1 (irows .i64 s) false, .sl 1 (irows .i64 at_) false] (.pure (PA s false [] (at_.map (getQ qs)))) := by
  have hL := RLen_ok sh false [] qs (by decide) (by omega)
  have hZ := SZero_ok
  have la := irows_len .i64 at_
  have lq : (qs.map rowN).length = qs.length := List.length_map _
  obtain ⟨Y, hY⟩ : ∃ Y, Y = at_.map (getQ qs) := ⟨_, rfl⟩
  have lY : Y.length = at_.length := by rw [hY, List.length_map]
  have hYi : ∀ i (h : i < at_.length), Y[i]'(by omega) = getQ qs at_[i] := fun i h => by subst hY; rw [List.getElem_map]
  rw [← hY]
  refine AC.le_res (?_ : AC Tryz.prog 83 _ (.pure (.agg [.sl 1 (irows .i64 s) false, .val (.bool false), .sl 0 [] true, .sl 3 (Y.map rowN) false]))) (le_agg4 (.refl _) (.refl _) (le_nil 1) (.refl _)) (PA_noid _ _ _ _)
  refine AC.of_body TTok Tryz.func83 rfl (enter_of Tryz.func83 (by kernel_rfl) (by kernel_rfl)) (noid3 (PA_noid _ _ _ _) (noid_sl _ _ _) (noid_sl _ _ _)) (.agg _ (noidF (noid_sl _ _ _) (.val _) (.sl _ _ _ (fun r hr => nomatch hr)) (slN_noid _))) (Nat.le_of_ble_eq_true rfl) ?_
  unfold PA at hL ⊢
  unfold RN at hZ
  conv => whnf
  refine SW.nilC 48 3 3 rfl rfl ?_
  refine SW.loopM TTok (fun i : Nat => [(2, .sl 1 (irows .i64 at_) false), (3, .lp 0 0), (6, .lp 8 0), (7, .lp 48 0), (8, .val (.int .i64 (i : Int)))])
    (fun i => [(0, .cells 4 [[.sl 1 (irows .i64 sh) false, .val (.bool false), .sl 1 (irows .i32 []) false, .sl 3 (qs.map rowN) false]]), (8, .cells 4 [[.sl 0 [] true, .val (.bool false), .sl 0 [] true, .sl 0 [] true]]), (48, .cells 4 [[.sl 1 (irows .i64 s) false, .val (.bool false), .sl 0 [] true, .own 72 0 i]]), (72, .cells 3 ((Y.take i).map rowN))]) 80 73 rfl (fun i => at_.length - i) (fun i => i ≤ at_.length) 0 [] (Nat.zero_le _)
    ⟨⟨rfl, rfl⟩, ⟨rfl, rfl⟩, ⟨rfl, rfl⟩, ⟨rfl, rfl⟩, ⟨rfl, rfl⟩, trivial⟩ ⟨⟨rfl, .inr ⟨rfl, rfl⟩⟩, ⟨rfl, .inr ⟨rfl, rfl⟩⟩, ⟨rfl, .inr ⟨rfl, rfl⟩⟩, ⟨rfl, .inr ⟨rfl, rfl⟩⟩, trivial⟩ rfl ?_
  intro i hJ
  have hi : i ≤ at_.length := hJ
  clear hJ
  have lr : ((Y.take i).map rowN).length = i := by rw [List.length_map, List.length_take]; omega
  have h0len : ([] : List Int).length = 0 := rfl
  by_cases hlt : i < at_.length
  · have eI : IntKind.i64.wrap ((i : Int) + 1) = ((i + 1 : Nat) : Int) := by rw [IntWalk.i64_in _ (by omega)]; omega
    have hg : (irows .i64 at_)[i]? = some [.val (.int .i64 at_[i])] := irows_get .i64 at_ (List.getElem?_eq_getElem hlt)
    have hsn : (Y.take i).map rowN ++ [rowN (getQ qs at_[i])] = (Y.take (i + 1)).map rowN := by
      rw [take_snoc (show i < Y.length by omega), List.map_append, hYi i hlt]; rfl
    have htk : List.take i (List.drop 0 ((Y.take i).map rowN)) = (Y.take i).map rowN := by rw [List.drop_zero, List.take_of_length_le (by omega)]
    obtain ⟨k, hk⟩ : ∃ k, k = at_[i] := ⟨_, rfl⟩
    rw [← hk] at hg hsn
    by_cases h0 : k < 0
    · rw [getQ_out (.inl h0)] at hsn
      conv => whnf
      first
        | refine caseb (fun _ => ?_) (fun h => absurd (of_decide_eq_false h) (by omega))
        | refine caseb (fun h => absurd (of_decide_eq_true h) (by omega)) (fun _ => ?_)
        | refine caseb (fun _ => ?_) (fun h => absurd (beq_eq_false_iff_ne.1 h) (by omega))
        | refine caseb (fun h => absurd (eq_of_beq h) (by omega)) (fun _ => ?_)
      conv => whnf
      refine ⟨_, ⟨by omega, by rw [Int.toNat_natCast]; exact hg⟩, ?_⟩
      conv => whnf
      first
        | refine caseb (fun _ => ?_) (fun h => absurd (of_decide_eq_false h) (by omega))
        | refine caseb (fun h => absurd (of_decide_eq_true h) (by omega)) (fun _ => ?_)
        | refine caseb (fun _ => ?_) (fun h => absurd (beq_eq_false_iff_ne.1 h) (by omega))
        | refine caseb (fun h => absurd (eq_of_beq h) (by omega)) (fun _ => ?_)
      conv => whnf
      refine ⟨_, hZ, ?_⟩
      conv => whnf
      refine ⟨⟨by show 0 + i ≤ _; omega, by show (i + 1) * 40 ≤ 140737488355328; omega, Nat.le_of_ble_eq_true rfl⟩, ?_⟩
      conv => whnf
      refine ⟨by kernel_rfl, ?_⟩
      conv => whnf
      refine ⟨i + 1, [(72, 320)], (by show at_.length - (i + 1) < at_.length - i; omega), hlt, ⟨⟨rfl, rfl⟩, ⟨rfl, rfl⟩, ⟨rfl, rfl⟩, ⟨rfl, rfl⟩, ⟨valI eI, rfl⟩, trivial⟩, ⟨⟨rfl, .inr ⟨rfl, rfl⟩⟩, ⟨rfl, .inr ⟨rfl, rfl⟩⟩, ⟨rfl, .inr ⟨rfl, rfl⟩⟩, ⟨rfl, .inl ⟨celE ?_, rowsN_noid _⟩⟩, trivial⟩, rfl⟩
      rw [← hsn]
      show List.take i (List.drop 0 ((Y.take i).map rowN)) ++ [_] = _
      rw [htk]; rfl
    · by_cases h1 : (qs.length : Int) ≤ k
      · rw [getQ_out (.inr h1)] at hsn
        conv => whnf
        first
          | refine caseb (fun _ => ?_) (fun h => absurd (of_decide_eq_false h) (by omega))
          | refine caseb (fun h => absurd (of_decide_eq_true h) (by omega)) (fun _ => ?_)
          | refine caseb (fun _ => ?_) (fun h => absurd (beq_eq_false_iff_ne.1 h) (by omega))
          | refine caseb (fun h => absurd (eq_of_beq h) (by omega)) (fun _ => ?_)
        conv => whnf
        refine ⟨_, ⟨by omega, by rw [Int.toNat_natCast]; exact hg⟩, ?_⟩
        conv => whnf
        first
          | refine caseb (fun _ => ?_) (fun h => absurd (of_decide_eq_false h) (by omega))
          | refine caseb (fun h => absurd (of_decide_eq_true h) (by omega)) (fun _ => ?_)
          | refine caseb (fun _ => ?_) (fun h => absurd (beq_eq_false_iff_ne.1 h) (by omega))
          | refine caseb (fun h => absurd (eq_of_beq h) (by omega)) (fun _ => ?_)
        conv => whnf
        refine ⟨_, hL, ?_⟩
        conv => whnf
        first
          | refine caseb (fun _ => ?_) (fun h => absurd (of_decide_eq_false h) (by omega))
          | refine caseb (fun h => absurd (of_decide_eq_true h) (by omega)) (fun _ => ?_)
          | refine caseb (fun _ => ?_) (fun h => absurd (beq_eq_false_iff_ne.1 h) (by omega))
          | refine caseb (fun h => absurd (eq_of_beq h) (by omega)) (fun _ => ?_)
        conv => whnf
        refine ⟨_, hZ, ?_⟩
        conv => whnf
        refine ⟨⟨by show 0 + i ≤ _; omega, by show (i + 1) * 40 ≤ 140737488355328; omega, Nat.le_of_ble_eq_true rfl⟩, ?_⟩
        conv => whnf
        refine ⟨by kernel_rfl, ?_⟩
        conv => whnf
        refine ⟨i + 1, [(72, 320)], (by show at_.length - (i + 1) < at_.length - i; omega), hlt, ⟨⟨rfl, rfl⟩, ⟨rfl, rfl⟩, ⟨rfl, rfl⟩, ⟨rfl, rfl⟩, ⟨valI eI, rfl⟩, trivial⟩, ⟨⟨rfl, .inr ⟨rfl, rfl⟩⟩, ⟨rfl, .inr ⟨rfl, rfl⟩⟩, ⟨rfl, .inr ⟨rfl, rfl⟩⟩, ⟨rfl, .inl ⟨celE ?_, rowsN_noid _⟩⟩, trivial⟩, rfl⟩
        rw [← hsn]
        show List.take i (List.drop 0 ((Y.take i).map rowN)) ++ [_] = _
        rw [htk]; rfl
      · obtain ⟨j, rfl⟩ := Int.eq_ofNat_of_zero_le (show 0 ≤ k by omega)
        rw [getQ_in (show j < qs.length by omega)] at hsn
        have hg2 : (qs.map rowN)[j]? = some [.val (.bool (decide (qs[j].num < 0))), .val (.string (decS qs[j].num.natAbs)), .val (.string (decS qs[j].den))] := by rw [List.getElem?_map, List.getElem?_eq_getElem (show j < qs.length by omega)]; rfl
        conv => whnf
        first
          | refine caseb (fun _ => ?_) (fun h => absurd (of_decide_eq_false h) (by omega))
          | refine caseb (fun h => absurd (of_decide_eq_true h) (by omega)) (fun _ => ?_)
          | refine caseb (fun _ => ?_) (fun h => absurd (beq_eq_false_iff_ne.1 h) (by omega))
          | refine caseb (fun h => absurd (eq_of_beq h) (by omega)) (fun _ => ?_)
        conv => whnf
        refine ⟨_, ⟨by omega, by rw [Int.toNat_natCast]; exact hg⟩, ?_⟩
        conv => whnf
        refine ⟨_, hL, ?_⟩
        conv => whnf
        first
          | refine caseb (fun _ => ?_) (fun h => absurd (of_decide_eq_false h) (by omega))
          | refine caseb (fun h => absurd (of_decide_eq_true h) (by omega)) (fun _ => ?_)
          | refine caseb (fun _ => ?_) (fun h => absurd (beq_eq_false_iff_ne.1 h) (by omega))
          | refine caseb (fun h => absurd (eq_of_beq h) (by omega)) (fun _ => ?_)
        conv => whnf
        refine ⟨_, ⟨by omega, by rw [Int.toNat_natCast]; exact hg2⟩, ?_⟩
        conv => whnf
        refine ⟨⟨by show 0 + i ≤ _; omega, by show (i + 1) * 40 ≤ 140737488355328; omega, Nat.le_of_ble_eq_true rfl⟩, ?_⟩
        conv => whnf
        refine ⟨by kernel_rfl, ?_⟩
        conv => whnf
        refine ⟨i + 1, [(72, 352)], (by show at_.length - (i + 1) < at_.length - i; omega), hlt, ⟨⟨rfl, rfl⟩, ⟨rfl, rfl⟩, ⟨rfl, rfl⟩, ⟨rfl, rfl⟩, ⟨valI eI, rfl⟩, trivial⟩, ⟨⟨rfl, .inr ⟨rfl, rfl⟩⟩, ⟨rfl, .inr ⟨rfl, rfl⟩⟩, ⟨rfl, .inr ⟨rfl, rfl⟩⟩, ⟨rfl, .inl ⟨celE ?_, rowsN_noid _⟩⟩, trivial⟩, rfl⟩
        rw [← hsn]
        show List.take i (List.drop 0 ((Y.take i).map rowN)) ++ [_] = _
        rw [htk]; rfl
  · have hie : i = at_.length := by omega
    have e1 : Y.take i = Y := List.take_of_length_le (by omega)
    rw [e1] at lr ⊢
    have key : List.take i (List.drop 0 (Y.map rowN)) = Y.map rowN := by rw [List.drop_zero, List.take_of_length_le (by omega)]
    conv => whnf
    first
      | refine caseb (fun _ => ?_) (fun h => absurd (of_decide_eq_false h) (by omega))
      | refine caseb (fun h => absurd (of_decide_eq_true h) (by omega)) (fun _ => ?_)
      | refine caseb (fun _ => ?_) (fun h => absurd (beq_eq_false_iff_ne.1 h) (by omega))
      | refine caseb (fun h => absurd (eq_of_beq h) (by omega)) (fun _ => ?_)
    conv => whnf
    refine ⟨by show 0 + i ≤ _; omega, ?_⟩
    show AV.agg [_, _, _, AV.sl 3 (List.take i (List.drop 0 (Y.map rowN))) false] = _
    rw [key]
theorem RPickT_ok (sh : List Int) (tx : List Int) (s at_ : List Int) (hs : s.length ≤ 1000) (ha : at_.length ≤ 5000) (hb : tx.length ≤ 100000) :
    AC Tryz.prog 83 [PA sh true tx [], .sl 1 (irows .i64 s) false, .sl 1 (irows .i64 at_) false] (.pure (PA s true (at_.map (getT tx)) [])) := by
  have hL := RLen_ok sh true tx [] (by omega) (by decide)
  have la := irows_len .i64 at_
  have lt := irows_len .i32 tx
  obtain ⟨Y, hY⟩ : ∃ Y, Y = at_.map (getT tx) := ⟨_, rfl⟩
  have lY : Y.length = at_.length := by rw [hY, List.length_map]
  have hYi : ∀ i (h : i < at_.length), Y[i]'(by omega) = getT tx at_[i] := fun i h => by subst hY; rw [List.getElem_map]
  rw [← hY]
  refine AC.le_res (?_ : AC Tryz.prog 83 _ (.pure (.agg [.sl 1 (irows .i64 s) false, .val (.bool true), .sl 1 (irows .i32 Y) false, .sl 0 [] true]))) (le_agg4 (.refl _) (.refl _) (.refl _) (le_nil 3)) (PA_noid _ _ _ _)
  refine AC.of_body TTok Tryz.func83 rfl (enter_of Tryz.func83 (by kernel_rfl) (by kernel_rfl)) (noid3 (PA_noid _ _ _ _) (noid_sl _ _ _) (noid_sl _ _ _)) (.agg _ (noidF (noid_sl _ _ _) (.val _) (noid_sl _ _ _) (.sl _ _ _ (fun r hr => nomatch hr)))) (Nat.le_of_ble_eq_true rfl) ?_
  unfold PA at hL ⊢
  conv => whnf
  refine SW.nilC 48 2 1 rfl rfl ?_
  refine SW.loopM TTok (fun i : Nat => [(2, .sl 1 (irows .i64 at_) false), (3, .lp 0 0), (6, .lp 8 0), (7, .lp 48 0), (8, .val (.int .i64 (i : Int)))])
    (fun i => [(0, .cells 4 [[.sl 1 (irows .i64 sh) false, .val (.bool true), .sl 1 (irows .i32 tx) false, .sl 3 (([] : List Rat).map rowN) false]]), (8, .cells 4 [[.sl 0 [] true, .val (.bool false), .sl 0 [] true, .sl 0 [] true]]), (48, .cells 4 [[.sl 1 (irows .i64 s) false, .val (.bool true), .own 72 0 i, .sl 0 [] true]]), (72, .cells 1 (irows .i32 (Y.take i)))]) 80 73 rfl (fun i => at_.length - i) (fun i => i ≤ at_.length) 0 [] (Nat.zero_le _)
    ⟨⟨rfl, rfl⟩, ⟨rfl, rfl⟩, ⟨rfl, rfl⟩, ⟨rfl, rfl⟩, ⟨rfl, rfl⟩, trivial⟩ ⟨⟨rfl, .inr ⟨rfl, rfl⟩⟩, ⟨rfl, .inr ⟨rfl, rfl⟩⟩, ⟨rfl, .inr ⟨rfl, rfl⟩⟩, ⟨rfl, .inr ⟨rfl, rfl⟩⟩, trivial⟩ rfl ?_
  intro i hJ
  have hi : i ≤ at_.length := hJ
  clear hJ
  have lr : (irows .i32 (Y.take i)).length = i := by rw [irows_len, List.length_take]; omega
  have h0len : ([] : List Rat).length = 0 := rfl
  by_cases hlt : i < at_.length
  · have eI : IntKind.i64.wrap ((i : Int) + 1) = ((i + 1 : Nat) : Int) := by rw [IntWalk.i64_in _ (by omega)]; omega
    have hg : (irows .i64 at_)[i]? = some [.val (.int .i64 at_[i])] := irows_get .i64 at_ (List.getElem?_eq_getElem hlt)
    have hsn : irows .i32 (Y.take i) ++ irows .i32 [getT tx at_[i]] = irows .i32 (Y.take (i + 1)) := by
      rw [take_snoc (show i < Y.length by omega), hYi i hlt, irows_append]
    have htk : List.take i (List.drop 0 (irows .i32 (Y.take i))) = irows .i32 (Y.take i) := by rw [List.drop_zero, List.take_of_length_le (by omega)]
    obtain ⟨k, hk⟩ : ∃ k, k = at_[i] := ⟨_, rfl⟩
    rw [← hk] at hg hsn
    by_cases h0 : k < 0
    · rw [getT_out (.inl h0)] at hsn
      conv => whnf
      first
        | refine caseb (fun _ => ?_) (fun h => absurd (of_decide_eq_false h) (by omega))
        | refine caseb (fun h => absurd (of_decide_eq_true h) (by omega)) (fun _ => ?_)
        | refine caseb (fun _ => ?_) (fun h => absurd (beq_eq_false_iff_ne.1 h) (by omega))
        | refine caseb (fun h => absurd (eq_of_beq h) (by omega)) (fun _ => ?_)
      conv => whnf
      refine ⟨_, ⟨by omega, by rw [Int.toNat_natCast]; exact hg⟩, ?_⟩
      conv => whnf
      first
        | refine caseb (fun _ => ?_) (fun h => absurd (of_decide_eq_false h) (by omega))
        | refine caseb (fun h => absurd (of_decide_eq_true h) (by omega)) (fun _ => ?_)
        | refine caseb (fun _ => ?_) (fun h => absurd (beq_eq_false_iff_ne.1 h) (by omega))
        | refine caseb (fun h => absurd (eq_of_beq h) (by omega)) (fun _ => ?_)
      conv => whnf
      refine ⟨⟨by show 0 + i ≤ _; omega, by show (i + 1) * 4 ≤ 140737488355328; omega, Nat.le_of_ble_eq_true rfl⟩, ?_⟩
      conv => whnf
      refine ⟨i + 1, [(72, 304)], (by show at_.length - (i + 1) < at_.length - i; omega), hlt, ⟨⟨rfl, rfl⟩, ⟨rfl, rfl⟩, ⟨rfl, rfl⟩, ⟨rfl, rfl⟩, ⟨valI eI, rfl⟩, trivial⟩, ⟨⟨rfl, .inr ⟨rfl, rfl⟩⟩, ⟨rfl, .inr ⟨rfl, rfl⟩⟩, ⟨rfl, .inr ⟨rfl, rfl⟩⟩, ⟨rfl, .inl ⟨celE ?_, irows_noid _ _⟩⟩, trivial⟩, rfl⟩
      rw [← hsn]
      show List.take i (List.drop 0 (irows .i32 (Y.take i))) ++ [_] = _
      rw [htk]; rfl
    · by_cases h1 : (tx.length : Int) ≤ k
      · rw [getT_out (.inr h1)] at hsn
        conv => whnf
        first
          | refine caseb (fun _ => ?_) (fun h => absurd (of_decide_eq_false h) (by omega))
          | refine caseb (fun h => absurd (of_decide_eq_true h) (by omega)) (fun _ => ?_)
          | refine caseb (fun _ => ?_) (fun h => absurd (beq_eq_false_iff_ne.1 h) (by omega))
          | refine caseb (fun h => absurd (eq_of_beq h) (by omega)) (fun _ => ?_)
        conv => whnf
        refine ⟨_, ⟨by omega, by rw [Int.toNat_natCast]; exact hg⟩, ?_⟩
        conv => whnf
        first
          | refine caseb (fun _ => ?_) (fun h => absurd (of_decide_eq_false h) (by omega))
          | refine caseb (fun h => absurd (of_decide_eq_true h) (by omega)) (fun _ => ?_)
          | refine caseb (fun _ => ?_) (fun h => absurd (beq_eq_false_iff_ne.1 h) (by omega))
          | refine caseb (fun h => absurd (eq_of_beq h) (by omega)) (fun _ => ?_)
        conv => whnf
        refine ⟨_, hL, ?_⟩
        conv => whnf
        first
          | refine caseb (fun _ => ?_) (fun h => absurd (of_decide_eq_false h) (by omega))
          | refine caseb (fun h => absurd (of_decide_eq_true h) (by omega)) (fun _ => ?_)
          | refine caseb (fun _ => ?_) (fun h => absurd (beq_eq_false_iff_ne.1 h) (by omega))
          | refine caseb (fun h => absurd (eq_of_beq h) (by omega)) (fun _ => ?_)
        conv => whnf
        refine ⟨⟨by show 0 + i ≤ _; omega, by show (i + 1) * 4 ≤ 140737488355328; omega, Nat.le_of_ble_eq_true rfl⟩, ?_⟩
        conv => whnf
        refine ⟨i + 1, [(72, 304)], (by show at_.length - (i + 1) < at_.length - i; omega), hlt, ⟨⟨rfl, rfl⟩, ⟨rfl, rfl⟩, ⟨rfl, rfl⟩, ⟨rfl, rfl⟩, ⟨valI eI, rfl⟩, trivial⟩, ⟨⟨rfl, .inr ⟨rfl, rfl⟩⟩, ⟨rfl, .inr ⟨rfl, rfl⟩⟩, ⟨rfl, .inr ⟨rfl, rfl⟩⟩, ⟨rfl, .inl ⟨celE ?_, irows_noid _ _⟩⟩, trivial⟩, rfl⟩
        rw [← hsn]
        show List.take i (List.drop 0 (irows .i32 (Y.take i))) ++ [_] = _
        rw [htk]; rfl
      · obtain ⟨j, rfl⟩ := Int.eq_ofNat_of_zero_le (show 0 ≤ k by omega)
        rw [getT_in (show j < tx.length by omega)] at hsn
        have hg2 : (irows .i32 tx)[j]? = some [.val (.int .i32 tx[j])] := irows_get .i32 tx (List.getElem?_eq_getElem (by omega))
        conv => whnf
        first
          | refine caseb (fun _ => ?_) (fun h => absurd (of_decide_eq_false h) (by omega))
          | refine caseb (fun h => absurd (of_decide_eq_true h) (by omega)) (fun _ => ?_)
          | refine caseb (fun _ => ?_) (fun h => absurd (beq_eq_false_iff_ne.1 h) (by omega))
          | refine caseb (fun h => absurd (eq_of_beq h) (by omega)) (fun _ => ?_)
        conv => whnf
        refine ⟨_, ⟨by omega, by rw [Int.toNat_natCast]; exact hg⟩, ?_⟩
        conv => whnf
        refine ⟨_, hL, ?_⟩
        conv => whnf
        first
          | refine caseb (fun _ => ?_) (fun h => absurd (of_decide_eq_false h) (by omega))
          | refine caseb (fun h => absurd (of_decide_eq_true h) (by omega)) (fun _ => ?_)
          | refine caseb (fun _ => ?_) (fun h => absurd (beq_eq_false_iff_ne.1 h) (by omega))
          | refine caseb (fun h => absurd (eq_of_beq h) (by omega)) (fun _ => ?_)
        conv => whnf
        refine ⟨_, ⟨by omega, by rw [Int.toNat_natCast]; exact hg2⟩, ?_⟩
        conv => whnf
        refine ⟨⟨by show 0 + i ≤ _; omega, by show (i + 1) * 4 ≤ 140737488355328; omega, Nat.le_of_ble_eq_true rfl⟩, ?_⟩
        conv => whnf
        refine ⟨by kernel_rfl, ?_⟩
        conv => whnf
        refine ⟨i + 1, [(72, 328)], (by show at_.length - (i + 1) < at_.length - i; omega), hlt, ⟨⟨rfl, rfl⟩, ⟨rfl, rfl⟩, ⟨rfl, rfl⟩, ⟨rfl, rfl⟩, ⟨valI eI, rfl⟩, trivial⟩, ⟨⟨rfl, .inr ⟨rfl, rfl⟩⟩, ⟨rfl, .inr ⟨rfl, rfl⟩⟩, ⟨rfl, .inr ⟨rfl, rfl⟩⟩, ⟨rfl, .inl ⟨celE ?_, irows_noid _ _⟩⟩, trivial⟩, rfl⟩
        rw [← hsn]
        show List.take i (List.drop 0 (irows .i32 (Y.take i))) ++ [_] = _
        rw [htk]; rfl
  · have hie : i = at_.length := by omega
    have e1 : Y.take i = Y := List.take_of_length_le (by omega)
    rw [e1] at lr ⊢
    have key : List.take i (List.drop 0 (irows .i32 Y)) = irows .i32 Y := by rw [List.drop_zero, List.take_of_length_le (by omega)]
    conv => whnf
    first
      | refine caseb (fun _ => ?_) (fun h => absurd (of_decide_eq_false h) (by omega))
      | refine caseb (fun h => absurd (of_decide_eq_true h) (by omega)) (fun _ => ?_)
      | refine caseb (fun _ => ?_) (fun h => absurd (beq_eq_false_iff_ne.1 h) (by omega))
      | refine caseb (fun h => absurd (eq_of_beq h) (by omega)) (fun _ => ?_)
    conv => whnf
    refine ⟨by show 0 + i ≤ _; omega, ?_⟩
    show AV.agg [_, _, AV.sl 1 (List.take i (List.drop 0 (irows .i32 Y))) false, _] = _
    rw [key]
end Go.Proofs.YtliiekhmpgopnaaGreat

/- Arrays laid side by side (plain laws). -/
set_option linter.unusedVariables false
namespace Go.Proofs.YtliiekhmpgopnaaGreat
open Go Go.AL NM

/-- An array made ready to be laid along an axis: its shape, whether it is one for all, the error. -/
def fitJ (sh s : List Int) (k : Nat) : List Int × Bool × Int :=
  if sh = [] then (s.set k 1, true, 0)
  else if (if sh.length + 1 = s.length then sh.take k ++ 1 :: sh.drop k else sh).length ≠ s.length then ([], false, 23)
  else if (if sh.length + 1 = s.length then sh.take k ++ 1 :: sh.drop k else sh).take k ++ (if sh.length + 1 = s.length then sh.take k ++ 1 :: sh.drop k else sh).drop (k + 1) ≠ s.take k ++ s.drop (k + 1) then ([], false, 24)
  else ((if sh.length + 1 = s.length then sh.take k ++ 1 :: sh.drop k else sh), false, 0)
theorem ins_len {sh : List Int} {k : Nat} (hk : k ≤ sh.length) : (sh.take k ++ 1 :: sh.drop k).length = sh.length + 1 := by
  rw [List.length_append, List.length_cons, List.length_take, List.length_drop]; omega
theorem app_parts {a b c d : List Int} (h : a ++ b = c ++ d) (hl : a.length = c.length) : a = c ∧ b = d := List.append_inj h hl
theorem fitJ_good {sh s : List Int} {k : Nat} (hk : k < s.length) (hs : vS s) (hv : vS sh) (h : (fitJ sh s k).2.2 = 0) :
    (fitJ sh s k).1.length = s.length ∧ (fitJ sh s k).1.take k = s.take k ∧ (fitJ sh s k).1.drop (k + 1) = s.drop (k + 1) ∧ vS (fitJ sh s k).1 ∧ (fitJ sh s k).2.1 = decide (sh = []) := by
  unfold fitJ at h ⊢
  by_cases h0 : sh = []
  · rw [if_pos h0] at h ⊢
    refine ⟨List.length_set, by rw [List.take_set_of_le (Nat.le_refl _)], by rw [List.drop_set_of_lt (by omega)], ?_, by rw [decide_eq_true h0]⟩
    show vS (s.set k 1)
    rw [List.set_eq_take_append_cons_drop, if_pos hk]
    rw [mid_split hk] at hs
    exact vS_one hs
  · rw [if_neg h0] at h ⊢
    have hown : vS (if sh.length + 1 = s.length then sh.take k ++ 1 :: sh.drop k else sh) := by
      by_cases h1 : sh.length + 1 = s.length
      · rw [if_pos h1]
        have := hs.1
        rw [← List.take_append_drop k sh] at hv
        exact vS_ins hv (by rw [List.length_take, List.length_drop]; omega)
      · rw [if_neg h1]; exact hv
    generalize (if sh.length + 1 = s.length then sh.take k ++ 1 :: sh.drop k else sh) = own at *
    by_cases h1 : own.length ≠ s.length
    · rw [if_pos h1] at h; exact absurd h (by decide)
    · rw [if_neg h1] at h ⊢
      by_cases h2 : own.take k ++ own.drop (k + 1) ≠ s.take k ++ s.drop (k + 1)
      · rw [if_pos h2] at h; exact absurd h (by decide)
      · rw [if_neg h2]
        have h1' : own.length = s.length := Decidable.byContradiction h1
        have h2' : own.take k ++ own.drop (k + 1) = s.take k ++ s.drop (k + 1) := Decidable.byContradiction h2
        obtain ⟨g1, g2⟩ := app_parts h2' (by rw [List.length_take, List.length_take, h1'])
        exact ⟨h1', g1, g2, hown, by rw [decide_eq_false h0]⟩
/-- The place of an element of two arrays laid side by side: n, m how many along the axis, I how many behind it. -/
def atJ (n m I la : Nat) (one two : Bool) (i : Nat) : Int :=
  if i / I % (n + m) < n then (if one then 0 else ((((i / I / (n + m)) * n + i / I % (n + m)) * I + i % I : Nat) : Int))
  else (if two then (la : Int) else ((la + ((i / I / (n + m)) * m + (i / I % (n + m) - n)) * I + i % I : Nat) : Int))
/-- What an index of the two comes to. -/
def docJ (n : Nat) (x y : List Int) (la : Nat) (one two : Bool) (k : Nat) (idx : List Int) : Int :=
  if idx.getD k 0 < (n : Int) then (if one then 0 else plS 0 x idx) else (la : Int) + (if two then 0 else plS 0 y (idx.set k (idx.getD k 0 - (n : Int))))
theorem getD_mid (a b : List Int) (d x : Int) : (a ++ x :: b).getD a.length d = x := by
  rw [List.getD_eq_getElem?_getD, List.getElem?_append_right (Nat.le_refl _), Nat.sub_self]; rfl
theorem set_mid' (a b : List Int) (x y : Int) : (a ++ x :: b).set a.length y = a ++ y :: b := by
  rw [List.set_append_right _ _ (Nat.le_refl _), Nat.sub_self]; rfl
theorem doc_at (u v : List Int) (n m la : Nat) (one two : Bool) (i : Nat) (h : i < pr (u ++ ((n + m : Nat) : Int) :: v)) :
    docJ n (u ++ (n : Int) :: v) (u ++ (m : Int) :: v) la one two u.length (dig (u ++ ((n + m : Nat) : Int) :: v) i) = atJ n m (pr v) la one two i := by
  have h' := h
  rw [pr_append] at h'
  have h' : i < pr u * ((((n + m : Nat) : Int)).toNat * pr v) := h'
  rw [Int.toNat_natCast] at h'
  have hv : 0 < pr v := Nat.pos_of_ne_zero fun e => by rw [e] at h'; omega
  have hnm : 0 < n + m := Nat.pos_of_ne_zero fun e => by rw [e] at h'; omega
  obtain ⟨kk, hkk⟩ : ∃ kk, kk = i / pr v % (n + m) := ⟨_, rfl⟩
  have hklt : kk < n + m := by rw [hkk]; exact Nat.mod_lt _ hnm
  have p0 := pl_axis u v ((n + m : Nat) : Int) (n : Int) 
  obtain ⟨d1, _⟩ := pl_axis u v ((n + m : Nat) : Int) ((n + m : Nat) : Int) kk (by omega) i h
  rw [Int.toNat_natCast] at d1
  rw [← hkk] at d1
  have lu : (dig u (i / pr v / (n + m))).length = u.length := dig_len _ _
  unfold docJ atJ
  rw [d1, ← lu, getD_mid, ← hkk]
  by_cases hlt : kk < n
  · rw [if_pos (by omega), if_pos hlt]
    cases one
    · obtain ⟨_, e⟩ := pl_axis u v ((n + m : Nat) : Int) (n : Int) kk (by omega) i h
      rw [Int.toNat_natCast, Int.toNat_natCast] at e
      exact e
    · rfl
  · rw [if_neg (by omega), if_neg hlt]
    cases two
    · obtain ⟨_, e⟩ := pl_axis u v ((n + m : Nat) : Int) (m : Int) (kk - n) (by omega) i h
      rw [Int.toNat_natCast, Int.toNat_natCast] at e
      rw [set_mid', show (kk : Int) - (n : Int) = ((kk - n : Nat) : Int) by omega]
      show (la : Int) + plS 0 (u ++ (m : Int) :: v) _ = _
      rw [e]
      show _ = ((la + ((i / pr v / (n + m)) * m + (kk - n)) * pr v + i % pr v : Nat) : Int)
      rw [Nat.add_assoc, Int.natCast_add la]
    · show (la : Int) + 0 = (la : Int)
      omega
end Go.Proofs.YtliiekhmpgopnaaGreat

/- Arrays: two of one kind; the elements of two (contracts). -/
set_option linter.unusedVariables false
namespace Go.Proofs.YtliiekhmpgopnaaGreat
open Go Go.AL NM

theorem CloneT_fresh (l : List Int) (hb : l.length ≤ 1000000) : AC Tryz.prog 78 [.sl 1 (irows .i32 l) false] (.fresh 1 (irows .i32 l)) := by
  refine AC.of_sw TTok Tryz.func78 rfl (enter_of Tryz.func78 (by kernel_rfl) (by kernel_rfl)) (noid1 (noid_sl _ _ _)) (irows_noid _ _) (Nat.le_of_ble_eq_true rfl) ?_
  have hlen := irows_len .i32 l
  refine SW.seqA TTok ?_
  conv => whnf
  refine SW.seq (SW.seq ?_)
  refine SW.regionNil (sz := 1) (rows := irows .i32 l) (tight := false) TTok _ rfl rfl rfl rfl (show Tryz.prog.underlying 23 = some (.slice 21) by kernel_rfl) ?_
  conv => whnf
  refine ⟨rfl, rfl, by decide, fun bv hbv => ?_⟩
  conv => whnf
  cases bv with
  | true =>
    have h0 := hbv rfl
    refine SW.cond (t := true) rfl (fun _ => ?_) (fun h => Bool.noConfusion h)
    refine SW.seqA TTok ?_
    conv => whnf
    refine SW.nil 2 1 rfl ?_
    refine SW.ret ?_
    rw [h0]
    exact ⟨rfl, Nat.le_refl _, rfl⟩
  | false =>
    refine SW.cond (t := false) rfl (fun h => Bool.noConfusion h) (fun _ => ?_)
    refine axp_sound TTok _ _ _ ?_
    conv => whnf
    refine axp_sound TTok _ _ _ ?_
    conv => whnf
    refine ⟨⟨Nat.le_refl _, by show (0 + (irows .i32 l).length) * 4 ≤ 140737488355328; omega⟩, ?_⟩
    conv => whnf
    refine ⟨rfl, by show 0 + (0 + (irows .i32 l).length) ≤ (irows .i32 l).length; omega, ?_⟩
    show (irows .i32 l).take (0 + (irows .i32 l).length) = _
    rw [Nat.zero_add, List.take_length]
theorem CloneQ_freshA (l : List (Option (Rat × Nat))) (hb : l.length ≤ 1000000) : AC Tryz.prog 100 [.sl 3 (l.map rowX) false] (.fresh 3 (l.map rowX)) := by
  by_cases hne : l = []
  · subst hne
    refine AC.of_sw TTok Tryz.func100 rfl (enter_of Tryz.func100 (by kernel_rfl) (by kernel_rfl)) (noid1 (slX_noid _)) (rowsX_noid _) (Nat.le_of_ble_eq_true rfl) ?_
    refine SW.seqA TTok ?_
    conv => whnf
    refine SW.seq (SW.seq ?_)
    refine SW.regionNil (sz := 3) (rows := ([] : List (Option (Rat × Nat))).map rowX) (tight := false) TTok _ rfl rfl rfl rfl (show Tryz.prog.underlying 29 = some (.slice 87) by kernel_rfl) ?_
    conv => whnf
    refine ⟨rfl, rfl, by decide, fun bv hbv => ?_⟩
    conv => whnf
    cases bv with
    | true =>
      refine SW.cond (t := true) rfl (fun _ => ?_) (fun h => Bool.noConfusion h)
      refine SW.seqA TTok ?_
      conv => whnf
      refine SW.nil 2 3 rfl ?_
      refine SW.ret ?_
      exact ⟨rfl, Nat.le_refl _, rfl⟩
    | false =>
      refine SW.cond (t := false) rfl (fun h => Bool.noConfusion h) (fun _ => ?_)
      refine axp_sound TTok _ _ _ ?_
      conv => whnf
      refine axp_sound TTok _ _ _ ?_
      conv => whnf
      refine ⟨⟨Nat.le_refl _, by show 0 * 56 ≤ 140737488355328; decide⟩, ?_⟩
      conv => whnf
      exact ⟨rfl, Nat.le_refl _, rfl⟩
  · exact CloneQ_fresh l hne hb
section
variable (sh : List Int) (ch : Bool) (tx : List Int) (ns : List (Option (Rat × Nat)))
theorem Runes_fresh (h : tx.length ≤ 1000000) : AC Tryz.prog 86 [AA sh ch tx ns true] (.fresh 1 (irows .i32 tx)) := by
  have hC := CloneT_fresh tx h
  have ln := irows_len .i32 tx
  refine AC.of_body TTok Tryz.func86 rfl (enter_of Tryz.func86 (by kernel_rfl) (by kernel_rfl)) (noid1 (AA_noid _ _ _ _ _)) (irows_noid _ _) (Nat.le_of_ble_eq_true rfl) ?_
  unfold AA
  conv => whnf
  refine ⟨_, hC, ?_⟩
  conv => whnf
  refine ⟨rfl, by show 0 + _ ≤ _; omega, ?_⟩
  show (irows .i32 tx).take (irows .i32 tx).length = _
  rw [List.take_length]
theorem Rats_freshA (h : ns.length ≤ 1000000) : AC Tryz.prog 62 [AA sh ch tx ns true] (.fresh 3 (ns.map rowX)) := by
  have hC := CloneQ_freshA ns h
  refine AC.of_body TTok Tryz.func62 rfl (enter_of Tryz.func62 (by kernel_rfl) (by kernel_rfl)) (noid1 (AA_noid _ _ _ _ _)) (rowsX_noid _) (Nat.le_of_ble_eq_true rfl) ?_
  unfold AA
  conv => whnf
  refine ⟨_, hC, ?_⟩
  conv => whnf
  refine ⟨rfl, by show 0 + _ ≤ _; omega, ?_⟩
  show (ns.map rowX).take (ns.map rowX).length = _
  rw [List.take_length]
end
theorem None_ok (c : Bool) : AC Tryz.prog 71 [.val (.bool c)] (.pure (AA [0] c [] [] true)) := by
  refine AC.le_res (?_ : AC Tryz.prog 71 _ (.pure (.agg [.sl 1 (irows .i64 [0]) false, .val (.bool c), .sl 0 [] true, .sl 0 [] true, .val (.bool true)]))) (le_agg5 (.refl _) (.refl _) (le_nil 1) (le_nil 3) (.refl _)) (AA_noid _ _ _ _ _)
  refine AC.of_body TTok Tryz.func71 rfl (enter_of Tryz.func71 (by kernel_rfl) (by kernel_rfl)) (noid1 (.val _)) (.agg _ (noid5 (noid_sl _ _ _) (.val _) (.sl _ _ _ (fun r hr => nomatch hr)) (.sl _ _ _ (fun r hr => nomatch hr)) (.val _))) (Nat.le_of_ble_eq_true rfl) ?_
  conv => whnf
  exact ⟨Nat.le_refl _, rfl⟩
theorem both_text (sa sb : List Int) (ta tb : List Int) (na nb : List (Option (Rat × Nat))) (h1 : ta.length ≤ 10000) (h2 : tb.length ≤ 10000) : AC Tryz.prog 77 [AA sa true ta na true, AA sb true tb nb true] (.pure (AA [((ta ++ tb).length : Int)] true (ta ++ tb) [] true)) := by
  have hI := IsChar_ok sa true ta na true
  have hA := Runes_fresh sa true ta na (by omega)
  have hB := Runes86_ok sb true tb nb true (by omega)
  have hT := Text_ok' (ta ++ tb) (by rw [List.length_append]; omega)
  have la := irows_len .i32 ta
  have lb := irows_len .i32 tb
  have key : List.take ((irows .i32 ta).length + (irows .i32 tb).length) (List.drop 0 (List.take (irows .i32 ta).length (List.drop 0 (irows .i32 ta)) ++ irows .i32 tb)) = irows .i32 (ta ++ tb) := by
    rw [List.drop_zero, List.drop_zero, List.take_length, ← irows_append, List.take_of_length_le (by rw [List.length_append]; exact Nat.le_refl _)]
  refine AC.of_body TTok Tryz.func77 rfl (enter_of Tryz.func77 (by kernel_rfl) (by kernel_rfl)) (noid2 (AA_noid _ _ _ _ _) (AA_noid _ _ _ _ _)) (AA_noid _ _ _ _ _) (Nat.le_of_ble_eq_true rfl) ?_
  unfold AA at *
  conv => whnf
  refine ⟨_, hI, ?_⟩
  conv => whnf
  refine ⟨_, hA, ?_⟩
  conv => whnf
  refine ⟨_, hB, ?_⟩
  conv => whnf
  refine ⟨⟨by show 0 + _ ≤ _; omega, by show ((irows .i32 ta).length + (irows .i32 tb).length) * 4 ≤ 140737488355328; omega⟩, ?_⟩
  conv => whnf
  rw [key]
  refine ⟨by show 0 + _ ≤ _; rw [List.length_append, List.drop_zero, List.take_length]; omega, _, hT, ?_⟩
  repeat
    conv => whnf
    first
      | refine ⟨_, by assumption, ?_⟩
      | refine ⟨(Nat.le_of_ble_eq_true rfl), _, by assumption, ?_⟩
      | refine ⟨by kernel_rfl, ?_⟩
      | exact rfl
      | exact ⟨Nat.le_of_ble_eq_true rfl, rfl⟩
      | refine ⟨by decide, ?_⟩
theorem vS_single (n : Nat) (h : n ≤ 4096) : vS [(n : Int)] ∧ cntI [(n : Int)] = (n : Int) := by
  have hv : vS [(n : Int)] := ⟨by show 1 ≤ 8; omega, fun d hd => by rw [List.mem_singleton.1 hd]; omega, by show 1 * max 1 (n : Int) ≤ 4096; omega⟩
  refine ⟨hv, ?_⟩
  rw [cnt_pr hv.2.1]
  show (((n : Int).toNat * 1 : Nat) : Int) = _
  omega
theorem both_nums (sa sb : List Int) (na nb : List (Option (Rat × Nat))) (h : na.length + nb.length ≤ 4096) : AC Tryz.prog 77 [AA sa false [] na true, AA sb false [] nb true] (.pure (AA [((na.length + nb.length : Nat) : Int)] false [] (na ++ nb) true)) := by
  have hI := IsChar_ok sa false [] na true
  have hLa := ALen_ok sa false [] na true (by decide) (by omega)
  have hLb := ALen_ok sb false [] nb true (by decide) (by omega)
  rw [show ([] : List Int).length = 0 from rfl, Nat.zero_add] at hLa hLb
  have hA := Rats_freshA sa false [] na (by omega)
  have hB := Rats_ok sb false [] nb true (by omega)
  obtain ⟨v1, v2⟩ := vS_single (na.length + nb.length) h
  have hN := Nums_ok [((na.length + nb.length : Nat) : Int)] (na ++ nb) v1 (by rw [v2, List.length_append]) (by rw [List.length_append]; omega)
  have la : (na.map rowX).length = na.length := List.length_map _
  have lb : (nb.map rowX).length = nb.length := List.length_map _
  have eS : IntKind.i64.wrap ((na.length : Int) + (nb.length : Int)) = ((na.length + nb.length : Nat) : Int) := by rw [IntWalk.i64_in _ (by omega)]; omega
  have key : List.take ((na.map rowX).length + (nb.map rowX).length) (List.drop 0 (List.take (na.map rowX).length (List.drop 0 (na.map rowX)) ++ nb.map rowX)) = (na ++ nb).map rowX := by
    rw [List.drop_zero, List.drop_zero, List.take_length, List.map_append, List.take_of_length_le (by rw [List.length_append]; exact Nat.le_refl _)]
  rw [← eS] at hN ⊢
  refine AC.of_body TTok Tryz.func77 rfl (enter_of Tryz.func77 (by kernel_rfl) (by kernel_rfl)) (noid2 (AA_noid _ _ _ _ _) (AA_noid _ _ _ _ _)) (AA_noid _ _ _ _ _) (Nat.le_of_ble_eq_true rfl) ?_
  unfold AA at *
  conv => whnf
  refine ⟨_, hI, ?_⟩
  conv => whnf
  refine ⟨_, hLa, ?_⟩
  conv => whnf
  refine ⟨_, hLb, ?_⟩
  conv => whnf
  refine ⟨_, hA, ?_⟩
  conv => whnf
  refine ⟨_, hB, ?_⟩
  conv => whnf
  refine ⟨⟨by show 0 + (na.map rowX).length ≤ _; omega, by show ((na.map rowX).length + (nb.map rowX).length) * 56 ≤ 140737488355328; omega⟩, ?_⟩
  conv => whnf
  rw [key]
  refine ⟨⟨Nat.le_refl _, by show 0 + ((na.map rowX).length + (nb.map rowX).length) ≤ (List.take (na.map rowX).length (List.drop 0 (na.map rowX)) ++ nb.map rowX).length; rw [List.length_append, List.drop_zero, List.take_length]; omega⟩, _, hN, ?_⟩
  conv => whnf
  refine ⟨by kernel_rfl, ?_⟩
  repeat
    conv => whnf
    first
      | refine ⟨_, by assumption, ?_⟩
      | refine ⟨(Nat.le_of_ble_eq_true rfl), _, by assumption, ?_⟩
      | refine ⟨by kernel_rfl, ?_⟩
      | exact rfl
      | exact ⟨Nat.le_of_ble_eq_true rfl, rfl⟩
      | refine ⟨by decide, ?_⟩
end Go.Proofs.YtliiekhmpgopnaaGreat
