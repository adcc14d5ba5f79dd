/- An abstract program logic over tree values (part 33): the empty slice in a block's cell is taken as a live block. -/
import Derived.Test.YtcdeiegpeiodjaaGreatB3
import Derived.Test.YtcdeiegpeiodjaaGreatB2
set_option linter.unusedVariables false
set_option linter.unusedSimpArgs false
namespace Go.AL
open Go Go.RowKit
theorem VR.nil_own {w : World} {F : Nat → Prop} {ρ : Nat → Option BI} {v : Value} {sz0 id : Nat} {bi : BI} (h : VR w F ρ v (.sl sz0 [] true)) (hρ : ρ id = some bi) : VR w F ρ v (.own id 0 0) := by
 cases h with
 | sl A n c _ _ _ b o vals hn hc ht hw hA h0 h1 h2 hno =>
  have hn0 : n = 0 := hn
  have hc0 : c = 0 := by rw [ht rfl, hn0]
  subst hn0
  subst hc0
  exact .own A id 0 0 0 bi hρ (Nat.le_refl _) (fun h => absurd h (Nat.lt_irrefl 0))
theorem updH_at (h : Nat → Option LB) (i : Nat) (x : Option LB) : updH h i x i = x := by
 show (bif Nat.beq i i then x else h i) = x
 rw [Nat.beq_refl]; rfl
theorem updH_off (h : Nat → Option LB) {i j : Nat} (x : Option LB) (hn : j ≠ i) : updH h i x j = h j := by
 show (bif Nat.beq j i then x else h j) = h j
 cases e : Nat.beq j i with
 | true => exact absurd (Nat.eq_of_beq_eq_true e) hn
 | false => rfl
theorem Wk.nilC {s : St} (b k sz : Nat) {sz0 sz1 : Nat} {row : List AV} (hb : s.h b = some (.cells sz0 [row])) (hk : row[k]? = some (.sl sz1 [] true)) :
  Wk s ⟨s.t, updH (updH s.h s.n (some (.cells sz []))) b (some (.cells sz0 [row.set k (.own s.n 0 0)])), s.n + 8, s.m⟩ := by
 intro gh w0 F0 a w ⟨F, ρ, hR⟩
 have hbn : b ≠ s.n := by
  intro e
  obtain ⟨bi, e1, _⟩ := hR.blks b _ hb
  have := hR.fresh s.n (Nat.le_refl _)
  rw [← e, e1] at this
  cases this
 have h1 := hR.name s.n (Nat.le_refl _) ⟨0, 0, sz, 0⟩ (.cells sz []) ⟨rfl, (fun r hr => (nomatch hr)), fun _ => rfl, fun h => absurd h (Nat.lt_irrefl 0)⟩ (fun h => absurd h (Nat.lt_irrefl 0)) (fun h => absurd h (Nat.lt_irrefl 0))
 have hb' : (updH s.h s.n (some (.cells sz []))) b = some (.cells sz0 [row]) := by
  rw [updH_off _ _ hbn]; exact hb
 refine ⟨F, _, { h1 with blks := fun id lb hl => ?_, inj := fun id id' bi bi' x1 x2 => ?_, fresh := fun id hid => h1.fresh id ⟨by have : s.n + 8 ≤ id := hid; show s.n ≤ id; omega, by have : s.n + 8 ≤ id := hid; omega⟩ }⟩
 ·have hl : updH (updH s.h s.n (some (.cells sz []))) b (some (.cells sz0 [row.set k (.own s.n 0 0)])) id = some lb := hl
  by_cases e : id = b
  ·subst e
   have hl' : LB.cells sz0 [row.set k (.own s.n 0 0)] = lb := by
    rw [updH_at] at hl
    exact Option.some.inj hl
   subst hl'
   obtain ⟨bi, e1, ⟨g1, g2, g3, g4⟩, g5⟩ := h1.blks id _ hb'
   have hrow : row.length = sz0 := g2 row List.mem_cons_self
   refine ⟨bi, e1, ⟨g1, ?_, ?_, ?_⟩, g5⟩
   ·intro r hr
    have : r = row.set k (.own s.n 0 0) := by simpa using hr
    rw [this, List.length_set]; exact hrow
   ·intro h0
    have := g3 h0
    have hr0 : row = [] := by simpa using this
    rw [hr0] at hk; cases hk
   ·intro hp
    obtain ⟨cs, ty, q1, q2, q3, q4⟩ := g4 hp
    refine ⟨cs, ty, q1, q2, q3, fun j x hx => ?_⟩
    have hx : (row.set k (.own s.n 0 0))[j]? = some x := by simpa using hx
    by_cases ej : j = k
    ·subst ej
     obtain ⟨o1, o2⟩ := q4 j (.sl sz1 [] true) (by simpa using hk)
     rw [List.getElem?_set_self' ] at hx
     have hx' : x = .own s.n 0 0 := by
      rw [hk] at hx
      exact (Option.some.inj hx).symm
     subst hx'
     exact ⟨o1, o2.nil_own (bi := ⟨0, 0, sz, 0⟩) (by unfold putρ; rw [if_pos rfl])⟩
    ·rw [List.getElem?_set_ne (fun h => ej h.symm)] at hx
     exact q4 j x (by simpa using hx)
  ·refine h1.blks id lb ?_
   show (updH s.h s.n (some (.cells sz []))) id = some lb
   rw [updH_off _ _ e] at hl
   exact hl
 ·have key : ∀ i, (updH (updH s.h s.n (some (.cells sz []))) b (some (.cells sz0 [row.set k (.own s.n 0 0)])) i).isSome = true → (updH s.h s.n (some (.cells sz [])) i).isSome = true := fun i hi => by
   by_cases e : i = b
   ·rw [e, hb']; rfl
   ·rw [updH_off _ _ e] at hi
    exact hi
  exact h1.inj id id' bi bi' (key id x1) (key id' x2)
theorem SW.nilC {P : Program} {c : Code} {Q : Exit → St → Prop} {s : St} (b k sz : Nat) {sz0 sz1 : Nat} {row : List AV} (hb : s.h b = some (.cells sz0 [row])) (hk : row[k]? = some (.sl sz1 [] true))
  (hs : SW P c Q ⟨s.t, updH (updH s.h s.n (some (.cells sz []))) b (some (.cells sz0 [row.set k (.own s.n 0 0)])), s.n + 8, s.m⟩) : SW P c Q s := SW.weak (Wk.nilC b k sz hb hk) rfl hs
end Go.AL

namespace Go.Proofs.YtcdeiegpeiodjaaGreat
open Go Go.AL NM
section
def rowX : Option (Rat × Nat) → List AV
 | none => [.sl 0 [] true, .val (.bool false), .sl 0 [] true]
 | some p => rowR p
def valX : Option (Rat × Nat) → Rat
 | none => 0
 | some p => p.1
def okX : Option (Rat × Nat) → Prop
 | none => True
 | some p => dn p.2 = p.1.den
theorem rowX_noid (o : Option (Rat × Nat)) : ∀ x ∈ rowX o, NoId x := by
 cases o with
 | none => exact noid3 (.sl _ _ _ (fun r hr => nomatch hr)) (.val _) (.sl _ _ _ (fun r hr => nomatch hr))
 | some p => exact rowR_noid p
theorem rowsX_noid (l : List (Option (Rat × Nat))) : ∀ r ∈ l.map rowX, ∀ x ∈ r, NoId x := by
 intro r hr
 obtain ⟨o, _, rfl⟩ := List.mem_map.1 hr
 exact rowX_noid o
theorem slX_noid (l : List (Option (Rat × Nat))) : NoId (.sl 3 (l.map rowX) false) := .sl _ _ _ (rowsX_noid l)
def AA (sh : List Int) (ch : Bool) (tx : List Int) (ns : List (Option (Rat × Nat))) (made : Bool) : AV :=
 .agg [.sl 1 (irows .i64 sh) false, .val (.bool ch), .sl 1 (irows .i32 tx) false, .sl 3 (ns.map rowX) false, .val (.bool made)]
theorem noid5 {a b c d e : AV} (h1 : NoId a) (h2 : NoId b) (h3 : NoId c) (h4 : NoId d) (h5 : NoId e) : ∀ x ∈ [a, b, c, d, e], NoId x := by
 intro x hx
 simp only [List.mem_cons, List.not_mem_nil, or_false] at hx
 rcases hx with rfl | rfl | rfl | rfl | rfl <;> assumption
theorem noidF {a b c d : AV} (h1 : NoId a) (h2 : NoId b) (h3 : NoId c) (h4 : NoId d) : ∀ x ∈ [a, b, c, d], NoId x := by
 intro x hx
 simp only [List.mem_cons, List.not_mem_nil, or_false] at hx
 rcases hx with rfl | rfl | rfl | rfl <;> assumption
theorem AA_noid (sh : List Int) (ch : Bool) (tx : List Int) (ns : List (Option (Rat × Nat))) (made : Bool) : NoId (AA sh ch tx ns made) :=
 .agg _ (noid5 (noid_sl _ _ _) (.val _) (noid_sl _ _ _) (slX_noid _) (.val _))
def rowN (q : Rat) : List AV := [.val (.bool (decide (q.num < 0))), .val (.string (decS q.num.natAbs)), .val (.string (decS q.den))]
theorem rowN_noid (q : Rat) : ∀ x ∈ rowN q, NoId x := noid3 (.val _) (.val _) (.val _)
theorem rowsN_noid (l : List Rat) : ∀ r ∈ l.map rowN, ∀ x ∈ r, NoId x := by
 intro r hr
 obtain ⟨o, _, rfl⟩ := List.mem_map.1 hr
 exact rowN_noid o
theorem slN_noid (l : List Rat) : NoId (.sl 3 (l.map rowN) false) := .sl _ _ _ (rowsN_noid l)
def PA (sh : List Int) (ch : Bool) (tx : List Int) (qs : List Rat) : AV :=
 .agg [.sl 1 (irows .i64 sh) false, .val (.bool ch), .sl 1 (irows .i32 tx) false, .sl 3 (qs.map rowN) false]
theorem PA_noid (sh : List Int) (ch : Bool) (tx : List Int) (qs : List Rat) : NoId (PA sh ch tx qs) := .agg _ (noidF (noid_sl _ _ _) (.val _) (noid_sl _ _ _) (slN_noid _))
theorem le_nil (k : Nat) : AVle (.sl 0 [] true) (.sl k [] false) := .sl _ _ _
theorem le_agg4 {a b c d a' b' c' d' : AV} (h1 : AVle a a') (h2 : AVle b b') (h3 : AVle c c') (h4 : AVle d d') : AVle (.agg [a, b, c, d]) (.agg [a', b', c', d']) :=
 .agg _ _ rfl (fun i x y hx hy => by
  match i with
  | 0 => cases hx; cases hy; exact h1
  | 1 => cases hx; cases hy; exact h2
  | 2 => cases hx; cases hy; exact h3
  | 3 => cases hx; cases hy; exact h4
  | (i + 4) => cases hx)
theorem le_agg5 {a b c d e a' b' c' d' e' : AV} (h1 : AVle a a') (h2 : AVle b b') (h3 : AVle c c') (h4 : AVle d d') (h5 : AVle e e') : AVle (.agg [a, b, c, d, e]) (.agg [a', b', c', d', e']) :=
 .agg _ _ rfl (fun i x y hx hy => by
  match i with
  | 0 => cases hx; cases hy; exact h1
  | 1 => cases hx; cases hy; exact h2
  | 2 => cases hx; cases hy; exact h3
  | 3 => cases hx; cases hy; exact h4
  | 4 => cases hx; cases hy; exact h5
  | (i + 5) => cases hx)
def AZ : AV := .agg [.sl 0 [] true, .val (.bool false), .sl 0 [] true, .sl 0 [] true, .val (.bool false)]
theorem AZ_noid : NoId AZ := .agg _ (noid5 (.sl _ _ _ (fun r hr => nomatch hr)) (.val _) (.sl _ _ _ (fun r hr => nomatch hr)) (.sl _ _ _ (fun r hr => nomatch hr)) (.val _))
theorem AZ_le : AVle AZ (AA [] false [] [] false) := le_agg5 (le_nil 1) (.refl _) (le_nil 1) (le_nil 3) (.refl _)
def PZ : AV := .agg [.sl 0 [] true, .val (.bool false), .sl 0 [] true, .sl 0 [] true]
theorem CloneI_ok (l : List Int) (hb : l.length ≤ 1000000) : AC Tryz.prog 61 [.sl 1 (irows .i64 l) false] (.pure (.sl 1 (irows .i64 l) false)) := by
 refine AC.of_sw TTok Tryz.func61 rfl (enter_of Tryz.func61 (by kernel_rfl) (by kernel_rfl)) (noid1 (noid_sl _ _ _)) (noid_sl _ _ _) (nbq rfl) ?_
 have hlen : (irows .i64 l).length = l.length := irows_len _ _
 refine SW.seqA TTok ?_
 conv => whnf
 refine SW.seq (SW.seq ?_)
 refine SW.regionNil (sz := 1) (rows := irows .i64 l) (tight := false) TTok _ rfl rfl rfl rfl (show Tryz.prog.underlying 22 = some (.slice 3) by kernel_rfl) ?_
 conv => whnf
 refine ⟨rfl, rfl, by decide, fun bv hbv => ?_⟩
 conv => whnf
 cases bv with
 | true =>
  have he := hbv rfl
  rw [he]
  refine SW.cond (t := true) rfl (fun _ => ?_) (fun h => Bool.noConfusion h)
  refine SW.seqA TTok ?_
  conv => whnf
  refine SW.weak (Wk.le 2 rfl (le_nil 1)) rfl ?_
  refine axp_sound TTok _ _ _ ?_
  conv => whnf
  exact rfl
 | false =>
  refine SW.cond (t := false) rfl (fun h => Bool.noConfusion h) (fun _ => ?_)
  refine axp_sound TTok _ _ _ ?_
  conv => whnf
  refine axp_sound TTok _ _ _ ?_
  conv => whnf
  refine ⟨⟨Nat.le_refl _, by show (0 + (irows .i64 l).length) * 8 ≤ 140737488355328; omega⟩, ?_⟩
  conv => whnf
  refine ⟨by show 0 + (0 + (irows .i64 l).length) ≤ (irows .i64 l).length; omega, ?_⟩
  show AV.sl 1 ((irows .i64 l).take (0 + (irows .i64 l).length)) false = _
  rw [Nat.zero_add, List.take_length]
theorem CloneR_ok (l : List Int) (hb : l.length ≤ 1000000) : AC Tryz.prog 67 [.sl 1 (irows .i32 l) false] (.pure (.sl 1 (irows .i32 l) false)) := by
 refine AC.of_sw TTok Tryz.func67 rfl (enter_of Tryz.func67 (by kernel_rfl) (by kernel_rfl)) (noid1 (noid_sl _ _ _)) (noid_sl _ _ _) (nbq rfl) ?_
 have hlen : (irows .i32 l).length = l.length := irows_len _ _
 refine SW.seqA TTok ?_
 conv => whnf
 refine SW.seq (SW.seq ?_)
 refine SW.regionNil (sz := 1) (rows := irows .i32 l) (tight := false) TTok _ rfl rfl rfl rfl (show Tryz.prog.underlying 23 = some (.slice 21) by kernel_rfl) ?_
 conv => whnf
 refine ⟨rfl, rfl, by decide, fun bv hbv => ?_⟩
 conv => whnf
 cases bv with
 | true =>
  have he := hbv rfl
  rw [he]
  refine SW.cond (t := true) rfl (fun _ => ?_) (fun h => Bool.noConfusion h)
  refine SW.seqA TTok ?_
  conv => whnf
  refine SW.weak (Wk.le 2 rfl (le_nil 1)) rfl ?_
  refine axp_sound TTok _ _ _ ?_
  conv => whnf
  exact rfl
 | false =>
  refine SW.cond (t := false) rfl (fun h => Bool.noConfusion h) (fun _ => ?_)
  refine axp_sound TTok _ _ _ ?_
  conv => whnf
  refine axp_sound TTok _ _ _ ?_
  conv => whnf
  refine ⟨⟨Nat.le_refl _, by show (0 + (irows .i32 l).length) * 4 ≤ 140737488355328; omega⟩, ?_⟩
  conv => whnf
  refine ⟨by show 0 + (0 + (irows .i32 l).length) ≤ (irows .i32 l).length; omega, ?_⟩
  show AV.sl 1 ((irows .i32 l).take (0 + (irows .i32 l).length)) false = _
  rw [Nat.zero_add, List.take_length]
theorem CloneQ_ok (l : List (Option (Rat × Nat))) (hb : l.length ≤ 1000000) : AC Tryz.prog 116 [.sl 3 (l.map rowX) false] (.pure (.sl 3 (l.map rowX) false)) := by
 refine AC.of_sw TTok Tryz.func116 rfl (enter_of Tryz.func116 (by kernel_rfl) (by kernel_rfl)) (noid1 (slX_noid _)) (slX_noid _) (nbq rfl) ?_
 have hlen : (l.map rowX).length = l.length := List.length_map _
 refine SW.seqA TTok ?_
 conv => whnf
 refine SW.seq (SW.seq ?_)
 refine SW.regionNil (sz := 3) (rows := l.map rowX) (tight := false) TTok _ rfl rfl rfl rfl (show Tryz.prog.underlying 29 = some (.slice 55) by kernel_rfl) ?_
 conv => whnf
 refine ⟨rfl, rfl, by decide, fun bv hbv => ?_⟩
 conv => whnf
 cases bv with
 | true =>
  have he := hbv rfl
  rw [he]
  refine SW.cond (t := true) rfl (fun _ => ?_) (fun h => Bool.noConfusion h)
  refine SW.seqA TTok ?_
  conv => whnf
  refine SW.weak (Wk.le 2 rfl (le_nil 3)) rfl ?_
  refine axp_sound TTok _ _ _ ?_
  conv => whnf
  exact rfl
 | false =>
  refine SW.cond (t := false) rfl (fun h => Bool.noConfusion h) (fun _ => ?_)
  refine axp_sound TTok _ _ _ ?_
  conv => whnf
  refine axp_sound TTok _ _ _ ?_
  conv => whnf
  refine ⟨⟨Nat.le_refl _, by show (0 + (l.map rowX).length) * 56 ≤ 140737488355328; omega⟩, ?_⟩
  conv => whnf
  refine ⟨by show 0 + (0 + (l.map rowX).length) ≤ (l.map rowX).length; omega, ?_⟩
  show AV.sl 3 ((l.map rowX).take (0 + (l.map rowX).length)) false = _
  rw [Nat.zero_add, List.take_length]
theorem CloneQ_fresh (l : List (Option (Rat × Nat))) (hne : l ≠ []) (hb : l.length ≤ 1000000) : AC Tryz.prog 116 [.sl 3 (l.map rowX) false] (.fresh 3 (l.map rowX)) := by
 refine AC.of_sw TTok Tryz.func116 rfl (enter_of Tryz.func116 (by kernel_rfl) (by kernel_rfl)) (noid1 (slX_noid _)) (rowsX_noid _) (nbq rfl) ?_
 have hlen : (l.map rowX).length = l.length := List.length_map _
 refine SW.seqA TTok ?_
 conv => whnf
 refine SW.seq (SW.seq ?_)
 refine SW.regionNil (sz := 3) (rows := l.map rowX) (tight := false) TTok _ rfl rfl rfl rfl (show Tryz.prog.underlying 29 = some (.slice 55) by kernel_rfl) ?_
 conv => whnf
 refine ⟨rfl, rfl, by decide, fun bv hbv => ?_⟩
 conv => whnf
 cases bv with
 | true => exact absurd (List.map_eq_nil_iff.1 (hbv rfl)) hne
 | false =>
  refine SW.cond (t := false) rfl (fun h => Bool.noConfusion h) (fun _ => ?_)
  refine axp_sound TTok _ _ _ ?_
  conv => whnf
  refine axp_sound TTok _ _ _ ?_
  conv => whnf
  refine ⟨⟨Nat.le_refl _, by show (0 + (l.map rowX).length) * 56 ≤ 140737488355328; omega⟩, ?_⟩
  conv => whnf
  refine ⟨rfl, by show 0 + (0 + (l.map rowX).length) ≤ (l.map rowX).length; omega, ?_⟩
  show (l.map rowX).take (0 + (l.map rowX).length) = _
  rw [Nat.zero_add, List.take_length]
end
section
def pmI (sh : List Int) : Int := sh.foldl (fun n d => n * max 1 d) 1
def cntI (sh : List Int) : Int := if 0 ∈ sh then 0 else pmI sh
def vS (sh : List Int) : Prop := sh.length ≤ 8 ∧ (∀ d ∈ sh, 0 ≤ d) ∧ pmI sh ≤ 4096
instance (sh : List Int) : Decidable (vS sh) := inferInstanceAs (Decidable (_ ∧ _))
theorem take_snoc {α : Type} {l : List α} {k : Nat} (hk : k < l.length) : l.take (k + 1) = l.take k ++ [l[k]] := by rw [List.take_add_one, List.getElem?_eq_getElem hk]; rfl
theorem pm_snoc (a : List Int) (d : Int) : pmI (a ++ [d]) = pmI a * max 1 d := by unfold pmI; rw [List.foldl_append]; rfl
theorem pm_take {sh : List Int} {k : Nat} (hk : k < sh.length) : pmI (sh.take (k + 1)) = pmI (sh.take k) * max 1 sh[k] := by rw [take_snoc hk, pm_snoc]
theorem pm_pos (sh : List Int) : 1 ≤ pmI sh := by
 have : ∀ (l : List Int) (n : Int), 1 ≤ n → 1 ≤ l.foldl (fun n d => n * max 1 d) n := by
  intro l
  induction l with
  | nil => exact fun n h => h
  | cons d l ih =>
   intro n h
   refine ih _ ?_
   show 1 ≤ n * max 1 d
   have h1 : 1 ≤ max 1 d := by omega
   have := Int.mul_le_mul h h1 (by decide) (by omega)
   omega
 exact this sh 1 (Int.le_refl _)
theorem pm_grow (a : List Int) (d : Int) : pmI a ≤ pmI a * max 1 d := by
 have h := Int.mul_le_mul_of_nonneg_left (show (1 : Int) ≤ max 1 d by omega) (show 0 ≤ pmI a by have := pm_pos a; omega)
 omega
theorem pm_mono (sh : List Int) (k : Nat) : pmI (sh.take k) ≤ pmI sh := by
 have key : ∀ j, pmI (sh.take k) ≤ pmI (sh.take (k + j)) := by
  intro j
  induction j with
  | zero => exact Int.le_refl _
  | succ j ih =>
   by_cases h : k + j < sh.length
   ·have h1 := pm_grow (sh.take (k + j)) sh[k + j]
    rw [show k + (j + 1) = k + j + 1 by omega, pm_take h]
    omega
   ·rw [List.take_of_length_le (show sh.length ≤ k + (j + 1) by omega)]
    rw [List.take_of_length_le (show sh.length ≤ k + j by omega)] at ih
    exact ih
 have := key sh.length
 rwa [List.take_of_length_le (show sh.length ≤ k + sh.length by omega)] at this
theorem vS_not_neg {sh : List Int} {k : Nat} (hk : k < sh.length) (h : sh[k] < 0) : ¬ vS sh := fun hv => by
 have := hv.2.1 _ (List.getElem_mem hk)
 omega
theorem vS_not_big {sh : List Int} {k : Nat} (hk : k < sh.length) (h : 4096 < pmI (sh.take (k + 1))) : ¬ vS sh := fun hv => by
 have := pm_mono sh (k + 1)
 have := hv.2.2
 omega
def CNT (sh : List Int) : AV := .tup [.val (.int .i64 (if vS sh then cntI sh else 0)), .val (.bool (decide (vS sh)))]
theorem CNT_noid (sh : List Int) : NoId (CNT sh) := .tup _ (noid2 (.val _) (.val _))
theorem CNT_bad {sh : List Int} (h : ¬ vS sh) : CNT sh = .tup [.val (.int .i64 0), .val (.bool false)] := by unfold CNT; rw [if_neg h, decide_eq_false h]
theorem CNT_good {sh : List Int} (h : vS sh) : CNT sh = .tup [.val (.int .i64 (cntI sh)), .val (.bool true)] := by unfold CNT; rw [if_pos h, decide_eq_true h]
theorem quo_test {n d : Int} (hn : 1 ≤ n) (hd : 0 ≤ d) : d > IntKind.i64.wrap ((4096 : Int).tdiv n) ↔ 4096 < n * max 1 d ∧ 1 ≤ d ∨ (4096 < n ∧ 1 ≤ d) := by
 have h0 : (4096 : Int).tdiv n = 4096 / n := Int.tdiv_eq_ediv_of_nonneg (by decide)
 have h1 : 0 ≤ (4096 : Int) / n := Int.ediv_nonneg (by decide) (by omega)
 have h2 : (4096 : Int) / n ≤ 4096 := Int.ediv_le_self _ (by decide)
 rw [h0, IntWalk.i64_in _ (by omega)]
 have h3 : (4096 : Int) / n < d ↔ 4096 < d * n := Int.ediv_lt_iff_lt_mul (by omega)
 rw [gt_iff_lt, h3, Int.mul_comm d n]
 by_cases h4 : 1 ≤ d
 ·rw [show max 1 d = d by omega]
  constructor
  ·exact fun h => .inl ⟨h, h4⟩
  ·rintro (h | h)
   ·exact h.1
   ·have := Int.mul_le_mul_of_nonneg_left h4 (show 0 ≤ n by omega)
    omega
 ·have : d = 0 := by omega
  subst this
  simp
theorem Count_ok (sh : List Int) (hb : sh.length ≤ 1000000) : AC Tryz.prog 64 [.sl 1 (irows .i64 sh) false] (.pure (CNT sh)) := by
 refine AC.of_body TTok Tryz.func64 rfl (enter_of Tryz.func64 (by kernel_rfl) (by kernel_rfl)) (noid1 (noid_sl _ _ _)) (CNT_noid _) (nbq rfl) ?_
 have hlen := irows_len .i64 sh
 by_cases h8 : sh.length > 8
 ·have t8 : decide (((irows .i64 sh).length : Int) > 8) = true := decide_eq_true (by omega)
  rw [CNT_bad (fun hv => by have := hv.1; omega)]
  conv => whnf
  refine cTq (t8) ?_
  repeat ((conv => whnf); (first | refine ⟨_, ‹_›, ?_⟩ | refine ⟨nbq rfl, _, ‹_›, ?_⟩ | refine ⟨by kernel_rfl, ?_⟩ | exact rfl | exact ⟨nbq rfl, rfl⟩ | refine ⟨by decide, ?_⟩))
 have t8 : decide (((irows .i64 sh).length : Int) > 8) = false := decide_eq_false (by omega)
 conv => whnf
 refine cFq (t8) ?_
 conv => whnf
 refine SW.loopM TTok (fun i : Nat => [(4, .val (.int .i64 (pmI (sh.take i)))), (5, .val (.bool (decide (0 ∈ sh.take i)))), (11, .sl 1 (irows .i64 sh) false), (12, .val (.int .i64 ((irows .i64 sh).length : Int))), (13, .val (.int .i64 (i : Int)))]) (fun i => []) 96 37 rfl (fun i => sh.length - i) (fun i => i ≤ sh.length ∧ pmI (sh.take i) ≤ 4096 ∧ ∀ d ∈ sh.take i, 0 ≤ d) 0 [] ⟨Nat.zero_le _, (by show (1 : Int) ≤ 4096; decide), fun d hd => nomatch hd⟩
  ⟨q2r, q2r, q2r, q2r, q2r, trivial⟩ trivial rfl ?_
 intro i hJ
 have hi : i ≤ sh.length := hJ.1
 have hp : pmI (sh.take i) ≤ 4096 := hJ.2.1
 have hd : ∀ d ∈ sh.take i, 0 ≤ d := hJ.2.2
 clear hJ
 have hp1 := pm_pos (sh.take i)
 by_cases hlt : i < sh.length
 ·have hg := irows_get .i64 sh (List.getElem?_eq_getElem hlt)
  have eI : IntKind.i64.wrap ((i : Int) + 1) = ((i + 1 : Nat) : Int) := by rw [IntWalk.i64_in _ (by omega)]; omega
  have hs := pm_take hlt
  have hts := take_snoc hlt
  by_cases hneg : sh[i] < 0
  ·rw [CNT_bad (vS_not_neg hlt hneg)]
   conv => whnf
   first | refine oTq (by omega) ?_ | refine oFq (by omega) ?_ | refine oEq (by omega) ?_ | refine oNq (by omega) ?_
   conv => whnf
   refine ⟨_, ⟨by omega, hg⟩, ?_⟩
   conv => whnf
   first | refine oTq (by omega) ?_ | refine oFq (by omega) ?_ | refine oEq (by omega) ?_ | refine oNq (by omega) ?_
   repeat ((conv => whnf); (first | refine ⟨_, ‹_›, ?_⟩ | refine ⟨nbq rfl, _, ‹_›, ?_⟩ | refine ⟨by kernel_rfl, ?_⟩ | exact rfl | exact ⟨nbq rfl, rfl⟩ | refine ⟨by decide, ?_⟩))
  ·have hq := quo_test hp1 (Int.not_lt.1 hneg)
   have hnz : pmI (sh.take i) ≠ 0 := by omega
   by_cases hbig : 4096 < pmI (sh.take (i + 1))
   ·rw [CNT_bad (vS_not_big hlt hbig)]
    have h1 : 1 ≤ sh[i] := by
     rcases Int.lt_or_le sh[i] 1 with h | h
     ·rw [hs, show max 1 sh[i] = 1 by omega] at hbig
      omega
     ·exact h
    rw [hs] at hbig
    have tq : decide (sh[i] > IntKind.i64.wrap ((4096 : Int).tdiv (pmI (sh.take i)))) = true := decide_eq_true (hq.2 (.inl ⟨hbig, h1⟩))
    conv => whnf
    first | refine oTq (by omega) ?_ | refine oFq (by omega) ?_ | refine oEq (by omega) ?_ | refine oNq (by omega) ?_
    conv => whnf
    refine ⟨_, ⟨by omega, hg⟩, ?_⟩
    conv => whnf
    first | refine oTq (by omega) ?_ | refine oFq (by omega) ?_ | refine oEq (by omega) ?_ | refine oNq (by omega) ?_
    conv => whnf
    refine ⟨hnz, ?_⟩
    conv => whnf
    refine cTq (tq) ?_
    repeat ((conv => whnf); (first | refine ⟨_, ‹_›, ?_⟩ | refine ⟨nbq rfl, _, ‹_›, ?_⟩ | refine ⟨by kernel_rfl, ?_⟩ | exact rfl | exact ⟨nbq rfl, rfl⟩ | refine ⟨by decide, ?_⟩))
   ·rw [hs] at hbig
    have tq : decide (sh[i] > IntKind.i64.wrap ((4096 : Int).tdiv (pmI (sh.take i)))) = false := decide_eq_false (fun h => by
     rcases hq.1 h with h | h
     ·exact hbig h.1
     ·omega)
    have e4 : IntKind.i64.wrap (pmI (sh.take i) * (if sh[i] > 1 then sh[i] else 1)) = pmI (sh.take (i + 1)) := by
     rw [hs, show (if sh[i] > 1 then sh[i] else 1) = max 1 sh[i] by split <;> omega]
     have := pm_grow (sh.take i) sh[i]
     exact IntWalk.i64_in _ (by omega)
    have fin : ∀ b : Bool, b = decide (0 ∈ sh.take (i + 1)) → AV.val (.bool b) = AV.val (.bool (decide (0 ∈ sh.take (i + 1)))) := fun b h => by rw [h]
    have hd' : ∀ d ∈ sh.take (i + 1), 0 ≤ d := by
     rw [hts]
     intro d hdd
     rcases List.mem_append.1 hdd with h | h
     ·exact hd d h
     ·rw [List.mem_singleton.1 h]; omega
    have hbig' : pmI (sh.take (i + 1)) ≤ 4096 := by rw [hs]; omega
    cases hz : decide (0 ∈ sh.take i) with
    | true =>
     have hz' := of_decide_eq_true hz
     conv => whnf
     first | refine oTq (by omega) ?_ | refine oFq (by omega) ?_ | refine oEq (by omega) ?_ | refine oNq (by omega) ?_
     conv => whnf
     refine ⟨_, ⟨by omega, hg⟩, ?_⟩
     conv => whnf
     first | refine oTq (by omega) ?_ | refine oFq (by omega) ?_ | refine oEq (by omega) ?_ | refine oNq (by omega) ?_
     conv => whnf
     refine ⟨hnz, ?_⟩
     conv => whnf
     refine cFq (tq) ?_
     conv => whnf
     refine ⟨i + 1, [], (by show sh.length - (i + 1) < sh.length - i; omega), ⟨hlt, hbig', hd'⟩, ⟨⟨valI e4, rfl⟩, ⟨fin _ (by rw [hts]; exact (decide_eq_true (List.mem_append_left _ hz')).symm), rfl⟩, q2r, q2r, ⟨valI eI, rfl⟩, trivial⟩, trivial, rfl⟩
    | false =>
     have hz' := of_decide_eq_false hz
     conv => whnf
     first | refine oTq (by omega) ?_ | refine oFq (by omega) ?_ | refine oEq (by omega) ?_ | refine oNq (by omega) ?_
     conv => whnf
     refine ⟨_, ⟨by omega, hg⟩, ?_⟩
     conv => whnf
     first | refine oTq (by omega) ?_ | refine oFq (by omega) ?_ | refine oEq (by omega) ?_ | refine oNq (by omega) ?_
     conv => whnf
     refine ⟨hnz, ?_⟩
     conv => whnf
     refine cFq (tq) ?_
     conv => whnf
     refine ⟨i + 1, [], (by show sh.length - (i + 1) < sh.length - i; omega), ⟨hlt, hbig', hd'⟩, ⟨⟨valI e4, rfl⟩, ⟨fin _ ?_, rfl⟩, q2r, q2r, ⟨valI eI, rfl⟩, trivial⟩, trivial, rfl⟩
     rw [hts]
     by_cases h0 : sh[i] = 0
     ·rw [show (sh[i] == 0) = true by rw [h0]; rfl]
      exact (decide_eq_true (List.mem_append_right _ (List.mem_singleton.2 h0.symm))).symm
     ·rw [show (sh[i] == 0) = false from beq_false_of_ne h0]
      refine (decide_eq_false (fun h => ?_)).symm
      rcases List.mem_append.1 h with h | h
      ·exact hz' h
      ·exact h0 (List.mem_singleton.1 h).symm
 ·have hie : i = sh.length := by omega
  have hta : sh.take i = sh := by rw [hie, List.take_length]
  rw [hta] at hp hd ⊢
  have hv : vS sh := ⟨by omega, hd, hp⟩
  rw [CNT_good hv]
  unfold cntI
  by_cases h0 : 0 ∈ sh
  ·rw [if_pos h0, decide_eq_true h0]
   conv => whnf
   first | refine oTq (by omega) ?_ | refine oFq (by omega) ?_ | refine oEq (by omega) ?_ | refine oNq (by omega) ?_
   repeat ((conv => whnf); (first | refine ⟨_, ‹_›, ?_⟩ | refine ⟨nbq rfl, _, ‹_›, ?_⟩ | refine ⟨by kernel_rfl, ?_⟩ | exact rfl | exact ⟨nbq rfl, rfl⟩ | refine ⟨by decide, ?_⟩))
  ·rw [if_neg h0, decide_eq_false h0]
   conv => whnf
   first | refine oTq (by omega) ?_ | refine oFq (by omega) ?_ | refine oEq (by omega) ?_ | refine oNq (by omega) ?_
   repeat ((conv => whnf); (first | refine ⟨_, ‹_›, ?_⟩ | refine ⟨nbq rfl, _, ‹_›, ?_⟩ | refine ⟨by kernel_rfl, ?_⟩ | exact rfl | exact ⟨nbq rfl, rfl⟩ | refine ⟨by decide, ?_⟩))
end
section
end
section
theorem IntsSame_ok (a b : List Int) (ha : a.length ≤ 1000000) (hb : b.length ≤ 1000000) : AC Tryz.prog 75 [.sl 1 (irows .i64 a) false, .sl 1 (irows .i64 b) false] (.pure (.val (.bool (decide (a = b))))) := by
 refine AC.of_body TTok Tryz.func75 rfl (enter_of Tryz.func75 (by kernel_rfl) (by kernel_rfl)) (noid2 (noid_sl _ _ _) (noid_sl _ _ _)) (.val _) (nbq rfl) ?_
 have h1 := irows_len .i64 a
 have h2 := irows_len .i64 b
 by_cases hl : a.length = b.length
 ·have tl : (((irows .i64 a).length : Int) != ((irows .i64 b).length : Int)) = false := by rw [h1, h2, hl]; simp
  conv => whnf
  refine cFq (tl) ?_
  conv => whnf
  refine SW.loopM TTok (fun i : Nat => [(0, .sl 1 (irows .i64 a) false), (1, .sl 1 (irows .i64 b) false), (5, .val (.int .i64 (i : Int)))]) (fun i => []) 56 26 rfl (fun i => a.length - i) (fun i => i ≤ a.length ∧ a.take i = b.take i) 0 [] ⟨Nat.zero_le _, rfl⟩
   ⟨q2r, q2r, q2r, trivial⟩ trivial rfl ?_
  intro i hJ
  have hi : i ≤ a.length := hJ.1
  have ht : a.take i = b.take i := hJ.2
  clear hJ
  by_cases hlt : i < a.length
  ·have hlt' : i < b.length := by omega
   have g1 := irows_get .i64 a (List.getElem?_eq_getElem hlt)
   have g2 := irows_get .i64 b (List.getElem?_eq_getElem hlt')
   have eI : IntKind.i64.wrap ((i : Int) + 1) = ((i + 1 : Nat) : Int) := by rw [IntWalk.i64_in _ (by omega)]; omega
   by_cases he : a[i] = b[i]
   ·have te : (a[i] != b[i]) = false := by rw [he]; simp
    conv => whnf
    first | refine oTq (by omega) ?_ | refine oFq (by omega) ?_ | refine oEq (by omega) ?_ | refine oNq (by omega) ?_
    conv => whnf
    refine ⟨_, ⟨by omega, g1⟩, ?_⟩
    conv => whnf
    refine ⟨_, ⟨by omega, g2⟩, ?_⟩
    conv => whnf
    refine ⟨by kernel_rfl, ?_⟩
    conv => whnf
    refine cFq (te) ?_
    conv => whnf
    refine ⟨i + 1, [], (by show a.length - (i + 1) < a.length - i; omega), ⟨hlt, (by show a.take (i + 1) = b.take (i + 1); rw [take_snoc hlt, take_snoc hlt', ht, he])⟩, ⟨q2r, q2r, ⟨valI eI, rfl⟩, trivial⟩, trivial, rfl⟩
   ·have te : (a[i] != b[i]) = true := by simpa using he
    rw [decide_eq_false (fun e => he (by subst e; rfl))]
    conv => whnf
    first | refine oTq (by omega) ?_ | refine oFq (by omega) ?_ | refine oEq (by omega) ?_ | refine oNq (by omega) ?_
    conv => whnf
    refine ⟨_, ⟨by omega, g1⟩, ?_⟩
    conv => whnf
    refine ⟨_, ⟨by omega, g2⟩, ?_⟩
    conv => whnf
    refine ⟨by kernel_rfl, ?_⟩
    conv => whnf
    refine cTq (te) ?_
    repeat ((conv => whnf); (first | refine ⟨_, ‹_›, ?_⟩ | refine ⟨nbq rfl, _, ‹_›, ?_⟩ | refine ⟨by kernel_rfl, ?_⟩ | exact rfl | exact ⟨nbq rfl, rfl⟩ | refine ⟨by decide, ?_⟩))
  ·have hie : i = a.length := by omega
   rw [decide_eq_true (by rw [hie, List.take_length, hl, List.take_length] at ht; exact ht)]
   conv => whnf
   first | refine oTq (by omega) ?_ | refine oFq (by omega) ?_ | refine oEq (by omega) ?_ | refine oNq (by omega) ?_
   repeat ((conv => whnf); (first | refine ⟨_, ‹_›, ?_⟩ | refine ⟨nbq rfl, _, ‹_›, ?_⟩ | refine ⟨by kernel_rfl, ?_⟩ | exact rfl | exact ⟨nbq rfl, rfl⟩ | refine ⟨by decide, ?_⟩))
 ·have tl : (((irows .i64 a).length : Int) != ((irows .i64 b).length : Int)) = true := by rw [h1, h2]; simpa using (show ¬ (a.length : Int) = b.length by omega)
  rw [decide_eq_false (fun e => hl (by rw [e]))]
  conv => whnf
  refine cTq (tl) ?_
  repeat ((conv => whnf); (first | refine ⟨_, ‹_›, ?_⟩ | refine ⟨nbq rfl, _, ‹_›, ?_⟩ | refine ⟨by kernel_rfl, ?_⟩ | exact rfl | exact ⟨nbq rfl, rfl⟩ | refine ⟨by decide, ?_⟩))
theorem Runes_ok (a b : List Int) (ha : a.length ≤ 1000000) (hb : b.length ≤ 1000000) : AC Tryz.prog 76 [.sl 1 (irows .i32 a) false, .sl 1 (irows .i32 b) false] (.pure (.val (.bool (decide (a = b))))) := by
 refine AC.of_body TTok Tryz.func76 rfl (enter_of Tryz.func76 (by kernel_rfl) (by kernel_rfl)) (noid2 (noid_sl _ _ _) (noid_sl _ _ _)) (.val _) (nbq rfl) ?_
 have h1 := irows_len .i32 a
 have h2 := irows_len .i32 b
 by_cases hl : a.length = b.length
 ·have tl : (((irows .i32 a).length : Int) != ((irows .i32 b).length : Int)) = false := by rw [h1, h2, hl]; simp
  conv => whnf
  refine cFq (tl) ?_
  conv => whnf
  refine SW.loopM TTok (fun i : Nat => [(0, .sl 1 (irows .i32 a) false), (1, .sl 1 (irows .i32 b) false), (5, .val (.int .i64 (i : Int)))]) (fun i => []) 56 26 rfl (fun i => a.length - i) (fun i => i ≤ a.length ∧ a.take i = b.take i) 0 [] ⟨Nat.zero_le _, rfl⟩
   ⟨q2r, q2r, q2r, trivial⟩ trivial rfl ?_
  intro i hJ
  have hi : i ≤ a.length := hJ.1
  have ht : a.take i = b.take i := hJ.2
  clear hJ
  by_cases hlt : i < a.length
  ·have hlt' : i < b.length := by omega
   have g1 := irows_get .i32 a (List.getElem?_eq_getElem hlt)
   have g2 := irows_get .i32 b (List.getElem?_eq_getElem hlt')
   have eI : IntKind.i64.wrap ((i : Int) + 1) = ((i + 1 : Nat) : Int) := by rw [IntWalk.i64_in _ (by omega)]; omega
   by_cases he : a[i] = b[i]
   ·have te : (a[i] != b[i]) = false := by rw [he]; simp
    conv => whnf
    first | refine oTq (by omega) ?_ | refine oFq (by omega) ?_ | refine oEq (by omega) ?_ | refine oNq (by omega) ?_
    conv => whnf
    refine ⟨_, ⟨by omega, g1⟩, ?_⟩
    conv => whnf
    refine ⟨_, ⟨by omega, g2⟩, ?_⟩
    conv => whnf
    refine ⟨by kernel_rfl, ?_⟩
    conv => whnf
    refine cFq (te) ?_
    conv => whnf
    refine ⟨i + 1, [], (by show a.length - (i + 1) < a.length - i; omega), ⟨hlt, (by show a.take (i + 1) = b.take (i + 1); rw [take_snoc hlt, take_snoc hlt', ht, he])⟩, ⟨q2r, q2r, ⟨valI eI, rfl⟩, trivial⟩, trivial, rfl⟩
   ·have te : (a[i] != b[i]) = true := by simpa using he
    rw [decide_eq_false (fun e => he (by subst e; rfl))]
    conv => whnf
    first | refine oTq (by omega) ?_ | refine oFq (by omega) ?_ | refine oEq (by omega) ?_ | refine oNq (by omega) ?_
    conv => whnf
    refine ⟨_, ⟨by omega, g1⟩, ?_⟩
    conv => whnf
    refine ⟨_, ⟨by omega, g2⟩, ?_⟩
    conv => whnf
    refine ⟨by kernel_rfl, ?_⟩
    conv => whnf
    refine cTq (te) ?_
    repeat ((conv => whnf); (first | refine ⟨_, ‹_›, ?_⟩ | refine ⟨nbq rfl, _, ‹_›, ?_⟩ | refine ⟨by kernel_rfl, ?_⟩ | exact rfl | exact ⟨nbq rfl, rfl⟩ | refine ⟨by decide, ?_⟩))
  ·have hie : i = a.length := by omega
   rw [decide_eq_true (by rw [hie, List.take_length, hl, List.take_length] at ht; exact ht)]
   conv => whnf
   first | refine oTq (by omega) ?_ | refine oFq (by omega) ?_ | refine oEq (by omega) ?_ | refine oNq (by omega) ?_
   repeat ((conv => whnf); (first | refine ⟨_, ‹_›, ?_⟩ | refine ⟨nbq rfl, _, ‹_›, ?_⟩ | refine ⟨by kernel_rfl, ?_⟩ | exact rfl | exact ⟨nbq rfl, rfl⟩ | refine ⟨by decide, ?_⟩))
 ·have tl : (((irows .i32 a).length : Int) != ((irows .i32 b).length : Int)) = true := by rw [h1, h2]; simpa using (show ¬ (a.length : Int) = b.length by omega)
  rw [decide_eq_false (fun e => hl (by rw [e]))]
  conv => whnf
  refine cTq (tl) ?_
  repeat ((conv => whnf); (first | refine ⟨_, ‹_›, ?_⟩ | refine ⟨nbq rfl, _, ‹_›, ?_⟩ | refine ⟨by kernel_rfl, ?_⟩ | exact rfl | exact ⟨nbq rfl, rfl⟩ | refine ⟨by decide, ?_⟩))
theorem Equal_ok (a b : List Int) (ha : a.length ≤ 1000000) (hb : b.length ≤ 1000000) : AC Tryz.prog 148 [.sl 1 (irows .i64 a) false, .sl 1 (irows .i64 b) false] (.pure (.val (.bool (decide (a = b))))) := by
 refine AC.of_body TTok Tryz.func148 rfl (enter_of Tryz.func148 (by kernel_rfl) (by kernel_rfl)) (noid2 (noid_sl _ _ _) (noid_sl _ _ _)) (.val _) (nbq rfl) ?_
 have h1 := irows_len .i64 a
 have h2 := irows_len .i64 b
 by_cases hl : a.length = b.length
 ·have tl : (((irows .i64 a).length : Int) != ((irows .i64 b).length : Int)) = false := by rw [h1, h2, hl]; simp
  conv => whnf
  refine cFq (tl) ?_
  conv => whnf
  refine SW.loopM TTok (fun i : Nat => [(0, .sl 1 (irows .i64 a) false), (1, .sl 1 (irows .i64 b) false), (12, .val (.int .i64 ((irows .i64 a).length : Int))), (13, .val (.int .i64 (i : Int)))]) (fun i => []) 72 26 rfl (fun i => a.length - i) (fun i => i ≤ a.length ∧ a.take i = b.take i) 0 [] ⟨Nat.zero_le _, rfl⟩
   ⟨q2r, q2r, q2r, q2r, trivial⟩ trivial rfl ?_
  intro i hJ
  have hi : i ≤ a.length := hJ.1
  have ht : a.take i = b.take i := hJ.2
  clear hJ
  by_cases hlt : i < a.length
  ·have hlt' : i < b.length := by omega
   have g1 := irows_get .i64 a (List.getElem?_eq_getElem hlt)
   have g2 := irows_get .i64 b (List.getElem?_eq_getElem hlt')
   have eI : IntKind.i64.wrap ((i : Int) + 1) = ((i + 1 : Nat) : Int) := by rw [IntWalk.i64_in _ (by omega)]; omega
   by_cases he : a[i] = b[i]
   ·have te : (a[i] != b[i]) = false := by rw [he]; simp
    conv => whnf
    first | refine oTq (by omega) ?_ | refine oFq (by omega) ?_ | refine oEq (by omega) ?_ | refine oNq (by omega) ?_
    conv => whnf
    refine ⟨_, ⟨by omega, g1⟩, ?_⟩
    conv => whnf
    refine ⟨_, ⟨by omega, g2⟩, ?_⟩
    conv => whnf
    refine ⟨by kernel_rfl, ?_⟩
    conv => whnf
    refine cFq (te) ?_
    conv => whnf
    refine ⟨i + 1, [], (by show a.length - (i + 1) < a.length - i; omega), ⟨hlt, (by show a.take (i + 1) = b.take (i + 1); rw [take_snoc hlt, take_snoc hlt', ht, he])⟩, ⟨q2r, q2r, q2r, ⟨valI eI, rfl⟩, trivial⟩, trivial, rfl⟩
   ·have te : (a[i] != b[i]) = true := by simpa using he
    rw [decide_eq_false (fun e => he (by subst e; rfl))]
    conv => whnf
    first | refine oTq (by omega) ?_ | refine oFq (by omega) ?_ | refine oEq (by omega) ?_ | refine oNq (by omega) ?_
    conv => whnf
    refine ⟨_, ⟨by omega, g1⟩, ?_⟩
    conv => whnf
    refine ⟨_, ⟨by omega, g2⟩, ?_⟩
    conv => whnf
    refine ⟨by kernel_rfl, ?_⟩
    conv => whnf
    refine cTq (te) ?_
    repeat ((conv => whnf); (first | refine ⟨_, ‹_›, ?_⟩ | refine ⟨nbq rfl, _, ‹_›, ?_⟩ | refine ⟨by kernel_rfl, ?_⟩ | exact rfl | exact ⟨nbq rfl, rfl⟩ | refine ⟨by decide, ?_⟩))
  ·have hie : i = a.length := by omega
   rw [decide_eq_true (by rw [hie, List.take_length, hl, List.take_length] at ht; exact ht)]
   conv => whnf
   first | refine oTq (by omega) ?_ | refine oFq (by omega) ?_ | refine oEq (by omega) ?_ | refine oNq (by omega) ?_
   repeat ((conv => whnf); (first | refine ⟨_, ‹_›, ?_⟩ | refine ⟨nbq rfl, _, ‹_›, ?_⟩ | refine ⟨by kernel_rfl, ?_⟩ | exact rfl | exact ⟨nbq rfl, rfl⟩ | refine ⟨by decide, ?_⟩))
 ·have tl : (((irows .i64 a).length : Int) != ((irows .i64 b).length : Int)) = true := by rw [h1, h2]; simpa using (show ¬ (a.length : Int) = b.length by omega)
  rw [decide_eq_false (fun e => hl (by rw [e]))]
  conv => whnf
  refine cTq (tl) ?_
  repeat ((conv => whnf); (first | refine ⟨_, ‹_›, ?_⟩ | refine ⟨nbq rfl, _, ‹_›, ?_⟩ | refine ⟨by kernel_rfl, ?_⟩ | exact rfl | exact ⟨nbq rfl, rfl⟩ | refine ⟨by decide, ?_⟩))
theorem ShSame_ok (a b : List Int) (ha : a.length ≤ 1000000) (hb : b.length ≤ 1000000) : AC Tryz.prog 132 [.sl 1 (irows .i64 a) false, .sl 1 (irows .i64 b) false] (.pure (.val (.bool (decide (a = b))))) := by
 refine AC.of_body TTok Tryz.func132 rfl (enter_of Tryz.func132 (by kernel_rfl) (by kernel_rfl)) (noid2 (noid_sl _ _ _) (noid_sl _ _ _)) (.val _) (nbq rfl) ?_
 have h := Equal_ok a b ha hb
 repeat ((conv => whnf); (first | refine ⟨_, ‹_›, ?_⟩ | refine ⟨nbq rfl, _, ‹_›, ?_⟩ | refine ⟨by kernel_rfl, ?_⟩ | exact rfl | exact ⟨nbq rfl, rfl⟩ | refine ⟨by decide, ?_⟩))
section
variable (sh : List Int) (ch : Bool) (tx : List Int) (ns : List (Option (Rat × Nat))) (made : Bool)
theorem ALen_ok (h1 : tx.length ≤ 1000000) (h2 : ns.length ≤ 1000000) : AC Tryz.prog 20 [AA sh ch tx ns made] (.pure (.val (.int .i64 ((tx.length + ns.length : Nat) : Int)))) := by
 refine AC.of_body TTok Tryz.func20 rfl (enter_of Tryz.func20 (by kernel_rfl) (by kernel_rfl)) (noid1 (AA_noid _ _ _ _ _)) (.val _) (nbq rfl) ?_
 unfold AA
 conv => whnf
 exact valI (by rw [irows_len, List.length_map, IntWalk.i64_in _ (by omega)]; omega)
theorem IsChar_ok : AC Tryz.prog 47 [AA sh ch tx ns made] (.pure (.val (.bool ch))) := by
 refine AC.of_body TTok Tryz.func47 rfl (enter_of Tryz.func47 (by kernel_rfl) (by kernel_rfl)) (noid1 (AA_noid _ _ _ _ _)) (.val _) (nbq rfl) ?_
 unfold AA
 repeat ((conv => whnf); (first | refine ⟨_, ‹_›, ?_⟩ | refine ⟨nbq rfl, _, ‹_›, ?_⟩ | refine ⟨by kernel_rfl, ?_⟩ | exact rfl | exact ⟨nbq rfl, rfl⟩ | refine ⟨by decide, ?_⟩))
theorem Shape_ok (h : sh.length ≤ 1000000) : AC Tryz.prog 28 [AA sh ch tx ns true] (.pure (.sl 1 (irows .i64 sh) false)) := by
 refine AC.of_body TTok Tryz.func28 rfl (enter_of Tryz.func28 (by kernel_rfl) (by kernel_rfl)) (noid1 (AA_noid _ _ _ _ _)) (noid_sl _ _ _) (nbq rfl) ?_
 have hC := CloneI_ok sh h
 unfold AA
 repeat ((conv => whnf); (first | refine ⟨_, ‹_›, ?_⟩ | refine ⟨nbq rfl, _, ‹_›, ?_⟩ | refine ⟨by kernel_rfl, ?_⟩ | exact rfl | exact ⟨nbq rfl, rfl⟩ | refine ⟨by decide, ?_⟩))
theorem Rank_ok (h : sh.length ≤ 1000000) : AC Tryz.prog 24 [AA sh ch tx ns true] (.pure (.val (.int .i64 (sh.length : Nat)))) := by
 refine AC.of_body TTok Tryz.func24 rfl (enter_of Tryz.func24 (by kernel_rfl) (by kernel_rfl)) (noid1 (AA_noid _ _ _ _ _)) (.val _) (nbq rfl) ?_
 have hS := Shape_ok sh ch tx ns h
 unfold AA at *
 conv => whnf
 refine ⟨_, hS, ?_⟩
 conv => whnf
 exact valI (by rw [irows_len])
theorem Runes86_ok (h : tx.length ≤ 1000000) : AC Tryz.prog 77 [AA sh ch tx ns made] (.pure (.sl 1 (irows .i32 tx) false)) := by
 refine AC.of_body TTok Tryz.func77 rfl (enter_of Tryz.func77 (by kernel_rfl) (by kernel_rfl)) (noid1 (AA_noid _ _ _ _ _)) (noid_sl _ _ _) (nbq rfl) ?_
 have hC := CloneR_ok tx h
 unfold AA
 repeat ((conv => whnf); (first | refine ⟨_, ‹_›, ?_⟩ | refine ⟨nbq rfl, _, ‹_›, ?_⟩ | refine ⟨by kernel_rfl, ?_⟩ | exact rfl | exact ⟨nbq rfl, rfl⟩ | refine ⟨by decide, ?_⟩))
theorem RatI_ok (k : Nat) (hk : k < ns.length) (hb : ns.length ≤ 1000000) : AC Tryz.prog 22 [AA sh ch tx ns made, .val (.int .i64 (k : Int))] (.pure (.agg (rowX ns[k]))) := by
 refine AC.of_body TTok Tryz.func22 rfl (enter_of Tryz.func22 (by kernel_rfl) (by kernel_rfl)) (noid2 (AA_noid _ _ _ _ _) (.val _)) (.agg _ (rowX_noid _)) (nbq rfl) ?_
 have hlen : (ns.map rowX).length = ns.length := List.length_map _
 have hg : (ns.map rowX)[k]? = some (rowX ns[k]) := by rw [List.getElem?_map, List.getElem?_eq_getElem hk]; rfl
 unfold AA
 cases hr : ns[k] with
 | none =>
  have hg : (ns.map rowX)[k]? = some [.sl 0 [] true, .val (.bool false), .sl 0 [] true] := by rw [hg, hr]; rfl
  conv => whnf
  first | refine oTq (by omega) ?_ | refine oFq (by omega) ?_ | refine oEq (by omega) ?_ | refine oNq (by omega) ?_
  conv => whnf
  refine ⟨_, ⟨by omega, hg⟩, ?_⟩
  repeat ((conv => whnf); (first | refine ⟨_, ‹_›, ?_⟩ | refine ⟨nbq rfl, _, ‹_›, ?_⟩ | refine ⟨by kernel_rfl, ?_⟩ | exact rfl | exact ⟨nbq rfl, rfl⟩ | refine ⟨by decide, ?_⟩))
 | some p =>
  have hg : (ns.map rowX)[k]? = some [.sl 1 (irows .u32 (limbs p.1.num.natAbs)) false, .val (.bool (decide (p.1.num < 0))), .sl 1 (irows .u32 (limbs p.2)) false] := by rw [hg, hr]; rfl
  conv => whnf
  first | refine oTq (by omega) ?_ | refine oFq (by omega) ?_ | refine oEq (by omega) ?_ | refine oNq (by omega) ?_
  conv => whnf
  refine ⟨_, ⟨by omega, hg⟩, ?_⟩
  repeat ((conv => whnf); (first | refine ⟨_, ‹_›, ?_⟩ | refine ⟨nbq rfl, _, ‹_›, ?_⟩ | refine ⟨by kernel_rfl, ?_⟩ | exact rfl | exact ⟨nbq rfl, rfl⟩ | refine ⟨by decide, ?_⟩))
theorem RuneI_ok (k : Nat) (hk : k < tx.length) (hb : tx.length ≤ 1000000) : AC Tryz.prog 133 [AA sh ch tx ns made, .val (.int .i64 (k : Int))] (.pure (.val (.int .i32 tx[k]))) := by
 refine AC.of_body TTok Tryz.func133 rfl (enter_of Tryz.func133 (by kernel_rfl) (by kernel_rfl)) (noid2 (AA_noid _ _ _ _ _) (.val _)) (.val _) (nbq rfl) ?_
 have hlen := irows_len .i32 tx
 have hg := irows_get .i32 tx (List.getElem?_eq_getElem hk)
 unfold AA
 conv => whnf
 first | refine oTq (by omega) ?_ | refine oFq (by omega) ?_ | refine oEq (by omega) ?_ | refine oNq (by omega) ?_
 conv => whnf
 refine ⟨_, ⟨by omega, hg⟩, ?_⟩
 repeat ((conv => whnf); (first | refine ⟨_, ‹_›, ?_⟩ | refine ⟨nbq rfl, _, ‹_›, ?_⟩ | refine ⟨by kernel_rfl, ?_⟩ | exact rfl | exact ⟨nbq rfl, rfl⟩ | refine ⟨by decide, ?_⟩))
end
theorem at_ok (i : Int) (one : Bool) : AC Tryz.prog 115 [.val (.int .i64 i), .val (.bool one)] (.pure (.val (.int .i64 (if one then 0 else i)))) := by
 refine AC.of_body TTok Tryz.func115 rfl (enter_of Tryz.func115 (by kernel_rfl) (by kernel_rfl)) (noid2 (.val _) (.val _)) (.val _) (nbq rfl) ?_
 cases one
 ·repeat ((conv => whnf); (first | refine ⟨_, ‹_›, ?_⟩ | refine ⟨nbq rfl, _, ‹_›, ?_⟩ | refine ⟨by kernel_rfl, ?_⟩ | exact rfl | exact ⟨nbq rfl, rfl⟩ | refine ⟨by decide, ?_⟩))
 ·repeat ((conv => whnf); (first | refine ⟨_, ‹_›, ?_⟩ | refine ⟨nbq rfl, _, ‹_›, ?_⟩ | refine ⟨by kernel_rfl, ?_⟩ | exact rfl | exact ⟨nbq rfl, rfl⟩ | refine ⟨by decide, ?_⟩))
end
section
theorem Nums_ok (sh : List Int) (ns : List (Option (Rat × Nat))) (hv : vS sh) (hc : cntI sh = (ns.length : Int)) (hb : ns.length ≤ 1000000) : AC Tryz.prog 90 [.sl 1 (irows .i64 sh) false, .sl 3 (ns.map rowX) false] (.pure (.tup [AA sh false [] ns true, .val (.bool true)])) := by
 have h8 := hv.1
 have hC := Count_ok sh (by omega)
 rw [CNT_good hv, hc] at hC
 have h1 := CloneI_ok sh (by omega)
 have h2 := CloneQ_ok ns hb
 have hlen : (ns.map rowX).length = ns.length := List.length_map _
 refine AC.le_res (?_ : AC Tryz.prog 90 _ (.pure (.tup [.agg [.sl 1 (irows .i64 sh) false, .val (.bool false), .sl 0 [] true, .sl 3 (ns.map rowX) false, .val (.bool true)], .val (.bool true)]))) (.tup2 (le_agg5 (.refl _) (.refl _) (le_nil 1) (.refl _) (.refl _)) (.refl _)) (.tup _ (noid2 (AA_noid _ _ _ _ _) (.val _)))
 refine AC.of_body TTok Tryz.func90 rfl (enter_of Tryz.func90 (by kernel_rfl) (by kernel_rfl)) (noid2 (noid_sl _ _ _) (slX_noid _)) (.tup _ (noid2 (.agg _ (noid5 (noid_sl _ _ _) (.val _) (.sl _ _ _ (fun r hr => nomatch hr)) (slX_noid _) (.val _))) (.val _))) (nbq rfl) ?_
 have t1 : (((ns.length : Nat) : Int) != ((ns.map rowX).length : Int)) = false := by rw [hlen]; simp
 conv => whnf
 refine ⟨_, hC, ?_⟩
 conv => whnf
 refine cFq (t1) ?_
 repeat ((conv => whnf); (first | refine ⟨_, ‹_›, ?_⟩ | refine ⟨nbq rfl, _, ‹_›, ?_⟩ | refine ⟨by kernel_rfl, ?_⟩ | exact rfl | exact ⟨nbq rfl, rfl⟩ | refine ⟨by decide, ?_⟩))
theorem NumX_ok (o : Option (Rat × Nat)) (ho : okX o) (hs : Sz (valX o) 100000) : AC Tryz.prog 78 [.agg (rowX o)] (.pure (RN (valX o).num (valX o).den)) := by
 cases o with
 | none =>
  have hz : AC Tryz.prog 78 [RA 0 0] (.pure (RN 0 1)) := NumS 0 0 rfl ⟨by show (limbs 0).length ≤ _; rw [limbs_zero]; exact Nat.zero_le _, by show (limbs 1).length ≤ _; rw [limbs_1]; decide⟩
  exact AC.le_args hz rfl (fun i x y hx hy => by
   match i with
   | 0 => cases hx; cases hy; exact RZ_le
   | (i + 1) => cases hx) (noid1 RZ_noid)
 | some p => exact NumS p.1 p.2 ho hs
theorem Plain_ok (sh : List Int) (ch : Bool) (tx : List Int) (ns : List (Option (Rat × Nat))) (h1 : sh.length ≤ 1000) (h2 : tx.length ≤ 100000) (h3 : ns.length ≤ 100000) (ho : ∀ o ∈ ns, okX o ∧ Sz (valX o) 100000) :
  AC Tryz.prog 37 [AA sh ch tx ns true] (.pure (PA sh ch tx (ns.map valX))) := by
 refine AC.of_body TTok Tryz.func37 rfl (enter_of Tryz.func37 (by kernel_rfl) (by kernel_rfl)) (noid1 (AA_noid _ _ _ _ _)) (PA_noid _ _ _ _) (nbq rfl) ?_
 have hS := Shape_ok sh ch tx ns (by omega)
 have hR := Runes86_ok sh ch tx ns true (by omega)
 have hlen : (ns.map rowX).length = ns.length := List.length_map _
 unfold AA at *
 conv => whnf
 refine ⟨_, hS, ?_⟩
 conv => whnf
 refine ⟨_, hR, ?_⟩
 conv => whnf
 refine ⟨by kernel_rfl, ?_⟩
 conv => whnf
 refine SW.nilC 72 3 3 rfl rfl ?_
 refine SW.loopM TTok (fun i : Nat => [(2, .lp 8 0), (3, .lp 72 0), (14, .sl 3 (ns.map rowX) false), (15, .val (.int .i64 ((ns.map rowX).length : Int))), (16, .val (.int .i64 (i : Int)))])
  (fun i => [(8, .cells 4 [[.sl 0 [] true, .val (.bool false), .sl 0 [] true, .sl 0 [] true]]), (72, .cells 4 [[.sl 1 (irows .i64 sh) false, .val (.bool ch), .sl 1 (irows .i32 tx) false, .own 120 0 i]]), (120, .cells 3 (((ns.take i).map valX).map rowN))]) 128 29 rfl (fun i => ns.length - i) (fun i => i ≤ ns.length) 0 [] (Nat.zero_le _)
  ⟨q2r, q2r, q2r, q2r, q2r, trivial⟩ ⟨q3r, q3r, ⟨rfl, .inl ⟨rfl, rowsN_noid _⟩⟩, trivial⟩ rfl ?_
 intro i hi
 have hi : i ≤ ns.length := hi
 have hql : (((ns.take i).map valX).map rowN).length = i := by rw [List.length_map, List.length_map, List.length_take]; omega
 by_cases hlt : i < ns.length
 ·have eI : IntKind.i64.wrap ((i : Int) + 1) = ((i + 1 : Nat) : Int) := by rw [IntWalk.i64_in _ (by omega)]; omega
  have hg : (ns.map rowX)[i]? = some (rowX ns[i]) := by rw [List.getElem?_map, List.getElem?_eq_getElem hlt]; rfl
  obtain ⟨o1, o2⟩ := ho _ (List.getElem_mem hlt)
  have hN := NumX_ok ns[i] o1 o2
  have hsn : ((ns.take i).map valX).map rowN ++ [rowN (valX ns[i])] = ((ns.take (i + 1)).map valX).map rowN := by
   rw [take_snoc hlt, List.map_append, List.map_append]; rfl
  have hdt : (((ns.take i).map valX).map rowN).drop 0 = ((ns.take i).map valX).map rowN := rfl
  have htk : ((((ns.take i).map valX).map rowN).drop 0).take i = ((ns.take i).map valX).map rowN := by rw [hdt, List.take_of_length_le (by omega)]
  cases hr : ns[i] with
  | none =>
   rw [hr] at hg hN hsn
   have hg : (ns.map rowX)[i]? = some [.sl 0 [] true, .val (.bool false), .sl 0 [] true] := hg
   have hN : AC Tryz.prog 78 [.agg [.sl 0 [] true, .val (.bool false), .sl 0 [] true]] (.pure (.agg (rowN (valX none)))) := hN
   unfold rowN at hN
   conv => whnf
   first | refine oTq (by omega) ?_ | refine oFq (by omega) ?_ | refine oEq (by omega) ?_ | refine oNq (by omega) ?_
   conv => whnf
   refine ⟨_, ⟨by omega, hg⟩, ?_⟩
   conv => whnf
   refine ⟨_, hN, ?_⟩
   conv => whnf
   refine ⟨⟨by show 0 + i ≤ _; omega, by show (i + 1) * 40 ≤ 140737488355328; omega, nbq rfl⟩, ?_⟩
   conv => whnf
   refine ⟨by kernel_rfl, ?_⟩
   conv => whnf
   refine ⟨i + 1, [(120, 208)], (by show ns.length - (i + 1) < ns.length - i; omega), hlt, ⟨q2r, q2r, q2r, q2r, ⟨valI eI, rfl⟩, trivial⟩, ⟨q3r, q3r, ⟨rfl, .inl ⟨celE ?_, rowsN_noid _⟩⟩, trivial⟩, rfl⟩
   rw [← hsn]
   show List.take i (List.drop 0 (((ns.take i).map valX).map rowN)) ++ [rowN (valX none)] = _
   rw [htk]
  | some p =>
   rw [hr] at hg hN hsn
   have hg : (ns.map rowX)[i]? = some [.sl 1 (irows .u32 (limbs p.1.num.natAbs)) false, .val (.bool (decide (p.1.num < 0))), .sl 1 (irows .u32 (limbs p.2)) false] := hg
   have hN : AC Tryz.prog 78 [.agg [.sl 1 (irows .u32 (limbs p.1.num.natAbs)) false, .val (.bool (decide (p.1.num < 0))), .sl 1 (irows .u32 (limbs p.2)) false]] (.pure (.agg (rowN (valX (some p))))) := hN
   unfold rowN at hN
   conv => whnf
   first | refine oTq (by omega) ?_ | refine oFq (by omega) ?_ | refine oEq (by omega) ?_ | refine oNq (by omega) ?_
   conv => whnf
   refine ⟨_, ⟨by omega, hg⟩, ?_⟩
   conv => whnf
   refine ⟨_, hN, ?_⟩
   conv => whnf
   refine ⟨⟨by show 0 + i ≤ _; omega, by show (i + 1) * 40 ≤ 140737488355328; omega, nbq rfl⟩, ?_⟩
   conv => whnf
   refine ⟨by kernel_rfl, ?_⟩
   conv => whnf
   refine ⟨i + 1, [(120, 208)], (by show ns.length - (i + 1) < ns.length - i; omega), hlt, ⟨q2r, q2r, q2r, q2r, ⟨valI eI, rfl⟩, trivial⟩, ⟨q3r, q3r, ⟨rfl, .inl ⟨celE ?_, rowsN_noid _⟩⟩, trivial⟩, rfl⟩
   rw [← hsn]
   show List.take i (List.drop 0 (((ns.take i).map valX).map rowN)) ++ [rowN (valX (some p))] = _
   rw [htk]
 ·have hie : i = ns.length := by omega
  subst hie
  rw [List.take_length] at *
  conv => whnf
  first | refine oTq (by omega) ?_ | refine oFq (by omega) ?_ | refine oEq (by omega) ?_ | refine oNq (by omega) ?_
  conv => whnf
  refine ⟨by show 0 + ns.length ≤ _; omega, ?_⟩
  show AV.agg [_, _, _, AV.sl 3 (List.take ns.length (List.drop 0 ((ns.map valX).map rowN))) false] = _
  rw [List.drop_zero, List.take_of_length_le (by omega)]
  rfl
theorem Num_ok' (q : Rat) (d : Nat) : AC Tryz.prog 53 [RA q.num d] (.pure (AA [] false [] [some (q, d)] true)) := by
 refine AC.le_res (?_ : AC Tryz.prog 53 _ (.pure (.agg [.sl 0 [] true, .val (.bool false), .sl 0 [] true, .sl 3 [rowR (q, d)] false, .val (.bool true)]))) (le_agg5 (le_nil 1) (.refl _) (le_nil 1) (.refl _) (.refl _)) (AA_noid _ _ _ _ _)
 refine AC.of_body TTok Tryz.func53 rfl (enter_of Tryz.func53 (by kernel_rfl) (by kernel_rfl)) (noid1 (RA_noid _ _)) (.agg _ (noid5 (.sl _ _ _ (fun r hr => nomatch hr)) (.val _) (.sl _ _ _ (fun r hr => nomatch hr)) (slX_noid [some (q, d)]) (.val _))) (nbq rfl) ?_
 unfold RA rowR
 conv => whnf
 exact ⟨Nat.le_refl _, rfl⟩
theorem AInt_ok (n : Int) (hn : -9223372036854775808 ≤ n ∧ n < 9223372036854775808) : AC Tryz.prog 21 [.val (.int .i64 n)] (.pure (AA [] false [] [some ((n : Rat), 1)] true)) := by
 refine AC.of_body TTok Tryz.func21 rfl (enter_of Tryz.func21 (by kernel_rfl) (by kernel_rfl)) (noid1 (.val _)) (AA_noid _ _ _ _ _) (nbq rfl) ?_
 have h1 := RatFrom_ok n hn
 have h2 := Num_ok' (n : Rat) 1
 rw [Rat.num_intCast] at h2
 generalize some ((n : Rat), 1) = o at *
 unfold RA AA at *
 repeat ((conv => whnf); (first | refine ⟨_, ‹_›, ?_⟩ | refine ⟨nbq rfl, _, ‹_›, ?_⟩ | refine ⟨by kernel_rfl, ?_⟩ | exact rfl | exact ⟨nbq rfl, rfl⟩ | refine ⟨by decide, ?_⟩))
end
section
def intX (n : Int) : Option (Rat × Nat) := some ((n : Rat), 1)
def i64b (n : Int) : Prop := -9223372036854775808 ≤ n ∧ n < 9223372036854775808
theorem intX_row (n : Int) : rowX (intX n) = [.sl 1 (irows .u32 (limbs n.natAbs)) false, .val (.bool (decide (n < 0))), .sl 1 (irows .u32 (limbs 1)) false] := by
 show [AV.sl 1 (irows .u32 (limbs ((n : Rat)).num.natAbs)) false, AV.val (.bool (decide (((n : Rat)).num < 0))), AV.sl 1 (irows .u32 (limbs 1)) false] = _
 rw [Rat.num_intCast]
theorem intN_row (n : Int) : rowN (n : Rat) = [.val (.bool (decide (n < 0))), .val (.string (decS n.natAbs)), .val (.string (decS 1))] := by
 unfold rowN
 rw [Rat.num_intCast, Rat.den_intCast]
theorem noid_own5 (n : Int) (l : List (Option (Rat × Nat))) : NoId (.agg [.sl 1 [[.val (.int .i64 n)]] false, .val (.bool false), .sl 0 [] true, .sl 3 (l.map rowX) false, .val (.bool true)]) :=
 .agg _ (noid5 (noid_sl .i64 [n] false) (.val _) (.sl _ _ _ (fun r hr => nomatch hr)) (slX_noid _) (.val _))
theorem AInts_ok (l : List Int) (hb : l.length ≤ 100000) (hl : ∀ n ∈ l, i64b n) : AC Tryz.prog 18 [.sl 1 (irows .i64 l) false] (.pure (AA [(l.length : Int)] false [] (l.map intX) true)) := by
 have hlen := irows_len .i64 l
 refine AC.le_res (?_ : AC Tryz.prog 18 _ (.pure (.agg [.sl 1 [[.val (.int .i64 ((irows .i64 l).length : Int))]] false, .val (.bool false), .sl 0 [] true, .sl 3 ((l.map intX).map rowX) false, .val (.bool true)]))) (by rw [hlen]; exact le_agg5 (.refl _) (.refl _) (le_nil 1) (.refl _) (.refl _)) (AA_noid _ _ _ _ _)
 refine AC.of_body TTok Tryz.func18 rfl (enter_of Tryz.func18 (by kernel_rfl) (by kernel_rfl)) (noid1 (noid_sl _ _ _)) (noid_own5 _ _) (nbq rfl) ?_
 conv => whnf
 refine SW.nilC 40 3 3 rfl rfl ?_
 refine SW.loopM TTok (fun i : Nat => [(2, .lp 0 0), (3, .lp 40 0), (10, .sl 1 (irows .i64 l) false), (11, .val (.int .i64 ((irows .i64 l).length : Int))), (12, .val (.int .i64 (i : Int)))])
  (fun i => [(0, .cells 5 [[.sl 0 [] true, .val (.bool false), .sl 0 [] true, .sl 0 [] true, .val (.bool false)]]), (24, .cells 1 [[.val (.int .i64 ((irows .i64 l).length : Int))]]), (40, .cells 5 [[.own 24 0 1, .val (.bool false), .sl 0 [] true, .own 80 0 i, .val (.bool true)]]), (80, .cells 3 (((l.take i).map intX).map rowX))]) 88 25 rfl (fun i => l.length - i) (fun i => i ≤ l.length) 0 [] (Nat.zero_le _)
  ⟨q2r, q2r, q2r, q2r, q2r, trivial⟩ ⟨q3r, q3r, q3r, ⟨rfl, .inl ⟨rfl, rowsX_noid _⟩⟩, trivial⟩ rfl ?_
 intro i hi
 have hi : i ≤ l.length := hi
 have hql : (((l.take i).map intX).map rowX).length = i := by rw [List.length_map, List.length_map, List.length_take]; omega
 by_cases hlt : i < l.length
 ·have eI : IntKind.i64.wrap ((i : Int) + 1) = ((i + 1 : Nat) : Int) := by rw [IntWalk.i64_in _ (by omega)]; omega
  have hg := irows_get .i64 l (List.getElem?_eq_getElem hlt)
  have hF := RatFrom_ok l[i] (hl _ (List.getElem_mem hlt))
  have hsn : ((l.take i).map intX).map rowX ++ [rowX (intX l[i])] = ((l.take (i + 1)).map intX).map rowX := by
   rw [take_snoc hlt, List.map_append, List.map_append]; rfl
  have htk : ((((l.take i).map intX).map rowX).drop 0).take i = ((l.take i).map intX).map rowX := by rw [List.drop_zero, List.take_of_length_le (by omega)]
  unfold RA at hF
  conv => whnf
  first | refine oTq (by omega) ?_ | refine oFq (by omega) ?_ | refine oEq (by omega) ?_ | refine oNq (by omega) ?_
  conv => whnf
  refine ⟨_, ⟨by omega, hg⟩, ?_⟩
  conv => whnf
  refine ⟨_, hF, ?_⟩
  conv => whnf
  refine ⟨⟨by show 0 + i ≤ _; omega, by show (i + 1) * 56 ≤ 140737488355328; omega, nbq rfl⟩, ?_⟩
  conv => whnf
  refine ⟨by kernel_rfl, ?_⟩
  conv => whnf
  refine ⟨i + 1, [(80, 160)], (by show l.length - (i + 1) < l.length - i; omega), hlt, ⟨q2r, q2r, q2r, q2r, ⟨valI eI, rfl⟩, trivial⟩, ⟨q3r, q3r, q3r, ⟨rfl, .inl ⟨celE ?_, rowsX_noid _⟩⟩, trivial⟩, rfl⟩
  rw [← hsn, intX_row]
  show List.take i (List.drop 0 (((l.take i).map intX).map rowX)) ++ [_] = _
  rw [htk]; rfl
 ·have hie : i = l.length := by omega
  subst hie
  rw [List.take_length] at *
  conv => whnf
  first | refine oTq (by omega) ?_ | refine oFq (by omega) ?_ | refine oEq (by omega) ?_ | refine oNq (by omega) ?_
  conv => whnf
  refine ⟨⟨by first | exact Nat.le_refl _ | (show 0 + l.length ≤ _; omega), by first | exact Nat.le_refl _ | (show 0 + l.length ≤ _; omega)⟩, ?_⟩
  have e : List.take l.length (List.drop 0 ((l.map intX).map rowX)) = (l.map intX).map rowX := by rw [List.drop_zero, List.take_of_length_le (by omega)]
  show AV.agg [_, _, _, AV.sl 3 (List.take l.length (List.drop 0 ((l.map intX).map rowX))) false, _] = _
  rw [e]
  rfl
theorem noid_own4 (n : Int) (l : List Rat) : NoId (.agg [.sl 1 [[.val (.int .i64 n)]] false, .val (.bool false), .sl 0 [] true, .sl 3 (l.map rowN) false]) :=
 .agg _ (noidF (noid_sl .i64 [n] false) (.val _) (.sl _ _ _ (fun r hr => nomatch hr)) (slN_noid _))
theorem RInts_ok (l : List Int) (hb : l.length ≤ 100000) (hl : ∀ n ∈ l, i64b n) : AC Tryz.prog 26 [.sl 1 (irows .i64 l) false] (.pure (PA [(l.length : Int)] false [] (l.map fun n : Int => (n : Rat)))) := by
 have hlen := irows_len .i64 l
 refine AC.le_res (?_ : AC Tryz.prog 26 _ (.pure (.agg [.sl 1 [[.val (.int .i64 ((irows .i64 l).length : Int))]] false, .val (.bool false), .sl 0 [] true, .sl 3 ((l.map fun n : Int => (n : Rat)).map rowN) false]))) (by rw [hlen]; exact le_agg4 (.refl _) (.refl _) (le_nil 1) (.refl _)) (PA_noid _ _ _ _)
 refine AC.of_body TTok Tryz.func26 rfl (enter_of Tryz.func26 (by kernel_rfl) (by kernel_rfl)) (noid1 (noid_sl _ _ _)) (noid_own4 _ _) (nbq rfl) ?_
 conv => whnf
 refine SW.nilC 40 3 3 rfl rfl ?_
 refine SW.loopM TTok (fun i : Nat => [(0, .sl 1 (irows .i64 l) false), (2, .lp 0 0), (3, .lp 40 0), (4, .val (.int .i64 (i : Int)))])
  (fun i => [(0, .cells 4 [[.sl 0 [] true, .val (.bool false), .sl 0 [] true, .sl 0 [] true]]), (24, .cells 1 [[.val (.int .i64 ((irows .i64 l).length : Int))]]), (40, .cells 4 [[.own 24 0 1, .val (.bool false), .sl 0 [] true, .own 64 0 i]]), (64, .cells 3 (((l.take i).map fun n : Int => (n : Rat)).map rowN))]) 72 26 rfl (fun i => l.length - i) (fun i => i ≤ l.length) 0 [] (Nat.zero_le _)
  ⟨q2r, q2r, q2r, q2r, trivial⟩ ⟨q3r, q3r, q3r, ⟨rfl, .inl ⟨rfl, rowsN_noid _⟩⟩, trivial⟩ rfl ?_
 intro i hi
 have hi : i ≤ l.length := hi
 have hql : (((l.take i).map fun n : Int => (n : Rat)).map rowN).length = i := by rw [List.length_map, List.length_map, List.length_take]; omega
 by_cases hlt : i < l.length
 ·have eI : IntKind.i64.wrap ((i : Int) + 1) = ((i + 1 : Nat) : Int) := by rw [IntWalk.i64_in _ (by omega)]; omega
  have hg := irows_get .i64 l (List.getElem?_eq_getElem hlt)
  have hF := SFrom_ok l[i] (hl _ (List.getElem_mem hlt))
  have hsn : ((l.take i).map fun n : Int => (n : Rat)).map rowN ++ [rowN ((l[i] : Int) : Rat)] = ((l.take (i + 1)).map fun n : Int => (n : Rat)).map rowN := by
   rw [take_snoc hlt, List.map_append, List.map_append]; rfl
  have htk : ((((l.take i).map fun n : Int => (n : Rat)).map rowN).drop 0).take i = ((l.take i).map fun n : Int => (n : Rat)).map rowN := by rw [List.drop_zero, List.take_of_length_le (by omega)]
  unfold RN at hF
  conv => whnf
  first | refine oTq (by omega) ?_ | refine oFq (by omega) ?_ | refine oEq (by omega) ?_ | refine oNq (by omega) ?_
  conv => whnf
  refine ⟨_, ⟨by omega, hg⟩, ?_⟩
  conv => whnf
  refine ⟨_, hF, ?_⟩
  conv => whnf
  refine ⟨⟨by show 0 + i ≤ _; omega, by show (i + 1) * 40 ≤ 140737488355328; omega, nbq rfl⟩, ?_⟩
  conv => whnf
  refine ⟨by kernel_rfl, ?_⟩
  conv => whnf
  refine ⟨i + 1, [(64, 168)], (by show l.length - (i + 1) < l.length - i; omega), hlt, ⟨q2r, q2r, q2r, ⟨valI eI, rfl⟩, trivial⟩, ⟨q3r, q3r, q3r, ⟨rfl, .inl ⟨celE ?_, rowsN_noid _⟩⟩, trivial⟩, rfl⟩
  rw [← hsn, intN_row]
  show List.take i (List.drop 0 (((l.take i).map fun n : Int => (n : Rat)).map rowN)) ++ [_] = _
  rw [htk]; rfl
 ·have hie : i = l.length := by omega
  subst hie
  rw [List.take_length] at *
  conv => whnf
  first | refine oTq (by omega) ?_ | refine oFq (by omega) ?_ | refine oEq (by omega) ?_ | refine oNq (by omega) ?_
  conv => whnf
  refine ⟨⟨by first | exact Nat.le_refl _ | (show 0 + l.length ≤ _; omega), by first | exact Nat.le_refl _ | (show 0 + l.length ≤ _; omega)⟩, ?_⟩
  have e : List.take l.length (List.drop 0 ((l.map fun n : Int => (n : Rat)).map rowN)) = (l.map fun n : Int => (n : Rat)).map rowN := by rw [List.drop_zero, List.take_of_length_le (by omega)]
  show AV.agg [_, _, _, AV.sl 3 (List.take l.length (List.drop 0 ((l.map fun n : Int => (n : Rat)).map rowN))) false] = _
  rw [e]
  rfl
end
section
abbrev TX := Bool × List Int × List Int
def rowB (x : TX) : List AV := [.val (.bool x.1), .val (.string (strL x.2.1)), .val (.string (strL x.2.2))]
def PB (sh : List Int) (ch : Bool) (tx : List Int) (L : List TX) : AV :=
 .agg [.sl 1 (irows .i64 sh) false, .val (.bool ch), .sl 1 (irows .i32 tx) false, .sl 3 (L.map rowB) false]
def RQx (x : TX) : Prop := RQ x.1 x.2.1 x.2.2
def qX (x : TX) : Rat := qOf x.1 x.2.1 x.2.2
def bytX (x : TX) : Prop := Byt x.2.1 ∧ Byt x.2.2
def smX (x : TX) : Prop := x.2.1.length ≤ 40 ∧ x.2.2.length ≤ 40
def kinds (sh : List Int) (ch : Bool) (a b : Nat) : Prop := if ch then (a : Int) = cntI sh ∧ b = 0 else (b : Int) = cntI sh ∧ a = 0
open Classical in
noncomputable def goodB (sh : List Int) (ch : Bool) (tx : List Int) (L : List TX) : Bool := decide (vS sh ∧ kinds sh ch tx.length L.length ∧ ∀ x ∈ L, RQx x)
end
section
def QR (q : Rat) : Prop := ∃ b s t, RQ b s t ∧ Byt s ∧ Byt t ∧ s.length ≤ 40 ∧ t.length ≤ 40 ∧ q = qOf b s t
theorem QR.sz {q : Rat} (h : QR q) : Sz q 5 := by
 obtain ⟨b, s, t, h1, _, _, h4, h5, rfl⟩ := h
 exact RQ_sz h1 h4 h5 (by decide)
theorem QR.of {q : Rat} (h : QR q) : AC Tryz.prog 68 [RN q.num q.den] (.pure (.tup [RA q.num q.den, .val (.bool true)])) := by
 obtain ⟨b, s, t, h1, h2, h3, h4, h5, rfl⟩ := h
 have hO := SOf_ok b s t h2 h3 (by omega) (by omega) h1.1 h1.2.1 h1.2.2.2.2.1
 rw [decide_eq_true h1, RQ_is h1] at hO
 exact hO
theorem QR.right {q : Rat} (h : QR q) : AC Tryz.prog 100 [RN q.num q.den] (.pure (.val (.bool true))) := by
 obtain ⟨b, s, t, h1, h2, h3, h4, h5, rfl⟩ := h
 have hR := SRight_ok b s t h2 h3 (by omega) (by omega)
 rw [decide_eq_true h1, RQ_is h1] at hR
 exact hR
end
section
def ofX (q : Rat) : Option (Rat × Nat) := some (q, q.den)
end
section
theorem PSame_ok (sh : List Int) (ch : Bool) (tx : List Int) (qs : List Rat) (h1 : sh.length ≤ 1000) (h2 : tx.length ≤ 100000) (h3 : qs.length ≤ 100000) : AC Tryz.prog 36 [PA sh ch tx qs, PA sh ch tx qs] (.pure (.val (.bool true))) := by
 refine AC.of_body TTok Tryz.func36 rfl (enter_of Tryz.func36 (by kernel_rfl) (by kernel_rfl)) (noid2 (PA_noid _ _ _ _) (PA_noid _ _ _ _)) (.val _) (nbq rfl) ?_
 have hI := IntsSame_ok sh sh (by omega) (by omega)
 rw [decide_eq_true rfl] at hI
 have hR := Runes_ok tx tx (by omega) (by omega)
 rw [decide_eq_true rfl] at hR
 have l3 : (qs.map rowN).length = qs.length := List.length_map _
 have hbb : (!(ch == ch)) = false := by cases ch <;> rfl
 unfold PA
 conv => whnf
 refine cFq (hbb) ?_
 conv => whnf
 refine ⟨_, hI, ?_⟩
 conv => whnf
 refine ⟨_, hR, ?_⟩
 conv => whnf
 first | refine nTq (by omega) ?_ | refine nFq (by omega) ?_
 conv => whnf
 refine SW.loopM TTok (fun i : Nat => [(2, .lp 0 0), (3, .lp 8 0), (5, .val (.int .i64 (i : Int)))]) (fun i => [(0, .cells 4 [[.sl 1 (irows .i64 sh) false, .val (.bool ch), .sl 1 (irows .i32 tx) false, .sl 3 (qs.map rowN) false]]), (8, .cells 4 [[.sl 1 (irows .i64 sh) false, .val (.bool ch), .sl 1 (irows .i32 tx) false, .sl 3 (qs.map rowN) false]])]) 272 54 rfl (fun i => qs.length - i) (fun i => i ≤ qs.length) 0 [] (Nat.zero_le _)
  ⟨q2r, q2r, q2r, trivial⟩ ⟨q3r, q3r, trivial⟩ rfl ?_
 intro i hi
 have hi : i ≤ qs.length := hi
 by_cases hlt : i < qs.length
 ·have eI : IntKind.i64.wrap ((i : Int) + 1) = ((i + 1 : Nat) : Int) := by rw [IntWalk.i64_in _ (by omega)]; omega
  have hg : (qs.map rowN)[i]? = some [.val (.bool (decide (qs[i].num < 0))), .val (.string (decS qs[i].num.natAbs)), .val (.string (decS qs[i].den))] := by rw [List.getElem?_map, List.getElem?_eq_getElem hlt]; rfl
  conv => whnf
  first | refine oTq (by omega) ?_ | refine oFq (by omega) ?_ | refine oEq (by omega) ?_ | refine oNq (by omega) ?_
  conv => whnf
  refine ⟨_, ⟨by omega, hg⟩, ?_⟩
  conv => whnf
  refine ⟨_, ⟨by omega, hg⟩, ?_⟩
  conv => whnf
  refine ⟨by kernel_rfl, ?_⟩
  conv => whnf
  refine cFq (RN_selfn _ _ _) ?_
  conv => whnf
  refine ⟨i + 1, [], (by show qs.length - (i + 1) < qs.length - i; omega), hlt, ⟨q2r, q2r, ⟨valI eI, rfl⟩, trivial⟩, ⟨q3r, q3r, trivial⟩, rfl⟩
 ·conv => whnf
  first | refine oTq (by omega) ?_ | refine oFq (by omega) ?_ | refine oEq (by omega) ?_ | refine oNq (by omega) ?_
  repeat ((conv => whnf); (first | refine ⟨_, ‹_›, ?_⟩ | refine ⟨nbq rfl, _, ‹_›, ?_⟩ | refine ⟨by kernel_rfl, ?_⟩ | exact rfl | exact ⟨nbq rfl, rfl⟩ | refine ⟨by decide, ?_⟩))
def fitS (sa sb : List Int) (la lb : Nat) : List Int × Bool × Bool × Int :=
 if sa = sb then (sa, false, false, 0)
 else if la = 1 ∧ (lb ≠ 1 ∨ sa.length < sb.length) then (sb, true, false, 0)
 else if lb = 1 then (sa, false, true, 0)
 else if sa.length ≠ sb.length then ([], false, false, 23) else ([], false, false, 24)
def FV (x : List Int × Bool × Bool × Int) : AV := .tup [.sl 1 (irows .i64 x.1) false, .val (.bool x.2.1), .val (.bool x.2.2.1), .val (.int .i64 x.2.2.2)]
theorem FV_noid (x : List Int × Bool × Bool × Int) : NoId (FV x) := .tup _ (noidF (noid_sl _ _ _) (.val _) (.val _) (.val _))
theorem le_tup4 {a b c d a' : AV} (h1 : AVle a a') : AVle (.tup [a, b, c, d]) (.tup [a', b, c, d]) :=
 .tup _ _ rfl (fun i x y hx hy => by
  match i with
  | 0 => cases hx; cases hy; exact h1
  | 1 => cases hx; cases hy; exact .refl _
  | 2 => cases hx; cases hy; exact .refl _
  | 3 => cases hx; cases hy; exact .refl _
  | (i + 4) => cases hx)
theorem FV_err {P : Program} {f : FuncId} {args : List AV} {e : Int} (h : AC P f args (.pure (.tup [.sl 0 [] true, .val (.bool false), .val (.bool false), .val (.int .i64 e)]))) : AC P f args (.pure (FV ([], false, false, e))) :=
 AC.le_res h (le_tup4 (le_nil 1)) (FV_noid _)
theorem FE_noid (e : Int) : NoId (.tup [.sl 0 [] true, .val (.bool false), .val (.bool false), .val (.int .i64 e)]) := .tup _ (noidF (.sl _ _ _ (fun r hr => nomatch hr)) (.val _) (.val _) (.val _))
section
variable (sa sb : List Int) (ca cb : Bool) (ta tb : List Int)
theorem Fit_ok (na nb : List (Option (Rat × Nat))) (h1 : sa.length ≤ 1000) (h2 : sb.length ≤ 1000) (h3 : ta.length ≤ 100000) (h4 : tb.length ≤ 100000) (h5 : na.length ≤ 100000) (h6 : nb.length ≤ 100000) :
  AC Tryz.prog 112 [AA sa ca ta na true, AA sb cb tb nb true] (.pure (FV (fitS sa sb (ta.length + na.length) (tb.length + nb.length)))) := by
 have hLa := ALen_ok sa ca ta na true (by omega) (by omega)
 have hLb := ALen_ok sb cb tb nb true (by omega) (by omega)
 have hSa := Shape_ok sa ca ta na (by omega)
 have hSb := Shape_ok sb cb tb nb (by omega)
 have hRa := Rank_ok sa ca ta na (by omega)
 have hRb := Rank_ok sb cb tb nb (by omega)
 have hE := ShSame_ok sa sb (by omega) (by omega)
 have nd := noid2 (AA_noid sa ca ta na true) (AA_noid sb cb tb nb true)
 generalize ta.length + na.length = la at *
 generalize tb.length + nb.length = lb at *
 unfold fitS
 unfold AA at *
 by_cases hs : sa = sb
 ·rw [if_pos hs]
  rw [decide_eq_true hs] at hE
  refine AC.of_body TTok Tryz.func112 rfl (enter_of Tryz.func112 (by kernel_rfl) (by kernel_rfl)) nd (FV_noid _) (nbq rfl) ?_
  repeat ((conv => whnf); (first | refine ⟨_, ‹_›, ?_⟩ | refine ⟨nbq rfl, _, ‹_›, ?_⟩ | refine ⟨by kernel_rfl, ?_⟩ | exact rfl | exact ⟨nbq rfl, rfl⟩ | refine ⟨by decide, ?_⟩ | refine oTq (by omega) ?_ | refine oFq (by omega) ?_ | refine oEq (by omega) ?_ | refine oNq (by omega) ?_ | refine nTq (by omega) ?_ | refine nFq (by omega) ?_))
 ·rw [if_neg hs]
  rw [decide_eq_false hs] at hE
  by_cases hla : la = 1
  ·by_cases hx : lb ≠ 1 ∨ sa.length < sb.length
   ·rw [if_pos ⟨hla, hx⟩]
    refine AC.of_body TTok Tryz.func112 rfl (enter_of Tryz.func112 (by kernel_rfl) (by kernel_rfl)) nd (FV_noid _) (nbq rfl) ?_
    by_cases hlb : lb = 1
    ·have hx' := hx.resolve_left (fun h => h hlb)
     repeat ((conv => whnf); (first | refine ⟨_, ‹_›, ?_⟩ | refine ⟨nbq rfl, _, ‹_›, ?_⟩ | refine ⟨by kernel_rfl, ?_⟩ | exact rfl | exact ⟨nbq rfl, rfl⟩ | refine ⟨by decide, ?_⟩ | refine oTq (by omega) ?_ | refine oFq (by omega) ?_ | refine oEq (by omega) ?_ | refine oNq (by omega) ?_ | refine nTq (by omega) ?_ | refine nFq (by omega) ?_))
    ·repeat ((conv => whnf); (first | refine ⟨_, ‹_›, ?_⟩ | refine ⟨nbq rfl, _, ‹_›, ?_⟩ | refine ⟨by kernel_rfl, ?_⟩ | exact rfl | exact ⟨nbq rfl, rfl⟩ | refine ⟨by decide, ?_⟩ | refine oTq (by omega) ?_ | refine oFq (by omega) ?_ | refine oEq (by omega) ?_ | refine oNq (by omega) ?_ | refine nTq (by omega) ?_ | refine nFq (by omega) ?_))
   ·rw [if_neg (fun h => hx h.2)]
    have hlb : lb = 1 := Decidable.byContradiction fun h => hx (.inl h)
    rw [if_pos hlb]
    have hx' : ¬ sa.length < sb.length := fun h => hx (.inr h)
    refine AC.of_body TTok Tryz.func112 rfl (enter_of Tryz.func112 (by kernel_rfl) (by kernel_rfl)) nd (FV_noid _) (nbq rfl) ?_
    repeat ((conv => whnf); (first | refine ⟨_, ‹_›, ?_⟩ | refine ⟨nbq rfl, _, ‹_›, ?_⟩ | refine ⟨by kernel_rfl, ?_⟩ | exact rfl | exact ⟨nbq rfl, rfl⟩ | refine ⟨by decide, ?_⟩ | refine oTq (by omega) ?_ | refine oFq (by omega) ?_ | refine oEq (by omega) ?_ | refine oNq (by omega) ?_ | refine nTq (by omega) ?_ | refine nFq (by omega) ?_))
  ·rw [if_neg (fun h => hla h.1)]
   by_cases hlb : lb = 1
   ·rw [if_pos hlb]
    refine AC.of_body TTok Tryz.func112 rfl (enter_of Tryz.func112 (by kernel_rfl) (by kernel_rfl)) nd (FV_noid _) (nbq rfl) ?_
    repeat ((conv => whnf); (first | refine ⟨_, ‹_›, ?_⟩ | refine ⟨nbq rfl, _, ‹_›, ?_⟩ | refine ⟨by kernel_rfl, ?_⟩ | exact rfl | exact ⟨nbq rfl, rfl⟩ | refine ⟨by decide, ?_⟩ | refine oTq (by omega) ?_ | refine oFq (by omega) ?_ | refine oEq (by omega) ?_ | refine oNq (by omega) ?_ | refine nTq (by omega) ?_ | refine nFq (by omega) ?_))
   ·rw [if_neg hlb]
    by_cases hr : sa.length ≠ sb.length
    ·rw [if_pos hr]
     refine FV_err ?_
     refine AC.of_body TTok Tryz.func112 rfl (enter_of Tryz.func112 (by kernel_rfl) (by kernel_rfl)) nd (FE_noid _) (nbq rfl) ?_
     repeat ((conv => whnf); (first | refine ⟨_, ‹_›, ?_⟩ | refine ⟨nbq rfl, _, ‹_›, ?_⟩ | refine ⟨by kernel_rfl, ?_⟩ | exact rfl | exact ⟨nbq rfl, rfl⟩ | refine ⟨by decide, ?_⟩ | refine oTq (by omega) ?_ | refine oFq (by omega) ?_ | refine oEq (by omega) ?_ | refine oNq (by omega) ?_ | refine nTq (by omega) ?_ | refine nFq (by omega) ?_))
    ·rw [if_neg hr]
     refine FV_err ?_
     refine AC.of_body TTok Tryz.func112 rfl (enter_of Tryz.func112 (by kernel_rfl) (by kernel_rfl)) nd (FE_noid _) (nbq rfl) ?_
     repeat ((conv => whnf); (first | refine ⟨_, ‹_›, ?_⟩ | refine ⟨nbq rfl, _, ‹_›, ?_⟩ | refine ⟨by kernel_rfl, ?_⟩ | exact rfl | exact ⟨nbq rfl, rfl⟩ | refine ⟨by decide, ?_⟩ | refine oTq (by omega) ?_ | refine oFq (by omega) ?_ | refine oEq (by omega) ?_ | refine oNq (by omega) ?_ | refine nTq (by omega) ?_ | refine nFq (by omega) ?_))
end
end
section
def isOne (c : Int) : Prop := c = 43 ∨ c = 45 ∨ c = 215 ∨ c = 247 ∨ c = 8968 ∨ c = 8970 ∨ c = 124 ∨ c = 42 ∨ c = 33 ∨ c = 126 ∨ c = 9055 ∨ c = 9675
instance (c : Int) : Decidable (isOne c) := inferInstanceAs (Decidable (_ ∨ _ ∨ _ ∨ _ ∨ _ ∨ _ ∨ _ ∨ _ ∨ _ ∨ _ ∨ _ ∨ _))
def withQ (x : Rat) (most : Int) : Rat × Int := if most < (qLimbs x.num x.den : Nat) then (0, 26) else (x, 0)
def notQ (x : Rat) : Rat × Int := if x = 0 then (1, 0) else if x = 1 then (0, 0) else (0, 22)
end
section
def fac : Nat → Nat
 | 0 => 1
 | i + 1 => fac i * (i + 1)
def natQm (q : Rat) : Prop := q.den = 1 ∧ 0 ≤ q.num
instance (q : Rat) : Decidable (natQm q) := inferInstanceAs (Decidable (_ ∧ _))
def facQ (x : Rat) (most : Int) : Rat × Int := if natQm x then withQ (((fac x.num.toNat : Nat) : Int) : Rat) most else (0, 22)
end
section
def monoQ (c : Int) (x : Rat) (most : Int) : Rat × Int :=
 if c = 43 then withQ x most
 else if c = 45 then withQ (-x) most
 else if c = 215 then withQ ((sigW x.num : Int) : Rat) most
 else if c = 247 then (if x = 0 then (0, 22) else withQ (1 / x) most)
 else if c = 8968 then withQ ((x.ceil : Int) : Rat) most
 else if c = 8970 then withQ ((x.floor : Int) : Rat) most
 else if c = 124 then withQ (if x.num < 0 then -x else x) most
 else if c = 33 then facQ x most
 else if c = 126 then notQ x
 else if isOne c then (0, 22) else (0, 20)
end
section
end
section
def firstE : List (Rat × Int) → Int
 | [] => 0
 | x :: l => if x.2 = 0 then firstE l else x.2
theorem firstE_zero {l : List (Rat × Int)} (h : ∀ x ∈ l, x.2 = 0) : firstE l = 0 := by
 induction l with
 | nil => rfl
 | cons x l ih =>
  show (if x.2 = 0 then firstE l else x.2) = 0
  rw [if_pos (h x List.mem_cons_self), ih (fun y hy => h y (List.mem_cons_of_mem _ hy))]
theorem firstE_at {l : List (Rat × Int)} {i : Nat} (hi : i < l.length) (h : ∀ x ∈ l.take i, x.2 = 0) (hn : l[i].2 ≠ 0) : firstE l = l[i].2 := by
 induction l generalizing i with
 | nil => exact absurd hi (Nat.not_lt_zero _)
 | cons x l ih =>
  show (if x.2 = 0 then firstE l else x.2) = _
  cases i with
  | zero =>
   have hn : x.2 ≠ 0 := hn
   rw [if_neg hn]; rfl
  | succ i =>
   rw [if_pos (h x (by simp))]
   exact ih (by simpa using hi) (fun y hy => h y (by simp [hy])) hn
def resA (sh : List Int) (E : Int) (l : List (Option (Rat × Nat))) : AV := if E = 0 then .tup [AA sh false [] l true, .val (.int .i64 0)] else .tup [AA [] false [] [] false, .val (.int .i64 E)]
theorem resA_err {P : Program} {f : FuncId} {args : List AV} {e : Int} (sh : List Int) (l : List (Option (Rat × Nat))) (he : e ≠ 0) (h : AC P f args (.pure (.tup [AZ, .val (.int .i64 e)]))) : AC P f args (.pure (resA sh e l)) := by
 unfold resA
 rw [if_neg he]
 exact AC.le_res h (.tup2 AZ_le (.refl _)) (.tup _ (noid2 (AA_noid _ _ _ _ _) (.val _)))
theorem AZt_noid (e : Int) : NoId (.tup [AZ, .val (.int .i64 e)]) := .tup _ (noid2 AZ_noid (.val _))
theorem set_mid {α : Type} (a : List α) (x y : α) (b : List α) : (a ++ x :: b).set a.length y = a ++ y :: b := by
 rw [List.set_append_right _ _ (Nat.le_refl _), Nat.sub_self]; rfl
section
variable (c : Int) (sh : List Int) (ch : Bool) (tx : List Int) (qs : List Rat) (most : Int)
def oneE : Int := if isOne c then (if ch = true ∧ 0 < tx.length + qs.length then 22 else firstE (qs.map fun q => monoQ c q most)) else 20
end
end
section
theorem pick_all {α β : Type} [Inhabited β] {l : List α} {p : α → β → Prop} (h : ∀ a ∈ l, ∃ b, p a b) : ∃ f : α → β, ∀ a ∈ l, p a (f a) := by
 classical
 exact ⟨fun a => if ha : a ∈ l then Classical.choose (h a ha) else default, fun a ha => by show p a (if ha : a ∈ l then Classical.choose (h a ha) else default); rw [dif_pos ha]; exact Classical.choose_spec (h a ha)⟩
end
section
def resP (sh : List Int) (E : Int) (l : List Rat) : AV := if E = 0 then .tup [PA sh false [] l, .val (.int .i64 0)] else .tup [PA [] false [] [], .val (.int .i64 E)]
end
section
def isCmp (c : Int) : Prop := c = 60 ∨ c = 8804 ∨ c = 61 ∨ c = 8805 ∨ c = 62 ∨ c = 8800
instance (c : Int) : Decidable (isCmp c) := inferInstanceAs (Decidable (_ ∨ _ ∨ _ ∨ _ ∨ _ ∨ _))
def isJdg (c : Int) : Prop := c = 8743 ∨ c = 8744 ∨ c = 9074 ∨ c = 9073
instance (c : Int) : Decidable (isJdg c) := inferInstanceAs (Decidable (_ ∨ _ ∨ _ ∨ _))
def isRec (c : Int) : Prop := c = 43 ∨ c = 45 ∨ c = 215 ∨ c = 247 ∨ c = 8968 ∨ c = 8970 ∨ c = 124 ∨ c = 42 ∨ c = 33 ∨ c = 9055 ∨ c = 9675
instance (c : Int) : Decidable (isRec c) := inferInstanceAs (Decidable (_ ∨ _ ∨ _ ∨ _ ∨ _ ∨ _ ∨ _ ∨ _ ∨ _ ∨ _ ∨ _))
def isTwo (c : Int) : Prop := isRec c ∨ isCmp c ∨ isJdg c
instance (c : Int) : Decidable (isTwo c) := inferInstanceAs (Decidable (_ ∨ _))
theorem compares_ok (c : Int) : AC Tryz.prog 84 [.val (.int .i32 c)] (.pure (.val (.bool (decide (isCmp c))))) := by
 refine AC.of_body TTok Tryz.func84 rfl (enter_of Tryz.func84 (by kernel_rfl) (by kernel_rfl)) (noid1 (.val _)) (.val _) (nbq rfl) ?_
 by_cases h0 : c = 60
 ·subst h0
  rw [decide_eq_true (show isCmp 60 by decide)]
  repeat ((conv => whnf); (first | refine ⟨_, ‹_›, ?_⟩ | refine ⟨nbq rfl, _, ‹_›, ?_⟩ | refine ⟨by kernel_rfl, ?_⟩ | exact rfl | exact ⟨nbq rfl, rfl⟩ | refine ⟨by decide, ?_⟩))
 by_cases h1 : c = 8804
 ·subst h1
  rw [decide_eq_true (show isCmp 8804 by decide)]
  repeat ((conv => whnf); (first | refine ⟨_, ‹_›, ?_⟩ | refine ⟨nbq rfl, _, ‹_›, ?_⟩ | refine ⟨by kernel_rfl, ?_⟩ | exact rfl | exact ⟨nbq rfl, rfl⟩ | refine ⟨by decide, ?_⟩))
 by_cases h2 : c = 61
 ·subst h2
  rw [decide_eq_true (show isCmp 61 by decide)]
  repeat ((conv => whnf); (first | refine ⟨_, ‹_›, ?_⟩ | refine ⟨nbq rfl, _, ‹_›, ?_⟩ | refine ⟨by kernel_rfl, ?_⟩ | exact rfl | exact ⟨nbq rfl, rfl⟩ | refine ⟨by decide, ?_⟩))
 by_cases h3 : c = 8805
 ·subst h3
  rw [decide_eq_true (show isCmp 8805 by decide)]
  repeat ((conv => whnf); (first | refine ⟨_, ‹_›, ?_⟩ | refine ⟨nbq rfl, _, ‹_›, ?_⟩ | refine ⟨by kernel_rfl, ?_⟩ | exact rfl | exact ⟨nbq rfl, rfl⟩ | refine ⟨by decide, ?_⟩))
 by_cases h4 : c = 62
 ·subst h4
  rw [decide_eq_true (show isCmp 62 by decide)]
  repeat ((conv => whnf); (first | refine ⟨_, ‹_›, ?_⟩ | refine ⟨nbq rfl, _, ‹_›, ?_⟩ | refine ⟨by kernel_rfl, ?_⟩ | exact rfl | exact ⟨nbq rfl, rfl⟩ | refine ⟨by decide, ?_⟩))
 by_cases h5 : c = 8800
 ·subst h5
  rw [decide_eq_true (show isCmp 8800 by decide)]
  repeat ((conv => whnf); (first | refine ⟨_, ‹_›, ?_⟩ | refine ⟨nbq rfl, _, ‹_›, ?_⟩ | refine ⟨by kernel_rfl, ?_⟩ | exact rfl | exact ⟨nbq rfl, rfl⟩ | refine ⟨by decide, ?_⟩))
 have e0 : (c == 60) = false := beq_false_of_ne h0
 have e1 : (c == 8804) = false := beq_false_of_ne h1
 have e2 : (c == 61) = false := beq_false_of_ne h2
 have e3 : (c == 8805) = false := beq_false_of_ne h3
 have e4 : (c == 62) = false := beq_false_of_ne h4
 have e5 : (c == 8800) = false := beq_false_of_ne h5
 rw [decide_eq_false (show ¬ isCmp c by unfold isCmp; omega)]
 conv => whnf
 refine cFq (e0) ?_
 conv => whnf
 refine cFq (e1) ?_
 conv => whnf
 refine cFq (e2) ?_
 conv => whnf
 refine cFq (e3) ?_
 conv => whnf
 refine cFq (e4) ?_
 conv => whnf
 refine cFq (e5) ?_
 repeat ((conv => whnf); (first | refine ⟨_, ‹_›, ?_⟩ | refine ⟨nbq rfl, _, ‹_›, ?_⟩ | refine ⟨by kernel_rfl, ?_⟩ | exact rfl | exact ⟨nbq rfl, rfl⟩ | refine ⟨by decide, ?_⟩))
theorem judges_ok (c : Int) : AC Tryz.prog 85 [.val (.int .i32 c)] (.pure (.val (.bool (decide (isJdg c))))) := by
 refine AC.of_body TTok Tryz.func85 rfl (enter_of Tryz.func85 (by kernel_rfl) (by kernel_rfl)) (noid1 (.val _)) (.val _) (nbq rfl) ?_
 by_cases h0 : c = 8743
 ·subst h0
  rw [decide_eq_true (show isJdg 8743 by decide)]
  repeat ((conv => whnf); (first | refine ⟨_, ‹_›, ?_⟩ | refine ⟨nbq rfl, _, ‹_›, ?_⟩ | refine ⟨by kernel_rfl, ?_⟩ | exact rfl | exact ⟨nbq rfl, rfl⟩ | refine ⟨by decide, ?_⟩))
 by_cases h1 : c = 8744
 ·subst h1
  rw [decide_eq_true (show isJdg 8744 by decide)]
  repeat ((conv => whnf); (first | refine ⟨_, ‹_›, ?_⟩ | refine ⟨nbq rfl, _, ‹_›, ?_⟩ | refine ⟨by kernel_rfl, ?_⟩ | exact rfl | exact ⟨nbq rfl, rfl⟩ | refine ⟨by decide, ?_⟩))
 by_cases h2 : c = 9074
 ·subst h2
  rw [decide_eq_true (show isJdg 9074 by decide)]
  repeat ((conv => whnf); (first | refine ⟨_, ‹_›, ?_⟩ | refine ⟨nbq rfl, _, ‹_›, ?_⟩ | refine ⟨by kernel_rfl, ?_⟩ | exact rfl | exact ⟨nbq rfl, rfl⟩ | refine ⟨by decide, ?_⟩))
 by_cases h3 : c = 9073
 ·subst h3
  rw [decide_eq_true (show isJdg 9073 by decide)]
  repeat ((conv => whnf); (first | refine ⟨_, ‹_›, ?_⟩ | refine ⟨nbq rfl, _, ‹_›, ?_⟩ | refine ⟨by kernel_rfl, ?_⟩ | exact rfl | exact ⟨nbq rfl, rfl⟩ | refine ⟨by decide, ?_⟩))
 have e0 : (c == 8743) = false := beq_false_of_ne h0
 have e1 : (c == 8744) = false := beq_false_of_ne h1
 have e2 : (c == 9074) = false := beq_false_of_ne h2
 have e3 : (c == 9073) = false := beq_false_of_ne h3
 rw [decide_eq_false (show ¬ isJdg c by unfold isJdg; omega)]
 conv => whnf
 refine cFq (e0) ?_
 conv => whnf
 refine cFq (e1) ?_
 conv => whnf
 refine cFq (e2) ?_
 conv => whnf
 refine cFq (e3) ?_
 repeat ((conv => whnf); (first | refine ⟨_, ‹_›, ?_⟩ | refine ⟨nbq rfl, _, ‹_›, ?_⟩ | refine ⟨by kernel_rfl, ?_⟩ | exact rfl | exact ⟨nbq rfl, rfl⟩ | refine ⟨by decide, ?_⟩))
theorem reckons_ok (c : Int) : AC Tryz.prog 83 [.val (.int .i32 c)] (.pure (.val (.bool (decide (isRec c))))) := by
 refine AC.of_body TTok Tryz.func83 rfl (enter_of Tryz.func83 (by kernel_rfl) (by kernel_rfl)) (noid1 (.val _)) (.val _) (nbq rfl) ?_
 by_cases h0 : c = 43
 ·subst h0
  rw [decide_eq_true (show isRec 43 by decide)]
  repeat ((conv => whnf); (first | refine ⟨_, ‹_›, ?_⟩ | refine ⟨nbq rfl, _, ‹_›, ?_⟩ | refine ⟨by kernel_rfl, ?_⟩ | exact rfl | exact ⟨nbq rfl, rfl⟩ | refine ⟨by decide, ?_⟩))
 by_cases h1 : c = 45
 ·subst h1
  rw [decide_eq_true (show isRec 45 by decide)]
  repeat ((conv => whnf); (first | refine ⟨_, ‹_›, ?_⟩ | refine ⟨nbq rfl, _, ‹_›, ?_⟩ | refine ⟨by kernel_rfl, ?_⟩ | exact rfl | exact ⟨nbq rfl, rfl⟩ | refine ⟨by decide, ?_⟩))
 by_cases h2 : c = 215
 ·subst h2
  rw [decide_eq_true (show isRec 215 by decide)]
  repeat ((conv => whnf); (first | refine ⟨_, ‹_›, ?_⟩ | refine ⟨nbq rfl, _, ‹_›, ?_⟩ | refine ⟨by kernel_rfl, ?_⟩ | exact rfl | exact ⟨nbq rfl, rfl⟩ | refine ⟨by decide, ?_⟩))
 by_cases h3 : c = 247
 ·subst h3
  rw [decide_eq_true (show isRec 247 by decide)]
  repeat ((conv => whnf); (first | refine ⟨_, ‹_›, ?_⟩ | refine ⟨nbq rfl, _, ‹_›, ?_⟩ | refine ⟨by kernel_rfl, ?_⟩ | exact rfl | exact ⟨nbq rfl, rfl⟩ | refine ⟨by decide, ?_⟩))
 by_cases h4 : c = 8968
 ·subst h4
  rw [decide_eq_true (show isRec 8968 by decide)]
  repeat ((conv => whnf); (first | refine ⟨_, ‹_›, ?_⟩ | refine ⟨nbq rfl, _, ‹_›, ?_⟩ | refine ⟨by kernel_rfl, ?_⟩ | exact rfl | exact ⟨nbq rfl, rfl⟩ | refine ⟨by decide, ?_⟩))
 by_cases h5 : c = 8970
 ·subst h5
  rw [decide_eq_true (show isRec 8970 by decide)]
  repeat ((conv => whnf); (first | refine ⟨_, ‹_›, ?_⟩ | refine ⟨nbq rfl, _, ‹_›, ?_⟩ | refine ⟨by kernel_rfl, ?_⟩ | exact rfl | exact ⟨nbq rfl, rfl⟩ | refine ⟨by decide, ?_⟩))
 by_cases h6 : c = 124
 ·subst h6
  rw [decide_eq_true (show isRec 124 by decide)]
  repeat ((conv => whnf); (first | refine ⟨_, ‹_›, ?_⟩ | refine ⟨nbq rfl, _, ‹_›, ?_⟩ | refine ⟨by kernel_rfl, ?_⟩ | exact rfl | exact ⟨nbq rfl, rfl⟩ | refine ⟨by decide, ?_⟩))
 by_cases h7 : c = 42
 ·subst h7
  rw [decide_eq_true (show isRec 42 by decide)]
  repeat ((conv => whnf); (first | refine ⟨_, ‹_›, ?_⟩ | refine ⟨nbq rfl, _, ‹_›, ?_⟩ | refine ⟨by kernel_rfl, ?_⟩ | exact rfl | exact ⟨nbq rfl, rfl⟩ | refine ⟨by decide, ?_⟩))
 by_cases h8 : c = 33
 ·subst h8
  rw [decide_eq_true (show isRec 33 by decide)]
  repeat ((conv => whnf); (first | refine ⟨_, ‹_›, ?_⟩ | refine ⟨nbq rfl, _, ‹_›, ?_⟩ | refine ⟨by kernel_rfl, ?_⟩ | exact rfl | exact ⟨nbq rfl, rfl⟩ | refine ⟨by decide, ?_⟩))
 by_cases h9 : c = 9055
 ·subst h9
  rw [decide_eq_true (show isRec 9055 by decide)]
  repeat ((conv => whnf); (first | refine ⟨_, ‹_›, ?_⟩ | refine ⟨nbq rfl, _, ‹_›, ?_⟩ | refine ⟨by kernel_rfl, ?_⟩ | exact rfl | exact ⟨nbq rfl, rfl⟩ | refine ⟨by decide, ?_⟩))
 by_cases h10 : c = 9675
 ·subst h10
  rw [decide_eq_true (show isRec 9675 by decide)]
  repeat ((conv => whnf); (first | refine ⟨_, ‹_›, ?_⟩ | refine ⟨nbq rfl, _, ‹_›, ?_⟩ | refine ⟨by kernel_rfl, ?_⟩ | exact rfl | exact ⟨nbq rfl, rfl⟩ | refine ⟨by decide, ?_⟩))
 have e0 : (c == 43) = false := beq_false_of_ne h0
 have e1 : (c == 45) = false := beq_false_of_ne h1
 have e2 : (c == 215) = false := beq_false_of_ne h2
 have e3 : (c == 247) = false := beq_false_of_ne h3
 have e4 : (c == 8968) = false := beq_false_of_ne h4
 have e5 : (c == 8970) = false := beq_false_of_ne h5
 have e6 : (c == 124) = false := beq_false_of_ne h6
 have e7 : (c == 42) = false := beq_false_of_ne h7
 have e8 : (c == 33) = false := beq_false_of_ne h8
 have e9 : (c == 9055) = false := beq_false_of_ne h9
 have e10 : (c == 9675) = false := beq_false_of_ne h10
 rw [decide_eq_false (show ¬ isRec c by unfold isRec; omega)]
 conv => whnf
 refine cFq (e0) ?_
 conv => whnf
 refine cFq (e1) ?_
 conv => whnf
 refine cFq (e2) ?_
 conv => whnf
 refine cFq (e3) ?_
 conv => whnf
 refine cFq (e4) ?_
 conv => whnf
 refine cFq (e5) ?_
 conv => whnf
 refine cFq (e6) ?_
 conv => whnf
 refine cFq (e7) ?_
 conv => whnf
 refine cFq (e8) ?_
 conv => whnf
 refine cFq (e9) ?_
 conv => whnf
 refine cFq (e10) ?_
 repeat ((conv => whnf); (first | refine ⟨_, ‹_›, ?_⟩ | refine ⟨nbq rfl, _, ‹_›, ?_⟩ | refine ⟨by kernel_rfl, ?_⟩ | exact rfl | exact ⟨nbq rfl, rfl⟩ | refine ⟨by decide, ?_⟩))
theorem Has_ok (c : Int) : AC Tryz.prog 44 [.val (.int .i32 c)] (.pure (.val (.bool (decide (isTwo c))))) := by
 refine AC.of_body TTok Tryz.func44 rfl (enter_of Tryz.func44 (by kernel_rfl) (by kernel_rfl)) (noid1 (.val _)) (.val _) (nbq rfl) ?_
 have hR := reckons_ok c
 have hC := compares_ok c
 have hJ := judges_ok c
 rw [show decide (isTwo c) = (decide (isRec c) || (decide (isCmp c) || decide (isJdg c))) by
  by_cases h1 : isRec c
  ·rw [decide_eq_true h1, decide_eq_true (show isTwo c from .inl h1)]; rfl
  ·by_cases h2 : isCmp c
   ·rw [decide_eq_true h2, decide_eq_true (show isTwo c from .inr (.inl h2)), Bool.true_or, Bool.or_true]
   ·by_cases h3 : isJdg c
    ·rw [decide_eq_true h3, decide_eq_true (show isTwo c from .inr (.inr h3)), Bool.or_true, Bool.or_true]
    ·rw [decide_eq_false h1, decide_eq_false h2, decide_eq_false h3, decide_eq_false (show ¬ isTwo c from fun h => h.elim h1 (fun h => h.elim h2 h3))]; rfl]
 generalize decide (isRec c) = r at *
 generalize decide (isCmp c) = s at *
 generalize decide (isJdg c) = t at *
 cases r
 ·cases s
  ·repeat ((conv => whnf); (first | refine ⟨_, ‹_›, ?_⟩ | refine ⟨nbq rfl, _, ‹_›, ?_⟩ | refine ⟨by kernel_rfl, ?_⟩ | exact rfl | exact ⟨nbq rfl, rfl⟩ | refine ⟨by decide, ?_⟩))
  ·repeat ((conv => whnf); (first | refine ⟨_, ‹_›, ?_⟩ | refine ⟨nbq rfl, _, ‹_›, ?_⟩ | refine ⟨by kernel_rfl, ?_⟩ | exact rfl | exact ⟨nbq rfl, rfl⟩ | refine ⟨by decide, ?_⟩))
 ·repeat ((conv => whnf); (first | refine ⟨_, ‹_›, ?_⟩ | refine ⟨nbq rfl, _, ‹_›, ?_⟩ | refine ⟨by kernel_rfl, ?_⟩ | exact rfl | exact ⟨nbq rfl, rfl⟩ | refine ⟨by decide, ?_⟩))
def signs : List Int := [43, 45, 215, 247, 8968, 8970, 124, 42, 33, 9055, 9675, 60, 8804, 61, 8805, 62, 8800, 8743, 8744, 9074, 9073]
end
section
def cmpS (c n : Int) : Bool :=
 if c = 60 then decide (n < 0) else if c = 8804 then decide (n ≤ 0) else if c = 61 then n == 0 else if c = 8805 then decide (n ≥ 0) else if c = 62 then decide (n > 0) else n != 0
theorem Compare_ok (c n : Int) : AC Tryz.prog 135 [.val (.int .i32 c), .val (.int .i64 n)] (.pure (.val (.bool (cmpS c n)))) := by
 refine AC.of_body TTok Tryz.func135 rfl (enter_of Tryz.func135 (by kernel_rfl) (by kernel_rfl)) (noid2 (.val _) (.val _)) (.val _) (nbq rfl) ?_
 by_cases h0 : c = 60
 ·subst h0
  rw [show cmpS 60 n = decide (n < 0) from rfl]
  repeat ((conv => whnf); (first | refine ⟨_, ‹_›, ?_⟩ | refine ⟨nbq rfl, _, ‹_›, ?_⟩ | refine ⟨by kernel_rfl, ?_⟩ | exact rfl | exact ⟨nbq rfl, rfl⟩ | refine ⟨by decide, ?_⟩))
 by_cases h1 : c = 8804
 ·subst h1
  rw [show cmpS 8804 n = decide (n ≤ 0) from rfl]
  repeat ((conv => whnf); (first | refine ⟨_, ‹_›, ?_⟩ | refine ⟨nbq rfl, _, ‹_›, ?_⟩ | refine ⟨by kernel_rfl, ?_⟩ | exact rfl | exact ⟨nbq rfl, rfl⟩ | refine ⟨by decide, ?_⟩))
 by_cases h2 : c = 61
 ·subst h2
  rw [show cmpS 61 n = (n == 0) from rfl]
  repeat ((conv => whnf); (first | refine ⟨_, ‹_›, ?_⟩ | refine ⟨nbq rfl, _, ‹_›, ?_⟩ | refine ⟨by kernel_rfl, ?_⟩ | exact rfl | exact ⟨nbq rfl, rfl⟩ | refine ⟨by decide, ?_⟩))
 by_cases h3 : c = 8805
 ·subst h3
  rw [show cmpS 8805 n = decide (n ≥ 0) from rfl]
  repeat ((conv => whnf); (first | refine ⟨_, ‹_›, ?_⟩ | refine ⟨nbq rfl, _, ‹_›, ?_⟩ | refine ⟨by kernel_rfl, ?_⟩ | exact rfl | exact ⟨nbq rfl, rfl⟩ | refine ⟨by decide, ?_⟩))
 by_cases h4 : c = 62
 ·subst h4
  rw [show cmpS 62 n = decide (n > 0) from rfl]
  repeat ((conv => whnf); (first | refine ⟨_, ‹_›, ?_⟩ | refine ⟨nbq rfl, _, ‹_›, ?_⟩ | refine ⟨by kernel_rfl, ?_⟩ | exact rfl | exact ⟨nbq rfl, rfl⟩ | refine ⟨by decide, ?_⟩))
 have e0 : (c == 60) = false := beq_false_of_ne h0
 have e1 : (c == 8804) = false := beq_false_of_ne h1
 have e2 : (c == 61) = false := beq_false_of_ne h2
 have e3 : (c == 8805) = false := beq_false_of_ne h3
 have e4 : (c == 62) = false := beq_false_of_ne h4
 rw [show cmpS c n = (n != 0) by unfold cmpS; rw [if_neg h0, if_neg h1, if_neg h2, if_neg h3, if_neg h4]]
 conv => whnf
 refine cFq (e0) ?_
 conv => whnf
 refine cFq (e1) ?_
 conv => whnf
 refine cFq (e2) ?_
 conv => whnf
 refine cFq (e3) ?_
 conv => whnf
 refine cFq (e4) ?_
 repeat ((conv => whnf); (first | refine ⟨_, ‹_›, ?_⟩ | refine ⟨nbq rfl, _, ‹_›, ?_⟩ | refine ⟨by kernel_rfl, ?_⟩ | exact rfl | exact ⟨nbq rfl, rfl⟩ | refine ⟨by decide, ?_⟩))
def tq (t : Bool) : Rat := if t then 1 else 0
def td (t : Bool) : Nat := if t then 1 else 0
theorem td_dn (t : Bool) : dn (td t) = (tq t).den := by cases t <;> rfl
theorem tq_sz (t : Bool) : Sz (tq t) 1 := by cases t; exact Sz_zero; exact Sz_small (q := 1) (by decide) (by decide)
theorem truth_ok (t : Bool) : AC Tryz.prog 134 [.val (.bool t)] (.pure (RA (tq t).num (td t))) := by
 cases t
 ·refine AC.le_res (v := RZ) ?_ RZ_le (RA_noid _ _)
  refine AC.of_body TTok Tryz.func134 rfl (enter_of Tryz.func134 (by kernel_rfl) (by kernel_rfl)) (noid1 (.val _)) RZ_noid (nbq rfl) ?_
  unfold RZ
  repeat ((conv => whnf); (first | refine ⟨_, ‹_›, ?_⟩ | refine ⟨nbq rfl, _, ‹_›, ?_⟩ | refine ⟨by kernel_rfl, ?_⟩ | exact rfl | exact ⟨nbq rfl, rfl⟩ | refine ⟨by decide, ?_⟩))
 ·show AC Tryz.prog 134 [.val (.bool true)] (.pure (RA 1 1))
  refine AC.of_body TTok Tryz.func134 rfl (enter_of Tryz.func134 (by kernel_rfl) (by kernel_rfl)) (noid1 (.val _)) (RA_noid _ _) (nbq rfl) ?_
  have hF := RatFrom_ok 1 (by decide)
  unfold RA at *
  repeat ((conv => whnf); (first | refine ⟨_, ‹_›, ?_⟩ | refine ⟨nbq rfl, _, ‹_›, ?_⟩ | refine ⟨by kernel_rfl, ?_⟩ | exact rfl | exact ⟨nbq rfl, rfl⟩ | refine ⟨by decide, ?_⟩))
def bitQ (q : Rat) : Option Bool := if q = 0 then some false else if q = 1 then some true else none
def jdgB (c : Int) (x y : Bool) : Bool := if c = 8743 then x && y else if c = 8744 then x || y else if c = 9074 then !(x && y) else !(x || y)
theorem bit_int {q : Rat} (t : Bool) (h : bitQ q = some t) : q = (if t then 1 else 0) := by
 unfold bitQ at h
 split at h
 ·cases h; assumption
 ·split at h
  ·cases h; assumption
  ·cases h
def intV (q : Rat) : Int := if fitQ q.num q.den then q.num else 0
theorem intV_fit (q : Rat) : fit (intV q) := by
 unfold intV
 split
 ·rename_i h; exact h.2
 ·decide
theorem intV_none {q : Rat} (hb : bitQ q = none) : decide (fitQ q.num q.den) = false ∨ intV q < 0 ∨ 1 < intV q := by
 unfold intV
 by_cases h : fitQ q.num q.den
 ·rw [if_pos h]
  right
  have : q = (q.num : Rat) := Rat.ext rfl h.1
  unfold bitQ at hb
  have n0 : q.num ≠ 0 := fun e => by rw [if_pos (Rat.num_eq_zero.1 e)] at hb; cases hb
  have n1 : q.num ≠ 1 := fun e => by
   rw [e] at this
   by_cases h0 : q = 0
   ·rw [if_pos h0] at hb; cases hb
   ·rw [if_neg h0, if_pos (show q = 1 from this)] at hb; cases hb
  omega
 ·exact .inl (decide_eq_false h)
theorem intV_bit (q : Rat) (t : Bool) (ht : bitQ q = some t) : decide (fitQ q.num q.den) = true ∧ intV q = if t then 1 else 0 := by
 rw [bit_int t ht]
 cases t
 ·exact q2r
 ·exact q2r
theorem int_prog (q : Rat) (i : Nat) (hi : dn i = q.den) (lq : Sz q 1000) : ∃ (v : Int) (ok : Bool), fit v ∧ (bitQ q = none → ok = false ∨ v < 0 ∨ 1 < v) ∧ (∀ t, bitQ q = some t → ok = true ∧ v = if t then 1 else 0) ∧
  AC Tryz.prog 124 [RA q.num i] (.pure (.tup [.val (.int .i64 v), .val (.bool ok)])) := by
 have h1 := RInt_ok q.num i
 rw [hi] at h1
 exact ⟨intV q, _, intV_fit q, intV_none, intV_bit q, h1⟩
def judgeQ (c : Int) (a b : Rat) : Rat × Int :=
 match bitQ a, bitQ b with
 | some x, some y => (tq (jdgB c x y), 0)
 | _, _ => (0, 22)
theorem jcases {a b : Rat} {v w : Int} {ok is : Bool} (nv : bitQ a = none → ok = false ∨ v < 0 ∨ 1 < v) (nw : bitQ b = none → is = false ∨ w < 0 ∨ 1 < w) (h : bitQ a = none ∨ bitQ b = none) :
  ok = false ∨ (ok = true ∧ is = false) ∨ (ok = true ∧ is = true ∧ ((v < 0 ∨ 1 < v) ∨ (0 ≤ v ∧ v ≤ 1 ∧ (w < 0 ∨ 1 < w)))) := by
 cases ok
 ·exact .inl rfl
 ·cases is
  ·exact .inr (.inl q2r)
  ·refine .inr (.inr ⟨rfl, rfl, ?_⟩)
   rcases h with h | h
   ·rcases nv h with h' | h'
    ·cases h'
    ·exact .inl h'
   ·rcases nw h with h' | h'
    ·cases h'
    ·by_cases h2 : v < 0 ∨ 1 < v
     ·exact .inl h2
     ·exact .inr ⟨by omega, by omega, h'⟩
theorem judge_bad (c : Int) (a b : Rat) (i j : Nat) (hi : dn i = a.den) (hj : dn j = b.den) (la : Sz a 1000) (lb : Sz b 1000) (h : bitQ a = none ∨ bitQ b = none) : AC Tryz.prog 136 [.val (.int .i32 c), RA a.num i, RA b.num j] (.pure (.tup [RA 0 0, .val (.int .i64 22)])) := by
 obtain ⟨v, ok, fv, nv, _, A1⟩ := int_prog a i hi la
 obtain ⟨w, is, fw, nw, _, B1⟩ := int_prog b j hj lb
 have cs := jcases nv nw h
 refine AC.le_res (v := .tup [RZ, .val (.int .i64 22)]) ?_ (.tup2 RZ_le (.refl _)) (.tup _ (noid2 (RA_noid _ _) (.val _)))
 refine AC.of_body TTok Tryz.func136 rfl (enter_of Tryz.func136 (by kernel_rfl) (by kernel_rfl)) (noid3 (.val _) (RA_noid _ _) (RA_noid _ _)) (.tup _ (noid2 RZ_noid (.val _))) (nbq rfl) ?_
 unfold RA RZ at *
 rcases cs with rfl | ⟨rfl, rfl⟩ | ⟨rfl, rfl, hv | ⟨v0, v1, hw⟩⟩
 ·repeat ((conv => whnf); (first | refine ⟨_, ‹_›, ?_⟩ | refine ⟨nbq rfl, _, ‹_›, ?_⟩ | refine ⟨by kernel_rfl, ?_⟩ | exact rfl | exact ⟨nbq rfl, rfl⟩ | refine ⟨by decide, ?_⟩))
 ·repeat ((conv => whnf); (first | refine ⟨_, ‹_›, ?_⟩ | refine ⟨nbq rfl, _, ‹_›, ?_⟩ | refine ⟨by kernel_rfl, ?_⟩ | exact rfl | exact ⟨nbq rfl, rfl⟩ | refine ⟨by decide, ?_⟩))
 ·by_cases h0 : v < 0
  ·have f1 : decide (v < 0) = true := decide_eq_true h0
   conv => whnf
   refine ⟨_, A1, ?_⟩
   conv => whnf
   refine ⟨_, B1, ?_⟩
   conv => whnf
   refine cTq (f1) ?_
   repeat ((conv => whnf); (first | refine ⟨_, ‹_›, ?_⟩ | refine ⟨nbq rfl, _, ‹_›, ?_⟩ | refine ⟨by kernel_rfl, ?_⟩ | exact rfl | exact ⟨nbq rfl, rfl⟩ | refine ⟨by decide, ?_⟩))
  ·have f1 : decide (v < 0) = false := decide_eq_false h0
   have f2 : decide (v > 1) = true := decide_eq_true (by omega)
   conv => whnf
   refine ⟨_, A1, ?_⟩
   conv => whnf
   refine ⟨_, B1, ?_⟩
   conv => whnf
   refine cFq (f1) ?_
   conv => whnf
   refine cTq (f2) ?_
   repeat ((conv => whnf); (first | refine ⟨_, ‹_›, ?_⟩ | refine ⟨nbq rfl, _, ‹_›, ?_⟩ | refine ⟨by kernel_rfl, ?_⟩ | exact rfl | exact ⟨nbq rfl, rfl⟩ | refine ⟨by decide, ?_⟩))
 ·have f1 : decide (v < 0) = false := decide_eq_false (by omega)
  have f2 : decide (v > 1) = false := decide_eq_false (by omega)
  by_cases h0 : w < 0
  ·have f3 : decide (w < 0) = true := decide_eq_true h0
   conv => whnf
   refine ⟨_, A1, ?_⟩
   conv => whnf
   refine ⟨_, B1, ?_⟩
   conv => whnf
   refine cFq (f1) ?_
   conv => whnf
   refine cFq (f2) ?_
   conv => whnf
   refine cTq (f3) ?_
   repeat ((conv => whnf); (first | refine ⟨_, ‹_›, ?_⟩ | refine ⟨nbq rfl, _, ‹_›, ?_⟩ | refine ⟨by kernel_rfl, ?_⟩ | exact rfl | exact ⟨nbq rfl, rfl⟩ | refine ⟨by decide, ?_⟩))
  ·have f3 : decide (w < 0) = false := decide_eq_false h0
   have f4 : decide (w > 1) = true := decide_eq_true (by omega)
   conv => whnf
   refine ⟨_, A1, ?_⟩
   conv => whnf
   refine ⟨_, B1, ?_⟩
   conv => whnf
   refine cFq (f1) ?_
   conv => whnf
   refine cFq (f2) ?_
   conv => whnf
   refine cFq (f3) ?_
   conv => whnf
   refine cTq (f4) ?_
   repeat ((conv => whnf); (first | refine ⟨_, ‹_›, ?_⟩ | refine ⟨nbq rfl, _, ‹_›, ?_⟩ | refine ⟨by kernel_rfl, ?_⟩ | exact rfl | exact ⟨nbq rfl, rfl⟩ | refine ⟨by decide, ?_⟩))
set_option maxRecDepth 100000 in
theorem judge_good (c : Int) (hc : isJdg c) (a b : Rat) (i j : Nat) (hi : dn i = a.den) (hj : dn j = b.den) (la : Sz a 1000) (lb : Sz b 1000) (x y : Bool) (hx : bitQ a = some x) (hy : bitQ b = some y) :
  AC Tryz.prog 136 [.val (.int .i32 c), RA a.num i, RA b.num j] (.pure (.tup [RA (tq (jdgB c x y)).num (td (jdgB c x y)), .val (.int .i64 0)])) := by
 obtain ⟨v, ok, _, _, nv, A1⟩ := int_prog a i hi la
 obtain ⟨w, is, _, _, nw, B1⟩ := int_prog b j hj lb
 obtain ⟨rfl, rfl⟩ := nv x hx
 obtain ⟨rfl, rfl⟩ := nw y hy
 have T0 := truth_ok false
 have T1 := truth_ok true
 refine AC.of_body TTok Tryz.func136 rfl (enter_of Tryz.func136 (by kernel_rfl) (by kernel_rfl)) (noid3 (.val _) (RA_noid _ _) (RA_noid _ _)) (.tup _ (noid2 (RA_noid _ _) (.val _))) (nbq rfl) ?_
 clear hx hy nv nw
 unfold RA at *
 cases x <;> cases y <;> rcases hc with rfl | rfl | rfl | rfl
 all_goals
  repeat ((conv => whnf); (first | refine ⟨_, ‹_›, ?_⟩ | refine ⟨nbq rfl, _, ‹_›, ?_⟩ | refine ⟨by kernel_rfl, ?_⟩ | exact rfl | exact ⟨nbq rfl, rfl⟩ | refine ⟨by decide, ?_⟩))
theorem judge_ok (c : Int) (hc : isJdg c) (a b : Rat) (i j : Nat) (hi : dn i = a.den) (hj : dn j = b.den) (la : Sz a 1000) (lb : Sz b 1000) : ∃ d, dn d = (judgeQ c a b).1.den ∧
  AC Tryz.prog 136 [.val (.int .i32 c), RA a.num i, RA b.num j] (.pure (.tup [RA (judgeQ c a b).1.num d, .val (.int .i64 (judgeQ c a b).2)])) := by
 unfold judgeQ
 cases hx : bitQ a with
 | none => exact ⟨0, rfl, judge_bad c a b i j hi hj la lb (.inl hx)⟩
 | some x =>
  cases hy : bitQ b with
  | none => exact ⟨0, rfl, judge_bad c a b i j hi hj la lb (.inr hy)⟩
  | some y => exact ⟨_, td_dn _, judge_good c hc a b i j hi hj la lb x y hx hy⟩
end
section
def powerQ (a b : Rat) (most : Int) : Rat × Int :=
 if b.den ≠ 1 ∨ (a = 0 ∧ b.num < 0) then (0, 22)
 else if limQ a ∧ b.num ≠ 0 then (if a.num < 0 ∧ b.num.natAbs % 2 = 0 then -a else a, 0)
 else if ¬ fit b.num then (0, 26)
 else ((powQ a b.num most).1, if (powQ a b.num most).2 then 0 else 26)
theorem sig_lit (t : Int) : (t < 0 ∧ sigW t = -1) ∨ (t = 0 ∧ sigW t = 0) ∨ (0 < t ∧ sigW t = 1) := by
 unfold sigW
 rcases Int.lt_trichotomy t 0 with h | h | h
 ·left; rw [if_neg (by omega), if_pos h]; exact ⟨h, rfl⟩
 ·right; left; rw [if_pos h]; exact ⟨h, rfl⟩
 ·right; right; rw [if_neg (by omega), if_neg (by omega)]; exact ⟨h, rfl⟩
theorem RZ22 {P : Program} {f : FuncId} {args : List AV} {e : Int} (h : AC P f args (.pure (.tup [RZ, .val (.int .i64 e)]))) : AC P f args (.pure (.tup [RA 0 0, .val (.int .i64 e)])) :=
 AC.le_res h (.tup2 RZ_le (.refl _)) (.tup _ (noid2 (RA_noid _ _) (.val _)))
theorem Power_ok (a b : Rat) (i j : Nat) (most : Int) (hi : dn i = a.den) (hj : dn j = b.den) (hm : most ≤ 200) (la : Sz a 99) : ∃ d, dn d = (powerQ a b most).1.den ∧ AC Tryz.prog 155 [RA a.num i, RA b.num j, .val (.int .i64 most)] (.pure (.tup [RA (powerQ a b most).1.num d, .val (.int .i64 (powerQ a b most).2)])) := by
 have hW := IsWhole_ok b.num j
 have hSa := RaSign_ok a.num i
 have hSb := RaSign_ok b.num j
 have hL := Limited_ok a.num i
 have hT := RTop_ok b.num j
 have hE := Even_ok b.num.natAbs
 have hM := QMinus_ok a.num i
 have hI := RInt_ok b.num j
 rw [hj] at hW hI
 rw [hi] at hL hM
 unfold powerQ
 by_cases hd : b.den = 1
 rotate_left
 ·rw [if_pos (.inl hd)]
  rw [decide_eq_false hd] at hW
  refine ⟨0, rfl, RZ22 ?_⟩
  refine AC.of_body TTok Tryz.func155 rfl (enter_of Tryz.func155 (by kernel_rfl) (by kernel_rfl)) (noid3 (RA_noid _ _) (RA_noid _ _) (.val _)) (.tup _ (noid2 RZ_noid (.val _))) (nbq rfl) ?_
  unfold RA RZ at *
  repeat ((conv => whnf); (first | refine ⟨_, ‹_›, ?_⟩ | refine ⟨nbq rfl, _, ‹_›, ?_⟩ | refine ⟨by kernel_rfl, ?_⟩ | exact rfl | exact ⟨nbq rfl, rfl⟩ | refine ⟨by decide, ?_⟩))
 rw [decide_eq_true hd] at hW
 by_cases hz : a = 0 ∧ b.num < 0
 ·rw [if_pos (.inr hz)]
  rw [show sigW a.num = 0 by rw [hz.1]; rfl] at hSa
  rw [show sigW b.num = -1 by unfold sigW; rw [if_neg (by omega), if_pos hz.2]] at hSb
  refine ⟨0, rfl, RZ22 ?_⟩
  refine AC.of_body TTok Tryz.func155 rfl (enter_of Tryz.func155 (by kernel_rfl) (by kernel_rfl)) (noid3 (RA_noid _ _) (RA_noid _ _) (.val _)) (.tup _ (noid2 RZ_noid (.val _))) (nbq rfl) ?_
  unfold RA RZ at *
  repeat ((conv => whnf); (first | refine ⟨_, ‹_›, ?_⟩ | refine ⟨nbq rfl, _, ‹_›, ?_⟩ | refine ⟨by kernel_rfl, ?_⟩ | exact rfl | exact ⟨nbq rfl, rfl⟩ | refine ⟨by decide, ?_⟩))
 rw [if_neg (fun h => h.elim (fun h => h hd) hz)]
 have hz' : ¬ (a.num = 0 ∧ b.num < 0) := fun h => hz ⟨Rat.num_eq_zero.1 h.1, h.2⟩
 by_cases hl : limQ a ∧ b.num ≠ 0
 ·have hb0 := hl.2
  rw [if_pos hl]
  rw [decide_eq_true (show a.den = 1 ∧ (a.num.natAbs = 0 ∨ a.num.natAbs = 1) from hl.1)] at hL
  by_cases he : a.num < 0 ∧ b.num.natAbs % 2 = 0
  ·rw [if_pos he]
   rw [show sigW a.num = -1 by unfold sigW; rw [if_neg (by omega), if_pos he.1]] at hSa
   rw [decide_eq_true he.2] at hE
   refine ⟨a.den, dn_self a.den_nz, ?_⟩
   refine AC.of_body TTok Tryz.func155 rfl (enter_of Tryz.func155 (by kernel_rfl) (by kernel_rfl)) (noid3 (RA_noid _ _) (RA_noid _ _) (.val _)) (.tup _ (noid2 (RA_noid _ _) (.val _))) (nbq rfl) ?_
   have hM' : AC Tryz.prog 150 [RA a.num i] (.pure (RA (-a).num a.den)) := hM
   clear hM
   rcases sig_lit b.num with ⟨_, e⟩ | ⟨e0, _⟩ | ⟨_, e⟩
   ·rw [e] at hSb
    unfold RA WI natA at *
    repeat ((conv => whnf); (first | refine ⟨_, ‹_›, ?_⟩ | refine ⟨nbq rfl, _, ‹_›, ?_⟩ | refine ⟨by kernel_rfl, ?_⟩ | exact rfl | exact ⟨nbq rfl, rfl⟩ | refine ⟨by decide, ?_⟩))
   ·exact absurd e0 hb0
   ·rw [e] at hSb
    unfold RA WI natA at *
    repeat ((conv => whnf); (first | refine ⟨_, ‹_›, ?_⟩ | refine ⟨nbq rfl, _, ‹_›, ?_⟩ | refine ⟨by kernel_rfl, ?_⟩ | exact rfl | exact ⟨nbq rfl, rfl⟩ | refine ⟨by decide, ?_⟩))
  ·rw [if_neg he]
   refine ⟨i, hi, ?_⟩
   refine AC.of_body TTok Tryz.func155 rfl (enter_of Tryz.func155 (by kernel_rfl) (by kernel_rfl)) (noid3 (RA_noid _ _) (RA_noid _ _) (.val _)) (.tup _ (noid2 (RA_noid _ _) (.val _))) (nbq rfl) ?_
   rcases sig_lit a.num with ⟨h1, e1⟩ | ⟨h1, e1⟩ | ⟨h1, e1⟩ <;> rcases sig_lit b.num with ⟨h2, e2⟩ | ⟨h2, e2⟩ | ⟨h2, e2⟩
   all_goals first
    | (exfalso; omega)
    | skip
   all_goals
    rw [e1] at hSa
    rw [e2] at hSb
    first
     | rw [decide_eq_false (show ¬ b.num.natAbs % 2 = 0 from fun h => he ⟨h1, h⟩)] at hE
     | skip
    unfold RA WI natA at *
    repeat ((conv => whnf); (first | refine ⟨_, ‹_›, ?_⟩ | refine ⟨nbq rfl, _, ‹_›, ?_⟩ | refine ⟨by kernel_rfl, ?_⟩ | exact rfl | exact ⟨nbq rfl, rfl⟩ | refine ⟨by decide, ?_⟩))
 rw [if_neg hl]
 have hs : (if decide (a.den = 1 ∧ (a.num.natAbs = 0 ∨ a.num.natAbs = 1)) = true then b.num else 0) = 0 := by
  split
  ·rename_i h
   have h' := of_decide_eq_true h
   exact Decidable.of_not_not (fun hb => hl ⟨h', hb⟩)
  ·rfl
 by_cases hf : fit b.num
 rotate_left
 ·rw [if_pos hf]
  refine ⟨0, rfl, RZ22 ?_⟩
  rw [if_neg (fun h : fitQ b.num b.den => hf h.2), decide_eq_false (fun h : fitQ b.num b.den => hf h.2)] at hI
  refine AC.of_body TTok Tryz.func155 rfl (enter_of Tryz.func155 (by kernel_rfl) (by kernel_rfl)) (noid3 (RA_noid _ _) (RA_noid _ _) (.val _)) (.tup _ (noid2 RZ_noid (.val _))) (nbq rfl) ?_
  generalize decide (a.den = 1 ∧ (a.num.natAbs = 0 ∨ a.num.natAbs = 1)) = s at *
  rcases sig_lit a.num with ⟨h1, e1⟩ | ⟨h1, e1⟩ | ⟨h1, e1⟩ <;> rcases sig_lit b.num with ⟨h2, e2⟩ | ⟨h2, e2⟩ | ⟨h2, e2⟩ <;> cases s
  all_goals simp only [Bool.false_eq_true, if_false, if_true] at hs
  all_goals first
   | (exfalso; omega)
   | skip
  all_goals
   rw [e1] at hSa
   rw [e2] at hSb
   unfold RA RZ at *
   repeat ((conv => whnf); (first | refine ⟨_, ‹_›, ?_⟩ | refine ⟨nbq rfl, _, ‹_›, ?_⟩ | refine ⟨by kernel_rfl, ?_⟩ | exact rfl | exact ⟨nbq rfl, rfl⟩ | refine ⟨by decide, ?_⟩))
 rw [if_neg (fun h => h hf)]
 have hfq : fitQ b.num b.den := ⟨hd, hf⟩
 rw [if_pos hfq, decide_eq_true hfq] at hI
 obtain ⟨d, hd', hP⟩ := pow_prog a i b.num most hi hf hm la
 refine ⟨d, hd', ?_⟩
 refine AC.of_body TTok Tryz.func155 rfl (enter_of Tryz.func155 (by kernel_rfl) (by kernel_rfl)) (noid3 (RA_noid _ _) (RA_noid _ _) (.val _)) (.tup _ (noid2 (RA_noid _ _) (.val _))) (nbq rfl) ?_
 revert hP
 generalize (powQ a b.num most).1 = r
 generalize (powQ a b.num most).2 = g
 intro hP
 generalize decide (a.den = 1 ∧ (a.num.natAbs = 0 ∨ a.num.natAbs = 1)) = s at *
 rcases sig_lit a.num with ⟨h1, e1⟩ | ⟨h1, e1⟩ | ⟨h1, e1⟩ <;> rcases sig_lit b.num with ⟨h2, e2⟩ | ⟨h2, e2⟩ | ⟨h2, e2⟩ <;> cases s <;> cases g
 all_goals simp only [Bool.false_eq_true, if_false, if_true] at hs
 all_goals first
  | (exfalso; omega)
  | skip
 all_goals
  rw [e1] at hSa
  rw [e2] at hSb
  unfold RA at *
  repeat ((conv => whnf); (first | refine ⟨_, ‹_›, ?_⟩ | refine ⟨nbq rfl, _, ‹_›, ?_⟩ | refine ⟨by kernel_rfl, ?_⟩ | exact rfl | exact ⟨nbq rfl, rfl⟩ | refine ⟨by decide, ?_⟩))
end
section
end
section
def chs (r : Nat) : Nat → Nat
 | 0 => 1
 | i + 1 => chs r i * (r + (i + 1)) / (i + 1)
theorem chs_succ (r i : Nat) : chs r (i + 1) = chs r i * (r + (i + 1)) / (i + 1) := rfl
theorem chs_mono1 (r i : Nat) : chs r i ≤ chs r (i + 1) := by
 rw [chs_succ, Nat.le_div_iff_mul_le (by omega)]
 exact Nat.mul_le_mul_left _ (by omega)
theorem chs_mono (r : Nat) {i j : Nat} (h : i ≤ j) : chs r i ≤ chs r j := by
 induction h with
 | refl => exact Nat.le_refl _
 | step _ ih => exact Nat.le_trans ih (chs_mono1 r _)
theorem chs_big (r : Nat) : ∀ i, i ≤ r → 2 ^ i ≤ chs r i
 | 0, _ => Nat.le_refl _
 | i + 1, h => by
  have ih := chs_big r i (by omega)
  rw [chs_succ, Nat.le_div_iff_mul_le (by omega), Nat.pow_succ, Nat.mul_assoc]
  exact Nat.mul_le_mul ih (by omega)
theorem chs_bound {r i : Nat} (h : i ≤ r) (hl : (limbs (chs r i)).length ≤ 200) : i ≤ 6400 := by
 have h1 := chs_big r i h
 have h2 := val_lt (limbs_lim (chs r i))
 rw [val_limbs, pow32] at h2
 have h3 : 2 ^ i < 2 ^ (32 * (limbs (chs r i)).length) := Nat.lt_of_le_of_lt h1 h2
 have := (Nat.pow_lt_pow_iff_right (by decide : 1 < 2)).1 h3
 omega
def chsOk (k r : Nat) (most : Int) : Prop := k = 0 ∨ ((limbs (chs r k)).length : Int) ≤ most
instance (k r : Nat) (most : Int) : Decidable (chsOk k r most) := inferInstanceAs (Decidable (_ ∨ _))
def natQ (q : Rat) : Prop := q.den = 1 ∧ 0 ≤ q.num
instance (q : Rat) : Decidable (natQ q) := inferInstanceAs (Decidable (_ ∧ _))
def chooseQ (a b : Rat) (most : Int) : Rat × Int :=
 if ¬ (natQ a ∧ natQ b) then (0, 22)
 else if b.num < a.num then (0, 0)
 else if chsOk (min a.num (b.num - a.num)).toNat (max a.num (b.num - a.num)).toNat most then (((chs (max a.num (b.num - a.num)).toNat (min a.num (b.num - a.num)).toNat : Nat) : Int), 0)
 else (0, 26)
theorem int_of {q : Rat} (h : q.den = 1) : q = ((q.num : Int) : Rat) := Rat.ext rfl h
theorem sub_int {a b : Rat} (ha : a.den = 1) (hb : b.den = 1) : (b + -a).num = b.num - a.num ∧ (b + -a).den = 1 := by
 have e : b + -a = ((b.num - a.num : Int) : Rat) := by
  rw [Rat.intCast_sub, ← int_of ha, ← int_of hb, Rat.sub_eq_add_neg]
 rw [e]
 exact q2r
theorem floor_nat (x i : Nat) (hi : 0 < i) (hx : (limbs x).length < 1000000) (hl : (limbs i).length < 1000000) : ∃ r, AC Tryz.prog 175 [WI (x : Int), WI (i : Int)] (.pure (.tup [WI ((x / i : Nat) : Int), WI r, .val (.bool true)])) := by
 have h := Floor_ok (x : Int) (i : Int) (by omega) (by rw [Int.natAbs_natCast]; omega) (by rw [Int.natAbs_natCast]; omega) (DivMod_ok _ _ (by rw [Int.natAbs_natCast]; exact hi) (by rw [Int.natAbs_natCast]; omega) (by rw [Int.natAbs_natCast]; omega))
 rw [flQ_ediv _ _ (by omega)] at h
 exact ⟨_, h⟩
theorem Choose_none (a b : Rat) (i j : Nat) (most : Int) (hi : dn i = a.den) (hj : dn j = b.den) (h : ¬ (natQ a ∧ natQ b)) : AC Tryz.prog 156 [RA a.num i, RA b.num j, .val (.int .i64 most)] (.pure (.tup [RA 0 0, .val (.int .i64 22)])) := by
 refine RZ22 ?_
 have hWa := IsWhole_ok a.num i
 have hWb := IsWhole_ok b.num j
 have hSa := RaSign_ok a.num i
 have hSb := RaSign_ok b.num j
 rw [hi] at hWa
 rw [hj] at hWb
 refine AC.of_body TTok Tryz.func156 rfl (enter_of Tryz.func156 (by kernel_rfl) (by kernel_rfl)) (noid3 (RA_noid _ _) (RA_noid _ _) (.val _)) (.tup _ (noid2 RZ_noid (.val _))) (nbq rfl) ?_
 by_cases da : a.den = 1
 ·rw [decide_eq_true da] at hWa
  by_cases db : b.den = 1
  ·rw [decide_eq_true db] at hWb
   by_cases na : a.num < 0
   ·rw [show sigW a.num = -1 by unfold sigW; rw [if_neg (by omega), if_pos na]] at hSa
    unfold RA RZ at *
    repeat ((conv => whnf); (first | refine ⟨_, ‹_›, ?_⟩ | refine ⟨nbq rfl, _, ‹_›, ?_⟩ | refine ⟨by kernel_rfl, ?_⟩ | exact rfl | exact ⟨nbq rfl, rfl⟩ | refine ⟨by decide, ?_⟩))
   ·have nb : b.num < 0 := Decidable.of_not_not (fun hb => h ⟨⟨da, by omega⟩, ⟨db, by omega⟩⟩)
    rw [show sigW b.num = -1 by unfold sigW; rw [if_neg (by omega), if_pos nb]] at hSb
    rcases sig_lit a.num with ⟨h1, e1⟩ | ⟨h1, e1⟩ | ⟨h1, e1⟩
    ·omega
    ·rw [e1] at hSa
     unfold RA RZ at *
     repeat ((conv => whnf); (first | refine ⟨_, ‹_›, ?_⟩ | refine ⟨nbq rfl, _, ‹_›, ?_⟩ | refine ⟨by kernel_rfl, ?_⟩ | exact rfl | exact ⟨nbq rfl, rfl⟩ | refine ⟨by decide, ?_⟩))
    ·rw [e1] at hSa
     unfold RA RZ at *
     repeat ((conv => whnf); (first | refine ⟨_, ‹_›, ?_⟩ | refine ⟨nbq rfl, _, ‹_›, ?_⟩ | refine ⟨by kernel_rfl, ?_⟩ | exact rfl | exact ⟨nbq rfl, rfl⟩ | refine ⟨by decide, ?_⟩))
  ·rw [decide_eq_false db] at hWb
   unfold RA RZ at *
   repeat ((conv => whnf); (first | refine ⟨_, ‹_›, ?_⟩ | refine ⟨nbq rfl, _, ‹_›, ?_⟩ | refine ⟨by kernel_rfl, ?_⟩ | exact rfl | exact ⟨nbq rfl, rfl⟩ | refine ⟨by decide, ?_⟩))
 ·rw [decide_eq_false da] at hWa
  unfold RA RZ at *
  repeat ((conv => whnf); (first | refine ⟨_, ‹_›, ?_⟩ | refine ⟨nbq rfl, _, ‹_›, ?_⟩ | refine ⟨by kernel_rfl, ?_⟩ | exact rfl | exact ⟨nbq rfl, rfl⟩ | refine ⟨by decide, ?_⟩))
section
variable (a b : Rat) (i j : Nat) (most : Int) (hi : dn i = a.den) (hj : dn j = b.den) (hm : most ≤ 200) (la : Sz a 90) (lb : Sz b 90) (na : natQ a) (nb : natQ b)
include hi hj la lb na nb
theorem Choose_less (h : b.num < a.num) : AC Tryz.prog 156 [RA a.num i, RA b.num j, .val (.int .i64 most)] (.pure (.tup [RA 0 0, .val (.int .i64 0)])) := by
 refine RZ22 ?_
 have hWa := IsWhole_ok a.num i
 have hWb := IsWhole_ok b.num j
 have hSa := RaSign_ok a.num i
 have hSb := RaSign_ok b.num j
 have hM := QMinus_ok a.num i
 have hP := QPlus1 b (-a) j a.den hj (dn_den a) (lb.mono (by decide)) ((Sz_neg la).mono (by decide))
 have hSr := RaSign_ok (b + -a).num (b + -a).den
 rw [hi, decide_eq_true na.1] at hWa
 rw [hj, decide_eq_true nb.1] at hWb
 rw [hi] at hM
 have hM : AC Tryz.prog 150 [RA a.num i] (.pure (RA (-a).num a.den)) := hM
 have e1 : sigW a.num = 0 ∨ sigW a.num = 1 := by
  rcases sig_lit a.num with ⟨h1, e1⟩ | ⟨h1, e1⟩ | ⟨h1, e1⟩
  ·exact absurd na.2 (by omega)
  ·exact .inl e1
  ·exact .inr e1
 have e2 : sigW b.num = 0 ∨ sigW b.num = 1 := by
  rcases sig_lit b.num with ⟨h1, e1⟩ | ⟨h1, e1⟩ | ⟨h1, e1⟩
  ·exact absurd nb.2 (by omega)
  ·exact .inl e1
  ·exact .inr e1
 obtain ⟨s1, s2⟩ := sub_int na.1 nb.1
 rw [show sigW (b + -a).num = -1 by unfold sigW; rw [if_neg (by omega), if_pos (by omega)]] at hSr
 refine AC.of_body TTok Tryz.func156 rfl (enter_of Tryz.func156 (by kernel_rfl) (by kernel_rfl)) (noid3 (RA_noid _ _) (RA_noid _ _) (.val _)) (.tup _ (noid2 RZ_noid (.val _))) (nbq rfl) ?_
 clear s1 s2
 revert hP hSr
 generalize b + -a = r
 intro hP hSr
 rcases e1 with e1 | e1 <;> rcases e2 with e2 | e2
 all_goals
  rw [e1] at hSa
  rw [e2] at hSb
  unfold RA RZ rowR at *
  repeat ((conv => whnf); (first | refine ⟨_, ‹_›, ?_⟩ | refine ⟨nbq rfl, _, ‹_›, ?_⟩ | refine ⟨by kernel_rfl, ?_⟩ | exact rfl | exact ⟨nbq rfl, rfl⟩ | refine ⟨by decide, ?_⟩))
include hm
theorem Choose_gen (h : a.num ≤ b.num) (res : AV) (hno : NoId res)
  (r1 : ¬ chsOk (min a.num (b.num - a.num)).toNat (max a.num (b.num - a.num)).toNat most → AV.tup [RZ, .val (.int .i64 26)] = res)
  (r2 : chsOk (min a.num (b.num - a.num)).toNat (max a.num (b.num - a.num)).toNat most → AV.tup [RA ((chs (max a.num (b.num - a.num)).toNat (min a.num (b.num - a.num)).toNat : Nat) : Int) 1, .val (.int .i64 0)] = res) :
  AC Tryz.prog 156 [RA a.num i, RA b.num j, .val (.int .i64 most)] (.pure res) := by
 have hWa := IsWhole_ok a.num i
 have hWb := IsWhole_ok b.num j
 have hSa := RaSign_ok a.num i
 have hSb := RaSign_ok b.num j
 have hM := QMinus_ok a.num i
 have hP := QPlus1 b (-a) j a.den hj (dn_den a) (lb.mono (by decide)) ((Sz_neg la).mono (by decide))
 have hSr := RaSign_ok (b + -a).num (b + -a).den
 rw [hi, decide_eq_true na.1] at hWa
 rw [hj, decide_eq_true nb.1] at hWb
 rw [hi] at hM
 have hM : AC Tryz.prog 150 [RA a.num i] (.pure (RA (-a).num a.den)) := hM
 have e1 : sigW a.num = 0 ∨ sigW a.num = 1 := by
  rcases sig_lit a.num with ⟨h1, e1⟩ | ⟨h1, e1⟩ | ⟨h1, e1⟩
  ·exact absurd na.2 (by omega)
  ·exact .inl e1
  ·exact .inr e1
 have e2 : sigW b.num = 0 ∨ sigW b.num = 1 := by
  rcases sig_lit b.num with ⟨h1, e1⟩ | ⟨h1, e1⟩ | ⟨h1, e1⟩
  ·exact absurd nb.2 (by omega)
  ·exact .inl e1
  ·exact .inr e1
 obtain ⟨s1, s2⟩ := sub_int na.1 nb.1
 have sR : Sz (b + -a) 361 := (Sz_add lb (Sz_neg la)).mono (by decide)
 have hC := QCmp_ok (b + -a) a (b + -a).den i (dn_den _) hi (sR.mono (by decide)) (la.mono (by decide))
 have eR : sigW (b + -a).num = 0 ∨ sigW (b + -a).num = 1 := by
  rcases sig_lit (b + -a).num with ⟨h1, e1⟩ | ⟨h1, e1⟩ | ⟨h1, e1⟩
  ·omega
  ·exact .inl e1
  ·exact .inr e1
 refine AC.of_body TTok Tryz.func156 rfl (enter_of Tryz.func156 (by kernel_rfl) (by kernel_rfl)) (noid3 (RA_noid _ _) (RA_noid _ _) (.val _)) hno (nbq rfl) ?_
 have hlt : cmpQ (b + -a) a < 0 ↔ b.num - a.num < a.num := by
  rw [cmpQ_neg, Rat.lt_iff, s1, s2, na.1]
  simp
 have hdR : dn (b + -a).den = 1 := by rw [dn_den, s2]
 rw [na.1] at hi
 obtain ⟨dr, hdr⟩ : ∃ d, d = (b + -a).den := ⟨_, rfl⟩
 obtain ⟨nr, hnr⟩ : ∃ n, n = (b + -a).num := ⟨_, rfl⟩
 rw [← hdr] at hP hSr hC hdR
 rw [← hnr] at hP hSr hC eR s1
 have f1 : decide (sigW a.num < 0) = false := decide_eq_false (by rcases e1 with e | e <;> rw [e] <;> decide)
 have f2 : decide (sigW b.num < 0) = false := decide_eq_false (by rcases e2 with e | e <;> rw [e] <;> decide)
 have fR : decide (sigW nr < 0) = false := decide_eq_false (by rcases eR with e | e <;> rw [e] <;> decide)
 have lnr := sR.1
 rw [← hnr] at lnr
 clear sR e1 e2 eR
 have han := na.2
 have lan := la.1
 clear na nb la lb
 by_cases hs : b.num - a.num < a.num
 ·have fs : decide (cmpQ (b + -a) a < 0) = true := decide_eq_true (hlt.2 hs)
  clear hlt
  generalize cmpQ (b + -a) a = cq at hC fs
  clear hnr hdr
  generalize (b + -a) = qr at hP hC
  generalize -a = qn at hM hP
  generalize sigW a.num = g1 at *
  generalize sigW b.num = g2 at *
  generalize sigW nr = g3 at *
  have hTop := RTop_ok a.num i
  have hI := RInt_ok nr dr
  rw [hdR] at hI
  obtain ⟨k, hk⟩ : ∃ k : Nat, nr = (k : Int) := ⟨(nr).toNat, by omega⟩
  obtain ⟨r, hr⟩ : ∃ r : Nat, a.num = (r : Int) := ⟨(a.num).toNat, by omega⟩
  rw [show (min a.num (b.num - a.num)).toNat = k by omega, show (max a.num (b.num - a.num)).toNat = r by omega] at r1 r2
  have hkr : k ≤ r := by omega
  have lr : (limbs r).length ≤ 400 := by
   have := lan
   rw [show r = (a.num).natAbs by omega]
   omega
  obtain ⟨v, ok, hI, hv⟩ : ∃ v ok, AC Tryz.prog 124 [RA nr dr] (.pure (.tup [.val (.int .i64 v), .val (.bool ok)])) ∧ ((ok = true ∧ v = (k : Int)) ∨ (ok = false ∧ 6500 < k)) := by
   by_cases hf : fit nr
   ·rw [if_pos ⟨rfl, hf⟩, decide_eq_true (show fitQ nr 1 from ⟨rfl, hf⟩)] at hI
    exact ⟨_, _, hI, .inl ⟨rfl, hk⟩⟩
   ·rw [if_neg (fun h => hf h.2), decide_eq_false (show ¬ fitQ nr 1 from fun h => hf h.2)] at hI
    exact ⟨_, _, hI, .inr ⟨rfl, by unfold fit at hf; omega⟩⟩
  have hF1 := From_ok 1 (by decide)
  have hWh := Whole_ok ((chs r k : Nat) : Int)
  unfold RA WI rowR at *
  conv => whnf
  refine ⟨_, hWa, ?_⟩
  conv => whnf
  refine ⟨_, hWb, ?_⟩
  conv => whnf
  refine ⟨_, hSa, ?_⟩
  conv => whnf
  refine cFq (f1) ?_
  conv => whnf
  refine ⟨_, hSb, ?_⟩
  conv => whnf
  refine cFq (f2) ?_
  conv => whnf
  refine ⟨_, hM, ?_⟩
  conv => whnf
  refine ⟨(nbq rfl), _, hP, ?_⟩
  conv => whnf
  refine ⟨by kernel_rfl, ?_⟩
  conv => whnf
  refine ⟨_, hSr, ?_⟩
  conv => whnf
  refine cFq (fR) ?_
  conv => whnf
  refine ⟨_, hC, ?_⟩
  conv => whnf
  refine cTq (fs) ?_
  conv => whnf
  refine ⟨_, hI, ?_⟩
  conv => whnf
  refine ⟨_, hF1, ?_⟩
  conv => whnf
  refine SW.loopM TTok (fun j : Nat => [(2, .val (.int .i64 most)), (6, .lp 16 0), (8, .lp 216 0), (9, .val (.int .i64 v)), (10, .val (.bool ok)), (11, .lp 384 0), (12, .val (.int .i64 ((j : Int) + 1)))])
   (fun j => [(16, .cells 3 [[.sl 0 [] true, .val (.bool false), .sl 0 [] true]]), (216, .cells 3 [[.sl 1 (irows .u32 (limbs (a.num).natAbs)) false, .val (.bool (decide (a.num < 0))), .sl 1 (irows .u32 (limbs i)) false]]), (384, .cells 2 [[.sl 1 (irows .u32 (limbs ((chs r j : Nat) : Int).natAbs)) false, .val (.bool (decide (((chs r j : Nat) : Int) < 0)))]])]) 408 86 rfl (fun j => 6500 - j)
   (fun j => j ≤ k ∧ (j = 0 ∨ ((limbs (chs r j)).length : Int) ≤ most)) 0 [] ⟨Nat.zero_le _, .inl rfl⟩
   ⟨q2r, q2r, q2r, q2r, q2r, q2r, q2r, trivial⟩ ⟨q3r, q3r, q3r, trivial⟩ rfl ?_
  intro j hJ
  have hj1 : j ≤ k := hJ.1
  have hj2 : j = 0 ∨ ((limbs (chs r j)).length : Int) ≤ most := hJ.2
  clear hJ
  have lc : (limbs (chs r j)).length ≤ 200 := by
   rcases hj2 with h | h
   ·subst h; exact Nat.le_trans (limbs_small (n := 1) (by decide)) (by decide)
   ·omega
  have hjb := chs_bound (Nat.le_trans hj1 hkr) lc
  have lj : (limbs (j + 1)).length ≤ 1 := limbs_small (by omega)
  have hFr := From_ok ((j : Int) + 1) (by omega)
  have lrj := limbs_abs_add (r : Int) ((j : Int) + 1)
  rw [Int.natAbs_natCast, show ((j : Int) + 1).natAbs = j + 1 by omega] at lrj
  have hPl := Plus1 (r : Int) ((j : Int) + 1) (by rw [Int.natAbs_natCast]; omega) (by rw [show ((j : Int) + 1).natAbs = j + 1 by omega]; omega) (by omega)
  have lcr := limbs_abs_mul ((chs r j : Nat) : Int) ((r : Int) + ((j : Int) + 1))
  rw [Int.natAbs_natCast] at lcr
  have ec : ((chs r j : Nat) : Int) * ((r : Int) + ((j : Int) + 1)) = ((chs r j * (r + (j + 1)) : Nat) : Int) := by rw [Int.natCast_mul, Int.natCast_add, Int.natCast_add]; rfl
  have hTi := Times1 ((chs r j : Nat) : Int) ((r : Int) + ((j : Int) + 1)) (by rw [Int.natAbs_natCast]; omega) (by omega) (by omega)
  rw [ec] at hTi lcr
  rw [Int.natAbs_natCast] at lcr
  obtain ⟨w, hFl⟩ := floor_nat (chs r j * (r + (j + 1))) (j + 1) (by omega) (by omega) (by omega)
  rw [← chs_succ, show ((j + 1 : Nat) : Int) = (j : Int) + 1 from rfl] at hFl
  have hLim := Limbs_ok ((chs r (j + 1) : Nat) : Int).natAbs
  rw [← hr] at hPl hTi
  clear ec lcr lrj lj lc
  revert hPl hTi hFl
  generalize ((chs r j * (r + (j + 1)) : Nat) : Int) = y
  generalize a.num + ((j : Int) + 1) = z
  intro hPl hTi hFl
  unfold WI rowW natA at *
  rcases hv with ⟨rfl, rfl⟩ | ⟨rfl, hbig⟩
  ·conv => whnf
   refine caseb (fun h4 => ?_) (fun h4 => ?_)
   ·have h4' : (j : Int) + 1 ≤ (k : Int) := of_decide_eq_true h4
    conv => whnf
    refine ⟨_, hTop, ?_⟩
    conv => whnf
    refine ⟨_, hFr, ?_⟩
    conv => whnf
    refine ⟨(nbq rfl), _, hPl, ?_⟩
    conv => whnf
    refine ⟨(nbq rfl), _, hTi, ?_⟩
    conv => whnf
    refine ⟨_, hFr, ?_⟩
    conv => whnf
    refine ⟨_, hFl, ?_⟩
    conv => whnf
    refine ⟨by kernel_rfl, ?_⟩
    conv => whnf
    refine ⟨_, hLim, ?_⟩
    conv => whnf
    refine caseb (fun h5 => ?_) (fun h5 => ?_)
    ·have h5' : ((limbs (chs r (j + 1))).length : Int) > most := of_decide_eq_true h5
     have hmo := limbs_len_mono (chs_mono r (show j + 1 ≤ k by omega))
     conv => whnf
     exact r1 (fun hc => by rcases hc with hc | hc <;> omega)
    ·have h5' : ¬ ((limbs (chs r (j + 1))).length : Int) > most := of_decide_eq_false h5
     conv => whnf
     refine ⟨j + 1, [], (by show 6500 - (j + 1) < 6500 - j; omega), ⟨(by show j + 1 ≤ k; omega), .inr (by show ((limbs (chs r (j + 1))).length : Int) ≤ most; omega)⟩, ⟨q2r, q2r, q2r, q2r, q2r, q2r, ⟨valI ?_, rfl⟩, trivial⟩, ⟨q3r, q3r, q3r, trivial⟩, rfl⟩
     show IntKind.i64.wrap ((j : Int) + 1 + 1) = ((j + 1 : Nat) : Int) + 1
     rw [IntWalk.i64_in _ (by omega)]; omega
   ·have h4' : ¬ (j : Int) + 1 ≤ (k : Int) := of_decide_eq_false h4
    have hjk : j = k := by omega
    rw [hjk] at hj2 ⊢
    conv => whnf
    refine ⟨_, hWh, ?_⟩
    conv => whnf
    exact r2 (by rcases hj2 with h | h; exact .inl h; exact .inr h)
  ·have h4' : (j : Int) + 1 ≤ (k : Int) := by omega
   conv => whnf
   refine ⟨_, hTop, ?_⟩
   conv => whnf
   refine ⟨_, hFr, ?_⟩
   conv => whnf
   refine ⟨(nbq rfl), _, hPl, ?_⟩
   conv => whnf
   refine ⟨(nbq rfl), _, hTi, ?_⟩
   conv => whnf
   refine ⟨_, hFr, ?_⟩
   conv => whnf
   refine ⟨_, hFl, ?_⟩
   conv => whnf
   refine ⟨by kernel_rfl, ?_⟩
   conv => whnf
   refine ⟨_, hLim, ?_⟩
   conv => whnf
   refine caseb (fun h5 => ?_) (fun h5 => ?_)
   ·have h5' : ((limbs (chs r (j + 1))).length : Int) > most := of_decide_eq_true h5
    have hmo := limbs_len_mono (chs_mono r (show j + 1 ≤ k by omega))
    conv => whnf
    exact r1 (fun hc => by rcases hc with hc | hc <;> omega)
   ·have h5' : ¬ ((limbs (chs r (j + 1))).length : Int) > most := of_decide_eq_false h5
    conv => whnf
    refine ⟨j + 1, [], (by show 6500 - (j + 1) < 6500 - j; omega), ⟨(by show j + 1 ≤ k; omega), .inr (by show ((limbs (chs r (j + 1))).length : Int) ≤ most; omega)⟩, ⟨q2r, q2r, q2r, q2r, q2r, q2r, ⟨valI ?_, rfl⟩, trivial⟩, ⟨q3r, q3r, q3r, trivial⟩, rfl⟩
    show IntKind.i64.wrap ((j : Int) + 1 + 1) = ((j + 1 : Nat) : Int) + 1
    rw [IntWalk.i64_in _ (by omega)]; omega
 ·have fs : decide (cmpQ (b + -a) a < 0) = false := decide_eq_false (fun h => hs (hlt.1 h))
  clear hlt
  generalize cmpQ (b + -a) a = cq at hC fs
  clear hnr hdr
  generalize (b + -a) = qr at hP hC
  generalize -a = qn at hM hP
  generalize sigW a.num = g1 at *
  generalize sigW b.num = g2 at *
  generalize sigW nr = g3 at *
  have hTop := RTop_ok nr dr
  have hI := RInt_ok a.num i
  rw [hi] at hI
  obtain ⟨k, hk⟩ : ∃ k : Nat, a.num = (k : Int) := ⟨(a.num).toNat, by omega⟩
  obtain ⟨r, hr⟩ : ∃ r : Nat, nr = (r : Int) := ⟨(nr).toNat, by omega⟩
  rw [show (min a.num (b.num - a.num)).toNat = k by omega, show (max a.num (b.num - a.num)).toNat = r by omega] at r1 r2
  have hkr : k ≤ r := by omega
  have lr : (limbs r).length ≤ 400 := by
   have := lnr
   rw [show r = (nr).natAbs by omega]
   omega
  obtain ⟨v, ok, hI, hv⟩ : ∃ v ok, AC Tryz.prog 124 [RA a.num i] (.pure (.tup [.val (.int .i64 v), .val (.bool ok)])) ∧ ((ok = true ∧ v = (k : Int)) ∨ (ok = false ∧ 6500 < k)) := by
   by_cases hf : fit a.num
   ·rw [if_pos ⟨rfl, hf⟩, decide_eq_true (show fitQ a.num 1 from ⟨rfl, hf⟩)] at hI
    exact ⟨_, _, hI, .inl ⟨rfl, hk⟩⟩
   ·rw [if_neg (fun h => hf h.2), decide_eq_false (show ¬ fitQ a.num 1 from fun h => hf h.2)] at hI
    exact ⟨_, _, hI, .inr ⟨rfl, by unfold fit at hf; omega⟩⟩
  have hF1 := From_ok 1 (by decide)
  have hWh := Whole_ok ((chs r k : Nat) : Int)
  unfold RA WI rowR at *
  conv => whnf
  refine ⟨_, hWa, ?_⟩
  conv => whnf
  refine ⟨_, hWb, ?_⟩
  conv => whnf
  refine ⟨_, hSa, ?_⟩
  conv => whnf
  refine cFq (f1) ?_
  conv => whnf
  refine ⟨_, hSb, ?_⟩
  conv => whnf
  refine cFq (f2) ?_
  conv => whnf
  refine ⟨_, hM, ?_⟩
  conv => whnf
  refine ⟨(nbq rfl), _, hP, ?_⟩
  conv => whnf
  refine ⟨by kernel_rfl, ?_⟩
  conv => whnf
  refine ⟨_, hSr, ?_⟩
  conv => whnf
  refine cFq (fR) ?_
  conv => whnf
  refine ⟨_, hC, ?_⟩
  conv => whnf
  refine cFq (fs) ?_
  conv => whnf
  refine ⟨_, hI, ?_⟩
  conv => whnf
  refine ⟨_, hF1, ?_⟩
  conv => whnf
  refine SW.loopM TTok (fun j : Nat => [(2, .val (.int .i64 most)), (6, .lp 16 0), (8, .lp 216 0), (9, .val (.int .i64 v)), (10, .val (.bool ok)), (11, .lp 352 0), (12, .val (.int .i64 ((j : Int) + 1)))])
   (fun j => [(16, .cells 3 [[.sl 0 [] true, .val (.bool false), .sl 0 [] true]]), (216, .cells 3 [[.sl 1 (irows .u32 (limbs (nr).natAbs)) false, .val (.bool (decide (nr < 0))), .sl 1 (irows .u32 (limbs dr)) false]]), (352, .cells 2 [[.sl 1 (irows .u32 (limbs ((chs r j : Nat) : Int).natAbs)) false, .val (.bool (decide (((chs r j : Nat) : Int) < 0)))]])]) 376 86 rfl (fun j => 6500 - j)
   (fun j => j ≤ k ∧ (j = 0 ∨ ((limbs (chs r j)).length : Int) ≤ most)) 0 [] ⟨Nat.zero_le _, .inl rfl⟩
   ⟨q2r, q2r, q2r, q2r, q2r, q2r, q2r, trivial⟩ ⟨q3r, q3r, q3r, trivial⟩ rfl ?_
  intro j hJ
  have hj1 : j ≤ k := hJ.1
  have hj2 : j = 0 ∨ ((limbs (chs r j)).length : Int) ≤ most := hJ.2
  clear hJ
  have lc : (limbs (chs r j)).length ≤ 200 := by
   rcases hj2 with h | h
   ·subst h; exact Nat.le_trans (limbs_small (n := 1) (by decide)) (by decide)
   ·omega
  have hjb := chs_bound (Nat.le_trans hj1 hkr) lc
  have lj : (limbs (j + 1)).length ≤ 1 := limbs_small (by omega)
  have hFr := From_ok ((j : Int) + 1) (by omega)
  have lrj := limbs_abs_add (r : Int) ((j : Int) + 1)
  rw [Int.natAbs_natCast, show ((j : Int) + 1).natAbs = j + 1 by omega] at lrj
  have hPl := Plus1 (r : Int) ((j : Int) + 1) (by rw [Int.natAbs_natCast]; omega) (by rw [show ((j : Int) + 1).natAbs = j + 1 by omega]; omega) (by omega)
  have lcr := limbs_abs_mul ((chs r j : Nat) : Int) ((r : Int) + ((j : Int) + 1))
  rw [Int.natAbs_natCast] at lcr
  have ec : ((chs r j : Nat) : Int) * ((r : Int) + ((j : Int) + 1)) = ((chs r j * (r + (j + 1)) : Nat) : Int) := by rw [Int.natCast_mul, Int.natCast_add, Int.natCast_add]; rfl
  have hTi := Times1 ((chs r j : Nat) : Int) ((r : Int) + ((j : Int) + 1)) (by rw [Int.natAbs_natCast]; omega) (by omega) (by omega)
  rw [ec] at hTi lcr
  rw [Int.natAbs_natCast] at lcr
  obtain ⟨w, hFl⟩ := floor_nat (chs r j * (r + (j + 1))) (j + 1) (by omega) (by omega) (by omega)
  rw [← chs_succ, show ((j + 1 : Nat) : Int) = (j : Int) + 1 from rfl] at hFl
  have hLim := Limbs_ok ((chs r (j + 1) : Nat) : Int).natAbs
  rw [← hr] at hPl hTi
  clear ec lcr lrj lj lc
  revert hPl hTi hFl
  generalize ((chs r j * (r + (j + 1)) : Nat) : Int) = y
  generalize nr + ((j : Int) + 1) = z
  intro hPl hTi hFl
  unfold WI rowW natA at *
  rcases hv with ⟨rfl, rfl⟩ | ⟨rfl, hbig⟩
  ·conv => whnf
   refine caseb (fun h4 => ?_) (fun h4 => ?_)
   ·have h4' : (j : Int) + 1 ≤ (k : Int) := of_decide_eq_true h4
    conv => whnf
    refine ⟨_, hTop, ?_⟩
    conv => whnf
    refine ⟨_, hFr, ?_⟩
    conv => whnf
    refine ⟨(nbq rfl), _, hPl, ?_⟩
    conv => whnf
    refine ⟨(nbq rfl), _, hTi, ?_⟩
    conv => whnf
    refine ⟨_, hFr, ?_⟩
    conv => whnf
    refine ⟨_, hFl, ?_⟩
    conv => whnf
    refine ⟨by kernel_rfl, ?_⟩
    conv => whnf
    refine ⟨_, hLim, ?_⟩
    conv => whnf
    refine caseb (fun h5 => ?_) (fun h5 => ?_)
    ·have h5' : ((limbs (chs r (j + 1))).length : Int) > most := of_decide_eq_true h5
     have hmo := limbs_len_mono (chs_mono r (show j + 1 ≤ k by omega))
     conv => whnf
     exact r1 (fun hc => by rcases hc with hc | hc <;> omega)
    ·have h5' : ¬ ((limbs (chs r (j + 1))).length : Int) > most := of_decide_eq_false h5
     conv => whnf
     refine ⟨j + 1, [], (by show 6500 - (j + 1) < 6500 - j; omega), ⟨(by show j + 1 ≤ k; omega), .inr (by show ((limbs (chs r (j + 1))).length : Int) ≤ most; omega)⟩, ⟨q2r, q2r, q2r, q2r, q2r, q2r, ⟨valI ?_, rfl⟩, trivial⟩, ⟨q3r, q3r, q3r, trivial⟩, rfl⟩
     show IntKind.i64.wrap ((j : Int) + 1 + 1) = ((j + 1 : Nat) : Int) + 1
     rw [IntWalk.i64_in _ (by omega)]; omega
   ·have h4' : ¬ (j : Int) + 1 ≤ (k : Int) := of_decide_eq_false h4
    have hjk : j = k := by omega
    rw [hjk] at hj2 ⊢
    conv => whnf
    refine ⟨_, hWh, ?_⟩
    conv => whnf
    exact r2 (by rcases hj2 with h | h; exact .inl h; exact .inr h)
  ·have h4' : (j : Int) + 1 ≤ (k : Int) := by omega
   conv => whnf
   refine ⟨_, hTop, ?_⟩
   conv => whnf
   refine ⟨_, hFr, ?_⟩
   conv => whnf
   refine ⟨(nbq rfl), _, hPl, ?_⟩
   conv => whnf
   refine ⟨(nbq rfl), _, hTi, ?_⟩
   conv => whnf
   refine ⟨_, hFr, ?_⟩
   conv => whnf
   refine ⟨_, hFl, ?_⟩
   conv => whnf
   refine ⟨by kernel_rfl, ?_⟩
   conv => whnf
   refine ⟨_, hLim, ?_⟩
   conv => whnf
   refine caseb (fun h5 => ?_) (fun h5 => ?_)
   ·have h5' : ((limbs (chs r (j + 1))).length : Int) > most := of_decide_eq_true h5
    have hmo := limbs_len_mono (chs_mono r (show j + 1 ≤ k by omega))
    conv => whnf
    exact r1 (fun hc => by rcases hc with hc | hc <;> omega)
   ·have h5' : ¬ ((limbs (chs r (j + 1))).length : Int) > most := of_decide_eq_false h5
    conv => whnf
    refine ⟨j + 1, [], (by show 6500 - (j + 1) < 6500 - j; omega), ⟨(by show j + 1 ≤ k; omega), .inr (by show ((limbs (chs r (j + 1))).length : Int) ≤ most; omega)⟩, ⟨q2r, q2r, q2r, q2r, q2r, q2r, ⟨valI ?_, rfl⟩, trivial⟩, ⟨q3r, q3r, q3r, trivial⟩, rfl⟩
    show IntKind.i64.wrap ((j : Int) + 1 + 1) = ((j + 1 : Nat) : Int) + 1
    rw [IntWalk.i64_in _ (by omega)]; omega
end
theorem Choose_ok (a b : Rat) (i j : Nat) (most : Int) (hi : dn i = a.den) (hj : dn j = b.den) (hm : most ≤ 200) (la : Sz a 90) (lb : Sz b 90) : ∃ d, dn d = (chooseQ a b most).1.den ∧
  AC Tryz.prog 156 [RA a.num i, RA b.num j, .val (.int .i64 most)] (.pure (.tup [RA (chooseQ a b most).1.num d, .val (.int .i64 (chooseQ a b most).2)])) := by
 unfold chooseQ
 by_cases hn : natQ a ∧ natQ b
 ·rw [if_neg (fun h => h hn)]
  by_cases hl : b.num < a.num
  ·rw [if_pos hl]
   exact ⟨0, rfl, Choose_less a b i j most hi hj la lb hn.1 hn.2 hl⟩
  ·rw [if_neg hl]
   by_cases hc : chsOk (min a.num (b.num - a.num)).toNat (max a.num (b.num - a.num)).toNat most
   ·rw [if_pos hc]
    exact ⟨1, rfl, Choose_gen a b i j most hi hj hm la lb hn.1 hn.2 (by omega) _ (.tup _ (noid2 (RA_noid _ _) (.val _))) (fun h => absurd hc h) (fun _ => rfl)⟩
   ·rw [if_neg hc]
    exact ⟨0, rfl, RZ22 (Choose_gen a b i j most hi hj hm la lb hn.1 hn.2 (by omega) _ (.tup _ (noid2 RZ_noid (.val _))) (fun _ => rfl) (fun h => absurd h hc))⟩
 ·rw [if_pos hn]
  exact ⟨0, rfl, Choose_none a b i j most hi hj hn⟩
end
section
end
section
def reckonQ (c : Int) (a b : Rat) (most : Int) : Rat × Int :=
 if c = 43 then (a + b, 0)
 else if c = 45 then (a + -b, 0)
 else if c = 215 then (a * b, 0)
 else if c = 247 then (if b ≠ 0 then (a / b, 0) else if a = 0 then (1, 0) else (0, 22))
 else if c = 8968 then (if a < b then b else a, 0)
 else if c = 8970 then (if a < b then a else b, 0)
 else if c = 124 then (restQ a b, 0)
 else if c = 42 then powerQ a b most
 else if c = 33 then chooseQ a b most
 else (0, 22)
theorem noid4 {a b c d : AV} (ha : NoId a) (hb : NoId b) (hc : NoId c) (hd : NoId d) : ∀ x ∈ [a, b, c, d], NoId x := by
 intro x hx
 simp only [List.mem_cons, List.not_mem_nil, or_false] at hx
 rcases hx with rfl | rfl | rfl | rfl <;> assumption
theorem sig_ne {q : Rat} (h : q ≠ 0) : (sigW q.num == 0) = false := beq_false_of_ne (by unfold sigW; rw [if_neg (num_ne h)]; split <;> decide)
theorem sig_z {q : Rat} (h : q = 0) : (sigW q.num == 0) = true := by rw [h]; rfl
theorem cmp_lt {a b : Rat} (h : a < b) : cmpQ a b = -1 := if_pos h
theorem cmp_ge {a b : Rat} (h : ¬ a < b) : decide (cmpQ a b < 0) = false := decide_eq_false (fun e => h (cmpQ_neg.1 e))
theorem Rec43 (a b : Rat) (i j : Nat) (most : Int) (hi : dn i = a.den) (hj : dn j = b.den) (hm : most ≤ 200) (la : Sz a 20) (lb : Sz b 20) : ∃ d, dn d = (reckonQ 43 a b most).1.den ∧ AC Tryz.prog 137 [.val (.int .i32 43), RA a.num i, RA b.num j, .val (.int .i64 most)] (.pure (.tup [RA (reckonQ 43 a b most).1.num d, .val (.int .i64 (reckonQ 43 a b most).2)])) := by
 rw [show reckonQ 43 a b most = (a + b, 0) from rfl]
 have hP := QPlus1 a b i j hi hj (la.mono (by decide)) (lb.mono (by decide))
 refine ⟨_, dn_den _, ?_⟩
 refine AC.of_body TTok Tryz.func137 rfl (enter_of Tryz.func137 (by kernel_rfl) (by kernel_rfl)) (noid4 (.val _) (RA_noid _ _) (RA_noid _ _) (.val _)) (.tup _ (noid2 (RA_noid _ _) (.val _))) (nbq rfl) ?_
 revert hP
 generalize a + b = r
 intro hP
 unfold RA rowR at *
 repeat ((conv => whnf); (first | refine ⟨_, ‹_›, ?_⟩ | refine ⟨nbq rfl, _, ‹_›, ?_⟩ | refine ⟨by kernel_rfl, ?_⟩ | exact rfl | exact ⟨nbq rfl, rfl⟩ | refine ⟨by decide, ?_⟩))
theorem Rec45 (a b : Rat) (i j : Nat) (most : Int) (hi : dn i = a.den) (hj : dn j = b.den) (hm : most ≤ 200) (la : Sz a 20) (lb : Sz b 20) : ∃ d, dn d = (reckonQ 45 a b most).1.den ∧ AC Tryz.prog 137 [.val (.int .i32 45), RA a.num i, RA b.num j, .val (.int .i64 most)] (.pure (.tup [RA (reckonQ 45 a b most).1.num d, .val (.int .i64 (reckonQ 45 a b most).2)])) := by
 rw [show reckonQ 45 a b most = (a + -b, 0) from rfl]
 have hM := QMinus_ok b.num j
 rw [hj] at hM
 have hM : AC Tryz.prog 150 [RA b.num j] (.pure (RA (-b).num b.den)) := hM
 have hP := QPlus1 a (-b) i b.den hi (dn_den b) (la.mono (by decide)) ((Sz_neg lb).mono (by decide))
 refine ⟨_, dn_den _, ?_⟩
 refine AC.of_body TTok Tryz.func137 rfl (enter_of Tryz.func137 (by kernel_rfl) (by kernel_rfl)) (noid4 (.val _) (RA_noid _ _) (RA_noid _ _) (.val _)) (.tup _ (noid2 (RA_noid _ _) (.val _))) (nbq rfl) ?_
 revert hP
 generalize a + -b = r
 intro hP
 generalize -b = nb at *
 unfold RA rowR at *
 repeat ((conv => whnf); (first | refine ⟨_, ‹_›, ?_⟩ | refine ⟨nbq rfl, _, ‹_›, ?_⟩ | refine ⟨by kernel_rfl, ?_⟩ | exact rfl | exact ⟨nbq rfl, rfl⟩ | refine ⟨by decide, ?_⟩))
theorem Rec215 (a b : Rat) (i j : Nat) (most : Int) (hi : dn i = a.den) (hj : dn j = b.den) (hm : most ≤ 200) (la : Sz a 20) (lb : Sz b 20) : ∃ d, dn d = (reckonQ 215 a b most).1.den ∧ AC Tryz.prog 137 [.val (.int .i32 215), RA a.num i, RA b.num j, .val (.int .i64 most)] (.pure (.tup [RA (reckonQ 215 a b most).1.num d, .val (.int .i64 (reckonQ 215 a b most).2)])) := by
 rw [show reckonQ 215 a b most = (a * b, 0) from rfl]
 have hP := QTimes1 a b i j hi hj (la.mono (by decide)) (lb.mono (by decide))
 refine ⟨_, dn_den _, ?_⟩
 refine AC.of_body TTok Tryz.func137 rfl (enter_of Tryz.func137 (by kernel_rfl) (by kernel_rfl)) (noid4 (.val _) (RA_noid _ _) (RA_noid _ _) (.val _)) (.tup _ (noid2 (RA_noid _ _) (.val _))) (nbq rfl) ?_
 revert hP
 generalize a * b = r
 intro hP
 unfold RA rowR at *
 repeat ((conv => whnf); (first | refine ⟨_, ‹_›, ?_⟩ | refine ⟨nbq rfl, _, ‹_›, ?_⟩ | refine ⟨by kernel_rfl, ?_⟩ | exact rfl | exact ⟨nbq rfl, rfl⟩ | refine ⟨by decide, ?_⟩))
theorem Rec247 (a b : Rat) (i j : Nat) (most : Int) (hi : dn i = a.den) (hj : dn j = b.den) (hm : most ≤ 200) (la : Sz a 20) (lb : Sz b 20) : ∃ d, dn d = (reckonQ 247 a b most).1.den ∧ AC Tryz.prog 137 [.val (.int .i32 247), RA a.num i, RA b.num j, .val (.int .i64 most)] (.pure (.tup [RA (reckonQ 247 a b most).1.num d, .val (.int .i64 (reckonQ 247 a b most).2)])) := by
 rw [show reckonQ 247 a b most = (if b ≠ 0 then (a / b, 0) else if a = 0 then (1, 0) else (0, 22)) from rfl]
 have hSa := RaSign_ok a.num i
 have hSb := RaSign_ok b.num j
 by_cases hb : b = 0
 ·rw [if_neg (fun h => h hb)]
  have fb := sig_z hb
  by_cases ha : a = 0
  ·rw [if_pos ha]
   have fa := sig_z ha
   have hF := RatFrom_ok 1 (by decide)
   refine ⟨1, rfl, ?_⟩
   show AC Tryz.prog 137 _ (.pure (.tup [RA 1 1, .val (.int .i64 0)]))
   refine AC.of_body TTok Tryz.func137 rfl (enter_of Tryz.func137 (by kernel_rfl) (by kernel_rfl)) (noid4 (.val _) (RA_noid _ _) (RA_noid _ _) (.val _)) (.tup _ (noid2 (RA_noid _ _) (.val _))) (nbq rfl) ?_
   generalize sigW a.num = s at *
   generalize sigW b.num = t at *
   unfold RA at *
   conv => whnf
   refine ⟨_, hSa, ?_⟩
   conv => whnf
   refine cTq (fa) ?_
   conv => whnf
   refine ⟨_, hSb, ?_⟩
   conv => whnf
   refine cTq (fb) ?_
   repeat ((conv => whnf); (first | refine ⟨_, ‹_›, ?_⟩ | refine ⟨nbq rfl, _, ‹_›, ?_⟩ | refine ⟨by kernel_rfl, ?_⟩ | exact rfl | exact ⟨nbq rfl, rfl⟩ | refine ⟨by decide, ?_⟩))
  ·rw [if_neg ha]
   have fa := sig_ne ha
   have hB := By_zero a i j hi (by rw [hj, hb]) (la.mono (by decide))
   rw [← hb] at hB
   refine ⟨0, rfl, ?_⟩
   show AC Tryz.prog 137 _ (.pure (.tup [RA 0 0, .val (.int .i64 22)]))
   refine AC.of_body TTok Tryz.func137 rfl (enter_of Tryz.func137 (by kernel_rfl) (by kernel_rfl)) (noid4 (.val _) (RA_noid _ _) (RA_noid _ _) (.val _)) (.tup _ (noid2 (RA_noid _ _) (.val _))) (nbq rfl) ?_
   generalize sigW a.num = s at *
   unfold RA at *
   conv => whnf
   refine ⟨_, hSa, ?_⟩
   conv => whnf
   refine cFq (fa) ?_
   repeat ((conv => whnf); (first | refine ⟨_, ‹_›, ?_⟩ | refine ⟨nbq rfl, _, ‹_›, ?_⟩ | refine ⟨by kernel_rfl, ?_⟩ | exact rfl | exact ⟨nbq rfl, rfl⟩ | refine ⟨by decide, ?_⟩))
 ·rw [if_pos hb]
  have fb := sig_ne hb
  have hB := By_ok a b i j hi hj (la.mono (by decide)) (lb.mono (by decide)) hb
  refine ⟨_, dn_den _, ?_⟩
  refine AC.of_body TTok Tryz.func137 rfl (enter_of Tryz.func137 (by kernel_rfl) (by kernel_rfl)) (noid4 (.val _) (RA_noid _ _) (RA_noid _ _) (.val _)) (.tup _ (noid2 (RA_noid _ _) (.val _))) (nbq rfl) ?_
  revert hB
  generalize a / b = r
  intro hB
  by_cases ha : a = 0
  ·have fa := sig_z ha
   generalize sigW a.num = s at *
   generalize sigW b.num = t at *
   unfold RA at *
   conv => whnf
   refine ⟨_, hSa, ?_⟩
   conv => whnf
   refine cTq (fa) ?_
   conv => whnf
   refine ⟨_, hSb, ?_⟩
   conv => whnf
   refine cFq (fb) ?_
   repeat ((conv => whnf); (first | refine ⟨_, ‹_›, ?_⟩ | refine ⟨nbq rfl, _, ‹_›, ?_⟩ | refine ⟨by kernel_rfl, ?_⟩ | exact rfl | exact ⟨nbq rfl, rfl⟩ | refine ⟨by decide, ?_⟩))
  ·have fa := sig_ne ha
   generalize sigW a.num = s at *
   unfold RA at *
   conv => whnf
   refine ⟨_, hSa, ?_⟩
   conv => whnf
   refine cFq (fa) ?_
   repeat ((conv => whnf); (first | refine ⟨_, ‹_›, ?_⟩ | refine ⟨nbq rfl, _, ‹_›, ?_⟩ | refine ⟨by kernel_rfl, ?_⟩ | exact rfl | exact ⟨nbq rfl, rfl⟩ | refine ⟨by decide, ?_⟩))
theorem Rec8968 (a b : Rat) (i j : Nat) (most : Int) (hi : dn i = a.den) (hj : dn j = b.den) (hm : most ≤ 200) (la : Sz a 20) (lb : Sz b 20) : ∃ d, dn d = (reckonQ 8968 a b most).1.den ∧ AC Tryz.prog 137 [.val (.int .i32 8968), RA a.num i, RA b.num j, .val (.int .i64 most)] (.pure (.tup [RA (reckonQ 8968 a b most).1.num d, .val (.int .i64 (reckonQ 8968 a b most).2)])) := by
 rw [show reckonQ 8968 a b most = (if a < b then b else a, 0) from rfl]
 have hC := QCmp_ok a b i j hi hj (la.mono (by decide)) (lb.mono (by decide))
 by_cases h : a < b
 ·rw [if_pos h]
  rw [cmp_lt h] at hC
  refine ⟨j, hj, ?_⟩
  refine AC.of_body TTok Tryz.func137 rfl (enter_of Tryz.func137 (by kernel_rfl) (by kernel_rfl)) (noid4 (.val _) (RA_noid _ _) (RA_noid _ _) (.val _)) (.tup _ (noid2 (RA_noid _ _) (.val _))) (nbq rfl) ?_
  unfold RA at *
  repeat ((conv => whnf); (first | refine ⟨_, ‹_›, ?_⟩ | refine ⟨nbq rfl, _, ‹_›, ?_⟩ | refine ⟨by kernel_rfl, ?_⟩ | exact rfl | exact ⟨nbq rfl, rfl⟩ | refine ⟨by decide, ?_⟩))
 ·rw [if_neg h]
  have f1 := cmp_ge h
  refine ⟨i, hi, ?_⟩
  refine AC.of_body TTok Tryz.func137 rfl (enter_of Tryz.func137 (by kernel_rfl) (by kernel_rfl)) (noid4 (.val _) (RA_noid _ _) (RA_noid _ _) (.val _)) (.tup _ (noid2 (RA_noid _ _) (.val _))) (nbq rfl) ?_
  generalize cmpQ a b = s at *
  unfold RA at *
  conv => whnf
  refine ⟨_, hC, ?_⟩
  conv => whnf
  refine cFq (f1) ?_
  repeat ((conv => whnf); (first | refine ⟨_, ‹_›, ?_⟩ | refine ⟨nbq rfl, _, ‹_›, ?_⟩ | refine ⟨by kernel_rfl, ?_⟩ | exact rfl | exact ⟨nbq rfl, rfl⟩ | refine ⟨by decide, ?_⟩))
theorem Rec8970 (a b : Rat) (i j : Nat) (most : Int) (hi : dn i = a.den) (hj : dn j = b.den) (hm : most ≤ 200) (la : Sz a 20) (lb : Sz b 20) : ∃ d, dn d = (reckonQ 8970 a b most).1.den ∧ AC Tryz.prog 137 [.val (.int .i32 8970), RA a.num i, RA b.num j, .val (.int .i64 most)] (.pure (.tup [RA (reckonQ 8970 a b most).1.num d, .val (.int .i64 (reckonQ 8970 a b most).2)])) := by
 rw [show reckonQ 8970 a b most = (if a < b then a else b, 0) from rfl]
 have hC := QCmp_ok a b i j hi hj (la.mono (by decide)) (lb.mono (by decide))
 by_cases h : a < b
 ·rw [if_pos h]
  rw [cmp_lt h] at hC
  refine ⟨i, hi, ?_⟩
  refine AC.of_body TTok Tryz.func137 rfl (enter_of Tryz.func137 (by kernel_rfl) (by kernel_rfl)) (noid4 (.val _) (RA_noid _ _) (RA_noid _ _) (.val _)) (.tup _ (noid2 (RA_noid _ _) (.val _))) (nbq rfl) ?_
  unfold RA at *
  repeat ((conv => whnf); (first | refine ⟨_, ‹_›, ?_⟩ | refine ⟨nbq rfl, _, ‹_›, ?_⟩ | refine ⟨by kernel_rfl, ?_⟩ | exact rfl | exact ⟨nbq rfl, rfl⟩ | refine ⟨by decide, ?_⟩))
 ·rw [if_neg h]
  by_cases he : a = b
  ·have hC0 : cmpQ a b = 0 := cmpQ_eq.2 he
   rw [hC0] at hC
   refine ⟨i, by rw [hi, he], ?_⟩
   rw [show RA b.num i = RA a.num i by rw [he]]
   refine AC.of_body TTok Tryz.func137 rfl (enter_of Tryz.func137 (by kernel_rfl) (by kernel_rfl)) (noid4 (.val _) (RA_noid _ _) (RA_noid _ _) (.val _)) (.tup _ (noid2 (RA_noid _ _) (.val _))) (nbq rfl) ?_
   unfold RA at *
   repeat ((conv => whnf); (first | refine ⟨_, ‹_›, ?_⟩ | refine ⟨nbq rfl, _, ‹_›, ?_⟩ | refine ⟨by kernel_rfl, ?_⟩ | exact rfl | exact ⟨nbq rfl, rfl⟩ | refine ⟨by decide, ?_⟩))
  ·have hC1 : cmpQ a b = 1 := by unfold cmpQ; rw [if_neg h, if_neg he]
   rw [hC1] at hC
   refine ⟨j, hj, ?_⟩
   refine AC.of_body TTok Tryz.func137 rfl (enter_of Tryz.func137 (by kernel_rfl) (by kernel_rfl)) (noid4 (.val _) (RA_noid _ _) (RA_noid _ _) (.val _)) (.tup _ (noid2 (RA_noid _ _) (.val _))) (nbq rfl) ?_
   unfold RA at *
   repeat ((conv => whnf); (first | refine ⟨_, ‹_›, ?_⟩ | refine ⟨nbq rfl, _, ‹_›, ?_⟩ | refine ⟨by kernel_rfl, ?_⟩ | exact rfl | exact ⟨nbq rfl, rfl⟩ | refine ⟨by decide, ?_⟩))
theorem Rec124 (a b : Rat) (i j : Nat) (most : Int) (hi : dn i = a.den) (hj : dn j = b.den) (hm : most ≤ 200) (la : Sz a 20) (lb : Sz b 20) : ∃ d, dn d = (reckonQ 124 a b most).1.den ∧ AC Tryz.prog 137 [.val (.int .i32 124), RA a.num i, RA b.num j, .val (.int .i64 most)] (.pure (.tup [RA (reckonQ 124 a b most).1.num d, .val (.int .i64 (reckonQ 124 a b most).2)])) := by
 rw [show reckonQ 124 a b most = (restQ a b, 0) from rfl]
 by_cases h : a = 0
 ·have hR := Rest_zero b i j (by rw [hi, h]) hj (lb.mono (by decide))
  rw [← h] at hR
  rw [show restQ a b = b from if_pos h]
  refine ⟨j, hj, ?_⟩
  refine AC.of_body TTok Tryz.func137 rfl (enter_of Tryz.func137 (by kernel_rfl) (by kernel_rfl)) (noid4 (.val _) (RA_noid _ _) (RA_noid _ _) (.val _)) (.tup _ (noid2 (RA_noid _ _) (.val _))) (nbq rfl) ?_
  unfold RA at *
  repeat ((conv => whnf); (first | refine ⟨_, ‹_›, ?_⟩ | refine ⟨nbq rfl, _, ‹_›, ?_⟩ | refine ⟨by kernel_rfl, ?_⟩ | exact rfl | exact ⟨nbq rfl, rfl⟩ | refine ⟨by decide, ?_⟩))
 ·have hR := Rest_ok a b i j h hi hj la lb
  refine ⟨_, dn_den _, ?_⟩
  refine AC.of_body TTok Tryz.func137 rfl (enter_of Tryz.func137 (by kernel_rfl) (by kernel_rfl)) (noid4 (.val _) (RA_noid _ _) (RA_noid _ _) (.val _)) (.tup _ (noid2 (RA_noid _ _) (.val _))) (nbq rfl) ?_
  revert hR
  generalize restQ a b = r
  intro hR
  unfold RA at *
  repeat ((conv => whnf); (first | refine ⟨_, ‹_›, ?_⟩ | refine ⟨nbq rfl, _, ‹_›, ?_⟩ | refine ⟨by kernel_rfl, ?_⟩ | exact rfl | exact ⟨nbq rfl, rfl⟩ | refine ⟨by decide, ?_⟩))
theorem Rec42 (a b : Rat) (i j : Nat) (most : Int) (hi : dn i = a.den) (hj : dn j = b.den) (hm : most ≤ 200) (la : Sz a 20) (lb : Sz b 20) : ∃ d, dn d = (reckonQ 42 a b most).1.den ∧ AC Tryz.prog 137 [.val (.int .i32 42), RA a.num i, RA b.num j, .val (.int .i64 most)] (.pure (.tup [RA (reckonQ 42 a b most).1.num d, .val (.int .i64 (reckonQ 42 a b most).2)])) := by
 rw [show reckonQ 42 a b most = powerQ a b most from rfl]
 obtain ⟨d, hd, hP⟩ := Power_ok a b i j most hi hj hm (la.mono (by decide))
 refine ⟨d, hd, ?_⟩
 refine AC.of_body TTok Tryz.func137 rfl (enter_of Tryz.func137 (by kernel_rfl) (by kernel_rfl)) (noid4 (.val _) (RA_noid _ _) (RA_noid _ _) (.val _)) (.tup _ (noid2 (RA_noid _ _) (.val _))) (nbq rfl) ?_
 revert hP
 generalize (powerQ a b most).1 = r
 generalize (powerQ a b most).2 = e
 intro hP
 unfold RA at *
 repeat ((conv => whnf); (first | refine ⟨_, ‹_›, ?_⟩ | refine ⟨nbq rfl, _, ‹_›, ?_⟩ | refine ⟨by kernel_rfl, ?_⟩ | exact rfl | exact ⟨nbq rfl, rfl⟩ | refine ⟨by decide, ?_⟩))
theorem Rec33 (a b : Rat) (i j : Nat) (most : Int) (hi : dn i = a.den) (hj : dn j = b.den) (hm : most ≤ 200) (la : Sz a 20) (lb : Sz b 20) : ∃ d, dn d = (reckonQ 33 a b most).1.den ∧ AC Tryz.prog 137 [.val (.int .i32 33), RA a.num i, RA b.num j, .val (.int .i64 most)] (.pure (.tup [RA (reckonQ 33 a b most).1.num d, .val (.int .i64 (reckonQ 33 a b most).2)])) := by
 rw [show reckonQ 33 a b most = chooseQ a b most from rfl]
 obtain ⟨d, hd, hP⟩ := Choose_ok a b i j most hi hj hm (la.mono (by decide)) (lb.mono (by decide))
 refine ⟨d, hd, ?_⟩
 refine AC.of_body TTok Tryz.func137 rfl (enter_of Tryz.func137 (by kernel_rfl) (by kernel_rfl)) (noid4 (.val _) (RA_noid _ _) (RA_noid _ _) (.val _)) (.tup _ (noid2 (RA_noid _ _) (.val _))) (nbq rfl) ?_
 revert hP
 generalize (chooseQ a b most).1 = r
 generalize (chooseQ a b most).2 = e
 intro hP
 unfold RA at *
 repeat ((conv => whnf); (first | refine ⟨_, ‹_›, ?_⟩ | refine ⟨nbq rfl, _, ‹_›, ?_⟩ | refine ⟨by kernel_rfl, ?_⟩ | exact rfl | exact ⟨nbq rfl, rfl⟩ | refine ⟨by decide, ?_⟩))
theorem Rec9055 (a b : Rat) (i j : Nat) (most : Int) (hi : dn i = a.den) (hj : dn j = b.den) (hm : most ≤ 200) (la : Sz a 20) (lb : Sz b 20) : ∃ d, dn d = (reckonQ 9055 a b most).1.den ∧ AC Tryz.prog 137 [.val (.int .i32 9055), RA a.num i, RA b.num j, .val (.int .i64 most)] (.pure (.tup [RA (reckonQ 9055 a b most).1.num d, .val (.int .i64 (reckonQ 9055 a b most).2)])) := by
 refine ⟨0, rfl, RZ22 ?_⟩
 refine AC.of_body TTok Tryz.func137 rfl (enter_of Tryz.func137 (by kernel_rfl) (by kernel_rfl)) (noid4 (.val _) (RA_noid _ _) (RA_noid _ _) (.val _)) (.tup _ (noid2 RZ_noid (.val _))) (nbq rfl) ?_
 unfold RZ
 repeat ((conv => whnf); (first | refine ⟨_, ‹_›, ?_⟩ | refine ⟨nbq rfl, _, ‹_›, ?_⟩ | refine ⟨by kernel_rfl, ?_⟩ | exact rfl | exact ⟨nbq rfl, rfl⟩ | refine ⟨by decide, ?_⟩))
theorem Rec9675 (a b : Rat) (i j : Nat) (most : Int) (hi : dn i = a.den) (hj : dn j = b.den) (hm : most ≤ 200) (la : Sz a 20) (lb : Sz b 20) : ∃ d, dn d = (reckonQ 9675 a b most).1.den ∧ AC Tryz.prog 137 [.val (.int .i32 9675), RA a.num i, RA b.num j, .val (.int .i64 most)] (.pure (.tup [RA (reckonQ 9675 a b most).1.num d, .val (.int .i64 (reckonQ 9675 a b most).2)])) := by
 refine ⟨0, rfl, RZ22 ?_⟩
 refine AC.of_body TTok Tryz.func137 rfl (enter_of Tryz.func137 (by kernel_rfl) (by kernel_rfl)) (noid4 (.val _) (RA_noid _ _) (RA_noid _ _) (.val _)) (.tup _ (noid2 RZ_noid (.val _))) (nbq rfl) ?_
 unfold RZ
 repeat ((conv => whnf); (first | refine ⟨_, ‹_›, ?_⟩ | refine ⟨nbq rfl, _, ‹_›, ?_⟩ | refine ⟨by kernel_rfl, ?_⟩ | exact rfl | exact ⟨nbq rfl, rfl⟩ | refine ⟨by decide, ?_⟩))
theorem Reckon_ok (a b : Rat) (i j : Nat) (most : Int) (hi : dn i = a.den) (hj : dn j = b.den) (hm : most ≤ 200) (la : Sz a 20) (lb : Sz b 20) (c : Int) (hc : isRec c) : ∃ d, dn d = (reckonQ c a b most).1.den ∧ AC Tryz.prog 137 [.val (.int .i32 c), RA a.num i, RA b.num j, .val (.int .i64 most)] (.pure (.tup [RA (reckonQ c a b most).1.num d, .val (.int .i64 (reckonQ c a b most).2)])) := by
 rcases hc with rfl | rfl | rfl | rfl | rfl | rfl | rfl | rfl | rfl | rfl | rfl
 ·exact Rec43 a b i j most hi hj hm la lb
 ·exact Rec45 a b i j most hi hj hm la lb
 ·exact Rec215 a b i j most hi hj hm la lb
 ·exact Rec247 a b i j most hi hj hm la lb
 ·exact Rec8968 a b i j most hi hj hm la lb
 ·exact Rec8970 a b i j most hi hj hm la lb
 ·exact Rec124 a b i j most hi hj hm la lb
 ·exact Rec42 a b i j most hi hj hm la lb
 ·exact Rec33 a b i j most hi hj hm la lb
 ·exact Rec9055 a b i j most hi hj hm la lb
 ·exact Rec9675 a b i j most hi hj hm la lb
end
section
def twoQ (c : Int) (a b : Rat) (most : Int) : Rat × Int :=
 if isCmp c then (tq (cmpS c (cmpQ a b)), 0)
 else if isJdg c then judgeQ c a b
 else if ¬ isRec c then (0, 20)
 else if (reckonQ c a b most).2 ≠ 0 then (0, (reckonQ c a b most).2)
 else if most < (qLimbs (reckonQ c a b most).1.num (reckonQ c a b most).1.den : Nat) then (0, 26)
 else ((reckonQ c a b most).1, 0)
theorem Sz_one : Sz 1 1 := Sz_small (by decide) (by decide)
section
variable (c : Int) (a b : Rat) (i j : Nat) (most : Int) (hi : dn i = a.den) (hj : dn j = b.den) (hm : most ≤ 200) (la : Sz a 20) (lb : Sz b 20)
include hi hj hm la lb
theorem Two_ok : ∃ d, dn d = (twoQ c a b most).1.den ∧ AC Tryz.prog 114 [.val (.int .i32 c), RA a.num i, RA b.num j, .val (.int .i64 most)] (.pure (.tup [RA (twoQ c a b most).1.num d, .val (.int .i64 (twoQ c a b most).2)])) := by
 unfold twoQ
 have hC := compares_ok c
 have hJ := judges_ok c
 have hR := reckons_ok c
 by_cases h1 : isCmp c
 ·rw [if_pos h1]
  rw [decide_eq_true h1] at hC
  have hQ := QCmp_ok a b i j hi hj (la.mono (by decide)) (lb.mono (by decide))
  have hS := Compare_ok c (cmpQ a b)
  have hT := truth_ok (cmpS c (cmpQ a b))
  refine ⟨_, td_dn _, ?_⟩
  refine AC.of_body TTok Tryz.func114 rfl (enter_of Tryz.func114 (by kernel_rfl) (by kernel_rfl)) (noid4 (.val _) (RA_noid _ _) (RA_noid _ _) (.val _)) (.tup _ (noid2 (RA_noid _ _) (.val _))) (nbq rfl) ?_
  revert hQ hS hT
  generalize cmpS c (cmpQ a b) = t
  generalize cmpQ a b = n
  intro hQ hS hT
  generalize td t = e at *
  generalize (tq t).num = f at *
  unfold RA at *
  repeat ((conv => whnf); (first | refine ⟨_, ‹_›, ?_⟩ | refine ⟨nbq rfl, _, ‹_›, ?_⟩ | refine ⟨by kernel_rfl, ?_⟩ | exact rfl | exact ⟨nbq rfl, rfl⟩ | refine ⟨by decide, ?_⟩))
 rw [if_neg h1]
 rw [decide_eq_false h1] at hC
 by_cases h2 : isJdg c
 ·rw [if_pos h2]
  rw [decide_eq_true h2] at hJ
  obtain ⟨d, hd, hP⟩ := judge_ok c h2 a b i j hi hj (la.mono (by decide)) (lb.mono (by decide))
  refine ⟨d, hd, ?_⟩
  refine AC.of_body TTok Tryz.func114 rfl (enter_of Tryz.func114 (by kernel_rfl) (by kernel_rfl)) (noid4 (.val _) (RA_noid _ _) (RA_noid _ _) (.val _)) (.tup _ (noid2 (RA_noid _ _) (.val _))) (nbq rfl) ?_
  revert hP
  generalize (judgeQ c a b).1 = r
  generalize (judgeQ c a b).2 = e
  intro hP
  unfold RA at *
  repeat ((conv => whnf); (first | refine ⟨_, ‹_›, ?_⟩ | refine ⟨nbq rfl, _, ‹_›, ?_⟩ | refine ⟨by kernel_rfl, ?_⟩ | exact rfl | exact ⟨nbq rfl, rfl⟩ | refine ⟨by decide, ?_⟩))
 rw [if_neg h2]
 rw [decide_eq_false h2] at hJ
 by_cases h3 : isRec c
 rotate_left
 ·rw [if_pos h3]
  rw [decide_eq_false h3] at hR
  refine ⟨0, rfl, RZ22 ?_⟩
  refine AC.of_body TTok Tryz.func114 rfl (enter_of Tryz.func114 (by kernel_rfl) (by kernel_rfl)) (noid4 (.val _) (RA_noid _ _) (RA_noid _ _) (.val _)) (.tup _ (noid2 RZ_noid (.val _))) (nbq rfl) ?_
  unfold RA RZ at *
  repeat ((conv => whnf); (first | refine ⟨_, ‹_›, ?_⟩ | refine ⟨nbq rfl, _, ‹_›, ?_⟩ | refine ⟨by kernel_rfl, ?_⟩ | exact rfl | exact ⟨nbq rfl, rfl⟩ | refine ⟨by decide, ?_⟩))
 rw [if_neg (fun h => h h3)]
 rw [decide_eq_true h3] at hR
 obtain ⟨d, hd, hP⟩ := Reckon_ok a b i j most hi hj hm la lb c h3
 have hL := QLimbs_ok (reckonQ c a b most).1.num d
 rw [hd] at hL
 revert hd hP hL
 generalize (reckonQ c a b most).1 = r
 generalize (reckonQ c a b most).2 = e
 intro hd hP hL
 by_cases he : e = 0
 rotate_left
 ·rw [if_pos he]
  have f1 : (e == 0) = false := beq_false_of_ne he
  have f2 : (e != 0) = true := by rw [bne, f1]; rfl
  refine ⟨0, rfl, RZ22 ?_⟩
  refine AC.of_body TTok Tryz.func114 rfl (enter_of Tryz.func114 (by kernel_rfl) (by kernel_rfl)) (noid4 (.val _) (RA_noid _ _) (RA_noid _ _) (.val _)) (.tup _ (noid2 RZ_noid (.val _))) (nbq rfl) ?_
  unfold RA RZ at *
  conv => whnf
  refine ⟨_, hC, ?_⟩
  conv => whnf
  refine ⟨_, hJ, ?_⟩
  conv => whnf
  refine ⟨_, hR, ?_⟩
  conv => whnf
  refine ⟨_, hP, ?_⟩
  conv => whnf
  refine cFq (f1) ?_
  conv => whnf
  refine cTq (f2) ?_
  repeat ((conv => whnf); (first | refine ⟨_, ‹_›, ?_⟩ | refine ⟨nbq rfl, _, ‹_›, ?_⟩ | refine ⟨by kernel_rfl, ?_⟩ | exact rfl | exact ⟨nbq rfl, rfl⟩ | refine ⟨by decide, ?_⟩))
 rw [if_neg (fun h => h he)]
 subst he
 by_cases hq : most < (qLimbs r.num r.den : Nat)
 ·rw [if_pos hq]
  have f1 : decide (((qLimbs r.num r.den : Nat) : Int) > most) = true := decide_eq_true hq
  refine ⟨0, rfl, RZ22 ?_⟩
  refine AC.of_body TTok Tryz.func114 rfl (enter_of Tryz.func114 (by kernel_rfl) (by kernel_rfl)) (noid4 (.val _) (RA_noid _ _) (RA_noid _ _) (.val _)) (.tup _ (noid2 RZ_noid (.val _))) (nbq rfl) ?_
  generalize ((qLimbs r.num r.den : Nat) : Int) = n at *
  unfold RA RZ at *
  conv => whnf
  refine ⟨_, hC, ?_⟩
  conv => whnf
  refine ⟨_, hJ, ?_⟩
  conv => whnf
  refine ⟨_, hR, ?_⟩
  conv => whnf
  refine ⟨_, hP, ?_⟩
  conv => whnf
  refine ⟨_, hL, ?_⟩
  conv => whnf
  refine cTq (f1) ?_
  repeat ((conv => whnf); (first | refine ⟨_, ‹_›, ?_⟩ | refine ⟨nbq rfl, _, ‹_›, ?_⟩ | refine ⟨by kernel_rfl, ?_⟩ | exact rfl | exact ⟨nbq rfl, rfl⟩ | refine ⟨by decide, ?_⟩))
 ·rw [if_neg hq]
  have f1 : decide (((qLimbs r.num r.den : Nat) : Int) > most) = false := decide_eq_false hq
  refine ⟨d, hd, ?_⟩
  refine AC.of_body TTok Tryz.func114 rfl (enter_of Tryz.func114 (by kernel_rfl) (by kernel_rfl)) (noid4 (.val _) (RA_noid _ _) (RA_noid _ _) (.val _)) (.tup _ (noid2 (RA_noid _ _) (.val _))) (nbq rfl) ?_
  generalize ((qLimbs r.num r.den : Nat) : Int) = n at *
  unfold RA at *
  conv => whnf
  refine ⟨_, hC, ?_⟩
  conv => whnf
  refine ⟨_, hJ, ?_⟩
  conv => whnf
  refine ⟨_, hR, ?_⟩
  conv => whnf
  refine ⟨_, hP, ?_⟩
  conv => whnf
  refine ⟨_, hL, ?_⟩
  conv => whnf
  refine cFq (f1) ?_
  repeat ((conv => whnf); (first | refine ⟨_, ‹_›, ?_⟩ | refine ⟨nbq rfl, _, ‹_›, ?_⟩ | refine ⟨by kernel_rfl, ?_⟩ | exact rfl | exact ⟨nbq rfl, rfl⟩ | refine ⟨by decide, ?_⟩))
end
end
section
theorem kinds_len {sh : List Int} {ch : Bool} {a b : Nat} (h : kinds sh ch a b) : ((a + b : Nat) : Int) = cntI sh ∧ (if ch then a else b) = a + b := by
 unfold kinds at h
 cases ch with
 | true =>
  have h : (a : Int) = cntI sh ∧ b = 0 := h
  exact ⟨by omega, by show a = a + b; omega⟩
 | false =>
  have h : (b : Int) = cntI sh ∧ a = 0 := h
  exact ⟨by omega, by show b = a + b; omega⟩
def ix (one : Bool) (i : Nat) : Nat := if one then 0 else i
theorem fit_idx {sa sb : List Int} {la lb : Nat} (ha : (la : Int) = cntI sa) (hb : (lb : Int) = cntI sb) (va : vS sa) (vb : vS sb) (he : (fitS sa sb la lb).2.2.2 = 0) :
  vS (fitS sa sb la lb).1 ∧ (cntI (fitS sa sb la lb).1 = la ∨ cntI (fitS sa sb la lb).1 = lb) ∧ ∀ i : Nat, (i : Int) < cntI (fitS sa sb la lb).1 → ix (fitS sa sb la lb).2.1 i < la ∧ ix (fitS sa sb la lb).2.2.1 i < lb := by
 unfold fitS at *
 by_cases hs : sa = sb
 ·rw [if_pos hs] at he ⊢
  subst hs
  exact ⟨va, .inl ha.symm, fun i hi => ⟨by have hi : (i : Int) < cntI sa := hi; show i < la; omega, by have hi : (i : Int) < cntI sa := hi; show i < lb; omega⟩⟩
 ·rw [if_neg hs] at he ⊢
  by_cases h1 : la = 1 ∧ (lb ≠ 1 ∨ sa.length < sb.length)
  ·rw [if_pos h1] at he ⊢
   exact ⟨vb, .inr hb.symm, fun i hi => ⟨by show 0 < la; omega, by have hi : (i : Int) < cntI sb := hi; show i < lb; omega⟩⟩
  ·rw [if_neg h1] at he ⊢
   by_cases h2 : lb = 1
   ·rw [if_pos h2] at he ⊢
    exact ⟨va, .inl ha.symm, fun i hi => ⟨by have hi : (i : Int) < cntI sa := hi; show i < la; omega, by show 0 < lb; omega⟩⟩
   ·rw [if_neg h2] at he
    split at he
    ·exact absurd he (by decide)
    ·exact absurd he (by decide)
def denX : Option (Rat × Nat) → Nat
 | none => 0
 | some p => p.2
theorem denX_ok {o : Option (Rat × Nat)} (h : okX o) : dn (denX o) = (valX o).den := by
 cases o with
 | none => rfl
 | some p => exact h
theorem rowX_le (o : Option (Rat × Nat)) : AVle (.agg (rowX o)) (RA (valX o).num (denX o)) := by
 cases o with
 | none => exact RZ_le
 | some p => exact .refl _
theorem getD_val (na : List (Option (Rat × Nat))) (k : Nat) : (na.map valX).getD k 0 = valX (na.getD k none) := by
 rw [List.getD_eq_getElem?_getD, List.getD_eq_getElem?_getD, List.getElem?_map]
 cases na[k]? <;> rfl
theorem RatY_ok (sh : List Int) (ch : Bool) (tx : List Int) (na : List (Option (Rat × Nat))) (k : Nat) (hk : k < na.length) (hb : na.length ≤ 1000) : AC Tryz.prog 22 [AA sh ch tx na true, .val (.int .i64 (k : Int))] (.pure (RA ((na.map valX).getD k 0).num (denX (na.getD k none)))) := by
 have h := RatI_ok sh ch tx na true k hk (by omega)
 rw [getD_val, List.getD_eq_getElem?_getD, List.getElem?_eq_getElem hk]
 exact AC.le_res h (rowX_le _) (RA_noid _ _)
theorem RuneX_ok (sh : List Int) (ch : Bool) (tx : List Int) (ns : List (Option (Rat × Nat))) (k : Nat) (hk : k < tx.length) (hb : tx.length ≤ 1000) : AC Tryz.prog 133 [AA sh ch tx ns true, .val (.int .i64 (k : Int))] (.pure (.val (.int .i32 (tx.getD k 0)))) := by
 have h := RuneI_ok sh ch tx ns true k hk (by omega)
 rw [List.getD_eq_getElem?_getD, List.getElem?_eq_getElem hk]
 exact h
theorem atX_ok (i : Nat) (one : Bool) : AC Tryz.prog 115 [.val (.int .i64 (i : Int)), .val (.bool one)] (.pure (.val (.int .i64 ((ix one i : Nat) : Int)))) := by
 have h := at_ok (i : Int) one
 cases one
 ·exact h
 ·exact h
def elemF (c : Int) (ca cb : Bool) (ta tb : List Int) (qa qb : List Rat) (one two : Bool) (most : Int) (i : Nat) : Rat × Int :=
 if ca = true ∨ cb = true then
  if c = 61 ∨ c = 8800 then (if (ca && cb && decide (ta.getD (ix one i) 0 = tb.getD (ix two i) 0)) = decide (c = 61) then 1 else 0, 0) else (0, 22)
 else twoQ c (qa.getD (ix one i) 0) (qb.getD (ix two i) 0) most
end
section
theorem rep_drop {α : Type} (x : α) (n i : Nat) (h : i < n) : (List.replicate (n - i) x) = x :: List.replicate (n - (i + 1)) x := by
 rw [show n - i = (n - (i + 1)) + 1 by omega, List.replicate_succ]
theorem rowsM_noid (l : List (Option (Rat × Nat))) (k : Nat) : ∀ r ∈ l.map rowX ++ List.replicate k (rowX none), ∀ x ∈ r, NoId x := by
 intro r hr
 rcases List.mem_append.1 hr with h | h
 ·exact rowsX_noid l r h
 ·refine rowsX_noid [none] r ?_
  rw [(List.mem_replicate.1 h).2]
  exact List.mem_singleton.2 rfl
theorem Two_loop (c : Int) (hc : isTwo c) (sa sb : List Int) (ta tb : List Int) (na nb : List (Option (Rat × Nat))) (qa qb : List Rat) (na1 : na.map valX = qa) (nb1 : nb.map valX = qb) (most : Int) (s : List Int) (one two : Bool) (n : Nat) (hn : n ≤ 1000) (hv : vS s) (hcn : cntI s = (n : Int))
  (hfit : AC Tryz.prog 112 [AA sa false ta na true, AA sb false tb nb true] (.pure (FV (s, one, two, 0))))
  (hix : ∀ i : Nat, i < n → ix one i < qa.length ∧ ix two i < qb.length) (la : qa.length ≤ 1000) (lb : qb.length ≤ 1000)
  (D : Nat → Nat) (f : Nat → Rat × Int)
  (hD : ∀ i < n, dn (D i) = (f i).1.den ∧ AC Tryz.prog 114 [.val (.int .i32 c), RA (qa.getD (ix one i) 0).num (denX (na.getD (ix one i) none)), RA (qb.getD (ix two i) 0).num (denX (nb.getD (ix two i) none)), .val (.int .i64 most)] (.pure (.tup [RA (f i).1.num (D i), .val (.int .i64 (f i).2)])))
  (E : Int) (hE : E = firstE ((List.range n).map f)) :
  AC Tryz.prog 87 [.val (.int .i32 c), AA sa false ta na true, AA sb false tb nb true, .val (.int .i64 most)] (.pure (if E = 0 then .tup [AA s false [] ((List.range n).map fun i => some ((f i).1, D i)) true, .val (.int .i64 0)] else .tup [AZ, .val (.int .i64 E)])) := by
 have hH := Has_ok c
 rw [decide_eq_true hc] at hH
 have hIa := IsChar_ok sa false ta na true
 have hIb := IsChar_ok sb false tb nb true
 have hC := Count_ok s (by have := hv.1; omega)
 rw [CNT_good hv, hcn] at hC
 obtain ⟨Y, hY⟩ : ∃ Y : List (Option (Rat × Nat)), Y = (List.range n).map fun i => some ((f i).1, D i) := ⟨_, rfl⟩
 rw [← hY]
 have l1 : Y.length = n := by rw [hY, List.length_map, List.length_range]
 have hYi : ∀ i (h : i < n), Y[i]'(by omega) = some ((f i).1, D i) := fun i h => by subst hY; rw [List.getElem_map, List.getElem_range]
 have hN := Nums_ok s Y hv (by rw [l1]; exact hcn) (by omega)
 obtain ⟨res, hres⟩ : ∃ res : AV, res = if E = 0 then .tup [AA s false [] Y true, .val (.int .i64 0)] else .tup [AZ, .val (.int .i64 E)] := ⟨_, rfl⟩
 rw [← hres]
 have hnr : NoId res := by
  rw [hres]; split
  ·exact .tup _ (noid2 (AA_noid _ _ _ _ _) (.val _))
  ·exact AZt_noid _
 refine AC.of_body TTok Tryz.func87 rfl (enter_of Tryz.func87 (by kernel_rfl) (by kernel_rfl)) (noidF (.val _) (AA_noid _ _ _ _ _) (AA_noid _ _ _ _ _) (.val _)) hnr (nbq rfl) ?_
 have lrep : ∀ k, (List.replicate k (rowX none)).length = k := fun k => List.length_replicate
 have hA1 : ∀ i < n, AC Tryz.prog 22 [AA sa false ta na true, .val (.int .i64 ((ix one i : Nat) : Int))] (.pure (RA (qa.getD (ix one i) 0).num (denX (na.getD (ix one i) none)))) := fun i hi => by
  have h := RatY_ok sa false ta na (ix one i) (by have := (hix i hi).1; rw [← na1, List.length_map] at this; exact this) (by rw [← na1, List.length_map] at la; exact la)
  rw [na1] at h; exact h
 have hB1 : ∀ i < n, AC Tryz.prog 22 [AA sb false tb nb true, .val (.int .i64 ((ix two i : Nat) : Int))] (.pure (RA (qb.getD (ix two i) 0).num (denX (nb.getD (ix two i) none)))) := fun i hi => by
  have h := RatY_ok sb false tb nb (ix two i) (by have := (hix i hi).2; rw [← nb1, List.length_map] at this; exact this) (by rw [← nb1, List.length_map] at lb; exact lb)
  rw [nb1] at h; exact h
 unfold FV AA at hfit
 unfold AA at hIa hIb hA1 hB1 ⊢
 have start : ∀ (P : Prop), P → P := fun _ h => h
 by_cases hn0 : n = 0
 ·subst hn0
  have hY0 : Y = [] := List.length_eq_zero_iff.1 l1
  have hE0 : E = 0 := by rw [hE]; rfl
  rw [if_pos hE0] at hres
  subst hres
  rw [hY0] at hN ⊢
  conv => whnf
  refine ⟨_, hH, ?_⟩
  conv => whnf
  refine ⟨_, hfit, ?_⟩
  conv => whnf
  refine ⟨_, hC, ?_⟩
  conv => whnf
  refine ⟨by decide, ?_⟩
  conv => whnf
  refine SW.loopM TTok (fun _ : Unit => [(8, .lp 16 0), (10, .sl 1 (irows .i64 s) false), (16, .own 312 0 0), (65, .val (.int .i64 0)), (66, .val (.int .i64 0))]) (fun _ => [(16, .cells 5 [[.sl 0 [] true, .val (.bool false), .sl 0 [] true, .sl 0 [] true, .val (.bool false)]]), (312, .cells 3 [])]) 352 101 rfl (fun _ => 0) (fun _ => True) () [] trivial
   ⟨q2r, q2r, q2r, q2r, q2r, trivial⟩ ⟨q3r, q3r, trivial⟩ rfl ?_
  intro _ _
  unfold AA at hN ⊢
  conv => whnf
  refine ⟨Nat.le_refl _, _, hN, ?_⟩
  repeat ((conv => whnf); (first | refine ⟨_, ‹_›, ?_⟩ | refine ⟨nbq rfl, _, ‹_›, ?_⟩ | refine ⟨by kernel_rfl, ?_⟩ | exact rfl | exact ⟨nbq rfl, rfl⟩ | refine ⟨by decide, ?_⟩))
 ·conv => whnf
  refine ⟨_, hH, ?_⟩
  conv => whnf
  refine ⟨_, hfit, ?_⟩
  conv => whnf
  refine ⟨_, hC, ?_⟩
  conv => whnf
  first | refine oTq (by omega) ?_ | refine oFq (by omega) ?_ | refine oEq (by omega) ?_ | refine oNq (by omega) ?_
  conv => whnf
  refine ⟨_, hIa, ?_⟩
  conv => whnf
  refine ⟨_, hIb, ?_⟩
  conv => whnf
  refine ⟨by show 0 ≤ (n:Int) ∧ (n:Int) ≤ n ∧ (n:Int) * 56 ≤ 140737488355328; omega, ?_⟩
  conv => whnf
  refine SW.loopM TTok (fun i : Nat => [(0, .val (.int .i32 c)), (3, .val (.int .i64 most)), (5, .lp 0 0), (6, .lp 8 0), (8, .lp 16 0), (10, .sl 1 (irows .i64 s) false), (11, .val (.bool one)), (12, .val (.bool two)), (16, .own 312 0 n), (65, .val (.int .i64 (n : Int))), (66, .val (.int .i64 (i : Int)))])
   (fun i => [(0, .cells 5 [[.sl 1 (irows .i64 sa) false, .val (.bool false), .sl 1 (irows .i32 ta) false, .sl 3 (na.map rowX) false, .val (.bool true)]]), (8, .cells 5 [[.sl 1 (irows .i64 sb) false, .val (.bool false), .sl 1 (irows .i32 tb) false, .sl 3 (nb.map rowX) false, .val (.bool true)]]), (16, .cells 5 [[.sl 0 [] true, .val (.bool false), .sl 0 [] true, .sl 0 [] true, .val (.bool false)]]), (312, .cells 3 ((Y.take i).map rowX ++ List.replicate (n - i) (rowX none)))]) 352 101 rfl (fun i => n - i) (fun i => i ≤ n ∧ ∀ j < i, (f j).2 = 0) 0 [] ⟨Nat.zero_le _, fun x hx => absurd hx (Nat.not_lt_zero _)⟩
   ⟨q2r, q2r, q2r, q2r, q2r, q2r, q2r, q2r, q2r, q2r, q2r, trivial⟩ ⟨q3r, q3r, q3r, ⟨rfl, .inl ⟨rfl, rowsM_noid _ _⟩⟩, trivial⟩ rfl ?_
  intro i hJ
  have hi : i ≤ n := hJ.1
  have hz : ∀ j < i, (f j).2 = 0 := hJ.2
  clear hJ
  have ltk : ((Y.take i).map rowX).length = i := by rw [List.length_map, List.length_take]; omega
  have lr : ((Y.take i).map rowX ++ List.replicate (n - i) (rowX none)).length = n := by
   rw [List.length_append, ltk, List.length_replicate]; omega
  by_cases hlt : i < n
  ·have eI : IntKind.i64.wrap ((i : Int) + 1) = ((i + 1 : Nat) : Int) := by rw [IntWalk.i64_in _ (by omega)]; omega
   have hA := hA1 i hlt
   have hB := hB1 i hlt
   have hta := atX_ok i one
   have htb := atX_ok i two
   obtain ⟨d1, d2⟩ := hD i hlt
   have hset : ((Y.take i).map rowX ++ List.replicate (n - i) (rowX none)).set i (rowX (some ((f i).1, D i))) = (Y.take (i + 1)).map rowX ++ List.replicate (n - (i + 1)) (rowX none) := by
    rw [rep_drop _ n i hlt, take_snoc (show i < Y.length by omega), hYi i hlt]
    have := set_mid ((Y.take i).map rowX) (rowX none) (rowX (some ((f i).1, D i))) (List.replicate (n - (i + 1)) (rowX none))
    rw [ltk] at this
    rw [this]; simp
   by_cases he : (f i).2 = 0
   ·rw [he] at d2
    unfold RA at d2 hA hB
    conv => whnf
    first | refine oTq (by omega) ?_ | refine oFq (by omega) ?_ | refine oEq (by omega) ?_ | refine oNq (by omega) ?_
    conv => whnf
    refine ⟨_, hta, ?_⟩
    conv => whnf
    refine ⟨_, hA, ?_⟩
    conv => whnf
    refine ⟨_, htb, ?_⟩
    conv => whnf
    refine ⟨_, hB, ?_⟩
    conv => whnf
    refine ⟨_, d2, ?_⟩
    conv => whnf
    refine ⟨by kernel_rfl, ?_⟩
    conv => whnf
    refine ⟨by omega, ?_⟩
    conv => whnf
    refine ⟨by rw [Nat.zero_add, Int.toNat_natCast]; omega, ?_⟩
    conv => whnf
    refine ⟨i + 1, [], (by show n - (i + 1) < n - i; omega), ⟨hlt, fun j hj => ?_⟩, ⟨q2r, q2r, q2r, q2r, q2r, q2r, q2r, q2r, q2r, q2r, ⟨valI eI, rfl⟩, trivial⟩, ⟨q3r, q3r, q3r, ⟨rfl, .inl ⟨celE ?_, rowsM_noid _ _⟩⟩, trivial⟩, rfl⟩
    ·by_cases hji : j = i
     ·rw [hji]; exact he
     ·exact hz j (by omega)
    ·rw [← hset]
     show List.set _ (0 + (i : Int).toNat) _ = _
     rw [Nat.zero_add, Int.toNat_natCast]
     rfl
   ·have hEe : E = (f i).2 := by
     rw [hE]
     have := firstE_at (l := (List.range n).map f) (i := i) (by rw [List.length_map, List.length_range]; exact hlt) (fun x hx => by
      rw [← List.map_take] at hx
      obtain ⟨q, hq, rfl⟩ := List.mem_map.1 hx
      refine hz q ?_
      rw [List.take_range] at hq
      have := List.mem_range.1 hq
      omega) (by rw [List.getElem_map, List.getElem_range]; exact he)
     rw [this, List.getElem_map, List.getElem_range]
    rw [if_neg (by rw [hEe]; exact he), hEe] at hres
    subst hres
    unfold RA at d2 hA hB
    conv => whnf
    first | refine oTq (by omega) ?_ | refine oFq (by omega) ?_ | refine oEq (by omega) ?_ | refine oNq (by omega) ?_
    conv => whnf
    refine ⟨_, hta, ?_⟩
    conv => whnf
    refine ⟨_, hA, ?_⟩
    conv => whnf
    refine ⟨_, htb, ?_⟩
    conv => whnf
    refine ⟨_, hB, ?_⟩
    conv => whnf
    refine ⟨_, d2, ?_⟩
    conv => whnf
    refine ⟨by kernel_rfl, ?_⟩
    conv => whnf
    first | refine nTq (by omega) ?_ | refine nFq (by omega) ?_
    repeat ((conv => whnf); (first | refine ⟨_, ‹_›, ?_⟩ | refine ⟨nbq rfl, _, ‹_›, ?_⟩ | refine ⟨by kernel_rfl, ?_⟩ | exact rfl | exact ⟨nbq rfl, rfl⟩ | refine ⟨by decide, ?_⟩))
  ·have hie : i = n := by omega
   have hE0 : E = 0 := by
    rw [hE]
    refine firstE_zero (fun x hx => ?_)
    obtain ⟨q, hq, rfl⟩ := List.mem_map.1 hx
    exact hz q (by have := List.mem_range.1 hq; omega)
   rw [if_pos hE0] at hres
   subst hres
   have e1 : (Y.take i).map rowX ++ List.replicate (n - i) (rowX none) = Y.map rowX := by
    rw [hie, List.take_of_length_le (by omega), Nat.sub_self, List.replicate_zero, List.append_nil]
   rw [e1]
   have key : List.take n (List.drop 0 (Y.map rowX)) = Y.map rowX := by rw [List.drop_zero, List.take_of_length_le (by rw [List.length_map]; omega)]
   conv => whnf
   first | refine oTq (by omega) ?_ | refine oFq (by omega) ?_ | refine oEq (by omega) ?_ | refine oNq (by omega) ?_
   conv => whnf
   rw [key]
   have lY : (Y.map rowX).length = n := by rw [List.length_map]; exact l1
   unfold AA at *
   refine ⟨by show 0 + n ≤ (Y.map rowX).length; omega, _, hN, ?_⟩
   repeat ((conv => whnf); (first | refine ⟨_, ‹_›, ?_⟩ | refine ⟨nbq rfl, _, ‹_›, ?_⟩ | refine ⟨by kernel_rfl, ?_⟩ | exact rfl | exact ⟨nbq rfl, rfl⟩ | refine ⟨by decide, ?_⟩))
end
section
def smE (ca cb : Bool) (ta tb : List Int) (one two : Bool) (i : Nat) : Bool := ca && cb && decide (ta.getD (ix one i) 0 = tb.getD (ix two i) 0)
def chE (c : Int) (ca cb : Bool) (ta tb : List Int) (one two : Bool) (i : Nat) : Option (Rat × Nat) := if smE ca cb ta tb one two i = decide (c = 61) then some (1, 1) else none
theorem noid6 {a b c d e f : AV} (h1 : NoId a) (h2 : NoId b) (h3 : NoId c) (h4 : NoId d) (h5 : NoId e) (h6 : NoId f) : ∀ x ∈ [a, b, c, d, e, f], NoId x := by
 intro x hx
 simp only [List.mem_cons, List.not_mem_nil, or_false] at hx
 rcases hx with rfl | rfl | rfl | rfl | rfl | rfl <;> assumption
theorem chars_61 (sa sb : List Int) (ca cb : Bool) (ta tb : List Int) (na nb : List (Option (Rat × Nat))) (s : List Int) (one two : Bool) (n : Nat) (hn : n ≤ 5000) (hv : vS s) (hcn : cntI s = (n : Int))
  (hix : ∀ i : Nat, i < n → (ca = true → ix one i < ta.length) ∧ (cb = true → ix two i < tb.length)) (la : ta.length ≤ 1000) (lb : tb.length ≤ 1000) :
  AC Tryz.prog 113 [.val (.int .i32 61), AA sa ca ta na true, AA sb cb tb nb true, .sl 1 (irows .i64 s) false, .val (.bool one), .val (.bool two)] (.pure (.tup [AA s false [] ((List.range n).map (chE 61 ca cb ta tb one two)) true, .val (.int .i64 0)])) := by
 have hIa := IsChar_ok sa ca ta na true
 have hIb := IsChar_ok sb cb tb nb true
 have hC := Count_ok s (by have := hv.1; omega)
 rw [CNT_good hv, hcn] at hC
 obtain ⟨Y, hY⟩ : ∃ Y : List (Option (Rat × Nat)), Y = (List.range n).map (chE 61 ca cb ta tb one two) := ⟨_, rfl⟩
 rw [← hY]
 have l1 : Y.length = n := by rw [hY, List.length_map, List.length_range]
 have hYi : ∀ i (h : i < n), Y[i]'(by omega) = chE 61 ca cb ta tb one two i := fun i h => by subst hY; rw [List.getElem_map, List.getElem_range]
 have hN := Nums_ok s Y hv (by rw [l1]; exact hcn) (by omega)
 have hF := RatFrom_ok 1 (by decide)
 refine AC.of_body TTok Tryz.func113 rfl (enter_of Tryz.func113 (by kernel_rfl) (by kernel_rfl)) (noid6 (.val _) (AA_noid _ _ _ _ _) (AA_noid _ _ _ _ _) (noid_sl _ _ _) (.val _) (.val _)) (.tup _ (noid2 (AA_noid _ _ _ _ _) (.val _))) (nbq rfl) ?_
 have hA1 : ∀ i < n, ca = true → AC Tryz.prog 133 [AA sa ca ta na true, .val (.int .i64 ((ix one i : Nat) : Int))] (.pure (.val (.int .i32 (ta.getD (ix one i) 0)))) := fun i hi h => RuneX_ok sa ca ta na _ ((hix i hi).1 h) la
 have hB1 : ∀ i < n, cb = true → AC Tryz.prog 133 [AA sb cb tb nb true, .val (.int .i64 ((ix two i : Nat) : Int))] (.pure (.val (.int .i32 (tb.getD (ix two i) 0)))) := fun i hi h => RuneX_ok sb cb tb nb _ ((hix i hi).2 h) lb
 have u1 : AA sa ca ta na true = .agg [.sl 1 (irows .i64 sa) false, .val (.bool ca), .sl 1 (irows .i32 ta) false, .sl 3 (na.map rowX) false, .val (.bool true)] := rfl
 have u2 : AA sb cb tb nb true = .agg [.sl 1 (irows .i64 sb) false, .val (.bool cb), .sl 1 (irows .i32 tb) false, .sl 3 (nb.map rowX) false, .val (.bool true)] := rfl
 rw [u1] at hIa hA1 ⊢
 rw [u2] at hIb hB1 ⊢
 unfold RA at hF
 conv => whnf
 refine ⟨_, hC, ?_⟩
 conv => whnf
 refine ⟨by show 0 ≤ (n:Int) ∧ (n:Int) ≤ n ∧ (n:Int) * 56 ≤ 140737488355328; omega, ?_⟩
 conv => whnf
 refine SW.loopM TTok (fun i : Nat => [(0, .val (.int .i32 61)), (3, .sl 1 (irows .i64 s) false), (4, .val (.bool one)), (5, .val (.bool two)), (7, .lp 0 0), (8, .lp 8 0), (12, .lp 16 0), (16, .own 144 0 n), (36, .val (.int .i64 (n : Int))), (37, .val (.int .i64 (i : Int)))])
   (fun i => [(0, .cells 5 [[.sl 1 (irows .i64 sa) false, .val (.bool ca), .sl 1 (irows .i32 ta) false, .sl 3 (na.map rowX) false, .val (.bool true)]]), (8, .cells 5 [[.sl 1 (irows .i64 sb) false, .val (.bool cb), .sl 1 (irows .i32 tb) false, .sl 3 (nb.map rowX) false, .val (.bool true)]]), (16, .cells 5 [[.sl 0 [] true, .val (.bool false), .sl 0 [] true, .sl 0 [] true, .val (.bool false)]]), (144, .cells 3 ((Y.take i).map rowX ++ List.replicate (n - i) (rowX none)))]) 184 75 rfl (fun i => n - i) (fun i => i ≤ n) 0 [] (Nat.zero_le _)
   ⟨q2r, q2r, q2r, q2r, q2r, q2r, q2r, q2r, q2r, q2r, trivial⟩ ⟨q3r, q3r, q3r, ⟨rfl, .inl ⟨rfl, rowsM_noid _ _⟩⟩, trivial⟩ rfl ?_
 intro i hJ
 have hi : i ≤ n := hJ
 clear hJ
 have ltk : ((Y.take i).map rowX).length = i := by rw [List.length_map, List.length_take]; omega
 have lr : ((Y.take i).map rowX ++ List.replicate (n - i) (rowX none)).length = n := by
  rw [List.length_append, ltk, List.length_replicate]; omega
 by_cases hlt : i < n
 ·have eI : IntKind.i64.wrap ((i : Int) + 1) = ((i + 1 : Nat) : Int) := by rw [IntWalk.i64_in _ (by omega)]; omega
  have hA := hA1 i hlt
  have hB := hB1 i hlt
  have hta := atX_ok i one
  have htb := atX_ok i two
  have hset : ∀ o, chE 61 ca cb ta tb one two i = o → ((Y.take i).map rowX ++ List.replicate (n - i) (rowX none)).set i (rowX o) = (Y.take (i + 1)).map rowX ++ List.replicate (n - (i + 1)) (rowX none) := fun o ho => by
   rw [rep_drop _ n i hlt, take_snoc (show i < Y.length by omega), hYi i hlt, ho]
   have := set_mid ((Y.take i).map rowX) (rowX none) (rowX o) (List.replicate (n - (i + 1)) (rowX none))
   rw [ltk] at this
   rw [this]; simp
  have hstay : chE 61 ca cb ta tb one two i = none → (Y.take i).map rowX ++ List.replicate (n - i) (rowX none) = (Y.take (i + 1)).map rowX ++ List.replicate (n - (i + 1)) (rowX none) := fun ho => by
   rw [rep_drop _ n i hlt, take_snoc (show i < Y.length by omega), hYi i hlt, ho]; simp
  obtain ⟨x, hx⟩ : ∃ x, x = ta.getD (ix one i) 0 := ⟨_, rfl⟩
  obtain ⟨y, hy⟩ : ∃ y, y = tb.getD (ix two i) 0 := ⟨_, rfl⟩
  rw [← hx] at hA
  rw [← hy] at hB
  cases ca
  ·cases cb
   ·conv => whnf
    first | refine oTq (by omega) ?_ | refine oFq (by omega) ?_ | refine oEq (by omega) ?_ | refine oNq (by omega) ?_
    conv => whnf
    refine ⟨_, hIa, ?_⟩
    conv => whnf
    refine ⟨by kernel_rfl, ?_⟩
    conv => whnf
    refine ⟨i + 1, [], (by show n - (i + 1) < n - i; omega), hlt, ⟨q2r, q2r, q2r, q2r, q2r, q2r, q2r, q2r, q2r, ⟨valI eI, rfl⟩, trivial⟩, ⟨q3r, q3r, q3r, ⟨rfl, .inl ⟨celE ?_, rowsM_noid _ _⟩⟩, trivial⟩, rfl⟩
    exact hstay (by unfold chE smE; simp)
   ·conv => whnf
    first | refine oTq (by omega) ?_ | refine oFq (by omega) ?_ | refine oEq (by omega) ?_ | refine oNq (by omega) ?_
    conv => whnf
    refine ⟨_, hIa, ?_⟩
    conv => whnf
    refine ⟨by kernel_rfl, ?_⟩
    conv => whnf
    refine ⟨i + 1, [], (by show n - (i + 1) < n - i; omega), hlt, ⟨q2r, q2r, q2r, q2r, q2r, q2r, q2r, q2r, q2r, ⟨valI eI, rfl⟩, trivial⟩, ⟨q3r, q3r, q3r, ⟨rfl, .inl ⟨celE ?_, rowsM_noid _ _⟩⟩, trivial⟩, rfl⟩
    exact hstay (by unfold chE smE; simp)
  ·cases cb
   ·conv => whnf
    first | refine oTq (by omega) ?_ | refine oFq (by omega) ?_ | refine oEq (by omega) ?_ | refine oNq (by omega) ?_
    conv => whnf
    refine ⟨_, hIa, ?_⟩
    conv => whnf
    refine ⟨_, hIb, ?_⟩
    conv => whnf
    refine ⟨by kernel_rfl, ?_⟩
    conv => whnf
    refine ⟨i + 1, [], (by show n - (i + 1) < n - i; omega), hlt, ⟨q2r, q2r, q2r, q2r, q2r, q2r, q2r, q2r, q2r, ⟨valI eI, rfl⟩, trivial⟩, ⟨q3r, q3r, q3r, ⟨rfl, .inl ⟨celE ?_, rowsM_noid _ _⟩⟩, trivial⟩, rfl⟩
    exact hstay (by unfold chE smE; simp)
   ·replace hA := hA rfl
    replace hB := hB rfl
    by_cases hxy : x = y
    ·have hs : ((x == y) == true) = true := by simp [hxy]
     conv => whnf
     first | refine oTq (by omega) ?_ | refine oFq (by omega) ?_ | refine oEq (by omega) ?_ | refine oNq (by omega) ?_
     conv => whnf
     refine ⟨_, hIa, ?_⟩
     conv => whnf
     refine ⟨_, hIb, ?_⟩
     conv => whnf
     refine ⟨_, hta, ?_⟩
     conv => whnf
     refine ⟨_, hA, ?_⟩
     conv => whnf
     refine ⟨_, htb, ?_⟩
     conv => whnf
     refine ⟨_, hB, ?_⟩
     conv => whnf
     refine ⟨by kernel_rfl, ?_⟩
     conv => whnf
     refine cTq (hs) ?_
     conv => whnf
     refine ⟨_, hF, ?_⟩
     conv => whnf
     refine ⟨by omega, ?_⟩
     conv => whnf
     refine ⟨by rw [Nat.zero_add, Int.toNat_natCast]; omega, ?_⟩
     conv => whnf
     refine ⟨i + 1, [], (by show n - (i + 1) < n - i; omega), hlt, ⟨q2r, q2r, q2r, q2r, q2r, q2r, q2r, q2r, q2r, ⟨valI eI, rfl⟩, trivial⟩, ⟨q3r, q3r, q3r, ⟨rfl, .inl ⟨celE ?_, rowsM_noid _ _⟩⟩, trivial⟩, rfl⟩
     rw [← hset (some (1, 1)) (by unfold chE smE; rw [← hx, ← hy]; simp [hxy])]
     show List.set _ (0 + (i : Int).toNat) _ = _
     rw [Nat.zero_add, Int.toNat_natCast]
     rfl
    ·have hs : ((x == y) == true) = false := by simp [hxy]
     conv => whnf
     first | refine oTq (by omega) ?_ | refine oFq (by omega) ?_ | refine oEq (by omega) ?_ | refine oNq (by omega) ?_
     conv => whnf
     refine ⟨_, hIa, ?_⟩
     conv => whnf
     refine ⟨_, hIb, ?_⟩
     conv => whnf
     refine ⟨_, hta, ?_⟩
     conv => whnf
     refine ⟨_, hA, ?_⟩
     conv => whnf
     refine ⟨_, htb, ?_⟩
     conv => whnf
     refine ⟨_, hB, ?_⟩
     conv => whnf
     refine ⟨by kernel_rfl, ?_⟩
     conv => whnf
     refine cFq (hs) ?_
     conv => whnf
     refine ⟨i + 1, [], (by show n - (i + 1) < n - i; omega), hlt, ⟨q2r, q2r, q2r, q2r, q2r, q2r, q2r, q2r, q2r, ⟨valI eI, rfl⟩, trivial⟩, ⟨q3r, q3r, q3r, ⟨rfl, .inl ⟨celE ?_, rowsM_noid _ _⟩⟩, trivial⟩, rfl⟩
     exact hstay (by unfold chE smE; rw [← hx, ← hy]; simp [hxy])
 ·have hie : i = n := by omega
  have e1 : (Y.take i).map rowX ++ List.replicate (n - i) (rowX none) = Y.map rowX := by
   rw [hie, List.take_of_length_le (by omega), Nat.sub_self, List.replicate_zero, List.append_nil]
  rw [e1]
  have key : List.take n (List.drop 0 (Y.map rowX)) = Y.map rowX := by rw [List.drop_zero, List.take_of_length_le (by rw [List.length_map]; omega)]
  conv => whnf
  first | refine oTq (by omega) ?_ | refine oFq (by omega) ?_ | refine oEq (by omega) ?_ | refine oNq (by omega) ?_
  conv => whnf
  rw [key]
  have lY : (Y.map rowX).length = n := by rw [List.length_map]; exact l1
  unfold AA at *
  refine ⟨by show 0 + n ≤ (Y.map rowX).length; omega, _, hN, ?_⟩
  repeat ((conv => whnf); (first | refine ⟨_, ‹_›, ?_⟩ | refine ⟨nbq rfl, _, ‹_›, ?_⟩ | refine ⟨by kernel_rfl, ?_⟩ | exact rfl | exact ⟨nbq rfl, rfl⟩ | refine ⟨by decide, ?_⟩))
theorem chars_8800 (sa sb : List Int) (ca cb : Bool) (ta tb : List Int) (na nb : List (Option (Rat × Nat))) (s : List Int) (one two : Bool) (n : Nat) (hn : n ≤ 5000) (hv : vS s) (hcn : cntI s = (n : Int))
  (hix : ∀ i : Nat, i < n → (ca = true → ix one i < ta.length) ∧ (cb = true → ix two i < tb.length)) (la : ta.length ≤ 1000) (lb : tb.length ≤ 1000) :
  AC Tryz.prog 113 [.val (.int .i32 8800), AA sa ca ta na true, AA sb cb tb nb true, .sl 1 (irows .i64 s) false, .val (.bool one), .val (.bool two)] (.pure (.tup [AA s false [] ((List.range n).map (chE 8800 ca cb ta tb one two)) true, .val (.int .i64 0)])) := by
 have hIa := IsChar_ok sa ca ta na true
 have hIb := IsChar_ok sb cb tb nb true
 have hC := Count_ok s (by have := hv.1; omega)
 rw [CNT_good hv, hcn] at hC
 obtain ⟨Y, hY⟩ : ∃ Y : List (Option (Rat × Nat)), Y = (List.range n).map (chE 8800 ca cb ta tb one two) := ⟨_, rfl⟩
 rw [← hY]
 have l1 : Y.length = n := by rw [hY, List.length_map, List.length_range]
 have hYi : ∀ i (h : i < n), Y[i]'(by omega) = chE 8800 ca cb ta tb one two i := fun i h => by subst hY; rw [List.getElem_map, List.getElem_range]
 have hN := Nums_ok s Y hv (by rw [l1]; exact hcn) (by omega)
 have hF := RatFrom_ok 1 (by decide)
 refine AC.of_body TTok Tryz.func113 rfl (enter_of Tryz.func113 (by kernel_rfl) (by kernel_rfl)) (noid6 (.val _) (AA_noid _ _ _ _ _) (AA_noid _ _ _ _ _) (noid_sl _ _ _) (.val _) (.val _)) (.tup _ (noid2 (AA_noid _ _ _ _ _) (.val _))) (nbq rfl) ?_
 have hA1 : ∀ i < n, ca = true → AC Tryz.prog 133 [AA sa ca ta na true, .val (.int .i64 ((ix one i : Nat) : Int))] (.pure (.val (.int .i32 (ta.getD (ix one i) 0)))) := fun i hi h => RuneX_ok sa ca ta na _ ((hix i hi).1 h) la
 have hB1 : ∀ i < n, cb = true → AC Tryz.prog 133 [AA sb cb tb nb true, .val (.int .i64 ((ix two i : Nat) : Int))] (.pure (.val (.int .i32 (tb.getD (ix two i) 0)))) := fun i hi h => RuneX_ok sb cb tb nb _ ((hix i hi).2 h) lb
 have u1 : AA sa ca ta na true = .agg [.sl 1 (irows .i64 sa) false, .val (.bool ca), .sl 1 (irows .i32 ta) false, .sl 3 (na.map rowX) false, .val (.bool true)] := rfl
 have u2 : AA sb cb tb nb true = .agg [.sl 1 (irows .i64 sb) false, .val (.bool cb), .sl 1 (irows .i32 tb) false, .sl 3 (nb.map rowX) false, .val (.bool true)] := rfl
 rw [u1] at hIa hA1 ⊢
 rw [u2] at hIb hB1 ⊢
 unfold RA at hF
 conv => whnf
 refine ⟨_, hC, ?_⟩
 conv => whnf
 refine ⟨by show 0 ≤ (n:Int) ∧ (n:Int) ≤ n ∧ (n:Int) * 56 ≤ 140737488355328; omega, ?_⟩
 conv => whnf
 refine SW.loopM TTok (fun i : Nat => [(0, .val (.int .i32 8800)), (3, .sl 1 (irows .i64 s) false), (4, .val (.bool one)), (5, .val (.bool two)), (7, .lp 0 0), (8, .lp 8 0), (12, .lp 16 0), (16, .own 144 0 n), (36, .val (.int .i64 (n : Int))), (37, .val (.int .i64 (i : Int)))])
   (fun i => [(0, .cells 5 [[.sl 1 (irows .i64 sa) false, .val (.bool ca), .sl 1 (irows .i32 ta) false, .sl 3 (na.map rowX) false, .val (.bool true)]]), (8, .cells 5 [[.sl 1 (irows .i64 sb) false, .val (.bool cb), .sl 1 (irows .i32 tb) false, .sl 3 (nb.map rowX) false, .val (.bool true)]]), (16, .cells 5 [[.sl 0 [] true, .val (.bool false), .sl 0 [] true, .sl 0 [] true, .val (.bool false)]]), (144, .cells 3 ((Y.take i).map rowX ++ List.replicate (n - i) (rowX none)))]) 184 75 rfl (fun i => n - i) (fun i => i ≤ n) 0 [] (Nat.zero_le _)
   ⟨q2r, q2r, q2r, q2r, q2r, q2r, q2r, q2r, q2r, q2r, trivial⟩ ⟨q3r, q3r, q3r, ⟨rfl, .inl ⟨rfl, rowsM_noid _ _⟩⟩, trivial⟩ rfl ?_
 intro i hJ
 have hi : i ≤ n := hJ
 clear hJ
 have ltk : ((Y.take i).map rowX).length = i := by rw [List.length_map, List.length_take]; omega
 have lr : ((Y.take i).map rowX ++ List.replicate (n - i) (rowX none)).length = n := by
  rw [List.length_append, ltk, List.length_replicate]; omega
 by_cases hlt : i < n
 ·have eI : IntKind.i64.wrap ((i : Int) + 1) = ((i + 1 : Nat) : Int) := by rw [IntWalk.i64_in _ (by omega)]; omega
  have hA := hA1 i hlt
  have hB := hB1 i hlt
  have hta := atX_ok i one
  have htb := atX_ok i two
  have hset : ∀ o, chE 8800 ca cb ta tb one two i = o → ((Y.take i).map rowX ++ List.replicate (n - i) (rowX none)).set i (rowX o) = (Y.take (i + 1)).map rowX ++ List.replicate (n - (i + 1)) (rowX none) := fun o ho => by
   rw [rep_drop _ n i hlt, take_snoc (show i < Y.length by omega), hYi i hlt, ho]
   have := set_mid ((Y.take i).map rowX) (rowX none) (rowX o) (List.replicate (n - (i + 1)) (rowX none))
   rw [ltk] at this
   rw [this]; simp
  have hstay : chE 8800 ca cb ta tb one two i = none → (Y.take i).map rowX ++ List.replicate (n - i) (rowX none) = (Y.take (i + 1)).map rowX ++ List.replicate (n - (i + 1)) (rowX none) := fun ho => by
   rw [rep_drop _ n i hlt, take_snoc (show i < Y.length by omega), hYi i hlt, ho]; simp
  obtain ⟨x, hx⟩ : ∃ x, x = ta.getD (ix one i) 0 := ⟨_, rfl⟩
  obtain ⟨y, hy⟩ : ∃ y, y = tb.getD (ix two i) 0 := ⟨_, rfl⟩
  rw [← hx] at hA
  rw [← hy] at hB
  cases ca
  ·cases cb
   ·conv => whnf
    first | refine oTq (by omega) ?_ | refine oFq (by omega) ?_ | refine oEq (by omega) ?_ | refine oNq (by omega) ?_
    conv => whnf
    refine ⟨_, hIa, ?_⟩
    conv => whnf
    refine ⟨by kernel_rfl, ?_⟩
    conv => whnf
    refine ⟨_, hF, ?_⟩
    conv => whnf
    refine ⟨by omega, ?_⟩
    conv => whnf
    refine ⟨by rw [Nat.zero_add, Int.toNat_natCast]; omega, ?_⟩
    conv => whnf
    refine ⟨i + 1, [], (by show n - (i + 1) < n - i; omega), hlt, ⟨q2r, q2r, q2r, q2r, q2r, q2r, q2r, q2r, q2r, ⟨valI eI, rfl⟩, trivial⟩, ⟨q3r, q3r, q3r, ⟨rfl, .inl ⟨celE ?_, rowsM_noid _ _⟩⟩, trivial⟩, rfl⟩
    rw [← hset (some (1, 1)) (by unfold chE smE; simp)]
    show List.set _ (0 + (i : Int).toNat) _ = _
    rw [Nat.zero_add, Int.toNat_natCast]
    rfl
   ·conv => whnf
    first | refine oTq (by omega) ?_ | refine oFq (by omega) ?_ | refine oEq (by omega) ?_ | refine oNq (by omega) ?_
    conv => whnf
    refine ⟨_, hIa, ?_⟩
    conv => whnf
    refine ⟨by kernel_rfl, ?_⟩
    conv => whnf
    refine ⟨_, hF, ?_⟩
    conv => whnf
    refine ⟨by omega, ?_⟩
    conv => whnf
    refine ⟨by rw [Nat.zero_add, Int.toNat_natCast]; omega, ?_⟩
    conv => whnf
    refine ⟨i + 1, [], (by show n - (i + 1) < n - i; omega), hlt, ⟨q2r, q2r, q2r, q2r, q2r, q2r, q2r, q2r, q2r, ⟨valI eI, rfl⟩, trivial⟩, ⟨q3r, q3r, q3r, ⟨rfl, .inl ⟨celE ?_, rowsM_noid _ _⟩⟩, trivial⟩, rfl⟩
    rw [← hset (some (1, 1)) (by unfold chE smE; simp)]
    show List.set _ (0 + (i : Int).toNat) _ = _
    rw [Nat.zero_add, Int.toNat_natCast]
    rfl
  ·cases cb
   ·conv => whnf
    first | refine oTq (by omega) ?_ | refine oFq (by omega) ?_ | refine oEq (by omega) ?_ | refine oNq (by omega) ?_
    conv => whnf
    refine ⟨_, hIa, ?_⟩
    conv => whnf
    refine ⟨_, hIb, ?_⟩
    conv => whnf
    refine ⟨by kernel_rfl, ?_⟩
    conv => whnf
    refine ⟨_, hF, ?_⟩
    conv => whnf
    refine ⟨by omega, ?_⟩
    conv => whnf
    refine ⟨by rw [Nat.zero_add, Int.toNat_natCast]; omega, ?_⟩
    conv => whnf
    refine ⟨i + 1, [], (by show n - (i + 1) < n - i; omega), hlt, ⟨q2r, q2r, q2r, q2r, q2r, q2r, q2r, q2r, q2r, ⟨valI eI, rfl⟩, trivial⟩, ⟨q3r, q3r, q3r, ⟨rfl, .inl ⟨celE ?_, rowsM_noid _ _⟩⟩, trivial⟩, rfl⟩
    rw [← hset (some (1, 1)) (by unfold chE smE; simp)]
    show List.set _ (0 + (i : Int).toNat) _ = _
    rw [Nat.zero_add, Int.toNat_natCast]
    rfl
   ·replace hA := hA rfl
    replace hB := hB rfl
    by_cases hxy : x = y
    ·have hs : ((x == y) == false) = false := by simp [hxy]
     conv => whnf
     first | refine oTq (by omega) ?_ | refine oFq (by omega) ?_ | refine oEq (by omega) ?_ | refine oNq (by omega) ?_
     conv => whnf
     refine ⟨_, hIa, ?_⟩
     conv => whnf
     refine ⟨_, hIb, ?_⟩
     conv => whnf
     refine ⟨_, hta, ?_⟩
     conv => whnf
     refine ⟨_, hA, ?_⟩
     conv => whnf
     refine ⟨_, htb, ?_⟩
     conv => whnf
     refine ⟨_, hB, ?_⟩
     conv => whnf
     refine ⟨by kernel_rfl, ?_⟩
     conv => whnf
     refine cFq (hs) ?_
     conv => whnf
     refine ⟨i + 1, [], (by show n - (i + 1) < n - i; omega), hlt, ⟨q2r, q2r, q2r, q2r, q2r, q2r, q2r, q2r, q2r, ⟨valI eI, rfl⟩, trivial⟩, ⟨q3r, q3r, q3r, ⟨rfl, .inl ⟨celE ?_, rowsM_noid _ _⟩⟩, trivial⟩, rfl⟩
     exact hstay (by unfold chE smE; rw [← hx, ← hy]; simp [hxy])
    ·have hs : ((x == y) == false) = true := by simp [hxy]
     conv => whnf
     first | refine oTq (by omega) ?_ | refine oFq (by omega) ?_ | refine oEq (by omega) ?_ | refine oNq (by omega) ?_
     conv => whnf
     refine ⟨_, hIa, ?_⟩
     conv => whnf
     refine ⟨_, hIb, ?_⟩
     conv => whnf
     refine ⟨_, hta, ?_⟩
     conv => whnf
     refine ⟨_, hA, ?_⟩
     conv => whnf
     refine ⟨_, htb, ?_⟩
     conv => whnf
     refine ⟨_, hB, ?_⟩
     conv => whnf
     refine ⟨by kernel_rfl, ?_⟩
     conv => whnf
     refine cTq (hs) ?_
     conv => whnf
     refine ⟨_, hF, ?_⟩
     conv => whnf
     refine ⟨by omega, ?_⟩
     conv => whnf
     refine ⟨by rw [Nat.zero_add, Int.toNat_natCast]; omega, ?_⟩
     conv => whnf
     refine ⟨i + 1, [], (by show n - (i + 1) < n - i; omega), hlt, ⟨q2r, q2r, q2r, q2r, q2r, q2r, q2r, q2r, q2r, ⟨valI eI, rfl⟩, trivial⟩, ⟨q3r, q3r, q3r, ⟨rfl, .inl ⟨celE ?_, rowsM_noid _ _⟩⟩, trivial⟩, rfl⟩
     rw [← hset (some (1, 1)) (by unfold chE smE; rw [← hx, ← hy]; simp [hxy])]
     show List.set _ (0 + (i : Int).toNat) _ = _
     rw [Nat.zero_add, Int.toNat_natCast]
     rfl
 ·have hie : i = n := by omega
  have e1 : (Y.take i).map rowX ++ List.replicate (n - i) (rowX none) = Y.map rowX := by
   rw [hie, List.take_of_length_le (by omega), Nat.sub_self, List.replicate_zero, List.append_nil]
  rw [e1]
  have key : List.take n (List.drop 0 (Y.map rowX)) = Y.map rowX := by rw [List.drop_zero, List.take_of_length_le (by rw [List.length_map]; omega)]
  conv => whnf
  first | refine oTq (by omega) ?_ | refine oFq (by omega) ?_ | refine oEq (by omega) ?_ | refine oNq (by omega) ?_
  conv => whnf
  rw [key]
  have lY : (Y.map rowX).length = n := by rw [List.length_map]; exact l1
  unfold AA at *
  refine ⟨by show 0 + n ≤ (Y.map rowX).length; omega, _, hN, ?_⟩
  repeat ((conv => whnf); (first | refine ⟨_, ‹_›, ?_⟩ | refine ⟨nbq rfl, _, ‹_›, ?_⟩ | refine ⟨by kernel_rfl, ?_⟩ | exact rfl | exact ⟨nbq rfl, rfl⟩ | refine ⟨by decide, ?_⟩))
end
section
section
variable (c : Int) (sa sb : List Int) (ca cb : Bool) (ta tb : List Int)
theorem Two_not (h : ¬ isTwo c) (na nb : List (Option (Rat × Nat))) (most : Int) : AC Tryz.prog 87 [.val (.int .i32 c), AA sa ca ta na true, AA sb cb tb nb true, .val (.int .i64 most)] (.pure (.tup [AZ, .val (.int .i64 20)])) := by
 have hH := Has_ok c
 rw [decide_eq_false h] at hH
 refine AC.of_body TTok Tryz.func87 rfl (enter_of Tryz.func87 (by kernel_rfl) (by kernel_rfl)) (noidF (.val _) (AA_noid _ _ _ _ _) (AA_noid _ _ _ _ _) (.val _)) (AZt_noid _) (nbq rfl) ?_
 unfold AA
 repeat ((conv => whnf); (first | refine ⟨_, ‹_›, ?_⟩ | refine ⟨nbq rfl, _, ‹_›, ?_⟩ | refine ⟨by kernel_rfl, ?_⟩ | exact rfl | exact ⟨nbq rfl, rfl⟩ | refine ⟨by decide, ?_⟩))
theorem Two_unfit (h : isTwo c) (na nb : List (Option (Rat × Nat))) (most : Int) (x : List Int × Bool × Bool × Int) (he : x.2.2.2 ≠ 0) (hF : AC Tryz.prog 112 [AA sa ca ta na true, AA sb cb tb nb true] (.pure (FV x))) :
  AC Tryz.prog 87 [.val (.int .i32 c), AA sa ca ta na true, AA sb cb tb nb true, .val (.int .i64 most)] (.pure (.tup [AZ, .val (.int .i64 x.2.2.2)])) := by
 have hH := Has_ok c
 rw [decide_eq_true h] at hH
 obtain ⟨s, one, two, e⟩ := x
 refine AC.of_body TTok Tryz.func87 rfl (enter_of Tryz.func87 (by kernel_rfl) (by kernel_rfl)) (noidF (.val _) (AA_noid _ _ _ _ _) (AA_noid _ _ _ _ _) (.val _)) (AZt_noid _) (nbq rfl) ?_
 unfold FV at hF
 have he : e ≠ 0 := he
 have hF : AC Tryz.prog 112 [AA sa ca ta na true, AA sb cb tb nb true] (.pure (.tup [.sl 1 (irows .i64 s) false, .val (.bool one), .val (.bool two), .val (.int .i64 e)])) := hF
 unfold AA at *
 conv => whnf
 refine ⟨_, hH, ?_⟩
 conv => whnf
 refine ⟨_, hF, ?_⟩
 conv => whnf
 first | refine nTq (by omega) ?_ | refine nFq (by omega) ?_
 repeat ((conv => whnf); (first | refine ⟨_, ‹_›, ?_⟩ | refine ⟨nbq rfl, _, ‹_›, ?_⟩ | refine ⟨by kernel_rfl, ?_⟩ | exact rfl | exact ⟨nbq rfl, rfl⟩ | refine ⟨by decide, ?_⟩))
theorem Two_nil (h : isTwo c) (na nb : List (Option (Rat × Nat))) (most : Int) (s : List Int) (one two : Bool) (hv : vS s) (hcn : cntI s = 0) (hF : AC Tryz.prog 112 [AA sa ca ta na true, AA sb cb tb nb true] (.pure (FV (s, one, two, 0)))) :
  AC Tryz.prog 87 [.val (.int .i32 c), AA sa ca ta na true, AA sb cb tb nb true, .val (.int .i64 most)] (.pure (.tup [AA s false [] [] true, .val (.int .i64 0)])) := by
 have hH := Has_ok c
 rw [decide_eq_true h] at hH
 have hC := Count_ok s (by have := hv.1; omega)
 rw [CNT_good hv, hcn] at hC
 have hN := Nums_ok s [] hv (by rw [hcn]; rfl) (by decide)
 refine AC.of_body TTok Tryz.func87 rfl (enter_of Tryz.func87 (by kernel_rfl) (by kernel_rfl)) (noidF (.val _) (AA_noid _ _ _ _ _) (AA_noid _ _ _ _ _) (.val _)) (.tup _ (noid2 (AA_noid _ _ _ _ _) (.val _))) (nbq rfl) ?_
 unfold FV AA at hF
 unfold AA
 conv => whnf
 refine ⟨_, hH, ?_⟩
 conv => whnf
 refine ⟨_, hF, ?_⟩
 conv => whnf
 refine ⟨_, hC, ?_⟩
 conv => whnf
 refine ⟨by decide, ?_⟩
 conv => whnf
 refine SW.loopM TTok (fun _ : Unit => [(8, .lp 16 0), (10, .sl 1 (irows .i64 s) false), (16, .own 312 0 0), (65, .val (.int .i64 0)), (66, .val (.int .i64 0))]) (fun _ => [(16, .cells 5 [[.sl 0 [] true, .val (.bool false), .sl 0 [] true, .sl 0 [] true, .val (.bool false)]]), (312, .cells 3 [])]) 352 101 rfl (fun _ => 0) (fun _ => True) () [] trivial
  ⟨q2r, q2r, q2r, q2r, q2r, trivial⟩ ⟨q3r, q3r, trivial⟩ rfl ?_
 intro _ _
 unfold AA at hN
 conv => whnf
 refine ⟨Nat.le_refl _, _, hN, ?_⟩
 repeat ((conv => whnf); (first | refine ⟨_, ‹_›, ?_⟩ | refine ⟨nbq rfl, _, ‹_›, ?_⟩ | refine ⟨by kernel_rfl, ?_⟩ | exact rfl | exact ⟨nbq rfl, rfl⟩ | refine ⟨by decide, ?_⟩))
theorem Two_chars (h : isTwo c) (hch : ca = true ∨ cb = true) (na nb : List (Option (Rat × Nat))) (most : Int) (s : List Int) (one two : Bool) (n : Nat) (hn : 0 < n) (hv : vS s) (hcn : cntI s = (n : Int)) (hF : AC Tryz.prog 112 [AA sa ca ta na true, AA sb cb tb nb true] (.pure (FV (s, one, two, 0))))
  (e : Int) (k1 k3 k4 : Nat) (l1 l3 l4 : List (List AV)) (z1 z3 z4 : Bool) (v2 v5 : Value) (hnr : NoId (.tup [.agg [.sl k1 l1 z1, .val v2, .sl k3 l3 z3, .sl k4 l4 z4, .val v5], .val (.int .i64 e)]))
  (hX : AC Tryz.prog 113 [.val (.int .i32 c), AA sa ca ta na true, AA sb cb tb nb true, .sl 1 (irows .i64 s) false, .val (.bool one), .val (.bool two)] (.pure (.tup [.agg [.sl k1 l1 z1, .val v2, .sl k3 l3 z3, .sl k4 l4 z4, .val v5], .val (.int .i64 e)]))) :
  AC Tryz.prog 87 [.val (.int .i32 c), AA sa ca ta na true, AA sb cb tb nb true, .val (.int .i64 most)] (.pure (.tup [.agg [.sl k1 l1 z1, .val v2, .sl k3 l3 z3, .sl k4 l4 z4, .val v5], .val (.int .i64 e)])) := by
 have hH := Has_ok c
 rw [decide_eq_true h] at hH
 have hC := Count_ok s (by have := hv.1; omega)
 rw [CNT_good hv, hcn] at hC
 have hIa := IsChar_ok sa ca ta na true
 have hIb := IsChar_ok sb cb tb nb true
 refine AC.of_body TTok Tryz.func87 rfl (enter_of Tryz.func87 (by kernel_rfl) (by kernel_rfl)) (noidF (.val _) (AA_noid _ _ _ _ _) (AA_noid _ _ _ _ _) (.val _)) hnr (nbq rfl) ?_
 unfold FV AA at hF
 unfold AA at *
 cases ca
 ·have hcb : cb = true := hch.resolve_left Bool.false_ne_true
  subst hcb
  conv => whnf
  refine ⟨_, hH, ?_⟩
  conv => whnf
  refine ⟨_, hF, ?_⟩
  conv => whnf
  refine ⟨_, hC, ?_⟩
  conv => whnf
  first | refine oTq (by omega) ?_ | refine oFq (by omega) ?_ | refine oEq (by omega) ?_ | refine oNq (by omega) ?_
  conv => whnf
  refine ⟨_, hIa, ?_⟩
  conv => whnf
  refine ⟨_, hIb, ?_⟩
  conv => whnf
  refine ⟨_, hX, ?_⟩
  repeat ((conv => whnf); (first | refine ⟨_, ‹_›, ?_⟩ | refine ⟨nbq rfl, _, ‹_›, ?_⟩ | refine ⟨by kernel_rfl, ?_⟩ | exact rfl | exact ⟨nbq rfl, rfl⟩ | refine ⟨by decide, ?_⟩))
 ·conv => whnf
  refine ⟨_, hH, ?_⟩
  conv => whnf
  refine ⟨_, hF, ?_⟩
  conv => whnf
  refine ⟨_, hC, ?_⟩
  conv => whnf
  first | refine oTq (by omega) ?_ | refine oFq (by omega) ?_ | refine oEq (by omega) ?_ | refine oNq (by omega) ?_
  conv => whnf
  refine ⟨_, hIa, ?_⟩
  conv => whnf
  refine ⟨_, hX, ?_⟩
  repeat ((conv => whnf); (first | refine ⟨_, ‹_›, ?_⟩ | refine ⟨nbq rfl, _, ‹_›, ?_⟩ | refine ⟨by kernel_rfl, ?_⟩ | exact rfl | exact ⟨nbq rfl, rfl⟩ | refine ⟨by decide, ?_⟩))
theorem chars_not (h1 : c ≠ 61) (h2 : c ≠ 8800) (na nb : List (Option (Rat × Nat))) (s : List Int) (one two : Bool) :
  AC Tryz.prog 113 [.val (.int .i32 c), AA sa ca ta na true, AA sb cb tb nb true, .sl 1 (irows .i64 s) false, .val (.bool one), .val (.bool two)] (.pure (.tup [AZ, .val (.int .i64 22)])) := by
 refine AC.of_body TTok Tryz.func113 rfl (enter_of Tryz.func113 (by kernel_rfl) (by kernel_rfl)) (noid6 (.val _) (AA_noid _ _ _ _ _) (AA_noid _ _ _ _ _) (noid_sl _ _ _) (.val _) (.val _)) (AZt_noid _) (nbq rfl) ?_
 unfold AA
 conv => whnf
 first | refine nTq (by omega) ?_ | refine nFq (by omega) ?_
 conv => whnf
 first | refine nTq (by omega) ?_ | refine nFq (by omega) ?_
 repeat ((conv => whnf); (first | refine ⟨_, ‹_›, ?_⟩ | refine ⟨nbq rfl, _, ‹_›, ?_⟩ | refine ⟨by kernel_rfl, ?_⟩ | exact rfl | exact ⟨nbq rfl, rfl⟩ | refine ⟨by decide, ?_⟩))
end
end
section
def twoE (c : Int) (sa sb : List Int) (ca cb : Bool) (ta tb : List Int) (qa qb : List Rat) (most : Int) : Int :=
 if isTwo c then (if (fitS sa sb (ta.length + qa.length) (tb.length + qb.length)).2.2.2 ≠ 0 then (fitS sa sb (ta.length + qa.length) (tb.length + qb.length)).2.2.2
  else firstE ((List.range (cntI (fitS sa sb (ta.length + qa.length) (tb.length + qb.length)).1).toNat).map (elemF c ca cb ta tb qa qb (fitS sa sb (ta.length + qa.length) (tb.length + qb.length)).2.1 (fitS sa sb (ta.length + qa.length) (tb.length + qb.length)).2.2.1 most))) else 20
def twoV (c : Int) (sa sb : List Int) (ca cb : Bool) (ta tb : List Int) (qa qb : List Rat) (most : Int) : List Rat :=
 (List.range (cntI (fitS sa sb (ta.length + qa.length) (tb.length + qb.length)).1).toNat).map fun i => (elemF c ca cb ta tb qa qb (fitS sa sb (ta.length + qa.length) (tb.length + qb.length)).2.1 (fitS sa sb (ta.length + qa.length) (tb.length + qb.length)).2.2.1 most i).1
theorem chE_val (c : Int) (hc : c = 61 ∨ c = 8800) (ca cb : Bool) (hch : ca = true ∨ cb = true) (ta tb : List Int) (qa qb : List Rat) (one two : Bool) (most : Int) (i : Nat) :
  valX (chE c ca cb ta tb one two i) = (elemF c ca cb ta tb qa qb one two most i).1 ∧ okX (chE c ca cb ta tb one two i) := by
 unfold chE elemF smE
 rw [if_pos hch, if_pos hc]
 by_cases h : (ca && cb && decide (ta.getD (ix one i) 0 = tb.getD (ix two i) 0)) = decide (c = 61)
 ·rw [if_pos h, if_pos h]
  exact q2r
 ·rw [if_neg h, if_neg h]
  exact ⟨rfl, trivial⟩
theorem chars_ok (c : Int) (hc : c = 61 ∨ c = 8800) (sa sb : List Int) (ca cb : Bool) (ta tb : List Int) (na nb : List (Option (Rat × Nat))) (s : List Int) (one two : Bool) (n : Nat) (hn : n ≤ 5000) (hv : vS s) (hcn : cntI s = (n : Int))
  (hix : ∀ i : Nat, i < n → (ca = true → ix one i < ta.length) ∧ (cb = true → ix two i < tb.length)) (la : ta.length ≤ 1000) (lb : tb.length ≤ 1000) :
  AC Tryz.prog 113 [.val (.int .i32 c), AA sa ca ta na true, AA sb cb tb nb true, .sl 1 (irows .i64 s) false, .val (.bool one), .val (.bool two)] (.pure (.tup [AA s false [] ((List.range n).map (chE c ca cb ta tb one two)) true, .val (.int .i64 0)])) := by
 rcases hc with rfl | rfl
 ·exact chars_61 sa sb ca cb ta tb na nb s one two n hn hv hcn hix la lb
 ·exact chars_8800 sa sb ca cb ta tb na nb s one two n hn hv hcn hix la lb
theorem getD_okX {na : List (Option (Rat × Nat))} (h : ∀ o ∈ na, okX o) (k : Nat) : okX (na.getD k none) := by
 rw [List.getD_eq_getElem?_getD]
 cases hk : na[k]? with
 | none => trivial
 | some o => exact h o (List.mem_of_getElem? hk)
theorem PTwoN_ok (c : Int) (sa sb : List Int) (ca cb : Bool) (ta tb : List Int) (na nb : List (Option (Rat × Nat))) (oa : ∀ o ∈ na, okX o) (ob : ∀ o ∈ nb, okX o) (qa qb : List Rat) (na1 : na.map valX = qa) (nb1 : nb.map valX = qb) (most : Int) (hm : most ≤ 200) (hva : vS sa) (hvb : vS sb) (hka : kinds sa ca ta.length qa.length) (hkb : kinds sb cb tb.length qb.length)
  (h1 : ta.length ≤ 500) (h2 : tb.length ≤ 500) (h3 : qa.length ≤ 500) (h4 : qb.length ≤ 500) (hQa : ∀ q ∈ qa, Sz q 20) (hQb : ∀ q ∈ qb, Sz q 20) :
  ∃ l : List (Option (Rat × Nat)), (twoE c sa sb ca cb ta tb qa qb most = 0 → l.map valX = twoV c sa sb ca cb ta tb qa qb most) ∧ (∀ o ∈ l, okX o) ∧ l.length ≤ 5000 ∧
   AC Tryz.prog 87 [.val (.int .i32 c), AA sa ca ta na true, AA sb cb tb nb true, .val (.int .i64 most)] (.pure (resA (fitS sa sb (ta.length + qa.length) (tb.length + qb.length)).1 (twoE c sa sb ca cb ta tb qa qb most) l)) := by
 have la : na.length = qa.length := by rw [← na1, List.length_map]
 have lb : nb.length = qb.length := by rw [← nb1, List.length_map]
 have hF := Fit_ok sa sb ca cb ta tb na nb (by have := hva.1; omega) (by have := hvb.1; omega) (by omega) (by omega) (by omega) (by omega)
 rw [la, lb] at hF
 obtain ⟨ka1, ka2⟩ := kinds_len hka
 obtain ⟨kb1, kb2⟩ := kinds_len hkb
 have hI := fit_idx ka1 kb1 hva hvb
 unfold twoE twoV
 generalize hx : fitS sa sb (ta.length + qa.length) (tb.length + qb.length) = x at hF hI ⊢
 by_cases hc : isTwo c
 ·rw [if_pos hc]
  by_cases he : x.2.2.2 = 0
  ·obtain ⟨v1, v2, v3⟩ := hI he
   obtain ⟨s, one, two, e⟩ := x
   have he : e = 0 := he
   subst he
   have v1 : vS s := v1
   have v2 : cntI s = ((ta.length + qa.length : Nat) : Int) ∨ cntI s = ((tb.length + qb.length : Nat) : Int) := v2
   have v3 : ∀ i : Nat, (i : Int) < cntI s → ix one i < ta.length + qa.length ∧ ix two i < tb.length + qb.length := v3
   obtain ⟨n, hn⟩ : ∃ n : Nat, cntI s = (n : Int) := by rcases v2 with h | h <;> exact ⟨_, h⟩
   have hn5 : n ≤ 1000 := by omega
   rw [if_neg (fun h => h rfl)]
   show ∃ l : List (Option (Rat × Nat)), (firstE ((List.range (cntI s).toNat).map (elemF c ca cb ta tb qa qb one two most)) = 0 → l.map valX = (List.range (cntI s).toNat).map fun i => (elemF c ca cb ta tb qa qb one two most i).1) ∧ (∀ o ∈ l, okX o) ∧ l.length ≤ 5000 ∧
    AC Tryz.prog 87 _ (.pure (resA s (firstE ((List.range (cntI s).toNat).map (elemF c ca cb ta tb qa qb one two most))) l))
   rw [hn, Int.toNat_natCast]
   rw [hn] at v3
   by_cases hn0 : n = 0
   ·subst hn0
    refine ⟨[], fun _ => rfl, fun o ho => (nomatch ho), Nat.zero_le _, ?_⟩
    show AC Tryz.prog 87 _ (.pure (resA s 0 []))
    unfold resA
    rw [if_pos rfl]
    exact Two_nil c sa sb ca cb ta tb hc _ _ most s one two v1 hn hF
   ·by_cases hch : ca = true ∨ cb = true
    ·by_cases hcc : c = 61 ∨ c = 8800
     ·have hz : firstE ((List.range n).map (elemF c ca cb ta tb qa qb one two most)) = 0 := firstE_zero (fun y hy => by
       obtain ⟨i, _, rfl⟩ := List.mem_map.1 hy
       unfold elemF
       rw [if_pos hch, if_pos hcc])
      refine ⟨(List.range n).map (chE c ca cb ta tb one two), fun _ => ?_, fun o ho => ?_, by rw [List.length_map, List.length_range]; omega, ?_⟩
      ·rw [List.map_map]
       exact List.map_congr_left (fun i _ => (chE_val c hcc ca cb hch ta tb qa qb one two most i).1)
      ·obtain ⟨i, _, rfl⟩ := List.mem_map.1 ho
       exact (chE_val c hcc ca cb hch ta tb qa qb one two most i).2
      ·rw [hz]
       unfold resA
       rw [if_pos rfl]
       have hX := chars_ok c hcc sa sb ca cb ta tb na nb s one two n (by omega) v1 hn (fun i hi => ⟨fun h => by
        have := (v3 i (by omega)).1
        rw [h, if_pos rfl] at ka2
        omega, fun h => by
        have := (v3 i (by omega)).2
        rw [h, if_pos rfl] at kb2
        omega⟩) (by omega) (by omega)
       unfold AA at hX ⊢
       exact Two_chars c sa sb ca cb ta tb hc hch _ _ most s one two n (by omega) v1 hn hF 0 1 1 3 _ _ _ _ _ _ _ _ (.tup _ (noid2 (AA_noid _ _ _ _ _) (.val _))) hX
     ·have hz : firstE ((List.range n).map (elemF c ca cb ta tb qa qb one two most)) = 22 := by
       have he22 : ∀ i, (elemF c ca cb ta tb qa qb one two most i).2 = 22 := fun i => by
        unfold elemF
        rw [if_pos hch, if_neg hcc]
       have := firstE_at (l := (List.range n).map (elemF c ca cb ta tb qa qb one two most)) (i := 0) (by rw [List.length_map, List.length_range]; omega) (fun y hy => nomatch hy) (by rw [List.getElem_map, he22]; decide)
       rw [this, List.getElem_map, he22]
      refine ⟨[], fun h => absurd (hz.symm.trans h) (by decide), fun o ho => (nomatch ho), Nat.zero_le _, ?_⟩
      rw [hz]
      have hX := chars_not c sa sb ca cb ta tb (fun h => hcc (.inl h)) (fun h => hcc (.inr h)) na nb s one two
      exact resA_err s _ (by decide) (Two_chars c sa sb ca cb ta tb hc hch _ _ most s one two n (by omega) v1 hn hF 22 0 0 0 _ _ _ _ _ _ _ _ (AZt_noid _) hX)
    ·have hca : ca = false := by cases ca with | false => rfl | true => exact absurd (.inl rfl) hch
     have hcb : cb = false := by cases cb with | false => rfl | true => exact absurd (.inr rfl) hch
     subst hca hcb
     have ka2 : qa.length = ta.length + qa.length := ka2
     have kb2 : qb.length = tb.length + qb.length := kb2
     have hix : ∀ i : Nat, i < n → ix one i < qa.length ∧ ix two i < qb.length := fun i hi => by
      have := v3 i (by omega)
      omega
     have hel : ∀ i, elemF c false false ta tb qa qb one two most i = twoQ c (qa.getD (ix one i) 0) (qb.getD (ix two i) 0) most := fun i => by
      unfold elemF
      rw [if_neg hch]
     obtain ⟨D, hD⟩ := pick_all (l := List.range n) (p := fun i d => dn d = (elemF c false false ta tb qa qb one two most i).1.den ∧ AC Tryz.prog 114 [.val (.int .i32 c), RA (qa.getD (ix one i) 0).num (denX (na.getD (ix one i) none)), RA (qb.getD (ix two i) 0).num (denX (nb.getD (ix two i) none)), .val (.int .i64 most)] (.pure (.tup [RA (elemF c false false ta tb qa qb one two most i).1.num d, .val (.int .i64 (elemF c false false ta tb qa qb one two most i).2)]))) (fun i hi => by
      have hi := List.mem_range.1 hi
      obtain ⟨i1, i2⟩ := hix i hi
      rw [hel]
      refine Two_ok c _ _ _ _ most (by rw [← na1, getD_val]; exact denX_ok (getD_okX oa _)) (by rw [← nb1, getD_val]; exact denX_ok (getD_okX ob _)) hm ?_ ?_
      ·rw [List.getD_eq_getElem?_getD, List.getElem?_eq_getElem i1]
       exact hQa _ (List.getElem_mem i1)
      ·rw [List.getD_eq_getElem?_getD, List.getElem?_eq_getElem i2]
       exact hQb _ (List.getElem_mem i2))
     have hL := Two_loop c hc sa sb ta tb na nb qa qb na1 nb1 most s one two n hn5 v1 hn hF hix (by omega) (by omega) D (elemF c false false ta tb qa qb one two most) (fun i hi => hD i (List.mem_range.2 hi)) _ rfl
     refine ⟨(List.range n).map fun i => some ((elemF c false false ta tb qa qb one two most i).1, D i), fun _ => by rw [List.map_map]; rfl, fun o ho => ?_, by rw [List.length_map, List.length_range]; omega, ?_⟩
     ·obtain ⟨i, hi, rfl⟩ := List.mem_map.1 ho
      exact (hD i hi).1
     ·unfold resA
      by_cases hE : firstE ((List.range n).map (elemF c false false ta tb qa qb one two most)) = 0
      ·rw [if_pos hE] at hL ⊢
       exact hL
      ·rw [if_neg hE] at hL ⊢
       exact AC.le_res hL (.tup2 AZ_le (.refl _)) (.tup _ (noid2 (AA_noid _ _ _ _ _) (.val _)))
  ·rw [if_pos he]
   refine ⟨[], fun h => absurd h he, fun o ho => (nomatch ho), Nat.zero_le _, ?_⟩
   exact resA_err _ _ he (Two_unfit c sa sb ca cb ta tb hc _ _ most x he hF)
 ·rw [if_neg hc]
  exact ⟨[], fun h => absurd h (by decide), fun o ho => (nomatch ho), Nat.zero_le _, resA_err _ _ (by decide) (Two_not c sa sb ca cb ta tb hc _ _ most)⟩
end
section
def PE (ch : Bool) (x : Int) (q : Rat) : AV := if ch then PA [] true [x] [] else PA [] false [] [q]
def pairV (c : Int) (ca cb : Bool) (x y : Int) (p q : Rat) (most : Int) : Rat × Int :=
 if ca = true ∨ cb = true then
  if c = 61 ∨ c = 8800 then (if (ca && cb && decide (x = y)) = decide (c = 61) then 1 else 0, 0) else (0, 22)
 else twoQ c p q most
def pairR (r : Rat × Int) : AV := .tup [RN r.1.num r.1.den, .val (.int .i64 r.2)]
section
variable (c : Int) (ca cb : Bool) (x y : Int) (p q : Rat) (most : Int) (hm : most ≤ 200) (lp : Sz p 20) (lq : Sz q 20)
include hm lp lq
end
end
section
def PEt (ch : Bool) (x : Int) : List (List AV) := if ch then [[.val (.int .i32 x)]] else []
def PEn (ch : Bool) (q : Rat) : List (List AV) := if ch then [] else [rowN q]
end
section
theorem getD_sz {j : Nat} (hj : 1 ≤ j) {l : List Rat} (h : ∀ q ∈ l, Sz q j) (k : Nat) : Sz (l.getD k 0) j := by
 rw [List.getD_eq_getElem?_getD]
 by_cases hk : k < l.length
 ·rw [List.getElem?_eq_getElem hk]; exact h _ (List.getElem_mem hk)
 ·rw [List.getElem?_eq_none (by omega)]; exact Sz_zero.mono hj
end
section
theorem sz_nat (n : Nat) (h : n < 4294967296) : Sz ((n : Int) : Rat) 1 := Sz_small (by
 show ((n : Int)).natAbs < _
 rw [Int.natAbs_natCast]; exact h) (by show (1 : Nat) < 4294967296; decide)
end
section
def GN (L : List TX) : Prop := ∀ x ∈ L, bytX x ∧ x.2.1.length < 9223372036854775808 ∧ x.2.2.length < 9223372036854775808
end
section
def Lite (sh : List Int) (ch : Bool) (tx : List Int) (L : List TX) (most : Nat) (qs : List Rat) : Prop :=
 PB sh ch tx L = PA sh ch tx qs ∧ vS sh ∧ kinds sh ch tx.length qs.length ∧ tx.length ≤ most ∧ qs.length ≤ most ∧ ∀ q ∈ qs, QR q
end
section
end
end Go.Proofs.YtcdeiegpeiodjaaGreat

namespace Go.Proofs.YtcdeiegpeiodjaaGreat
open Go Go.AL
section
def pr : List Int → Nat
 | [] => 1
 | d :: v => d.toNat * pr v
def dig : List Int → Nat → List Int
 | [], _ => []
 | _ :: v, i => ((i / pr v : Nat) : Int) :: dig v (i % pr v)
def allS : List Int → List (List Int)
 | [] => [[]]
 | d :: v => (List.range d.toNat).flatMap fun n : Nat => (allS v).map fun w => (n : Int) :: w
def plS (n : Int) : List Int → List Int → Int
 | d :: v, a :: w => if a < 0 ∨ d ≤ a then -1 else plS (n * d + a) v w
 | _, _ => n
theorem pr_append (u v : List Int) : pr (u ++ v) = pr u * pr v := by
 induction u with
 | nil => rw [List.nil_append]; exact (Nat.one_mul _).symm
 | cons d u ih => show d.toNat * pr (u ++ v) = d.toNat * pr u * pr v; rw [ih, Nat.mul_assoc]
theorem dig_len (s : List Int) : ∀ i, (dig s i).length = s.length := by
 induction s with
 | nil => intro i; rfl
 | cons d v ih => intro i; show (dig v _).length + 1 = _; rw [ih]; rfl
theorem dig_append (u v : List Int) : ∀ i, i < pr (u ++ v) → dig (u ++ v) i = dig u (i / pr v) ++ dig v (i % pr v) := by
 induction u with
 | nil =>
  intro i h
  have h : i < pr v := h
  show dig v i = dig v (i % pr v)
  rw [Nat.mod_eq_of_lt h]
 | cons d u ih =>
  intro i h
  have h : i < d.toNat * pr (u ++ v) := h
  have hp : 0 < pr (u ++ v) := Nat.pos_of_ne_zero fun e => by rw [e] at h; omega
  show ((i / pr (u ++ v) : Nat) : Int) :: dig (u ++ v) (i % pr (u ++ v)) = ((i / pr v / pr u : Nat) : Int) :: (dig u (i / pr v % pr u) ++ dig v (i % pr v))
  rw [ih _ (Nat.mod_lt _ hp), pr_append]
  rw [Nat.div_div_eq_div_mul, Nat.mul_comm (pr v)]
  congr 2
  ·congr 1
   exact Nat.mod_mul_left_div_self _ _ _
  ·congr 1
   exact Nat.mod_mul_left_mod _ _ _
end
end Go.Proofs.YtcdeiegpeiodjaaGreat

namespace Go.Proofs.YtcdeiegpeiodjaaGreat
open Go Go.AL NM
section
theorem pm_from (v : List Int) : ∀ n : Int, v.foldl (fun n d => n * max 1 d) n = n * pmI v := by
 induction v with
 | nil => intro n; exact (Int.mul_one n).symm
 | cons d v ih =>
  intro n
  show v.foldl (fun n d => n * max 1 d) (n * max 1 d) = n * v.foldl (fun n d => n * max 1 d) (1 * max 1 d)
  rw [ih, ih, Int.one_mul, Int.mul_assoc]
theorem pm_cons (d : Int) (v : List Int) : pmI (d :: v) = max 1 d * pmI v := by
 show v.foldl (fun n d => n * max 1 d) (1 * max 1 d) = _
 rw [pm_from, Int.one_mul]
theorem pm_append (u v : List Int) : pmI (u ++ v) = pmI u * pmI v := by
 induction u with
 | nil => exact (Int.one_mul _).symm
 | cons d u ih => rw [List.cons_append, pm_cons, pm_cons, ih, Int.mul_assoc]
theorem pr_zero {s : List Int} (h : 0 ∈ s) : pr s = 0 := by
 induction s with
 | nil => cases h
 | cons d v ih =>
  show d.toNat * pr v = 0
  rcases List.mem_cons.1 h with h | h
  ·rw [← h]; exact Nat.zero_mul _
  ·rw [ih h, Nat.mul_zero]
theorem cnt_pr {s : List Int} (h : ∀ d ∈ s, 0 ≤ d) : cntI s = (pr s : Int) := by
 unfold cntI
 by_cases h0 : 0 ∈ s
 ·rw [if_pos h0, pr_zero h0]; rfl
 ·rw [if_neg h0]
  induction s with
  | nil => rfl
  | cons d v ih =>
   rw [pm_cons]
   have hd := h d List.mem_cons_self
   have hn : d ≠ 0 := fun e => h0 (by rw [e]; exact List.mem_cons_self)
   rw [ih (fun x hx => h x (List.mem_cons_of_mem _ hx)) (fun hx => h0 (List.mem_cons_of_mem _ hx))]
   show _ = ((d.toNat * pr v : Nat) : Int)
   rw [Int.natCast_mul, show max 1 d = ((d.toNat : Nat) : Int) by omega]
theorem pr_le_pm {s : List Int} (h : ∀ d ∈ s, 0 ≤ d) : (pr s : Int) ≤ pmI s := by
 rw [← cnt_pr h]
 unfold cntI
 split
 ·have := pm_pos s; omega
 ·exact Int.le_refl _
theorem vS_pr {s : List Int} (h : vS s) : cntI s = (pr s : Int) ∧ pr s ≤ 4096 := by
 refine ⟨cnt_pr h.2.1, ?_⟩
 have := pr_le_pm h.2.1
 have := h.2.2
 omega
theorem mid_split {s : List Int} {k : Nat} (hk : k < s.length) : s = s.take k ++ s[k] :: s.drop (k + 1) := by
 rw [← List.drop_eq_getElem_cons hk, List.take_append_drop]
theorem vS_mid {u v : List Int} {d : Int} : vS (u ++ d :: v) ↔ u.length + v.length ≤ 7 ∧ (∀ x ∈ u, 0 ≤ x) ∧ 0 ≤ d ∧ (∀ x ∈ v, 0 ≤ x) ∧ pmI u * (max 1 d * pmI v) ≤ 4096 := by
 unfold vS
 rw [pm_append, pm_cons, List.length_append, List.length_cons]
 constructor
 ·rintro ⟨h1, h2, h3⟩
  exact ⟨by omega, fun x hx => h2 x (List.mem_append_left _ hx), h2 d (List.mem_append_right _ List.mem_cons_self), fun x hx => h2 x (List.mem_append_right _ (List.mem_cons_of_mem _ hx)), h3⟩
 ·rintro ⟨h1, h2, h3, h4, h5⟩
  refine ⟨by omega, fun x hx => ?_, h5⟩
  rcases List.mem_append.1 hx with h | h
  ·exact h2 x h
  ·rcases List.mem_cons.1 h with rfl | h
   ·exact h3
   ·exact h4 x h
theorem vS_app {u v : List Int} : vS (u ++ v) ↔ u.length + v.length ≤ 8 ∧ (∀ x ∈ u, 0 ≤ x) ∧ (∀ x ∈ v, 0 ≤ x) ∧ pmI u * pmI v ≤ 4096 := by
 unfold vS
 rw [pm_append, List.length_append]
 constructor
 ·rintro ⟨h1, h2, h3⟩
  exact ⟨h1, fun x hx => h2 x (List.mem_append_left _ hx), fun x hx => h2 x (List.mem_append_right _ hx), h3⟩
 ·rintro ⟨h1, h2, h3, h4⟩
  refine ⟨h1, fun x hx => ?_, h4⟩
  rcases List.mem_append.1 hx with h | h
  ·exact h2 x h
  ·exact h3 x h
theorem vS_parts {u v : List Int} (h : vS (u ++ v)) : vS u ∧ vS v := by
 obtain ⟨h1, h2, h3, h4⟩ := vS_app.1 h
 have p1 := pm_pos u
 have p2 := pm_pos v
 have m1 : pmI u * 1 ≤ pmI u * pmI v := Int.mul_le_mul_of_nonneg_left p2 (by omega)
 have m2 : 1 * pmI v ≤ pmI u * pmI v := Int.mul_le_mul_of_nonneg_right p1 (by omega)
 exact ⟨⟨by omega, h2, by omega⟩, ⟨by omega, h3, by omega⟩⟩
theorem vS_dim {s : List Int} (h : vS s) {d : Int} (hd : d ∈ s) : d ≤ 4096 := by
 obtain ⟨u, v, rfl⟩ := List.append_of_mem hd
 obtain ⟨h1, h2, h3, h4, h5⟩ := vS_mid.1 h
 have p1 := pm_pos u
 have p2 := pm_pos v
 have m1 : max 1 d * 1 ≤ max 1 d * pmI v := Int.mul_le_mul_of_nonneg_left p2 (by omega)
 have m2 : 1 * (max 1 d * pmI v) ≤ pmI u * (max 1 d * pmI v) := Int.mul_le_mul_of_nonneg_right p1 (by omega)
 omega
end
end Go.Proofs.YtcdeiegpeiodjaaGreat

set_option linter.unusedSimpArgs false
namespace Go.AL
open Go Go.RowKit
end Go.AL

namespace Go.Proofs.YtcdeiegpeiodjaaGreat
open Go Go.AL NM
section
theorem Grow_zero : AC Tryz.prog 118 [.sl 0 [] true, .val (.int .i64 0)] (.pure (.sl 0 [] true)) := by
 refine AC.of_body TTok Tryz.func118 rfl (enter_of Tryz.func118 (by kernel_rfl) (by kernel_rfl)) (noid2 (.sl _ _ _ (fun r hr => nomatch hr)) (.val _)) (.sl _ _ _ (fun r hr => nomatch hr)) (nbq rfl) ?_
 repeat ((conv => whnf); (first | refine ⟨_, ‹_›, ?_⟩ | refine ⟨nbq rfl, _, ‹_›, ?_⟩ | refine ⟨by kernel_rfl, ?_⟩ | exact rfl | exact ⟨nbq rfl, rfl⟩ | refine ⟨by decide, ?_⟩))
theorem Grow_pos (n : Nat) (h0 : 0 < n) (hb : n ≤ 1000000) : AC Tryz.prog 118 [.sl 0 [] true, .val (.int .i64 (n : Int))] (.fresh 1 []) := by
 have e1 : IntKind.i64.wrap ((n : Int) - IntKind.i64.wrap ((([] : List (List AV)).length : Int) - (([] : List (List AV)).length : Int))) = (n : Int) := by
  rw [show (([] : List (List AV)).length : Int) - (([] : List (List AV)).length : Int) = 0 from rfl, show IntKind.i64.wrap 0 = 0 by decide, Int.sub_zero, IntWalk.i64_in _ (by omega)]
 refine AC.of_body TTok Tryz.func118 rfl (enter_of Tryz.func118 (by kernel_rfl) (by kernel_rfl)) (noid2 (.sl _ _ _ (fun r hr => nomatch hr)) (.val _)) (fun r hr => nomatch hr) (nbq rfl) ?_
 conv => whnf
 refine caseb (fun _ => ?_) (fun h => absurd (of_decide_eq_false h) (by rw [e1]; omega))
 conv => whnf
 refine ⟨by decide, ?_⟩
 conv => whnf
 refine ⟨by rw [e1]; exact ⟨by omega, by show (n : Int) * 8 ≤ 140737488355328; omega⟩, ?_⟩
 conv => whnf
 refine ⟨⟨Int.le_refl _, Int.natCast_nonneg _⟩, ?_⟩
 conv => whnf
 exact ⟨rfl, Nat.zero_le _, rfl⟩
def lrows (ls : List (List Int)) : List (List AV) := ls.map fun l => [.sl 1 (irows .i64 l) false]
theorem lrows_len (ls : List (List Int)) : (lrows ls).length = ls.length := List.length_map _
theorem lrows_noid (ls : List (List Int)) : ∀ r ∈ lrows ls, ∀ x ∈ r, NoId x := by
 intro r hr x hx
 obtain ⟨l, _, rfl⟩ := List.mem_map.1 hr
 rw [List.mem_singleton.1 hx]
 exact noid_sl _ _ _
theorem flat_snoc {ls : List (List Int)} {i : Nat} (h : i < ls.length) : (ls.take (i + 1)).flatten = (ls.take i).flatten ++ ls[i] := by
 rw [take_snoc h, List.flatten_append]; simp
theorem Concat_ok (ls : List (List Int)) (hl : ls.length ≤ 1000) (hb : ls.flatten.length ≤ 100000) : AC Tryz.prog 95 [.sl 1 (lrows ls) false] (.pure (.sl 1 (irows .i64 ls.flatten) false)) := by
 have lr := lrows_len ls
 have hle : ∀ i, i ≤ ls.length → (ls.take i).flatten.length ≤ ls.flatten.length := fun i hi => by
  have := List.take_append_drop i ls
  have h2 : ls.flatten = (ls.take i).flatten ++ (ls.drop i).flatten := by rw [← List.flatten_append, this]
  rw [h2, List.length_append]; omega
 refine AC.of_body TTok Tryz.func95 rfl (enter_of Tryz.func95 (by kernel_rfl) (by kernel_rfl)) (noid1 (.sl _ _ _ (lrows_noid _))) (noid_sl _ _ _) (nbq rfl) ?_
 conv => whnf
 refine SW.loopM TTok (fun i : Nat => [(0, .sl 1 (lrows ls) false), (3, .val (.int .i64 ((ls.take i).flatten.length : Nat))), (9, .sl 1 (lrows ls) false), (10, .val (.int .i64 ((lrows ls).length : Nat))), (11, .val (.int .i64 (i : Int)))]) (fun _ => []) 40 36 rfl (fun i => ls.length - i) (fun i => i ≤ ls.length) 0 [] (Nat.zero_le _)
  ⟨q2r, q2r, q2r, q2r, q2r, trivial⟩ trivial rfl ?_
 intro i hJ
 have hi : i ≤ ls.length := hJ
 clear hJ
 have b1 := hle i hi
 by_cases hlt : i < ls.length
 ·have eI : IntKind.i64.wrap ((i : Int) + 1) = ((i + 1 : Nat) : Int) := by rw [IntWalk.i64_in _ (by omega)]; omega
  have b2 := hle (i + 1) hlt
  have hg : (lrows ls)[i]? = some [.sl 1 (irows .i64 ls[i]) false] := by unfold lrows; rw [List.getElem?_map, List.getElem?_eq_getElem hlt]; rfl
  have hs := flat_snoc hlt
  have hsl : (ls.take (i + 1)).flatten.length = (ls.take i).flatten.length + ls[i].length := by rw [hs, List.length_append]
  have ln := irows_len .i64 ls[i]
  have eS : IntKind.i64.wrap (((ls.take i).flatten.length : Nat) + ((irows .i64 ls[i]).length : Int)) = (((ls.take (i + 1)).flatten.length : Nat) : Int) := by rw [ln, IntWalk.i64_in _ (by omega), hsl]; omega
  conv => whnf
  first | refine oTq (by omega) ?_ | refine oFq (by omega) ?_ | refine oEq (by omega) ?_ | refine oNq (by omega) ?_
  conv => whnf
  refine ⟨_, ⟨by omega, by rw [Int.toNat_natCast]; exact hg⟩, ?_⟩
  conv => whnf
  refine caseb (fun h => absurd (of_decide_eq_true h) (by rw [eS]; omega)) (fun _ => ?_)
  conv => whnf
  exact ⟨i + 1, [], (by show ls.length - (i + 1) < ls.length - i; omega), hlt, ⟨q2r, ⟨valI eS, rfl⟩, q2r, q2r, ⟨valI eI, rfl⟩, trivial⟩, trivial, rfl⟩
 ·have hie : i = ls.length := by omega
  have e0 : ls.take i = ls := by rw [hie, List.take_length]
  rw [e0]
  obtain ⟨n, hn⟩ : ∃ n, n = ls.flatten.length := ⟨_, rfl⟩
  rw [← hn] at hb hle ⊢
  by_cases hn0 : n = 0
  ·subst hn0
   have hG := Grow_zero
   conv => whnf
   first | refine oTq (by omega) ?_ | refine oFq (by omega) ?_ | refine oEq (by omega) ?_ | refine oNq (by omega) ?_
   conv => whnf
   refine ⟨_, hG, ?_⟩
   conv => whnf
   refine SW.nil 6 1 rfl ?_
   refine SW.loopM TTok (fun i : Nat => [(6, .own 96 0 (ls.take i).flatten.length), (25, .sl 1 (lrows ls) false), (26, .val (.int .i64 ((lrows ls).length : Nat))), (27, .val (.int .i64 (i : Int)))]) (fun i => [(96, .cells 1 (irows .i64 (ls.take i).flatten))]) 104 36 rfl (fun i => ls.length - i) (fun i => i ≤ ls.length) 0 [] (Nat.zero_le _)
    ⟨q2r, q2r, q2r, q2r, trivial⟩ ⟨q3r, trivial⟩ rfl ?_
   intro i hJ
   have hi : i ≤ ls.length := hJ
   clear hJ
   have b1 := hle i hi
   have lf := irows_len .i64 (ls.take i).flatten
   by_cases hlt : i < ls.length
   ·have eI : IntKind.i64.wrap ((i : Int) + 1) = ((i + 1 : Nat) : Int) := by rw [IntWalk.i64_in _ (by omega)]; omega
    have b2 := hle (i + 1) hlt
    have hg : (lrows ls)[i]? = some [.sl 1 (irows .i64 ls[i]) false] := by unfold lrows; rw [List.getElem?_map, List.getElem?_eq_getElem hlt]; rfl
    have hs := flat_snoc hlt
    have hsl : (ls.take (i + 1)).flatten.length = (ls.take i).flatten.length + ls[i].length := by rw [hs, List.length_append]
    have ln := irows_len .i64 ls[i]
    conv => whnf
    first | refine oTq (by omega) ?_ | refine oFq (by omega) ?_ | refine oEq (by omega) ?_ | refine oNq (by omega) ?_
    conv => whnf
    refine ⟨_, ⟨by omega, by rw [Int.toNat_natCast]; exact hg⟩, ?_⟩
    conv => whnf
    refine ⟨⟨by show 0 + _ ≤ _; omega, by show ((ls.take i).flatten.length + (irows .i64 ls[i]).length) * 8 ≤ 140737488355328; omega⟩, ?_⟩
    conv => whnf
    refine ⟨i + 1, [(96, 152)], (by show ls.length - (i + 1) < ls.length - i; omega), hlt, ⟨⟨ownE rfl (by rw [hsl, ln]), rfl⟩, q2r, q2r, ⟨valI eI, rfl⟩, trivial⟩, ⟨⟨rfl, .inl ⟨celE ?_, irows_noid _ _⟩⟩, trivial⟩, rfl⟩
    show List.take _ (List.drop 0 (irows .i64 (ls.take i).flatten)) ++ irows .i64 ls[i] = _
    rw [List.drop_zero, List.take_of_length_le (by omega), hs, ← irows_append]
   ·have hie : i = ls.length := by omega
    have e0 : ls.take i = ls := by rw [hie, List.take_length]
    rw [e0] at lf ⊢
    conv => whnf
    first | refine oTq (by omega) ?_ | refine oFq (by omega) ?_ | refine oEq (by omega) ?_ | refine oNq (by omega) ?_
    conv => whnf
    refine ⟨by show 0 + _ ≤ _; omega, ?_⟩
    show AV.sl 1 (List.take _ (List.drop 0 (irows .i64 ls.flatten))) false = _
    rw [List.drop_zero, List.take_of_length_le (by omega)]
  ·have hG := Grow_pos n (by omega) (by omega)
   conv => whnf
   first | refine oTq (by omega) ?_ | refine oFq (by omega) ?_ | refine oEq (by omega) ?_ | refine oNq (by omega) ?_
   conv => whnf
   refine ⟨_, hG, ?_⟩
   conv => whnf
   refine SW.loopM TTok (fun i : Nat => [(6, .own 56 0 (ls.take i).flatten.length), (25, .sl 1 (lrows ls) false), (26, .val (.int .i64 ((lrows ls).length : Nat))), (27, .val (.int .i64 (i : Int)))]) (fun i => [(56, .cells 1 (irows .i64 (ls.take i).flatten))]) 96 36 rfl (fun i => ls.length - i) (fun i => i ≤ ls.length) 0 [] (Nat.zero_le _)
    ⟨q2r, q2r, q2r, q2r, trivial⟩ ⟨q3r, trivial⟩ rfl ?_
   intro i hJ
   have hi : i ≤ ls.length := hJ
   clear hJ
   have b1 := hle i hi
   have lf := irows_len .i64 (ls.take i).flatten
   by_cases hlt : i < ls.length
   ·have eI : IntKind.i64.wrap ((i : Int) + 1) = ((i + 1 : Nat) : Int) := by rw [IntWalk.i64_in _ (by omega)]; omega
    have b2 := hle (i + 1) hlt
    have hg : (lrows ls)[i]? = some [.sl 1 (irows .i64 ls[i]) false] := by unfold lrows; rw [List.getElem?_map, List.getElem?_eq_getElem hlt]; rfl
    have hs := flat_snoc hlt
    have hsl : (ls.take (i + 1)).flatten.length = (ls.take i).flatten.length + ls[i].length := by rw [hs, List.length_append]
    have ln := irows_len .i64 ls[i]
    conv => whnf
    first | refine oTq (by omega) ?_ | refine oFq (by omega) ?_ | refine oEq (by omega) ?_ | refine oNq (by omega) ?_
    conv => whnf
    refine ⟨_, ⟨by omega, by rw [Int.toNat_natCast]; exact hg⟩, ?_⟩
    conv => whnf
    refine ⟨⟨by show 0 + _ ≤ _; omega, by show ((ls.take i).flatten.length + (irows .i64 ls[i]).length) * 8 ≤ 140737488355328; omega⟩, ?_⟩
    conv => whnf
    refine ⟨i + 1, [(56, 144)], (by show ls.length - (i + 1) < ls.length - i; omega), hlt, ⟨⟨ownE rfl (by rw [hsl, ln]), rfl⟩, q2r, q2r, ⟨valI eI, rfl⟩, trivial⟩, ⟨⟨rfl, .inl ⟨celE ?_, irows_noid _ _⟩⟩, trivial⟩, rfl⟩
    show List.take _ (List.drop 0 (irows .i64 (ls.take i).flatten)) ++ irows .i64 ls[i] = _
    rw [List.drop_zero, List.take_of_length_le (by omega), hs, ← irows_append]
   ·have hie : i = ls.length := by omega
    have e0 : ls.take i = ls := by rw [hie, List.take_length]
    rw [e0] at lf ⊢
    conv => whnf
    first | refine oTq (by omega) ?_ | refine oFq (by omega) ?_ | refine oEq (by omega) ?_ | refine oNq (by omega) ?_
    conv => whnf
    refine ⟨by show 0 + _ ≤ _; omega, ?_⟩
    show AV.sl 1 (List.take _ (List.drop 0 (irows .i64 ls.flatten))) false = _
    rw [List.drop_zero, List.take_of_length_le (by omega)]
end
section
theorem irows_set (k : IntKind) (l : List Int) (i : Nat) (x : Int) : (irows k l).set i [.val (.int k x)] = irows k (l.set i x) := by unfold irows; rw [List.map_set]
theorem irows_take (k : IntKind) (l : List Int) (i : Nat) : (irows k l).take i = irows k (l.take i) := by unfold irows; rw [List.map_take]
theorem irows_drop (k : IntKind) (l : List Int) (i : Nat) : (irows k l).drop i = irows k (l.drop i) := by unfold irows; rw [List.map_drop]
theorem Without_ok (s : List Int) (k : Nat) (hk : k < s.length) (hb : s.length ≤ 100000) : AC Tryz.prog 52 [.sl 1 (irows .i64 s) false, .val (.int .i64 (k : Int))] (.pure (.sl 1 (irows .i64 (s.take k ++ s.drop (k + 1))) false)) := by
 have hC := Concat_ok [s.take k, s.drop (k + 1)] (by show 2 ≤ 1000; omega) (by simp; omega)
 rw [show [s.take k, s.drop (k + 1)].flatten = s.take k ++ s.drop (k + 1) by simp] at hC
 have ln := irows_len .i64 s
 have eK : IntKind.i64.wrap ((k : Int) + 1) = ((k + 1 : Nat) : Int) := by rw [IntWalk.i64_in _ (by omega)]; omega
 have e1 : lrows [s.take k, s.drop (k + 1)] = [[.sl 1 (List.drop 0 (List.take (k : Int).toNat (irows .i64 s))) false], [.sl 1 (List.drop (IntKind.i64.wrap ((k : Int) + 1)).toNat (List.take (irows .i64 s).length (irows .i64 s))) false]] := by
  rw [eK, Int.toNat_natCast, Int.toNat_natCast, List.drop_zero, List.take_length, irows_take, irows_drop]; rfl
 rw [e1] at hC
 refine AC.of_body TTok Tryz.func52 rfl (enter_of Tryz.func52 (by kernel_rfl) (by kernel_rfl)) (noid2 (noid_sl _ _ _) (.val _)) (noid_sl _ _ _) (nbq rfl) ?_
 conv => whnf
 first | refine oTq (by omega) ?_ | refine oFq (by omega) ?_ | refine oEq (by omega) ?_ | refine oNq (by omega) ?_
 conv => whnf
 refine ⟨by omega, ?_⟩
 conv => whnf
 refine ⟨by rw [eK]; omega, ?_⟩
 conv => whnf
 refine ⟨(nbq rfl), _, hC, ?_⟩
 conv => whnf
 refine ⟨by kernel_rfl, ?_⟩
 repeat ((conv => whnf); (first | refine ⟨_, ‹_›, ?_⟩ | refine ⟨nbq rfl, _, ‹_›, ?_⟩ | refine ⟨by kernel_rfl, ?_⟩ | exact rfl | exact ⟨nbq rfl, rfl⟩ | refine ⟨by decide, ?_⟩))
theorem Split_ok (s : List Int) (k : Nat) (hk : k < s.length) (hv : vS s) : AC Tryz.prog 63 [.sl 1 (irows .i64 s) false, .val (.int .i64 (k : Int))] (.pure (.tup [.val (.int .i64 (pr (s.take k))), .val (.int .i64 s[k]), .val (.int .i64 (pr (s.drop (k + 1)))), .val (.bool true)])) := by
 have h8 := hv.1
 have hp := mid_split hk
 have v1 : vS (s.take k) := (vS_parts (by rw [← List.take_append_drop k s] at hv; exact hv)).1
 have v2 : vS (s.drop (k + 1)) := (vS_parts (by rw [← List.take_append_drop (k + 1) s] at hv; exact hv)).2
 have c0 := Count_ok s (by omega)
 have c1 := Count_ok (s.take k) (by rw [List.length_take]; omega)
 have c2 := Count_ok (s.drop (k + 1)) (by rw [List.length_drop]; omega)
 rw [CNT_good hv] at c0
 rw [CNT_good v1, (vS_pr v1).1] at c1
 rw [CNT_good v2, (vS_pr v2).1] at c2
 have ln := irows_len .i64 s
 have eK : IntKind.i64.wrap ((k : Int) + 1) = ((k + 1 : Nat) : Int) := by rw [IntWalk.i64_in _ (by omega)]; omega
 have e1 : irows .i64 (s.take k) = List.drop 0 (List.take (k : Int).toNat (irows .i64 s)) := by rw [Int.toNat_natCast, List.drop_zero, irows_take]
 have e2 : irows .i64 (s.drop (k + 1)) = List.drop (IntKind.i64.wrap ((k : Int) + 1)).toNat (List.take (irows .i64 s).length (irows .i64 s)) := by rw [eK, Int.toNat_natCast, List.take_length, irows_drop]
 rw [e1] at c1
 rw [e2] at c2
 have hg : (irows .i64 s)[k]? = some [.val (.int .i64 s[k])] := irows_get .i64 s (List.getElem?_eq_getElem hk)
 refine AC.of_body TTok Tryz.func63 rfl (enter_of Tryz.func63 (by kernel_rfl) (by kernel_rfl)) (noid2 (noid_sl _ _ _) (.val _)) (.tup _ (noidF (.val _) (.val _) (.val _) (.val _))) (nbq rfl) ?_
 conv => whnf
 refine ⟨_, c0, ?_⟩
 conv => whnf
 first | refine oTq (by omega) ?_ | refine oFq (by omega) ?_ | refine oEq (by omega) ?_ | refine oNq (by omega) ?_
 conv => whnf
 refine ⟨by omega, ?_⟩
 conv => whnf
 refine ⟨_, c1, ?_⟩
 conv => whnf
 refine ⟨by rw [eK]; omega, ?_⟩
 conv => whnf
 refine ⟨_, c2, ?_⟩
 conv => whnf
 refine ⟨_, ⟨by omega, by rw [Int.toNat_natCast]; exact hg⟩, ?_⟩
 repeat ((conv => whnf); (first | refine ⟨_, ‹_›, ?_⟩ | refine ⟨nbq rfl, _, ‹_›, ?_⟩ | refine ⟨by kernel_rfl, ?_⟩ | exact rfl | exact ⟨nbq rfl, rfl⟩ | refine ⟨by decide, ?_⟩))
end
section
end
section
theorem plS_neg (v w : List Int) (d a n : Int) (h : a < 0 ∨ d ≤ a) : plS n (d :: v) (a :: w) = -1 := if_pos h
def plB (s : List Int) (i : Nat) (n : Int) : Prop := 0 ≤ n ∧ n < pmI (s.take i)
theorem plB_step {s : List Int} (hv : vS s) {i : Nat} (hi : i < s.length) {n a : Int} (h : plB s i n) (h0 : 0 ≤ a) (h1 : a < s[i]) : plB s (i + 1) (n * s[i] + a) := by
 obtain ⟨b0, b1⟩ := h
 rw [plB, pm_take hi]
 have hd : 0 ≤ s[i] := by omega
 have m0 : 0 ≤ n * s[i] := Int.mul_nonneg b0 hd
 have m1 : (n + 1) * s[i] ≤ pmI (s.take i) * s[i] := Int.mul_le_mul_of_nonneg_right (by omega) hd
 rw [Int.add_mul, Int.one_mul] at m1
 rw [show max 1 s[i] = s[i] by omega]
 omega
theorem plB_small {s : List Int} (hv : vS s) {i : Nat} {n : Int} (h : plB s i n) : 0 ≤ n ∧ n < 4096 := by
 have := pm_mono s i
 have := hv.2.2
 exact ⟨h.1, by have := h.2; omega⟩
end
section
def gA (D : Nat) (w : List Int) : List (List Int) := (List.range D).map fun n : Nat => w ++ [(n : Int)]
end
end Go.Proofs.YtcdeiegpeiodjaaGreat

set_option linter.unusedSimpArgs false
namespace Go.AL
open Go Go.RowKit
end Go.AL

namespace Go.Proofs.YtcdeiegpeiodjaaGreat
open Go Go.AL NM
section
def getX (ns : List (Option (Rat × Nat))) (k : Int) : Option (Rat × Nat) := if 0 ≤ k then ns.getD k.toNat none else none
def getT (tx : List Int) (k : Int) : Int := if 0 ≤ k then tx.getD k.toNat 32 else 32
def getQ (qs : List Rat) (k : Int) : Rat := if 0 ≤ k then qs.getD k.toNat 0 else 0
theorem getX_in {ns : List (Option (Rat × Nat))} {k : Nat} (h : k < ns.length) : getX ns (k : Int) = ns[k] := by
 unfold getX
 rw [if_pos (by omega), Int.toNat_natCast, List.getD_eq_getElem?_getD, List.getElem?_eq_getElem h]; rfl
theorem getX_out {ns : List (Option (Rat × Nat))} {k : Int} (h : k < 0 ∨ (ns.length : Int) ≤ k) : getX ns k = none := by
 unfold getX
 split
 ·rw [List.getD_eq_getElem?_getD, List.getElem?_eq_none (by omega)]; rfl
 ·rfl
theorem getT_in {tx : List Int} {k : Nat} (h : k < tx.length) : getT tx (k : Int) = tx[k] := by
 unfold getT
 rw [if_pos (by omega), Int.toNat_natCast, List.getD_eq_getElem?_getD, List.getElem?_eq_getElem h]; rfl
theorem getT_out {tx : List Int} {k : Int} (h : k < 0 ∨ (tx.length : Int) ≤ k) : getT tx k = 32 := by
 unfold getT
 split
 ·rw [List.getD_eq_getElem?_getD, List.getElem?_eq_none (by omega)]; rfl
 ·rfl
theorem getQ_in {qs : List Rat} {k : Nat} (h : k < qs.length) : getQ qs (k : Int) = qs[k] := by
 unfold getQ
 rw [if_pos (by omega), Int.toNat_natCast, List.getD_eq_getElem?_getD, List.getElem?_eq_getElem h]; rfl
theorem getQ_out {qs : List Rat} {k : Int} (h : k < 0 ∨ (qs.length : Int) ≤ k) : getQ qs k = 0 := by
 unfold getQ
 split
 ·rw [List.getD_eq_getElem?_getD, List.getElem?_eq_none (by omega)]; rfl
 ·rfl
theorem getX_val (ns : List (Option (Rat × Nat))) (k : Int) : valX (getX ns k) = getQ (ns.map valX) k := by
 by_cases h : k < 0 ∨ (ns.length : Int) ≤ k
 ·rw [getX_out h, getQ_out (by rw [List.length_map]; exact h)]; rfl
 ·obtain ⟨j, rfl⟩ := Int.eq_ofNat_of_zero_le (show 0 ≤ k by omega)
  rw [getX_in (show j < ns.length by omega), getQ_in (show j < (ns.map valX).length by rw [List.length_map]; omega), List.getElem_map]
theorem getX_ok {ns : List (Option (Rat × Nat))} (h : ∀ o ∈ ns, okX o) (k : Int) : okX (getX ns k) := by
 by_cases hk : k < 0 ∨ (ns.length : Int) ≤ k
 ·rw [getX_out hk]; trivial
 ·obtain ⟨j, rfl⟩ := Int.eq_ofNat_of_zero_le (show 0 ≤ k by omega)
  rw [getX_in (show j < ns.length by omega)]
  exact h _ (List.getElem_mem _)
theorem RatAny_ok (sh : List Int) (ch : Bool) (tx : List Int) (ns : List (Option (Rat × Nat))) (made : Bool) (k : Int) (hb : ns.length ≤ 1000000) : AC Tryz.prog 22 [AA sh ch tx ns made, .val (.int .i64 k)] (.pure (.agg (rowX (getX ns k)))) := by
 by_cases h : k < 0 ∨ (ns.length : Int) ≤ k
 ·rw [getX_out h]
  refine AC.of_body TTok Tryz.func22 rfl (enter_of Tryz.func22 (by kernel_rfl) (by kernel_rfl)) (noid2 (AA_noid _ _ _ _ _) (.val _)) (.agg _ (rowX_noid none)) (nbq rfl) ?_
  have hlen : (ns.map rowX).length = ns.length := List.length_map _
  unfold AA
  by_cases h0 : k < 0
  ·conv => whnf
   first | refine oTq (by omega) ?_ | refine oFq (by omega) ?_ | refine oEq (by omega) ?_ | refine oNq (by omega) ?_
   repeat ((conv => whnf); (first | refine ⟨_, ‹_›, ?_⟩ | refine ⟨nbq rfl, _, ‹_›, ?_⟩ | refine ⟨by kernel_rfl, ?_⟩ | exact rfl | exact ⟨nbq rfl, rfl⟩ | refine ⟨by decide, ?_⟩))
  ·conv => whnf
   first | refine oTq (by omega) ?_ | refine oFq (by omega) ?_ | refine oEq (by omega) ?_ | refine oNq (by omega) ?_
   conv => whnf
   first | refine oTq (by omega) ?_ | refine oFq (by omega) ?_ | refine oEq (by omega) ?_ | refine oNq (by omega) ?_
   repeat ((conv => whnf); (first | refine ⟨_, ‹_›, ?_⟩ | refine ⟨nbq rfl, _, ‹_›, ?_⟩ | refine ⟨by kernel_rfl, ?_⟩ | exact rfl | exact ⟨nbq rfl, rfl⟩ | refine ⟨by decide, ?_⟩))
 ·obtain ⟨j, rfl⟩ := Int.eq_ofNat_of_zero_le (show 0 ≤ k by omega)
  rw [getX_in (show j < ns.length by omega)]
  exact RatI_ok sh ch tx ns made j (by omega) hb
theorem rowX_eq (o : Option (Rat × Nat)) : ∃ (k : Nat) (l1 l2 : List (List AV)) (z : Bool) (b : Bool), rowX o = [.sl k l1 z, .val (.bool b), .sl k l2 z] := by
 cases o with
 | none => exact ⟨0, [], [], true, false, rfl⟩
 | some p => exact ⟨1, _, _, false, _, rfl⟩
theorem PickN_ok (sh : List Int) (tx : List Int) (ns : List (Option (Rat × Nat))) (s at_ : List Int) (hv : vS s) (hc : cntI s = (at_.length : Int)) (hb : ns.length ≤ 100000) :
  AC Tryz.prog 66 [AA sh false tx ns true, .sl 1 (irows .i64 s) false, .sl 1 (irows .i64 at_) false] (.pure (.tup [AA s false [] (at_.map (getX ns)) true, .val (.bool true)])) := by
 have l4 : at_.length ≤ 4096 := by have := vS_pr hv; omega
 have hC := Count_ok s (by have := hv.1; omega)
 rw [CNT_good hv, hc] at hC
 have hK := CloneI_ok s (by have := hv.1; omega)
 have la := irows_len .i64 at_
 obtain ⟨Y, hY⟩ : ∃ Y, Y = at_.map (getX ns) := ⟨_, rfl⟩
 have lY : Y.length = at_.length := by rw [hY, List.length_map]
 have hYi : ∀ i (h : i < at_.length), Y[i]'(by omega) = getX ns at_[i] := fun i h => by subst hY; rw [List.getElem_map]
 have hR : ∀ i (h : i < at_.length), AC Tryz.prog 22 [AA sh false tx ns true, .val (.int .i64 at_[i])] (.pure (.agg (rowX (getX ns at_[i])))) := fun i h => RatAny_ok sh false tx ns true _ (by omega)
 rw [← hY]
 refine AC.le_res (?_ : AC Tryz.prog 66 _ (.pure (.tup [.agg [.sl 1 (irows .i64 s) false, .val (.bool false), .sl 0 [] true, .sl 3 (Y.map rowX) false, .val (.bool true)], .val (.bool true)]))) (.tup2 (le_agg5 (.refl _) (.refl _) (le_nil 1) (.refl _) (.refl _)) (.refl _)) (.tup _ (noid2 (AA_noid _ _ _ _ _) (.val _)))
 refine AC.of_body TTok Tryz.func66 rfl (enter_of Tryz.func66 (by kernel_rfl) (by kernel_rfl)) (noid3 (AA_noid _ _ _ _ _) (noid_sl _ _ _) (noid_sl _ _ _)) (.tup _ (noid2 (.agg _ (noid5 (noid_sl _ _ _) (.val _) (.sl _ _ _ (fun r hr => nomatch hr)) (slX_noid _) (.val _))) (.val _))) (nbq rfl) ?_
 unfold AA at hR ⊢
 conv => whnf
 refine ⟨_, hC, ?_⟩
 conv => whnf
 first | refine nTq (by omega) ?_ | refine nFq (by omega) ?_
 conv => whnf
 refine ⟨_, hK, ?_⟩
 conv => whnf
 refine ⟨by kernel_rfl, ?_⟩
 conv => whnf
 refine SW.nilC 184 3 3 rfl rfl ?_
 refine SW.loopM TTok (fun i : Nat => [(3, .lp 0 0), (6, .lp 8 0), (10, .lp 184 0), (32, .sl 1 (irows .i64 at_) false), (33, .val (.int .i64 ((irows .i64 at_).length : Nat))), (34, .val (.int .i64 (i : Int)))])
  (fun i => [(0, .cells 5 [[.sl 1 (irows .i64 sh) false, .val (.bool false), .sl 1 (irows .i32 tx) false, .sl 3 (ns.map rowX) false, .val (.bool true)]]), (8, .cells 5 [[.sl 0 [] true, .val (.bool false), .sl 0 [] true, .sl 0 [] true, .val (.bool false)]]), (184, .cells 5 [[.sl 1 (irows .i64 s) false, .val (.bool false), .sl 0 [] true, .own 224 0 i, .val (.bool true)]]), (224, .cells 3 ((Y.take i).map rowX))]) 232 77 rfl (fun i => at_.length - i) (fun i => i ≤ at_.length) 0 [] (Nat.zero_le _)
  ⟨q2r, q2r, q2r, q2r, q2r, q2r, trivial⟩ ⟨q3r, q3r, q3r, q3r, trivial⟩ rfl ?_
 intro i hJ
 have hi : i ≤ at_.length := hJ
 clear hJ
 have lr : ((Y.take i).map rowX).length = i := by rw [List.length_map, List.length_take]; omega
 by_cases hlt : i < at_.length
 ·have eI : IntKind.i64.wrap ((i : Int) + 1) = ((i + 1 : Nat) : Int) := by rw [IntWalk.i64_in _ (by omega)]; omega
  have hg : (irows .i64 at_)[i]? = some [.val (.int .i64 at_[i])] := irows_get .i64 at_ (List.getElem?_eq_getElem hlt)
  have d2 := hR i hlt
  have hsn : (Y.take i).map rowX ++ [rowX (getX ns at_[i])] = (Y.take (i + 1)).map rowX := by
   rw [take_snoc (show i < Y.length by omega), List.map_append, hYi i hlt]; rfl
  have htk : List.take i (List.drop 0 ((Y.take i).map rowX)) = (Y.take i).map rowX := by rw [List.drop_zero, List.take_of_length_le (by omega)]
  obtain ⟨k, l1, l2, z, b, hrow⟩ := rowX_eq (getX ns at_[i])
  rw [hrow] at d2 hsn
  conv => whnf
  first | refine oTq (by omega) ?_ | refine oFq (by omega) ?_ | refine oEq (by omega) ?_ | refine oNq (by omega) ?_
  conv => whnf
  refine ⟨_, ⟨by omega, by rw [Int.toNat_natCast]; exact hg⟩, ?_⟩
  conv => whnf
  refine ⟨_, d2, ?_⟩
  conv => whnf
  refine ⟨⟨by show 0 + i ≤ _; omega, by show (i + 1) * 56 ≤ 140737488355328; omega, nbq rfl⟩, ?_⟩
  conv => whnf
  refine ⟨by kernel_rfl, ?_⟩
  conv => whnf
  refine ⟨i + 1, [(224, 344)], (by show at_.length - (i + 1) < at_.length - i; omega), hlt, ⟨q2r, q2r, q2r, q2r, q2r, ⟨valI eI, rfl⟩, trivial⟩, ⟨q3r, q3r, q3r, ⟨rfl, .inl ⟨celE ?_, rowsX_noid _⟩⟩, trivial⟩, rfl⟩
  rw [← hsn]
  show List.take i (List.drop 0 ((Y.take i).map rowX)) ++ [_] = _
  rw [htk]
  rfl
 ·have hie : i = at_.length := by omega
  have e1 : Y.take i = Y := List.take_of_length_le (by omega)
  rw [e1] at lr ⊢
  have key : List.take i (List.drop 0 (Y.map rowX)) = Y.map rowX := by rw [List.drop_zero, List.take_of_length_le (by omega)]
  conv => whnf
  first | refine oTq (by omega) ?_ | refine oFq (by omega) ?_ | refine oEq (by omega) ?_ | refine oNq (by omega) ?_
  conv => whnf
  refine ⟨by show 0 + i ≤ _; omega, ?_⟩
  show AV.tup [AV.agg [_, _, _, AV.sl 3 (List.take i (List.drop 0 (Y.map rowX))) false, _], _] = _
  rw [key]
  rfl
theorem PickT_ok (sh : List Int) (tx : List Int) (ns : List (Option (Rat × Nat))) (s at_ : List Int) (hv : vS s) (hc : cntI s = (at_.length : Int)) (hb : tx.length ≤ 100000) :
  AC Tryz.prog 66 [AA sh true tx ns true, .sl 1 (irows .i64 s) false, .sl 1 (irows .i64 at_) false] (.pure (.tup [AA s true (at_.map (getT tx)) [] true, .val (.bool true)])) := by
 have l4 : at_.length ≤ 4096 := by have := vS_pr hv; omega
 have hC := Count_ok s (by have := hv.1; omega)
 rw [CNT_good hv, hc] at hC
 have hK := CloneI_ok s (by have := hv.1; omega)
 have la := irows_len .i64 at_
 have lt := irows_len .i32 tx
 obtain ⟨Y, hY⟩ : ∃ Y, Y = at_.map (getT tx) := ⟨_, rfl⟩
 have lY : Y.length = at_.length := by rw [hY, List.length_map]
 have hYi : ∀ i (h : i < at_.length), Y[i]'(by omega) = getT tx at_[i] := fun i h => by subst hY; rw [List.getElem_map]
 rw [← hY]
 refine AC.le_res (?_ : AC Tryz.prog 66 _ (.pure (.tup [.agg [.sl 1 (irows .i64 s) false, .val (.bool true), .sl 1 (irows .i32 Y) false, .sl 0 [] true, .val (.bool true)], .val (.bool true)]))) (.tup2 (le_agg5 (.refl _) (.refl _) (.refl _) (le_nil 3) (.refl _)) (.refl _)) (.tup _ (noid2 (AA_noid _ _ _ _ _) (.val _)))
 refine AC.of_body TTok Tryz.func66 rfl (enter_of Tryz.func66 (by kernel_rfl) (by kernel_rfl)) (noid3 (AA_noid _ _ _ _ _) (noid_sl _ _ _) (noid_sl _ _ _)) (.tup _ (noid2 (.agg _ (noid5 (noid_sl _ _ _) (.val _) (noid_sl _ _ _) (.sl _ _ _ (fun r hr => nomatch hr)) (.val _))) (.val _))) (nbq rfl) ?_
 unfold AA
 conv => whnf
 refine ⟨_, hC, ?_⟩
 conv => whnf
 first | refine nTq (by omega) ?_ | refine nFq (by omega) ?_
 conv => whnf
 refine ⟨_, hK, ?_⟩
 conv => whnf
 refine ⟨by kernel_rfl, ?_⟩
 conv => whnf
 refine SW.nilC 184 2 1 rfl rfl ?_
 refine SW.loopM TTok (fun i : Nat => [(3, .lp 0 0), (6, .lp 8 0), (10, .lp 184 0), (32, .sl 1 (irows .i64 at_) false), (33, .val (.int .i64 ((irows .i64 at_).length : Nat))), (34, .val (.int .i64 (i : Int)))])
  (fun i => [(0, .cells 5 [[.sl 1 (irows .i64 sh) false, .val (.bool true), .sl 1 (irows .i32 tx) false, .sl 3 (ns.map rowX) false, .val (.bool true)]]), (8, .cells 5 [[.sl 0 [] true, .val (.bool false), .sl 0 [] true, .sl 0 [] true, .val (.bool false)]]), (184, .cells 5 [[.sl 1 (irows .i64 s) false, .val (.bool true), .own 224 0 i, .sl 0 [] true, .val (.bool true)]]), (224, .cells 1 (irows .i32 (Y.take i)))]) 232 77 rfl (fun i => at_.length - i) (fun i => i ≤ at_.length) 0 [] (Nat.zero_le _)
  ⟨q2r, q2r, q2r, q2r, q2r, q2r, trivial⟩ ⟨q3r, q3r, q3r, q3r, trivial⟩ rfl ?_
 intro i hJ
 have hi : i ≤ at_.length := hJ
 clear hJ
 have lr : (irows .i32 (Y.take i)).length = i := by rw [irows_len, List.length_take]; omega
 by_cases hlt : i < at_.length
 ·have eI : IntKind.i64.wrap ((i : Int) + 1) = ((i + 1 : Nat) : Int) := by rw [IntWalk.i64_in _ (by omega)]; omega
  have hg : (irows .i64 at_)[i]? = some [.val (.int .i64 at_[i])] := irows_get .i64 at_ (List.getElem?_eq_getElem hlt)
  have hsn : irows .i32 (Y.take i) ++ irows .i32 [getT tx at_[i]] = irows .i32 (Y.take (i + 1)) := by
   rw [take_snoc (show i < Y.length by omega), hYi i hlt, irows_append]
  have htk : List.take i (List.drop 0 (irows .i32 (Y.take i))) = irows .i32 (Y.take i) := by rw [List.drop_zero, List.take_of_length_le (by omega)]
  obtain ⟨k, hk⟩ : ∃ k, k = at_[i] := ⟨_, rfl⟩
  rw [← hk] at hg hsn
  by_cases h0 : k < 0
  ·rw [getT_out (.inl h0)] at hsn
   conv => whnf
   first | refine oTq (by omega) ?_ | refine oFq (by omega) ?_ | refine oEq (by omega) ?_ | refine oNq (by omega) ?_
   conv => whnf
   refine ⟨_, ⟨by omega, by rw [Int.toNat_natCast]; exact hg⟩, ?_⟩
   conv => whnf
   first | refine oTq (by omega) ?_ | refine oFq (by omega) ?_ | refine oEq (by omega) ?_ | refine oNq (by omega) ?_
   conv => whnf
   refine ⟨⟨by show 0 + i ≤ _; omega, by show (i + 1) * 4 ≤ 140737488355328; omega, nbq rfl⟩, ?_⟩
   conv => whnf
   refine ⟨i + 1, [(224, 400)], (by show at_.length - (i + 1) < at_.length - i; omega), hlt, ⟨q2r, q2r, q2r, q2r, q2r, ⟨valI eI, rfl⟩, trivial⟩, ⟨q3r, q3r, q3r, ⟨rfl, .inl ⟨celE ?_, irows_noid _ _⟩⟩, trivial⟩, rfl⟩
   rw [← hsn]
   show List.take i (List.drop 0 (irows .i32 (Y.take i))) ++ [_] = _
   rw [htk]; rfl
  ·by_cases h1 : (tx.length : Int) ≤ k
   ·rw [getT_out (.inr h1)] at hsn
    conv => whnf
    first | refine oTq (by omega) ?_ | refine oFq (by omega) ?_ | refine oEq (by omega) ?_ | refine oNq (by omega) ?_
    conv => whnf
    refine ⟨_, ⟨by omega, by rw [Int.toNat_natCast]; exact hg⟩, ?_⟩
    conv => whnf
    first | refine oTq (by omega) ?_ | refine oFq (by omega) ?_ | refine oEq (by omega) ?_ | refine oNq (by omega) ?_
    conv => whnf
    first | refine oTq (by omega) ?_ | refine oFq (by omega) ?_ | refine oEq (by omega) ?_ | refine oNq (by omega) ?_
    conv => whnf
    refine ⟨⟨by show 0 + i ≤ _; omega, by show (i + 1) * 4 ≤ 140737488355328; omega, nbq rfl⟩, ?_⟩
    conv => whnf
    refine ⟨i + 1, [(224, 400)], (by show at_.length - (i + 1) < at_.length - i; omega), hlt, ⟨q2r, q2r, q2r, q2r, q2r, ⟨valI eI, rfl⟩, trivial⟩, ⟨q3r, q3r, q3r, ⟨rfl, .inl ⟨celE ?_, irows_noid _ _⟩⟩, trivial⟩, rfl⟩
    rw [← hsn]
    show List.take i (List.drop 0 (irows .i32 (Y.take i))) ++ [_] = _
    rw [htk]; rfl
   ·obtain ⟨j, rfl⟩ := Int.eq_ofNat_of_zero_le (show 0 ≤ k by omega)
    rw [getT_in (show j < tx.length by omega)] at hsn
    have hg2 : (irows .i32 tx)[j]? = some [.val (.int .i32 tx[j])] := irows_get .i32 tx (List.getElem?_eq_getElem (by omega))
    conv => whnf
    first | refine oTq (by omega) ?_ | refine oFq (by omega) ?_ | refine oEq (by omega) ?_ | refine oNq (by omega) ?_
    conv => whnf
    refine ⟨_, ⟨by omega, by rw [Int.toNat_natCast]; exact hg⟩, ?_⟩
    conv => whnf
    first | refine oTq (by omega) ?_ | refine oFq (by omega) ?_ | refine oEq (by omega) ?_ | refine oNq (by omega) ?_
    conv => whnf
    refine ⟨_, ⟨by omega, by rw [Int.toNat_natCast]; exact hg2⟩, ?_⟩
    conv => whnf
    refine ⟨⟨by show 0 + i ≤ _; omega, by show (i + 1) * 4 ≤ 140737488355328; omega, nbq rfl⟩, ?_⟩
    conv => whnf
    refine ⟨by kernel_rfl, ?_⟩
    conv => whnf
    refine ⟨i + 1, [(224, 440)], (by show at_.length - (i + 1) < at_.length - i; omega), hlt, ⟨q2r, q2r, q2r, q2r, q2r, ⟨valI eI, rfl⟩, trivial⟩, ⟨q3r, q3r, q3r, ⟨rfl, .inl ⟨celE ?_, irows_noid _ _⟩⟩, trivial⟩, rfl⟩
    rw [← hsn]
    show List.take i (List.drop 0 (irows .i32 (Y.take i))) ++ [_] = _
    rw [htk]; rfl
 ·have hie : i = at_.length := by omega
  have e1 : Y.take i = Y := List.take_of_length_le (by omega)
  rw [e1] at lr ⊢
  have key : List.take i (List.drop 0 (irows .i32 Y)) = irows .i32 Y := by rw [List.drop_zero, List.take_of_length_le (by omega)]
  conv => whnf
  first | refine oTq (by omega) ?_ | refine oFq (by omega) ?_ | refine oEq (by omega) ?_ | refine oNq (by omega) ?_
  conv => whnf
  refine ⟨by show 0 + i ≤ _; omega, ?_⟩
  show AV.tup [AV.agg [_, _, AV.sl 1 (List.take i (List.drop 0 (irows .i32 Y))) false, _, _], _] = _
  rw [key]
  rfl
end
section
end
section
def fitJ (sh s : List Int) (k : Nat) : List Int × Bool × Int :=
 if sh = [] then (s.set k 1, true, 0)
 else if (if sh.length + 1 = s.length then sh.take k ++ 1 :: sh.drop k else sh).length ≠ s.length then ([], false, 23)
 else if (if sh.length + 1 = s.length then sh.take k ++ 1 :: sh.drop k else sh).take k ++ (if sh.length + 1 = s.length then sh.take k ++ 1 :: sh.drop k else sh).drop (k + 1) ≠ s.take k ++ s.drop (k + 1) then ([], false, 24)
 else ((if sh.length + 1 = s.length then sh.take k ++ 1 :: sh.drop k else sh), false, 0)
def atJ (n m I la : Nat) (one two : Bool) (i : Nat) : Int :=
 if i / I % (n + m) < n then (if one then 0 else ((((i / I / (n + m)) * n + i / I % (n + m)) * I + i % I : Nat) : Int))
 else (if two then (la : Int) else ((la + ((i / I / (n + m)) * m + (i / I % (n + m) - n)) * I + i % I : Nat) : Int))
def docJ (n : Nat) (x y : List Int) (la : Nat) (one two : Bool) (k : Nat) (idx : List Int) : Int :=
 if idx.getD k 0 < (n : Int) then (if one then 0 else plS 0 x idx) else (la : Int) + (if two then 0 else plS 0 y (idx.set k (idx.getD k 0 - (n : Int))))
end
section
theorem CloneQ_freshA (l : List (Option (Rat × Nat))) (hb : l.length ≤ 1000000) : AC Tryz.prog 116 [.sl 3 (l.map rowX) false] (.fresh 3 (l.map rowX)) := by
 by_cases hne : l = []
 ·subst hne
  refine AC.of_sw TTok Tryz.func116 rfl (enter_of Tryz.func116 (by kernel_rfl) (by kernel_rfl)) (noid1 (slX_noid _)) (rowsX_noid _) (nbq rfl) ?_
  refine SW.seqA TTok ?_
  conv => whnf
  refine SW.seq (SW.seq ?_)
  refine SW.regionNil (sz := 3) (rows := ([] : List (Option (Rat × Nat))).map rowX) (tight := false) TTok _ rfl rfl rfl rfl (show Tryz.prog.underlying 29 = some (.slice 55) by kernel_rfl) ?_
  conv => whnf
  refine ⟨rfl, rfl, by decide, fun bv hbv => ?_⟩
  conv => whnf
  cases bv with
  | true =>
   refine SW.cond (t := true) rfl (fun _ => ?_) (fun h => Bool.noConfusion h)
   refine SW.seqA TTok ?_
   conv => whnf
   refine SW.nil 2 3 rfl ?_
   refine SW.ret ?_
   exact ⟨rfl, Nat.le_refl _, rfl⟩
  | false =>
   refine SW.cond (t := false) rfl (fun h => Bool.noConfusion h) (fun _ => ?_)
   refine axp_sound TTok _ _ _ ?_
   conv => whnf
   refine axp_sound TTok _ _ _ ?_
   conv => whnf
   refine ⟨⟨Nat.le_refl _, by show 0 * 56 ≤ 140737488355328; decide⟩, ?_⟩
   conv => whnf
   exact ⟨rfl, Nat.le_refl _, rfl⟩
 ·exact CloneQ_fresh l hne hb
section
variable (sh : List Int) (ch : Bool) (tx : List Int) (ns : List (Option (Rat × Nat)))
theorem Rats_freshA (h : ns.length ≤ 1000000) : AC Tryz.prog 89 [AA sh ch tx ns true] (.fresh 3 (ns.map rowX)) := by
 have hC := CloneQ_freshA ns h
 refine AC.of_body TTok Tryz.func89 rfl (enter_of Tryz.func89 (by kernel_rfl) (by kernel_rfl)) (noid1 (AA_noid _ _ _ _ _)) (rowsX_noid _) (nbq rfl) ?_
 unfold AA
 conv => whnf
 refine ⟨_, hC, ?_⟩
 conv => whnf
 refine ⟨rfl, by show 0 + _ ≤ _; omega, ?_⟩
 show (ns.map rowX).take (ns.map rowX).length = _
 rw [List.take_length]
end
theorem vS_single (n : Nat) (h : n ≤ 4096) : vS [(n : Int)] ∧ cntI [(n : Int)] = (n : Int) := by
 have hv : vS [(n : Int)] := ⟨by show 1 ≤ 8; omega, fun d hd => by rw [List.mem_singleton.1 hd]; omega, by show 1 * max 1 (n : Int) ≤ 4096; omega⟩
 refine ⟨hv, ?_⟩
 rw [cnt_pr hv.2.1]
 show (((n : Int).toNat * 1 : Nat) : Int) = _
 omega
end
end Go.Proofs.YtcdeiegpeiodjaaGreat

set_option linter.unusedSimpArgs false
namespace Go.AL
open Go Go.RowKit
theorem wp_in {P : Program} {TT : Nat → Option TI} (hT : TTok P TT) {gh : Array Value} {w0 : World} {F0 F1 : Nat → Prop} {ρ1 : Nat → Option BI} {s1 : St} {a1 : Act} {w1 : World} {n0 : Nat} {o : Oper} {c : Call} {f : Nat} {fn : Func} {body : Code} {K' : St → Prop} {K : Act → World → Prop} {Q : Exit → Act → World → Prop}
  (h1 : Rel gh w0 F0 F1 ρ1 (fun id => n0 ≤ id) s1 a1 w1) (ho : o.op = .call c) (hc : c.callee = .value (.func f)) (hf : P.funcs[f]? = some fn) (hb : fn.body = some body)
  (henter : ∀ (vals : Array Value) (w : World), (callFunc f vals).run P w = .ok (.enter f vals) w) (hm : fn.ntmps ≤ 1000000) (ha : c.args.toList.length ≤ fn.ntmps) (hdst : dstOk o.dst s1.m = true)
  (hsw : SW P body (fun e s2 => (e = .ret ∨ e = .normal) ∧ ∃ vs, ares TT s2.t s2.h fn.results.toList = some vs ∧ K' ⟨putT (outT s2.t) o.dst (oneV vs), s2.h, s2.n, s1.m⟩) ⟨inT (c.args.toList.map (aval s1.t)) s1.t, s1.h, n0, fn.ntmps⟩)
  (hK : ∀ s3 a' w', K' s3 → s3.m = s1.m → (∃ F ρ, Rel gh w0 F0 F ρ (fun id => s3.n ≤ id) s3 a' w') → K a' w') : o.wp P a1 w1 K Q := by
 have hexec : (execOp a1.eval o).run P w1 = .ok (.enter f (c.args.map a1.eval)) w1 := by
  simp [execOp, ho, resolve, hc, Deferred.ofValue, Act.eval, invoke, henter]
 unfold Oper.wp
 rw [hexec]
 simp only [Oper.upon]
 refine calls_of_wp hf hb ?_
 unfold SW at hsw
 have h2 : Rel (ghosts a1 gh) w0 F0 F1 ρ1 (fun id => n0 ≤ id) ⟨inT (c.args.toList.map (aval s1.t)) s1.t, s1.h, n0, fn.ntmps⟩
   { tmps := c.args.map a1.eval ++ Array.replicate (fn.ntmps - (c.args.map a1.eval).size) undef, defers := [] } w1 := by
  refine ⟨rfl, ?_, hm, h1.below, h1.Fb, h1.F0F, h1.Fnew, fun t => ?_, h1.blks, h1.inj, h1.fresh⟩
  ·have : c.args.size ≤ fn.ntmps := ha
   simp
   omega
  ·show VR w1 F1 ρ1 _ (bif Nat.blt t 1000000 then getA (c.args.toList.map (aval s1.t)) t else s1.t (t - 1000000))
   cases hb : Nat.blt t 1000000 with
   | true =>
    have ht : t < 1000000 := Nat.blt_eq.mp hb
    rw [gval_lt ht]
    show VR w1 F1 ρ1 _ (getA (c.args.toList.map (aval s1.t)) t)
    rw [getA_eq]
    by_cases hta : t < c.args.size
    ·have e0 : c.args.toList[t]? = some c.args[t] := by rw [Array.getElem?_toList]; exact Array.getElem?_eq_getElem hta
     have e1 : (c.args.toList.map (aval s1.t)).getD t .any = aval s1.t c.args[t] := by simp [List.getD, e0]
     have e2 : (c.args.map a1.eval ++ Array.replicate (fn.ntmps - (c.args.map a1.eval).size) undef).getD t undef = a1.eval c.args[t] := by
      simp only [Array.getD_eq_getD_getElem?, Array.getElem?_append]
      rw [if_pos (by simpa using hta)]
      simp [hta]
     rw [e1, e2]
     exact h1.aval _
    ·have e1 : (c.args.toList.map (aval s1.t)).getD t .any = .any := by
      rw [List.getD, List.getElem?_eq_none (by simp; omega)]; rfl
     rw [e1]
     exact .any _
   | false =>
    have ht : ¬ t < 1000000 := fun h => by rw [Nat.blt_eq.mpr h] at hb; cases hb
    have e : ∀ a', gval a' (ghosts a1 gh) t = gval a1 gh (t - 1000000) := fun a' => by
     have hg := ghosts_get a1 gh (t - 1000000)
     rw [← hg]
     exact if_neg ht
    rw [e]
    exact h1.vals _
 refine wp_mono (hsw (ghosts a1 gh) w0 F0 _ w1 ⟨F1, ρ1, h2⟩) ?_
 rintro e a2 w2 ⟨s2, ⟨he, vs, hvs, hQ⟩, hm2, F2, ρ2, h3⟩
 obtain ⟨vals, g1, g2, g3⟩ := run_results hT h3 fn vs hvs
 have h4 : Rel gh w0 F0 F2 ρ2 (fun id => s2.n ≤ id) ⟨outT s2.t, s2.h, s2.n, s1.m⟩ a1 w2 := by
  refine ⟨h1.defers, h1.size, h1.mle, h3.below, h3.Fb, h3.F0F, h3.Fnew, fun t => ?_, h3.blks, h3.inj, h3.fresh⟩
  have hv := h3.vals (1000000 + t)
  rw [gval_ge, ghosts_get] at hv
  exact hv
 have hd := h4.putd (one_ok g2 g3) o.dst hdst
 have fin : a2.defers = [] ∧ ∃ v, (results fn a2.tmps).run P w2 = .ok v w2 ∧ K (a1.put o.dst v) w2 := ⟨h3.defers, _, g1, hK _ _ _ hQ rfl ⟨F2, ρ2, hd⟩⟩
 rcases he with rfl | rfl
 ·exact fin
 ·exact fin
def anyR (P : Program) (TT : Nat → Option TI) (ops : Array Oper) (K : Array Bool → St → Prop) : Nat → Array Bool → St → Prop
 | 0, listed, s => K listed s
 | fuel + 1, listed, s => Region.ready .any ops listed ≠ [] ∧ ∀ j ∈ Region.ready .any ops listed, ∃ o, ops[j]? = some o ∧ o.guard = none ∧ aopK P TT o (s.n + 8 * j) (anyR P TT ops K fuel (listed.setIfInBounds j true)) s
@[irreducible] def anyK (P : Program) (TT : Nat → Option TI) (ops : Array Oper) (K : Array Bool → St → Prop) (fuel : Nat) (listed : Array Bool) (s : St) : Prop := anyR P TT ops K fuel listed s
def frA (n N : Nat) (listed : Array Bool) (id : Nat) : Prop := (∃ j, listed.getD j true = false ∧ n + 8 * j ≤ id ∧ id < n + 8 * j + 8) ∨ n + 8 * N ≤ id
end Go.AL
