/- Contracts of ratios: what is told of one, sums, products, quotients. -/
import Derived.Test.YtcdeiegpeiodjaaB2
import Derived.ChangeSlices
import Derived.Below
import Derived.Laws.Cover3
set_option linter.unusedVariables false
namespace Go.Proofs.Ytcdeiegpeiodjaa
open Go Go.AL NM
section

theorem IsWhole_ok (t : Int) (d : Nat) : AC Try.prog 52 [RA t d] (.pure (.val (.bool (decide (dn d = 1))))) := by
  refine AC.of_body TTok Try.func52 rfl (enter_of Try.func52 (by kernel_rfl) (by kernel_rfl)) (noid1 (RA_noid t d)) (.val _) (Nat.le_of_ble_eq_true rfl) ?_
  have hD := down_ok t d
  have h1 := One_ok (dn d)
  revert hD h1
  generalize dn d = e
  intro hD h1
  unfold RA natA at *
  repeat
    conv => whnf
    first
      | refine ⟨_, by assumption, ?_⟩
      | refine ⟨(Nat.le_of_ble_eq_true rfl), _, by assumption, ?_⟩
      | refine ⟨by kernel_rfl, ?_⟩
      | exact rfl
      | exact ⟨Nat.le_of_ble_eq_true rfl, rfl⟩
      | refine ⟨by decide, ?_⟩
def qLimbs (t : Int) (d : Nat) : Nat := max (limbs t.natAbs).length (limbs d).length
def fitQ (t : Int) (d : Nat) : Prop := d = 1 ∧ fit t
instance (t : Int) (d : Nat) : Decidable (fitQ t d) := inferInstanceAs (Decidable (_ ∧ _))
theorem RInt_ok (t : Int) (d : Nat) : AC Try.prog 26 [RA t d] (.pure (.tup [.val (.int .i64 (if fitQ t (dn d) then t else 0)), .val (.bool (decide (fitQ t (dn d))))])) := by
  refine AC.of_body TTok Try.func26 rfl (enter_of Try.func26 (by kernel_rfl) (by kernel_rfl)) (noid1 (RA_noid t d)) (.tup _ (noid2 (.val _) (.val _))) (Nat.le_of_ble_eq_true rfl) ?_
  have hD := IsWhole_ok t d
  have h1 := IntW_ok t
  by_cases h : dn d = 1
  · rw [decide_eq_true h] at hD
    have e : fitQ t (dn d) ↔ fit t := ⟨fun h => h.2, fun h' => ⟨h, h'⟩⟩
    rw [decide_eq_decide.2 e, show (if fitQ t (dn d) then t else 0) = (if fit t then t else 0) by by_cases hf : fit t; rw [if_pos hf, if_pos (e.2 hf)]; rw [if_neg hf, if_neg (fun h => hf (e.1 h))]]
    unfold RA WI at *
    repeat
      conv => whnf
      first
        | refine ⟨_, by assumption, ?_⟩
        | refine ⟨(Nat.le_of_ble_eq_true rfl), _, by assumption, ?_⟩
        | refine ⟨by kernel_rfl, ?_⟩
        | exact rfl
        | exact ⟨Nat.le_of_ble_eq_true rfl, rfl⟩
        | refine ⟨by decide, ?_⟩
  · rw [decide_eq_false h] at hD
    rw [if_neg (fun h' => h h'.1), decide_eq_false (fun h' : fitQ t (dn d) => h h'.1)]
    unfold RA WI at *
    repeat
      conv => whnf
      first
        | refine ⟨_, by assumption, ?_⟩
        | refine ⟨(Nat.le_of_ble_eq_true rfl), _, by assumption, ?_⟩
        | refine ⟨by kernel_rfl, ?_⟩
        | exact rfl
        | exact ⟨Nat.le_of_ble_eq_true rfl, rfl⟩
        | refine ⟨by decide, ?_⟩
section
variable (p q : Rat) (i j : Nat) (hi : dn i = p.den) (hj : dn j = q.den) (lp : Sz p 1000) (lq : Sz q 1000)
include hi hj lp lq

theorem QCmp_ok : AC Try.prog 43 [RA p.num i, RA q.num j] (.pure (.val (.int .i64 (cmpQ p q)))) := by
  refine AC.of_body TTok Try.func43 rfl (enter_of Try.func43 (by kernel_rfl) (by kernel_rfl)) (noid2 (RA_noid _ _) (RA_noid _ _)) (.val _) (Nat.le_of_ble_eq_true rfl) ?_
  have m1 := limbs_num_den p q
  have m2 := limbs_num_den q p
  have := lp.1; have := lp.2; have := lq.1; have := lq.2
  have u1 := under_ok p.num i
  have u2 := under_ok q.num j
  rw [hi] at u1
  rw [hj] at u2
  have t1 := Times1 p.num (q.den : Int) (by omega) (by rw [Int.natAbs_natCast]; omega) (by omega)
  have t2 := Times1 q.num (p.den : Int) (by omega) (by rw [Int.natAbs_natCast]; omega) (by omega)
  have hC := CmpW_ok (p.num * (q.den : Int)) (q.num * (p.den : Int)) (by omega) (by omega)
  rw [cmpZ_Q] at hC
  revert u1 u2 t1 t2 hC
  generalize p.num * (q.den : Int) = x
  generalize q.num * (p.den : Int) = y
  generalize (p.den : Int) = a
  generalize (q.den : Int) = b
  generalize cmpQ p q = c
  intro u1 u2 t1 t2 hC
  unfold RA WI rowW at *
  repeat
    conv => whnf
    first
      | refine ⟨_, by assumption, ?_⟩
      | refine ⟨(Nat.le_of_ble_eq_true rfl), _, by assumption, ?_⟩
      | refine ⟨by kernel_rfl, ?_⟩
      | exact rfl
      | exact ⟨Nat.le_of_ble_eq_true rfl, rfl⟩
      | refine ⟨by decide, ?_⟩
end
end
section

/-- A ratio among those that are handed in, with what stands below its line. -/
def rowR (p : Rat × Nat) : List AV := [.sl 1 (irows .u32 (limbs p.1.num.natAbs)) false, .val (.bool (decide (p.1.num < 0))), .sl 1 (irows .u32 (limbs p.2)) false]
theorem rowR_noid (p : Rat × Nat) : ∀ x ∈ rowR p, NoId x := noid3 (noid_sl _ _ _) (.val _) (noid_sl _ _ _)
section
variable (l : List (Rat × Nat)) (f : Nat → Rat) (g : Nat → Nat) (hl : l.length < 10000) (hl1 : ∀ k (h : k < l.length), dn (l[k]).2 = (l[k]).1.den) (hg : ∀ k, k ≤ l.length → dn (g k) = (f k).den) (hg1 : ∀ k, k < l.length → g (k + 1) = (f (k + 1)).den)
  (hb : ∀ k, k ≤ l.length → Sz (f k) 1000) (hbl : ∀ k (h : k < l.length), Sz (l[k]).1 1000)
include hl hl1 hg hg1 hb hbl
end

end
section

/-- What is left of x by a. -/
def restQ (a x : Rat) : Rat := if a = 0 then x else x + -(a * ((x / a).floor : Rat))
end
section

theorem SFrom_ok (n : Int) (hn : -9223372036854775808 ≤ n ∧ n < 9223372036854775808) : AC Try.prog 33 [.val (.int .i64 n)] (.pure (RN n 1)) := by
  refine AC.of_body TTok Try.func33 rfl (enter_of Try.func33 (by kernel_rfl) (by kernel_rfl)) (noid1 (.val _)) (RN_noid _ _) (Nat.le_of_ble_eq_true rfl) ?_
  have h := RFrom_ok n hn
  unfold RN WR at *
  rw [decS_one]
  repeat
    conv => whnf
    first
      | refine ⟨_, by assumption, ?_⟩
      | refine ⟨(Nat.le_of_ble_eq_true rfl), _, by assumption, ?_⟩
      | refine ⟨by kernel_rfl, ?_⟩
      | exact rfl
      | exact ⟨Nat.le_of_ble_eq_true rfl, rfl⟩
      | refine ⟨by decide, ?_⟩
end
section

section
variable (p q : Rat) (lp : Sz p 99) (lq : Sz q 99)
include lp lq
end
end
section

/-- A number as the page speaks of it, right or not. -/
def RT (b : Bool) (s t : List Int) : AV := .agg [.val (.bool b), .val (.string (strL s)), .val (.string (strL t))]
/-- Is it right? -/
def RQ (b : Bool) (s t : List Int) : Prop := right s = true ∧ right t = true ∧ s = decL (valL s) ∧ t = decL (valL t) ∧ valL t ≠ 0 ∧ Nat.gcd (valL s) (valL t) = 1 ∧ ¬ (b = true ∧ valL s = 0)
instance (b : Bool) (s t : List Int) : Decidable (RQ b s t) := inferInstanceAs (Decidable (_ ∧ _))
def qOf (b : Bool) (s t : List Int) : Rat := Rat.divInt (sgn b (valL s)) (valL t : Int)

theorem RQ_num {b : Bool} {s t : List Int} (h : RQ b s t) : (qOf b s t).num = sgn b (valL s) ∧ (qOf b s t).den = valL t := by
  obtain ⟨_, _, _, _, h0, hg, hn⟩ := h
  have hy : (valL t : Int) ≠ 0 := by omega
  unfold qOf
  rw [sgn_num _ _ hy, sgn_den _ _ hy, sgn_abs, Int.natAbs_natCast, hg, Nat.div_one, Nat.div_one]
  refine ⟨?_, rfl⟩
  congr 1
  rw [sgn_neg, decide_eq_false (show ¬ (valL t : Int) < 0 by omega)]
  cases b
  · rfl
  · rw [decide_eq_false (fun e => hn ⟨rfl, e⟩)]; rfl
theorem RQ_sz {b : Bool} {s t : List Int} (h : RQ b s t) {k l : Nat} (hs : s.length ≤ l) (ht : t.length ≤ l) (hk : 10 ^ l ≤ 4294967296 ^ k) : Sz (qOf b s t) k := by
  obtain ⟨e1, e2⟩ := RQ_num h
  obtain ⟨d1, _, _⟩ := right_dig h.1
  obtain ⟨d2, _, _⟩ := right_dig h.2.1
  have h1 := valL_lt d1
  have h2 := valL_lt d2
  have p1 := Nat.pow_le_pow_right (n := 10) (by decide) hs
  have p2 := Nat.pow_le_pow_right (n := 10) (by decide) ht
  refine ⟨?_, ?_⟩
  · rw [e1, sgn_abs]; exact limbs_len_le (by omega)
  · rw [e2]; exact limbs_len_le (by omega)
end
section

/-- The zero value of a ratio. -/
def RZ : AV := .agg [.sl 0 [] true, .val (.bool false), .sl 0 [] true]
theorem RZ_noid : NoId RZ := .agg _ (noid3 (.sl _ _ _ (fun r hr => (nomatch hr))) (.val _) (.sl _ _ _ (fun r hr => (nomatch hr))))
theorem RZ_le : AVle RZ (RA 0 0) := by
  unfold RA
  rw [show (0 : Int).natAbs = 0 from rfl, limbs_zero]
  exact .agg _ _ rfl (fun i a b ha hb => by
    match i with
    | 0 => cases ha; cases hb; exact .sl _ _ _
    | 1 => cases ha; cases hb; exact .refl _
    | 2 => cases ha; cases hb; exact .sl _ _ _
    | (i + 3) => cases ha)
end
section

/-- Has a power of a number above 0 at most so many limbs? -/
def fitsN (a k : Nat) (most : Int) : Prop := a = 1 ∨ ((limbs (a ^ k)).length : Int) ≤ most
instance (a k : Nat) (most : Int) : Decidable (fitsN a k most) := inferInstanceAs (Decidable (_ ∨ _))
/-- How often it is multiplied, and what. -/
def pk (n : Int) : Nat := if n < 0 then (if n < -9223372036854775807 then 9223372036854775807 else (-n).toNat) else n.toNat
def pb (q : Rat) (n : Int) : Rat := if n < 0 then 1 / q else q
def limQ (q : Rat) : Prop := q.den = 1 ∧ (q.num.natAbs = 0 ∨ q.num.natAbs = 1)
instance (q : Rat) : Decidable (limQ q) := inferInstanceAs (Decidable (_ ∧ _))
/-- A power, or none. -/
def powQ (q : Rat) (n most : Int) : Rat × Bool :=
  if n = 0 then (1, true)
  else if limQ q then (if q = 0 ∧ n < 0 then (0, false) else (if n % 2 = 0 then q * q else q, true))
  else if fitsN (pb q n).num.natAbs (pk n) most ∧ fitsN (pb q n).den (pk n) most then ((pb q n) ^ (pk n), true) else (0, false)

end
section

end
section

end
section

theorem limbs_small {n : Nat} (h : n < 4294967296) : (limbs n).length ≤ 1 := limbs_len_le (k := 1) (by omega)
theorem Sz_small {q : Rat} (h1 : q.num.natAbs < 4294967296) (h2 : q.den < 4294967296) : Sz q 1 := ⟨limbs_small h1, limbs_small h2⟩
end
section

theorem RN_selfn (x : Bool) (s t : ByteArray) : (!((x == x) && ((s.toList == s.toList) && ((t.toList == t.toList) && true)))) = false := by simp
theorem NumS (q : Rat) (i : Nat) (hi : dn i = q.den) (h : Sz q 100000) : AC Try.prog 62 [RA q.num i] (.pure (RN q.num q.den)) := by
  have := Num_ok q.num i h.1 (by rw [hi]; exact h.2)
  rwa [hi] at this
end
section

end
end Go.Proofs.Ytcdeiegpeiodjaa

set_option linter.unusedSimpArgs false
namespace Go.AL
open Go Go.RowKit Go.ChangeShapes Go.WideShapes

/-- Cells that stand to abstract values that name no live block. -/
def CellsR (W : World) (cs : List Value) (xs : List AV) : Prop :=
  xs.length = cs.length ∧ ∀ (i : Nat) (y : AV), xs[i]? = some y → VR W (fun b => b < W.heap.size) (fun _ => none) (cs.getD i undef) y ∧ (cs.getD i undef).oneCell' = true ∧ NoId y

theorem CellsR.nil (W : World) : CellsR W [] [] := ⟨rfl, fun i y h => by simp at h⟩
theorem CellsR.append {W : World} {a b : List Value} {xs ys : List AV} (h : CellsR W a xs) (h' : CellsR W b ys) : CellsR W (a ++ b) (xs ++ ys) := by
  refine ⟨by rw [List.length_append, List.length_append, h.1, h'.1], fun i y hy => ?_⟩
  by_cases hi : i < xs.length
  · rw [List.getElem?_append_left hi] at hy
    have := h.2 i y hy
    rw [show (a ++ b).getD i undef = a.getD i undef by rw [List.getD, List.getD, List.getElem?_append_left (by rw [← h.1]; exact hi)]]
    exact this
  · rw [List.getElem?_append_right (by omega)] at hy
    have := h'.2 _ y hy
    rw [show (a ++ b).getD i undef = b.getD (i - xs.length) undef by rw [List.getD, List.getD, List.getElem?_append_right (by rw [← h.1]; omega), h.1]]
    exact this
theorem CellsR.one {W : World} {v : Value} {x : AV} (h : VR W (fun b => b < W.heap.size) (fun _ => none) v x) (h1 : v.oneCell' = true) (h2 : NoId x) : CellsR W [v] [x] := by
  refine ⟨rfl, fun i y hy => ?_⟩
  rcases i with _ | i
  · simp at hy; subst hy; exact ⟨h, h1, h2⟩
  · simp at hy

/-- What is known of the cells of a type. -/
def Opens (P : Program) (t : TypeId) (Φ : List AV → Prop) : Prop :=
  ∀ (W : World) (H : Type) (enc : TypeId × Value → H) (fuel : Nat) (cs : List Value) (x : DataW H × List MemPlace), DataW.trod enc P W 0 (fun _ => true) true fuel t cs = some x → ∃ xs, CellsR W cs xs ∧ Φ xs

section
variable {P : Program} {t : TypeId}

theorem opens_int {k : IntKind} (ht : P.underlying t = some (.int k)) : Opens P t (fun xs => ∃ n, xs = [.val (.int k n)] ∧ (Lit.int k n).wf = true) := by
  intro W H enc fuel cs x h
  obtain ⟨n, rfl, _, hw⟩ := DataW.trod_int ht h
  exact ⟨_, CellsR.one (.val _) rfl (.val _), n, rfl, hw⟩
/-- The fields of a struct, from a place on. -/
inductive OpensF (P : Program) : List (Nat × Nat) → Nat → Nat → (List AV → Prop) → Prop
  | nil (n : Nat) : OpensF P [] n n (fun xs => xs = [])
  | cons (t : Nat) (fs : List (Nat × Nat)) (off c n : Nat) (Φ Ψ : List AV → Prop) (hc : P.cellsOf t = c) (hf : Opens P t Φ) (hr : OpensF P fs (off + c) n Ψ) :
      OpensF P ((off, t) :: fs) off n (fun xs => ∃ a b, xs = a ++ b ∧ Φ a ∧ Ψ b)

theorem opens_slice {e c : Nat} {Φ : List AV → Prop} (ht : P.underlying t = some (.slice e)) (hc : P.cellsOf e = c) (h0 : 0 < c) (he : Opens P e Φ) :
    Opens P t (fun xs => ∃ rows, xs = [.sl c rows false] ∧ rows.length ≤ maxLen ∧ ∀ r ∈ rows, r.length = c ∧ Φ r) := by
  intro W H enc fuel cs x hx
  rcases DataW.trod_slice ht hx with ⟨rfl, _⟩ | ⟨a, len, cap, elems, rest, n, rfl, rfl, _, hb, hl, hm, hlen, hel, _, _⟩
  · refine ⟨[.sl c [] false], CellsR.one (.sl none 0 0 c [] false 0 0 (fun _ => undef) rfl (Nat.le_refl _) (fun h => by cases h) (fun r hr => by cases hr) (fun h => absurd rfl h) (fun j x hx => by simp at hx) (fun j x hx => by simp at hx) (fun j x hx => by simp at hx) (fun j x hx => by simp at hx)) rfl (.sl _ _ _ (fun r hr => by cases hr)), [], rfl, Nat.zero_le _, fun r hr => by cases hr⟩
  · have ex : ∀ i, i < len → ∃ (ci : List Value) (xs : List AV), W.cells? 0 (a.add (i * c)) c = some ci ∧ CellsR W ci xs ∧ Φ xs := by
      intro i hi
      have h1 := hel i hi
      rw [hc, List.getElem?_eq_getElem (by omega), Option.bind_eq_some_iff] at h1
      obtain ⟨ci, h2, h3⟩ := h1
      obtain ⟨xs, h4, h5⟩ := he W H enc n ci _ h3
      exact ⟨ci, xs, h2, h4, h5⟩
    have : ∃ f : Nat → List AV, ∀ i, i < len → ∃ ci : List Value, W.cells? 0 (a.add (i * c)) c = some ci ∧ CellsR W ci (f i) ∧ Φ (f i) :=
      ⟨fun i => if h : i < len then (ex i h).choose_spec.choose else [], fun i hi => ⟨(ex i hi).choose, by
        simp only [dif_pos hi]
        exact (ex i hi).choose_spec.choose_spec⟩⟩
    obtain ⟨f, hf⟩ := this
    have hrl : ((List.range len).map f).length = len := by simp
    have hget : ∀ i r, ((List.range len).map f)[i]? = some r → i < len ∧ r = f i := fun i r hr => by
      rw [List.getElem?_map] at hr
      by_cases hi : i < len
      · rw [List.getElem?_range hi] at hr
        exact ⟨hi, (Option.some.inj hr).symm⟩
      · rw [List.getElem?_eq_none (by simp; omega)] at hr; cases hr
    have hw : ∀ r ∈ (List.range len).map f, r.length = c ∧ Φ r := fun r hr => by
      obtain ⟨i, hi, rfl⟩ := List.mem_map.1 hr
      obtain ⟨ci, h1, h2, h3⟩ := hf i (List.mem_range.1 hi)
      exact ⟨by rw [h2.1]; exact (World.cells?_some h1).2.1, h3⟩
    have spot : 0 < len → a.spot = none := fun hp => by
      obtain ⟨ci, h1, _, _⟩ := hf 0 hp
      have h2 := World.cells?_some h1
      have h3 := h2.2.2 0 h0
      rw [Nat.zero_mul, show (a.add 0).add 0 = a from rfl, List.getElem?_eq_getElem (by omega)] at h3
      unfold World.cell? at h3
      split at h3
      · cases hs : a.spot with
        | none => rfl
        | some z => rw [hs] at h3; simp at h3
      · cases h3
    have cell : ∀ (j : Nat) (y : AV), ((List.range len).map f).flatten[j]? = some y → ∃ v, W.cell? ⟨a.block, a.off + j, none⟩ = some v ∧ v.oneCell' = true ∧ VR W (fun b => b < W.heap.size) (fun _ => none) v y ∧ NoId y := by
      intro j y hy
      rw [flat_get h0 _ (fun r hr => (hw r hr).1), Option.bind_eq_some_iff] at hy
      obtain ⟨r, hr, hy⟩ := hy
      obtain ⟨hi, rfl⟩ := hget _ _ hr
      obtain ⟨ci, h1, h2, h3⟩ := hf _ hi
      obtain ⟨_, hcl, hcell⟩ := World.cells?_some h1
      have hk : j % c < c := Nat.mod_lt _ h0
      have h4 := hcell (j % c) hk
      rw [List.getElem?_eq_getElem (by omega)] at h4
      obtain ⟨g1, g2, g3⟩ := h2.2 _ y hy
      rw [List.getD, List.getElem?_eq_getElem (by omega), Option.getD_some] at g1 g2
      have hs := spot (Nat.lt_of_le_of_lt (Nat.zero_le _) hi)
      have ea : (a.add (j / c * c)).add (j % c) = ⟨a.block, a.off + j, none⟩ := by
        obtain ⟨b, o, sp⟩ := a
        have hs : sp = none := hs
        subst hs
        rw [add_plain, add_plain, Nat.add_assoc, Nat.mul_comm, Nat.div_add_mod]
      rw [ea] at h4
      exact ⟨_, h4, g2, g1, g3⟩
    refine ⟨[.sl c ((List.range len).map f) false], CellsR.one ?_ rfl (.sl _ _ _ (fun r hr y hy => ?_)), _, rfl, by rw [hrl]; omega, hw⟩
    · refine .sl (some a) len cap c _ false a.block a.off (fun j => (W.cell? ⟨a.block, a.off + j, none⟩).getD undef) (by rw [hrl]) hl (fun h => by cases h) (fun r hr => (hw r hr).1) (fun hne => ?_) (fun j y hy => ?_) (fun j y hy => ?_) (fun j y hy => ?_) (fun j y hy => ?_)
      · have hp : 0 < len := by
          rcases Nat.eq_zero_or_pos len with h | h
          · exact absurd (by rw [h]; rfl) hne
          · exact h
        have hs := spot hp
        obtain ⟨ci, h1, _, _⟩ := hf 0 hp
        have h3 := (World.cells?_some h1).2.2 0 h0
        rw [Nat.zero_mul, show (a.add 0).add 0 = a from rfl, List.getElem?_eq_getElem (by rw [(World.cells?_some h1).2.1]; exact h0)] at h3
        refine ⟨by obtain ⟨b, o, sp⟩ := a; have hs : sp = none := hs; rw [hs], ?_⟩
        unfold World.cell? at h3
        split at h3
        · rename_i hb' 
          exact (Array.getElem?_eq_some_iff.1 hb').1
        · cases h3
      · obtain ⟨v, h1, _⟩ := cell j y hy
        rw [h1]; rfl
      · obtain ⟨v, h1, h2, _⟩ := cell j y hy
        rw [h1]; exact h2
      · obtain ⟨v, h1, _, h3, _⟩ := cell j y hy
        rw [h1]; exact h3
      · obtain ⟨v, h1, _, _, h4⟩ := cell j y hy
        exact h4
    · obtain ⟨i, hi⟩ := List.getElem?_of_mem hr
      obtain ⟨k, hk⟩ := List.getElem?_of_mem hy
      have := flat_row (fun r hr => (hw r hr).1) hi hk
      exact (cell _ y this).choose_spec.2.2.2

theorem Opens.mono {Φ Ψ : List AV → Prop} (h : Opens P t Φ) (hm : ∀ xs, Φ xs → Ψ xs) : Opens P t Ψ := fun W H enc fuel cs x hx => by
  obtain ⟨xs, h1, h2⟩ := h W H enc fuel cs x hx
  exact ⟨xs, h1, hm xs h2⟩

/-- An argument of one cell. -/
theorem Opens.cell {Φ : List AV → Prop} (h : Opens P t Φ) {W : World} {H : Type} {enc : TypeId × Value → H} {v : Value} {d : DataW H} {ps : List MemPlace} (hd : DataW.Trod enc P W 0 (fun _ => true) true t v d ps)
    (hc : v.cells = #[v]) : ∃ x, Φ [x] ∧ VR W (fun b => b < W.heap.size) (fun _ => none) v x ∧ NoId x := by
  obtain ⟨fuel, hf⟩ := hd
  obtain ⟨xs, h1, h2⟩ := h W H enc fuel _ _ hf
  rw [hc] at h1
  match xs, h1, h2 with
  | [x], h1, h2 =>
    obtain ⟨g1, _, g3⟩ := h1.2 0 x rfl
    exact ⟨x, h2, g1, g3⟩
  | [], h1, _ => exact absurd h1.1 (by simp)
  | _ :: _ :: _, h1, _ => exact absurd h1.1 (by simp)

/-- An argument that is a struct. -/
theorem Opens.struct {Φ : List AV → Prop} (h : Opens P t Φ) {W : World} {H : Type} {enc : TypeId × Value → H} {cs : Array Value} {d : DataW H} {ps : List MemPlace} (hd : DataW.Trod enc P W 0 (fun _ => true) true t (.agg cs) d ps) :
    ∃ xs, Φ xs ∧ VR W (fun b => b < W.heap.size) (fun _ => none) (.agg cs) (.agg xs) ∧ NoId (.agg xs) := by
  obtain ⟨fuel, hf⟩ := hd
  obtain ⟨xs, h1, h2⟩ := h W H enc fuel _ _ hf
  have hg : ∀ i, (Value.cells (.agg cs)).toList.getD i undef = cs.getD i undef := fun i => by
    show cs.toList.getD i undef = _
    rw [List.getD, Array.getElem?_toList, Array.getD_eq_getD_getElem?]
  refine ⟨xs, h2, .agg cs xs ?_ (fun i x hx => ?_) (fun i x hx => ?_), .agg _ (fun x hx => ?_)⟩
  · have : xs.length = cs.toList.length := h1.1
    rw [this]; simp
  · have := (h1.2 i x hx).2.1
    rwa [hg] at this
  · have := (h1.2 i x hx).1
    rwa [hg] at this
  · obtain ⟨i, hi⟩ := List.getElem?_of_mem hx
    exact (h1.2 i x hi).2.2
end
end Go.AL

set_option linter.unusedSimpArgs false
namespace Go.AL
open Go Go.RowKit

theorem SW.cutM {P : Program} {TT : Nat → Option TI} (hT : TTok P TT) {α : Type} {x y : Code} {Q : Exit → St → Prop} {s : St} (ts : α → List (Nat × AV)) (hs : α → List (Nat × LB)) (n m : Nat) (hm : s.m = m) (J : α → Prop)
    (h : axp P TT x (loopQ Q fun s2 => ∃ (a : α) (σ : List (Nat × Nat)), J a ∧ okT s2 (σf σ) n (ts a) ∧ okH s2 (σf σ) n (hs a) ∧ distinct (((hs a).map (·.1)).map (σf σ)) = true) s)
    (hy : ∀ a, J a → SW P y Q (mkS (ts a) (hs a) n m)) : SW P (.seq x y) Q s := by
  refine SW.cut (fun s3 => ∃ a, J a ∧ s3 = mkS (ts a) (hs a) n m) (((axp_sound hT _ _ _ h).keep).mono fun e s' hq => ?_) ?_
  · obtain ⟨hq, hms⟩ := hq
    cases e with
    | normal =>
      obtain ⟨a, σ, g2, g3, g4, g5⟩ := hq
      exact ⟨mkS (ts a) (hs a) n m, Wk.of _ _ _ _ _ (by rw [hms, hm]) g3 g4 g5, (by rw [hms, hm]; rfl), a, g2, rfl⟩
    | _ => exact hq
  · rintro s3 hm3 ⟨a, hJ, rfl⟩
    exact hy a hJ

theorem SW.seqA {P : Program} {TT : Nat → Option TI} (hT : TTok P TT) {x y : Code} {Q : Exit → St → Prop} {s : St} (h : axp P TT x (seqQ P y Q) s) : SW P (.seq x y) Q s := SW.seq (axp_sound hT _ _ _ h)

end Go.AL

set_option linter.unusedSimpArgs false
namespace Go.AL
open Go Go.RowKit

theorem eqGuard_sl (t : TypeId) (x y : Operand) (A B : Option Addr) (n c m d : Nat) (P : Program) (w : World) : (eqGuard .eql t x y (.slice A n c) (.slice B m d)).run P w = .ok () w := by
  simp [eqGuard]

theorem run_eql_nil {P : Program} (t e : TypeId) (A : Option Addr) (n c : Nat) (w : World) (h : P.underlying t = some (.slice e)) : (binOp .eql t (.slice A n c) (.slice none 0 0)).run P w = .ok (.bool A.isNone) w := by
  simp only [binOp]
  simp [run_equal_slice_nil w t e A n c h]

/-- A region that ends in comparing a slice with nil: either may be, nil only where it is empty. -/
theorem SW.region_nil {P : Program} {TT : Nat → Option TI} (hT : TTok P TT) {Q : Exit → St → Prop} {s : St} {id : Nat} {ops : Array Oper} (l1 : List Oper) (o : Oper) {t e x d : Nat} {yt : TypeId} {sz : Nat} {rows : List (List AV)} {tight : Bool}
    (hops : ops.toList = l1 ++ [o]) (hg : o.guard = none) (ho : o.op = .binOp .eql t (.tmp x) (.const (.slice none 0 0)) yt) (hd : o.dst = some d) (hu : P.underlying t = some (.slice e))
    (h : aops P TT ops.toList l1 0 (fun s1 => dstOk (some d) s1.m = true ∧ s1.t x = .sl sz rows tight ∧ x < 1000000 ∧ ∀ bv : Bool, (bv = true → rows = []) → Q .normal ⟨putT s1.t (some d) (.val (.bool bv)), s1.h, s1.n + 8 * ops.toList.length, s1.m⟩) s) : SW P (.region id ops false) Q s := by
  unfold SW
  intro gh w0 F0 a w hR
  obtain ⟨F, ρ, hR'⟩ := hR
  refine wp_region ?_
  have := aops_pre (Q := fun e a w => ∃ s', Q e s' ∧ s'.m = s.m ∧ RelE gh w0 F0 s' a w) hT (ops := ops) s.n s.m [o] (fun i s1 a1 w1 hi hk hn hm1 hx => ?_) l1 0 s a w F ρ (by simpa using hops) (by rw [hops]; simp) rfl rfl h (by simpa using hR')
  · rw [show l1.length + [o].length = ops.size by rw [← Array.length_toList, hops]; simp] at this
    simpa [List.range_eq_range'] using this
  obtain ⟨F1, ρ1, h1⟩ := hx
  obtain ⟨hdst, hsx, hx6, hQ⟩ := hk
  have hoi : ops[i]? = some o := by
    have hl : i = l1.length := by rw [hops] at hi; simp at hi; omega
    rw [← Array.getElem?_toList, hops, hl]
    simp
  show wpOps P ops _ [i] a1 w1
  have hw : Region.wanted o (yielded ops a1.tmps) = true := by simp [Region.wanted, hg]
  simp only [wpOps, hoi]
  rw [if_pos hw]
  refine .inl ?_
  have hv := h1.vals x
  rw [hsx, gval_lt hx6] at hv
  generalize hvv : a1.tmps.getD x undef = vx at hv
  cases hv with
  | sl A n c _ _ _ bl off vals hn' hc ht hw' hA h0 h1' h2 hno =>
    have he : a1.eval (.tmp x) = .slice A n c := hvv
    have hn0 : A.isNone = true → rows = [] := fun hh => by
      cases rows with
      | nil => rfl
      | cons r rs =>
        rw [(hA (by simp)).1] at hh
        cases hh
    have hP : Post P o a1 w1 gh w0 F0 (fun id => s.n + 8 * i ≤ id) (s.n + 8 * i) { s1 with h := updsH s1.h [] } (.val (.bool A.isNone)) := by
      refine Post.val h1 ?_ (.val _)
      have e2 : a1.eval (.const (.slice none 0 0)) = .slice none 0 0 := rfl
      simp only [execOp, ho, he, e2, Sem.run_bind]
      rw [eqGuard_sl]
      show ((Sem.run P (binOp BinOp.eql t (Value.slice A n c) (Value.slice none 0 0)) w1).andThen fun a w' => Sem.run P (pure (Next.value a)) w') = _
      rw [run_eql_nil t e A n c w1 hu]
      rfl
    refine hP.wp fun v' w' hx => ?_
    obtain ⟨F', ρ', h3, h4⟩ := hx
    have h5 := h3.putd h4 o.dst (by rw [hd]; exact hdst)
    rw [hd] at h5 ⊢
    show ∃ s', Q .normal s' ∧ s'.m = s.m ∧ RelE gh w0 F0 s' _ w'
    refine ⟨_, hQ A.isNone hn0, hm1, F', ρ', ?_⟩
    have hl : i + 1 = ops.toList.length := hi
    have h6 := h5.mono_fr (fr' := fun id => s1.n + 8 * ops.toList.length ≤ id) (fun id hid => ⟨by rw [hn] at hid; omega, by rw [hn] at hid; omega⟩)
    exact ⟨h6.defers, h6.size, h6.mle, h6.below, h6.Fb, h6.F0F, h6.Fnew, h6.vals, h6.blks, h6.inj, h6.fresh⟩

theorem SW.regionNil {P : Program} {TT : Nat → Option TI} (hT : TTok P TT) {Q : Exit → St → Prop} {s : St} {id : Nat} {ops : Array Oper} (o : Oper) {t e x d : Nat} {yt : TypeId} {sz : Nat} {rows : List (List AV)} {tight : Bool}
    (hops : ops.toList = ops.toList.dropLast ++ [o]) (hg : o.guard = none) (ho : o.op = .binOp .eql t (.tmp x) (.const (.slice none 0 0)) yt) (hd : o.dst = some d) (hu : P.underlying t = some (.slice e))
    (h : aopsF P TT ops.toList ops.toList.dropLast 0 (fun s1 => dstOk (some d) s1.m = true ∧ s1.t x = .sl sz rows tight ∧ x < 1000000 ∧ ∀ bv : Bool, (bv = true → rows = []) → Q .normal ⟨putT s1.t (some d) (.val (.bool bv)), s1.h, s1.n + 8 * ops.toList.length, s1.m⟩) s) : SW P (.region id ops false) Q s :=
  SW.region_nil hT _ o hops hg ho hd hu (by rw [aopsF_eq] at h; exact h)

end Go.AL

set_option linter.unusedSimpArgs false
namespace Go.AL
open Go Go.RowKit

theorem VR.nil_own {w : World} {F : Nat → Prop} {ρ : Nat → Option BI} {v : Value} {sz0 id : Nat} {bi : BI} (h : VR w F ρ v (.sl sz0 [] true)) (hρ : ρ id = some bi) : VR w F ρ v (.own id 0 0) := by
  cases h with
  | sl A n c _ _ _ b o vals hn hc ht hw hA h0 h1 h2 hno =>
    have hn0 : n = 0 := hn
    have hc0 : c = 0 := by rw [ht rfl, hn0]
    subst hn0
    subst hc0
    exact .own A id 0 0 0 bi hρ (Nat.le_refl _) (fun h => absurd h (Nat.lt_irrefl 0))

theorem updH_at (h : Nat → Option LB) (i : Nat) (x : Option LB) : updH h i x i = x := by
  show (bif Nat.beq i i then x else h i) = x
  rw [Nat.beq_refl]; rfl
theorem updH_off (h : Nat → Option LB) {i j : Nat} (x : Option LB) (hn : j ≠ i) : updH h i x j = h j := by
  show (bif Nat.beq j i then x else h j) = h j
  cases e : Nat.beq j i with
  | true => exact absurd (Nat.eq_of_beq_eq_true e) hn
  | false => rfl

theorem Wk.nilC {s : St} (b k sz : Nat) {sz0 sz1 : Nat} {row : List AV} (hb : s.h b = some (.cells sz0 [row])) (hk : row[k]? = some (.sl sz1 [] true)) :
    Wk s ⟨s.t, updH (updH s.h s.n (some (.cells sz []))) b (some (.cells sz0 [row.set k (.own s.n 0 0)])), s.n + 8, s.m⟩ := by
  intro gh w0 F0 a w ⟨F, ρ, hR⟩
  have hbn : b ≠ s.n := by
    intro e
    obtain ⟨bi, e1, _⟩ := hR.blks b _ hb
    have := hR.fresh s.n (Nat.le_refl _)
    rw [← e, e1] at this
    cases this
  have h1 := hR.name s.n (Nat.le_refl _) ⟨0, 0, sz, 0⟩ (.cells sz []) ⟨rfl, (fun r hr => (nomatch hr)), fun _ => rfl, fun h => absurd h (Nat.lt_irrefl 0)⟩ (fun h => absurd h (Nat.lt_irrefl 0)) (fun h => absurd h (Nat.lt_irrefl 0))
  have hb' : (updH s.h s.n (some (.cells sz []))) b = some (.cells sz0 [row]) := by
    rw [updH_off _ _ hbn]; exact hb
  refine ⟨F, _, { h1 with blks := fun id lb hl => ?_, inj := fun id id' bi bi' x1 x2 => ?_, fresh := fun id hid => h1.fresh id ⟨by have : s.n + 8 ≤ id := hid; show s.n ≤ id; omega, by have : s.n + 8 ≤ id := hid; omega⟩ }⟩
  · have hl : updH (updH s.h s.n (some (.cells sz []))) b (some (.cells sz0 [row.set k (.own s.n 0 0)])) id = some lb := hl
    by_cases e : id = b
    · subst e
      have hl' : LB.cells sz0 [row.set k (.own s.n 0 0)] = lb := by
        rw [updH_at] at hl
        exact Option.some.inj hl
      subst hl'
      obtain ⟨bi, e1, ⟨g1, g2, g3, g4⟩, g5⟩ := h1.blks id _ hb'
      have hrow : row.length = sz0 := g2 row List.mem_cons_self
      refine ⟨bi, e1, ⟨g1, ?_, ?_, ?_⟩, g5⟩
      · intro r hr
        have : r = row.set k (.own s.n 0 0) := by simpa using hr
        rw [this, List.length_set]; exact hrow
      · intro h0
        have := g3 h0
        have hr0 : row = [] := by simpa using this
        rw [hr0] at hk; cases hk
      · intro hp
        obtain ⟨cs, ty, q1, q2, q3, q4⟩ := g4 hp
        refine ⟨cs, ty, q1, q2, q3, fun j x hx => ?_⟩
        have hx : (row.set k (.own s.n 0 0))[j]? = some x := by simpa using hx
        by_cases ej : j = k
        · subst ej
          obtain ⟨o1, o2⟩ := q4 j (.sl sz1 [] true) (by simpa using hk)
          rw [List.getElem?_set_self' ] at hx
          have hx' : x = .own s.n 0 0 := by
            rw [hk] at hx
            exact (Option.some.inj hx).symm
          subst hx'
          exact ⟨o1, o2.nil_own (bi := ⟨0, 0, sz, 0⟩) (by unfold putρ; rw [if_pos rfl])⟩
        · rw [List.getElem?_set_ne (fun h => ej h.symm)] at hx
          exact q4 j x (by simpa using hx)
    · refine h1.blks id lb ?_
      show (updH s.h s.n (some (.cells sz []))) id = some lb
      rw [updH_off _ _ e] at hl
      exact hl
  · have key : ∀ i, (updH (updH s.h s.n (some (.cells sz []))) b (some (.cells sz0 [row.set k (.own s.n 0 0)])) i).isSome = true → (updH s.h s.n (some (.cells sz [])) i).isSome = true := fun i hi => by
      by_cases e : i = b
      · rw [e, hb']; rfl
      · rw [updH_off _ _ e] at hi
        exact hi
    exact h1.inj id id' bi bi' (key id x1) (key id' x2)

theorem SW.nilC {P : Program} {c : Code} {Q : Exit → St → Prop} {s : St} (b k sz : Nat) {sz0 sz1 : Nat} {row : List AV} (hb : s.h b = some (.cells sz0 [row])) (hk : row[k]? = some (.sl sz1 [] true))
    (hs : SW P c Q ⟨s.t, updH (updH s.h s.n (some (.cells sz []))) b (some (.cells sz0 [row.set k (.own s.n 0 0)])), s.n + 8, s.m⟩) : SW P c Q s := SW.weak (Wk.nilC b k sz hb hk) rfl hs

end Go.AL

namespace Go.Proofs.Ytcdeiegpeiodjaa
open Go Go.AL NM
section

/-- A number's row in memory (none: the zero value). -/
def rowX : Option (Rat × Nat) → List AV
  | none => [.sl 0 [] true, .val (.bool false), .sl 0 [] true]
  | some p => rowR p
def valX : Option (Rat × Nat) → Rat
  | none => 0
  | some p => p.1
def okX : Option (Rat × Nat) → Prop
  | none => True
  | some p => dn p.2 = p.1.den
theorem rowX_noid (o : Option (Rat × Nat)) : ∀ x ∈ rowX o, NoId x := by
  cases o with
  | none => exact noid3 (.sl _ _ _ (fun r hr => nomatch hr)) (.val _) (.sl _ _ _ (fun r hr => nomatch hr))
  | some p => exact rowR_noid p
theorem rowsX_noid (l : List (Option (Rat × Nat))) : ∀ r ∈ l.map rowX, ∀ x ∈ r, NoId x := by
  intro r hr
  obtain ⟨o, _, rfl⟩ := List.mem_map.1 hr
  exact rowX_noid o
theorem slX_noid (l : List (Option (Rat × Nat))) : NoId (.sl 3 (l.map rowX) false) := .sl _ _ _ (rowsX_noid l)
/-- The program's array. -/
def AA (sh : List Int) (ch : Bool) (tx : List Int) (ns : List (Option (Rat × Nat))) (made : Bool) : AV :=
  .agg [.sl 1 (irows .i64 sh) false, .val (.bool ch), .sl 1 (irows .i32 tx) false, .sl 3 (ns.map rowX) false, .val (.bool made)]
theorem noid5 {a b c d e : AV} (h1 : NoId a) (h2 : NoId b) (h3 : NoId c) (h4 : NoId d) (h5 : NoId e) : ∀ x ∈ [a, b, c, d, e], NoId x := by
  intro x hx
  simp only [List.mem_cons, List.not_mem_nil, or_false] at hx
  rcases hx with rfl | rfl | rfl | rfl | rfl <;> assumption
theorem noidF {a b c d : AV} (h1 : NoId a) (h2 : NoId b) (h3 : NoId c) (h4 : NoId d) : ∀ x ∈ [a, b, c, d], NoId x := by
  intro x hx
  simp only [List.mem_cons, List.not_mem_nil, or_false] at hx
  rcases hx with rfl | rfl | rfl | rfl <;> assumption
theorem AA_noid (sh : List Int) (ch : Bool) (tx : List Int) (ns : List (Option (Rat × Nat))) (made : Bool) : NoId (AA sh ch tx ns made) :=
  .agg _ (noid5 (noid_sl _ _ _) (.val _) (noid_sl _ _ _) (slX_noid _) (.val _))
/-- An array as the page speaks of it. -/
def rowN (q : Rat) : List AV := [.val (.bool (decide (q.num < 0))), .val (.string (decS q.num.natAbs)), .val (.string (decS q.den))]
theorem rowN_noid (q : Rat) : ∀ x ∈ rowN q, NoId x := noid3 (.val _) (.val _) (.val _)
theorem rowsN_noid (l : List Rat) : ∀ r ∈ l.map rowN, ∀ x ∈ r, NoId x := by
  intro r hr
  obtain ⟨o, _, rfl⟩ := List.mem_map.1 hr
  exact rowN_noid o
theorem slN_noid (l : List Rat) : NoId (.sl 3 (l.map rowN) false) := .sl _ _ _ (rowsN_noid l)
def PA (sh : List Int) (ch : Bool) (tx : List Int) (qs : List Rat) : AV :=
  .agg [.sl 1 (irows .i64 sh) false, .val (.bool ch), .sl 1 (irows .i32 tx) false, .sl 3 (qs.map rowN) false]
theorem PA_noid (sh : List Int) (ch : Bool) (tx : List Int) (qs : List Rat) : NoId (PA sh ch tx qs) := .agg _ (noidF (noid_sl _ _ _) (.val _) (noid_sl _ _ _) (slN_noid _))

theorem le_nil (k : Nat) : AVle (.sl 0 [] true) (.sl k [] false) := .sl _ _ _
theorem le_agg4 {a b c d a' b' c' d' : AV} (h1 : AVle a a') (h2 : AVle b b') (h3 : AVle c c') (h4 : AVle d d') : AVle (.agg [a, b, c, d]) (.agg [a', b', c', d']) :=
  .agg _ _ rfl (fun i x y hx hy => by
    match i with
    | 0 => cases hx; cases hy; exact h1
    | 1 => cases hx; cases hy; exact h2
    | 2 => cases hx; cases hy; exact h3
    | 3 => cases hx; cases hy; exact h4
    | (i + 4) => cases hx)
theorem le_agg5 {a b c d e a' b' c' d' e' : AV} (h1 : AVle a a') (h2 : AVle b b') (h3 : AVle c c') (h4 : AVle d d') (h5 : AVle e e') : AVle (.agg [a, b, c, d, e]) (.agg [a', b', c', d', e']) :=
  .agg _ _ rfl (fun i x y hx hy => by
    match i with
    | 0 => cases hx; cases hy; exact h1
    | 1 => cases hx; cases hy; exact h2
    | 2 => cases hx; cases hy; exact h3
    | 3 => cases hx; cases hy; exact h4
    | 4 => cases hx; cases hy; exact h5
    | (i + 5) => cases hx)
/-- The zero value of an array. -/
def AZ : AV := .agg [.sl 0 [] true, .val (.bool false), .sl 0 [] true, .sl 0 [] true, .val (.bool false)]
theorem AZ_noid : NoId AZ := .agg _ (noid5 (.sl _ _ _ (fun r hr => nomatch hr)) (.val _) (.sl _ _ _ (fun r hr => nomatch hr)) (.sl _ _ _ (fun r hr => nomatch hr)) (.val _))
theorem AZ_le : AVle AZ (AA [] false [] [] false) := le_agg5 (le_nil 1) (.refl _) (le_nil 1) (le_nil 3) (.refl _)
def PZ : AV := .agg [.sl 0 [] true, .val (.bool false), .sl 0 [] true, .sl 0 [] true]
theorem CloneI_ok (l : List Int) (hb : l.length ≤ 1000000) : AC Try.prog 56 [.sl 1 (irows .i64 l) false] (.pure (.sl 1 (irows .i64 l) false)) := by
  refine AC.of_sw TTok Try.func56 rfl (enter_of Try.func56 (by kernel_rfl) (by kernel_rfl)) (noid1 (noid_sl _ _ _)) (noid_sl _ _ _) (Nat.le_of_ble_eq_true rfl) ?_
  have hlen : (irows .i64 l).length = l.length := irows_len _ _
  refine SW.seqA TTok ?_
  conv => whnf
  refine SW.seq (SW.seq ?_)
  refine SW.regionNil (sz := 1) (rows := irows .i64 l) (tight := false) TTok _ rfl rfl rfl rfl (show Try.prog.underlying 25 = some (.slice 3) by kernel_rfl) ?_
  conv => whnf
  refine ⟨rfl, rfl, by decide, fun bv hbv => ?_⟩
  conv => whnf
  cases bv with
  | true =>
    have he := hbv rfl
    rw [he]
    refine SW.cond (t := true) rfl (fun _ => ?_) (fun h => Bool.noConfusion h)
    refine SW.seqA TTok ?_
    conv => whnf
    refine SW.weak (Wk.le 2 rfl (le_nil 1)) rfl ?_
    refine axp_sound TTok _ _ _ ?_
    conv => whnf
    exact rfl
  | false =>
    refine SW.cond (t := false) rfl (fun h => Bool.noConfusion h) (fun _ => ?_)
    refine axp_sound TTok _ _ _ ?_
    conv => whnf
    refine axp_sound TTok _ _ _ ?_
    conv => whnf
    refine ⟨⟨Nat.le_refl _, by show (0 + (irows .i64 l).length) * 8 ≤ 140737488355328; omega⟩, ?_⟩
    conv => whnf
    refine ⟨by show 0 + (0 + (irows .i64 l).length) ≤ (irows .i64 l).length; omega, ?_⟩
    show AV.sl 1 ((irows .i64 l).take (0 + (irows .i64 l).length)) false = _
    rw [Nat.zero_add, List.take_length]
theorem CloneR_ok (l : List Int) (hb : l.length ≤ 1000000) : AC Try.prog 80 [.sl 1 (irows .i32 l) false] (.pure (.sl 1 (irows .i32 l) false)) := by
  refine AC.of_sw TTok Try.func80 rfl (enter_of Try.func80 (by kernel_rfl) (by kernel_rfl)) (noid1 (noid_sl _ _ _)) (noid_sl _ _ _) (Nat.le_of_ble_eq_true rfl) ?_
  have hlen : (irows .i32 l).length = l.length := irows_len _ _
  refine SW.seqA TTok ?_
  conv => whnf
  refine SW.seq (SW.seq ?_)
  refine SW.regionNil (sz := 1) (rows := irows .i32 l) (tight := false) TTok _ rfl rfl rfl rfl (show Try.prog.underlying 27 = some (.slice 21) by kernel_rfl) ?_
  conv => whnf
  refine ⟨rfl, rfl, by decide, fun bv hbv => ?_⟩
  conv => whnf
  cases bv with
  | true =>
    have he := hbv rfl
    rw [he]
    refine SW.cond (t := true) rfl (fun _ => ?_) (fun h => Bool.noConfusion h)
    refine SW.seqA TTok ?_
    conv => whnf
    refine SW.weak (Wk.le 2 rfl (le_nil 1)) rfl ?_
    refine axp_sound TTok _ _ _ ?_
    conv => whnf
    exact rfl
  | false =>
    refine SW.cond (t := false) rfl (fun h => Bool.noConfusion h) (fun _ => ?_)
    refine axp_sound TTok _ _ _ ?_
    conv => whnf
    refine axp_sound TTok _ _ _ ?_
    conv => whnf
    refine ⟨⟨Nat.le_refl _, by show (0 + (irows .i32 l).length) * 4 ≤ 140737488355328; omega⟩, ?_⟩
    conv => whnf
    refine ⟨by show 0 + (0 + (irows .i32 l).length) ≤ (irows .i32 l).length; omega, ?_⟩
    show AV.sl 1 ((irows .i32 l).take (0 + (irows .i32 l).length)) false = _
    rw [Nat.zero_add, List.take_length]
theorem CloneQ_ok (l : List (Option (Rat × Nat))) (hb : l.length ≤ 1000000) : AC Try.prog 95 [.sl 3 (l.map rowX) false] (.pure (.sl 3 (l.map rowX) false)) := by
  refine AC.of_sw TTok Try.func95 rfl (enter_of Try.func95 (by kernel_rfl) (by kernel_rfl)) (noid1 (slX_noid _)) (slX_noid _) (Nat.le_of_ble_eq_true rfl) ?_
  have hlen : (l.map rowX).length = l.length := List.length_map _
  refine SW.seqA TTok ?_
  conv => whnf
  refine SW.seq (SW.seq ?_)
  refine SW.regionNil (sz := 3) (rows := l.map rowX) (tight := false) TTok _ rfl rfl rfl rfl (show Try.prog.underlying 28 = some (.slice 55) by kernel_rfl) ?_
  conv => whnf
  refine ⟨rfl, rfl, by decide, fun bv hbv => ?_⟩
  conv => whnf
  cases bv with
  | true =>
    have he := hbv rfl
    rw [he]
    refine SW.cond (t := true) rfl (fun _ => ?_) (fun h => Bool.noConfusion h)
    refine SW.seqA TTok ?_
    conv => whnf
    refine SW.weak (Wk.le 2 rfl (le_nil 3)) rfl ?_
    refine axp_sound TTok _ _ _ ?_
    conv => whnf
    exact rfl
  | false =>
    refine SW.cond (t := false) rfl (fun h => Bool.noConfusion h) (fun _ => ?_)
    refine axp_sound TTok _ _ _ ?_
    conv => whnf
    refine axp_sound TTok _ _ _ ?_
    conv => whnf
    refine ⟨⟨Nat.le_refl _, by show (0 + (l.map rowX).length) * 56 ≤ 140737488355328; omega⟩, ?_⟩
    conv => whnf
    refine ⟨by show 0 + (0 + (l.map rowX).length) ≤ (l.map rowX).length; omega, ?_⟩
    show AV.sl 3 ((l.map rowX).take (0 + (l.map rowX).length)) false = _
    rw [Nat.zero_add, List.take_length]
theorem CloneQ_fresh (l : List (Option (Rat × Nat))) (hne : l ≠ []) (hb : l.length ≤ 1000000) : AC Try.prog 95 [.sl 3 (l.map rowX) false] (.fresh 3 (l.map rowX)) := by
  refine AC.of_sw TTok Try.func95 rfl (enter_of Try.func95 (by kernel_rfl) (by kernel_rfl)) (noid1 (slX_noid _)) (rowsX_noid _) (Nat.le_of_ble_eq_true rfl) ?_
  have hlen : (l.map rowX).length = l.length := List.length_map _
  refine SW.seqA TTok ?_
  conv => whnf
  refine SW.seq (SW.seq ?_)
  refine SW.regionNil (sz := 3) (rows := l.map rowX) (tight := false) TTok _ rfl rfl rfl rfl (show Try.prog.underlying 28 = some (.slice 55) by kernel_rfl) ?_
  conv => whnf
  refine ⟨rfl, rfl, by decide, fun bv hbv => ?_⟩
  conv => whnf
  cases bv with
  | true => exact absurd (List.map_eq_nil_iff.1 (hbv rfl)) hne
  | false =>
    refine SW.cond (t := false) rfl (fun h => Bool.noConfusion h) (fun _ => ?_)
    refine axp_sound TTok _ _ _ ?_
    conv => whnf
    refine axp_sound TTok _ _ _ ?_
    conv => whnf
    refine ⟨⟨Nat.le_refl _, by show (0 + (l.map rowX).length) * 56 ≤ 140737488355328; omega⟩, ?_⟩
    conv => whnf
    refine ⟨rfl, by show 0 + (0 + (l.map rowX).length) ≤ (l.map rowX).length; omega, ?_⟩
    show (l.map rowX).take (0 + (l.map rowX).length) = _
    rw [Nat.zero_add, List.take_length]
end
section

/-- The product of a shape's numbers, none of them taken as 1. -/
def pmI (sh : List Int) : Int := sh.foldl (fun n d => n * max 1 d) 1
def cntI (sh : List Int) : Int := if 0 ∈ sh then 0 else pmI sh
/-- Is it a shape? -/
def vS (sh : List Int) : Prop := sh.length ≤ 8 ∧ (∀ d ∈ sh, 0 ≤ d) ∧ pmI sh ≤ 4096
instance (sh : List Int) : Decidable (vS sh) := inferInstanceAs (Decidable (_ ∧ _))
theorem take_snoc {α : Type} {l : List α} {k : Nat} (hk : k < l.length) : l.take (k + 1) = l.take k ++ [l[k]] := by rw [List.take_add_one, List.getElem?_eq_getElem hk]; rfl
theorem pm_snoc (a : List Int) (d : Int) : pmI (a ++ [d]) = pmI a * max 1 d := by unfold pmI; rw [List.foldl_append]; rfl
theorem pm_take {sh : List Int} {k : Nat} (hk : k < sh.length) : pmI (sh.take (k + 1)) = pmI (sh.take k) * max 1 sh[k] := by rw [take_snoc hk, pm_snoc]
theorem pm_pos (sh : List Int) : 1 ≤ pmI sh := by
  have : ∀ (l : List Int) (n : Int), 1 ≤ n → 1 ≤ l.foldl (fun n d => n * max 1 d) n := by
    intro l
    induction l with
    | nil => exact fun n h => h
    | cons d l ih =>
      intro n h
      refine ih _ ?_
      show 1 ≤ n * max 1 d
      have h1 : 1 ≤ max 1 d := by omega
      have := Int.mul_le_mul h h1 (by decide) (by omega)
      omega
  exact this sh 1 (Int.le_refl _)
theorem pm_grow (a : List Int) (d : Int) : pmI a ≤ pmI a * max 1 d := by
  have h := Int.mul_le_mul_of_nonneg_left (show (1 : Int) ≤ max 1 d by omega) (show 0 ≤ pmI a by have := pm_pos a; omega)
  omega
theorem pm_mono (sh : List Int) (k : Nat) : pmI (sh.take k) ≤ pmI sh := by
  have key : ∀ j, pmI (sh.take k) ≤ pmI (sh.take (k + j)) := by
    intro j
    induction j with
    | zero => exact Int.le_refl _
    | succ j ih =>
      by_cases h : k + j < sh.length
      · have h1 := pm_grow (sh.take (k + j)) sh[k + j]
        rw [show k + (j + 1) = k + j + 1 by omega, pm_take h]
        omega
      · rw [List.take_of_length_le (show sh.length ≤ k + (j + 1) by omega)]
        rw [List.take_of_length_le (show sh.length ≤ k + j by omega)] at ih
        exact ih
  have := key sh.length
  rwa [List.take_of_length_le (show sh.length ≤ k + sh.length by omega)] at this
theorem vS_not_neg {sh : List Int} {k : Nat} (hk : k < sh.length) (h : sh[k] < 0) : ¬ vS sh := fun hv => by
  have := hv.2.1 _ (List.getElem_mem hk)
  omega
theorem vS_not_big {sh : List Int} {k : Nat} (hk : k < sh.length) (h : 4096 < pmI (sh.take (k + 1))) : ¬ vS sh := fun hv => by
  have := pm_mono sh (k + 1)
  have := hv.2.2
  omega
def CNT (sh : List Int) : AV := .tup [.val (.int .i64 (if vS sh then cntI sh else 0)), .val (.bool (decide (vS sh)))]
theorem CNT_noid (sh : List Int) : NoId (CNT sh) := .tup _ (noid2 (.val _) (.val _))
theorem CNT_bad {sh : List Int} (h : ¬ vS sh) : CNT sh = .tup [.val (.int .i64 0), .val (.bool false)] := by unfold CNT; rw [if_neg h, decide_eq_false h]
theorem CNT_good {sh : List Int} (h : vS sh) : CNT sh = .tup [.val (.int .i64 (cntI sh)), .val (.bool true)] := by unfold CNT; rw [if_pos h, decide_eq_true h]
theorem quo_test {n d : Int} (hn : 1 ≤ n) (hd : 0 ≤ d) : d > IntKind.i64.wrap ((4096 : Int).tdiv n) ↔ 4096 < n * max 1 d ∧ 1 ≤ d ∨ (4096 < n ∧ 1 ≤ d) := by
  have h0 : (4096 : Int).tdiv n = 4096 / n := Int.tdiv_eq_ediv_of_nonneg (by decide)
  have h1 : 0 ≤ (4096 : Int) / n := Int.ediv_nonneg (by decide) (by omega)
  have h2 : (4096 : Int) / n ≤ 4096 := Int.ediv_le_self _ (by decide)
  rw [h0, IntWalk.i64_in _ (by omega)]
  have h3 : (4096 : Int) / n < d ↔ 4096 < d * n := Int.ediv_lt_iff_lt_mul (by omega)
  rw [gt_iff_lt, h3, Int.mul_comm d n]
  by_cases h4 : 1 ≤ d
  · rw [show max 1 d = d by omega]
    constructor
    · exact fun h => .inl ⟨h, h4⟩
    · rintro (h | h)
      · exact h.1
      · have := Int.mul_le_mul_of_nonneg_left h4 (show 0 ≤ n by omega)
        omega
  · have : d = 0 := by omega
    subst this
    simp
theorem Count_ok (sh : List Int) (hb : sh.length ≤ 1000000) : AC Try.prog 47 [.sl 1 (irows .i64 sh) false] (.pure (CNT sh)) := by
  refine AC.of_body TTok Try.func47 rfl (enter_of Try.func47 (by kernel_rfl) (by kernel_rfl)) (noid1 (noid_sl _ _ _)) (CNT_noid _) (Nat.le_of_ble_eq_true rfl) ?_
  have hlen := irows_len .i64 sh
  by_cases h8 : sh.length > 8
  · have t8 : decide (((irows .i64 sh).length : Int) > 8) = true := decide_eq_true (by omega)
    rw [CNT_bad (fun hv => by have := hv.1; omega)]
    conv => whnf
    refine caseb (fun _ => ?_) (fun h => Bool.noConfusion ((t8).symm.trans h))
    repeat
      conv => whnf
      first
        | refine ⟨_, by assumption, ?_⟩
        | refine ⟨(Nat.le_of_ble_eq_true rfl), _, by assumption, ?_⟩
        | refine ⟨by kernel_rfl, ?_⟩
        | exact rfl
        | exact ⟨Nat.le_of_ble_eq_true rfl, rfl⟩
        | refine ⟨by decide, ?_⟩
  have t8 : decide (((irows .i64 sh).length : Int) > 8) = false := decide_eq_false (by omega)
  conv => whnf
  refine caseb (fun h => Bool.noConfusion ((t8).symm.trans h)) (fun _ => ?_)
  conv => whnf
  refine SW.loopM TTok (fun i : Nat => [(4, .val (.int .i64 (pmI (sh.take i)))), (5, .val (.bool (decide (0 ∈ sh.take i)))), (11, .sl 1 (irows .i64 sh) false), (12, .val (.int .i64 ((irows .i64 sh).length : Int))), (13, .val (.int .i64 (i : Int)))]) (fun i => []) 96 37 rfl (fun i => sh.length - i) (fun i => i ≤ sh.length ∧ pmI (sh.take i) ≤ 4096 ∧ ∀ d ∈ sh.take i, 0 ≤ d) 0 [] ⟨Nat.zero_le _, (by show (1 : Int) ≤ 4096; decide), fun d hd => nomatch hd⟩
    ⟨⟨rfl, rfl⟩, ⟨rfl, rfl⟩, ⟨rfl, rfl⟩, ⟨rfl, rfl⟩, ⟨rfl, rfl⟩, trivial⟩ trivial rfl ?_
  intro i hJ
  have hi : i ≤ sh.length := hJ.1
  have hp : pmI (sh.take i) ≤ 4096 := hJ.2.1
  have hd : ∀ d ∈ sh.take i, 0 ≤ d := hJ.2.2
  clear hJ
  have hp1 := pm_pos (sh.take i)
  by_cases hlt : i < sh.length
  · have hg := irows_get .i64 sh (List.getElem?_eq_getElem hlt)
    have eI : IntKind.i64.wrap ((i : Int) + 1) = ((i + 1 : Nat) : Int) := by rw [IntWalk.i64_in _ (by omega)]; omega
    have hs := pm_take hlt
    have hts := take_snoc hlt
    by_cases hneg : sh[i] < 0
    · rw [CNT_bad (vS_not_neg hlt hneg)]
      conv => whnf
      first
        | refine caseb (fun _ => ?_) (fun h => absurd (of_decide_eq_false h) (by omega))
        | refine caseb (fun h => absurd (of_decide_eq_true h) (by omega)) (fun _ => ?_)
        | refine caseb (fun _ => ?_) (fun h => absurd (beq_eq_false_iff_ne.1 h) (by omega))
        | refine caseb (fun h => absurd (eq_of_beq h) (by omega)) (fun _ => ?_)
      conv => whnf
      refine ⟨_, ⟨by omega, hg⟩, ?_⟩
      conv => whnf
      first
        | refine caseb (fun _ => ?_) (fun h => absurd (of_decide_eq_false h) (by omega))
        | refine caseb (fun h => absurd (of_decide_eq_true h) (by omega)) (fun _ => ?_)
        | refine caseb (fun _ => ?_) (fun h => absurd (beq_eq_false_iff_ne.1 h) (by omega))
        | refine caseb (fun h => absurd (eq_of_beq h) (by omega)) (fun _ => ?_)
      repeat
        conv => whnf
        first
          | refine ⟨_, by assumption, ?_⟩
          | refine ⟨(Nat.le_of_ble_eq_true rfl), _, by assumption, ?_⟩
          | refine ⟨by kernel_rfl, ?_⟩
          | exact rfl
          | exact ⟨Nat.le_of_ble_eq_true rfl, rfl⟩
          | refine ⟨by decide, ?_⟩
    · have hq := quo_test hp1 (Int.not_lt.1 hneg)
      have hnz : pmI (sh.take i) ≠ 0 := by omega
      by_cases hbig : 4096 < pmI (sh.take (i + 1))
      · rw [CNT_bad (vS_not_big hlt hbig)]
        have h1 : 1 ≤ sh[i] := by
          rcases Int.lt_or_le sh[i] 1 with h | h
          · rw [hs, show max 1 sh[i] = 1 by omega] at hbig
            omega
          · exact h
        rw [hs] at hbig
        have tq : decide (sh[i] > IntKind.i64.wrap ((4096 : Int).tdiv (pmI (sh.take i)))) = true := decide_eq_true (hq.2 (.inl ⟨hbig, h1⟩))
        conv => whnf
        first
          | refine caseb (fun _ => ?_) (fun h => absurd (of_decide_eq_false h) (by omega))
          | refine caseb (fun h => absurd (of_decide_eq_true h) (by omega)) (fun _ => ?_)
          | refine caseb (fun _ => ?_) (fun h => absurd (beq_eq_false_iff_ne.1 h) (by omega))
          | refine caseb (fun h => absurd (eq_of_beq h) (by omega)) (fun _ => ?_)
        conv => whnf
        refine ⟨_, ⟨by omega, hg⟩, ?_⟩
        conv => whnf
        first
          | refine caseb (fun _ => ?_) (fun h => absurd (of_decide_eq_false h) (by omega))
          | refine caseb (fun h => absurd (of_decide_eq_true h) (by omega)) (fun _ => ?_)
          | refine caseb (fun _ => ?_) (fun h => absurd (beq_eq_false_iff_ne.1 h) (by omega))
          | refine caseb (fun h => absurd (eq_of_beq h) (by omega)) (fun _ => ?_)
        conv => whnf
        refine ⟨hnz, ?_⟩
        conv => whnf
        refine caseb (fun _ => ?_) (fun h => Bool.noConfusion ((tq).symm.trans h))
        repeat
          conv => whnf
          first
            | refine ⟨_, by assumption, ?_⟩
            | refine ⟨(Nat.le_of_ble_eq_true rfl), _, by assumption, ?_⟩
            | refine ⟨by kernel_rfl, ?_⟩
            | exact rfl
            | exact ⟨Nat.le_of_ble_eq_true rfl, rfl⟩
            | refine ⟨by decide, ?_⟩
      · rw [hs] at hbig
        have tq : decide (sh[i] > IntKind.i64.wrap ((4096 : Int).tdiv (pmI (sh.take i)))) = false := decide_eq_false (fun h => by
          rcases hq.1 h with h | h
          · exact hbig h.1
          · omega)
        have e4 : IntKind.i64.wrap (pmI (sh.take i) * (if sh[i] > 1 then sh[i] else 1)) = pmI (sh.take (i + 1)) := by
          rw [hs, show (if sh[i] > 1 then sh[i] else 1) = max 1 sh[i] by split <;> omega]
          have := pm_grow (sh.take i) sh[i]
          exact IntWalk.i64_in _ (by omega)
        have fin : ∀ b : Bool, b = decide (0 ∈ sh.take (i + 1)) → AV.val (.bool b) = AV.val (.bool (decide (0 ∈ sh.take (i + 1)))) := fun b h => by rw [h]
        have hd' : ∀ d ∈ sh.take (i + 1), 0 ≤ d := by
          rw [hts]
          intro d hdd
          rcases List.mem_append.1 hdd with h | h
          · exact hd d h
          · rw [List.mem_singleton.1 h]; omega
        have hbig' : pmI (sh.take (i + 1)) ≤ 4096 := by rw [hs]; omega
        cases hz : decide (0 ∈ sh.take i) with
        | true =>
          have hz' := of_decide_eq_true hz
          conv => whnf
          first
            | refine caseb (fun _ => ?_) (fun h => absurd (of_decide_eq_false h) (by omega))
            | refine caseb (fun h => absurd (of_decide_eq_true h) (by omega)) (fun _ => ?_)
            | refine caseb (fun _ => ?_) (fun h => absurd (beq_eq_false_iff_ne.1 h) (by omega))
            | refine caseb (fun h => absurd (eq_of_beq h) (by omega)) (fun _ => ?_)
          conv => whnf
          refine ⟨_, ⟨by omega, hg⟩, ?_⟩
          conv => whnf
          first
            | refine caseb (fun _ => ?_) (fun h => absurd (of_decide_eq_false h) (by omega))
            | refine caseb (fun h => absurd (of_decide_eq_true h) (by omega)) (fun _ => ?_)
            | refine caseb (fun _ => ?_) (fun h => absurd (beq_eq_false_iff_ne.1 h) (by omega))
            | refine caseb (fun h => absurd (eq_of_beq h) (by omega)) (fun _ => ?_)
          conv => whnf
          refine ⟨hnz, ?_⟩
          conv => whnf
          refine caseb (fun h => Bool.noConfusion ((tq).symm.trans h)) (fun _ => ?_)
          conv => whnf
          refine ⟨i + 1, [], (by show sh.length - (i + 1) < sh.length - i; omega), ⟨hlt, hbig', hd'⟩, ⟨⟨valI e4, rfl⟩, ⟨fin _ (by rw [hts]; exact (decide_eq_true (List.mem_append_left _ hz')).symm), rfl⟩, ⟨rfl, rfl⟩, ⟨rfl, rfl⟩, ⟨valI eI, rfl⟩, trivial⟩, trivial, rfl⟩
        | false =>
          have hz' := of_decide_eq_false hz
          conv => whnf
          first
            | refine caseb (fun _ => ?_) (fun h => absurd (of_decide_eq_false h) (by omega))
            | refine caseb (fun h => absurd (of_decide_eq_true h) (by omega)) (fun _ => ?_)
            | refine caseb (fun _ => ?_) (fun h => absurd (beq_eq_false_iff_ne.1 h) (by omega))
            | refine caseb (fun h => absurd (eq_of_beq h) (by omega)) (fun _ => ?_)
          conv => whnf
          refine ⟨_, ⟨by omega, hg⟩, ?_⟩
          conv => whnf
          first
            | refine caseb (fun _ => ?_) (fun h => absurd (of_decide_eq_false h) (by omega))
            | refine caseb (fun h => absurd (of_decide_eq_true h) (by omega)) (fun _ => ?_)
            | refine caseb (fun _ => ?_) (fun h => absurd (beq_eq_false_iff_ne.1 h) (by omega))
            | refine caseb (fun h => absurd (eq_of_beq h) (by omega)) (fun _ => ?_)
          conv => whnf
          refine ⟨hnz, ?_⟩
          conv => whnf
          refine caseb (fun h => Bool.noConfusion ((tq).symm.trans h)) (fun _ => ?_)
          conv => whnf
          refine ⟨i + 1, [], (by show sh.length - (i + 1) < sh.length - i; omega), ⟨hlt, hbig', hd'⟩, ⟨⟨valI e4, rfl⟩, ⟨fin _ ?_, rfl⟩, ⟨rfl, rfl⟩, ⟨rfl, rfl⟩, ⟨valI eI, rfl⟩, trivial⟩, trivial, rfl⟩
          rw [hts]
          by_cases h0 : sh[i] = 0
          · rw [show (sh[i] == 0) = true by rw [h0]; rfl]
            exact (decide_eq_true (List.mem_append_right _ (List.mem_singleton.2 h0.symm))).symm
          · rw [show (sh[i] == 0) = false from beq_false_of_ne h0]
            refine (decide_eq_false (fun h => ?_)).symm
            rcases List.mem_append.1 h with h | h
            · exact hz' h
            · exact h0 (List.mem_singleton.1 h).symm
  · have hie : i = sh.length := by omega
    have hta : sh.take i = sh := by rw [hie, List.take_length]
    rw [hta] at hp hd ⊢
    have hv : vS sh := ⟨by omega, hd, hp⟩
    rw [CNT_good hv]
    unfold cntI
    by_cases h0 : 0 ∈ sh
    · rw [if_pos h0, decide_eq_true h0]
      conv => whnf
      first
        | refine caseb (fun _ => ?_) (fun h => absurd (of_decide_eq_false h) (by omega))
        | refine caseb (fun h => absurd (of_decide_eq_true h) (by omega)) (fun _ => ?_)
        | refine caseb (fun _ => ?_) (fun h => absurd (beq_eq_false_iff_ne.1 h) (by omega))
        | refine caseb (fun h => absurd (eq_of_beq h) (by omega)) (fun _ => ?_)
      repeat
        conv => whnf
        first
          | refine ⟨_, by assumption, ?_⟩
          | refine ⟨(Nat.le_of_ble_eq_true rfl), _, by assumption, ?_⟩
          | refine ⟨by kernel_rfl, ?_⟩
          | exact rfl
          | exact ⟨Nat.le_of_ble_eq_true rfl, rfl⟩
          | refine ⟨by decide, ?_⟩
    · rw [if_neg h0, decide_eq_false h0]
      conv => whnf
      first
        | refine caseb (fun _ => ?_) (fun h => absurd (of_decide_eq_false h) (by omega))
        | refine caseb (fun h => absurd (of_decide_eq_true h) (by omega)) (fun _ => ?_)
        | refine caseb (fun _ => ?_) (fun h => absurd (beq_eq_false_iff_ne.1 h) (by omega))
        | refine caseb (fun h => absurd (eq_of_beq h) (by omega)) (fun _ => ?_)
      repeat
        conv => whnf
        first
          | refine ⟨_, by assumption, ?_⟩
          | refine ⟨(Nat.le_of_ble_eq_true rfl), _, by assumption, ?_⟩
          | refine ⟨by kernel_rfl, ?_⟩
          | exact rfl
          | exact ⟨Nat.le_of_ble_eq_true rfl, rfl⟩
          | refine ⟨by decide, ?_⟩
end
section

end
section

theorem IntsSame_ok (a b : List Int) (ha : a.length ≤ 1000000) (hb : b.length ≤ 1000000) : AC Try.prog 11 [.sl 1 (irows .i64 a) false, .sl 1 (irows .i64 b) false] (.pure (.val (.bool (decide (a = b))))) := by
  refine AC.of_body TTok Try.func11 rfl (enter_of Try.func11 (by kernel_rfl) (by kernel_rfl)) (noid2 (noid_sl _ _ _) (noid_sl _ _ _)) (.val _) (Nat.le_of_ble_eq_true rfl) ?_
  have h1 := irows_len .i64 a
  have h2 := irows_len .i64 b
  by_cases hl : a.length = b.length
  · have tl : (((irows .i64 a).length : Int) != ((irows .i64 b).length : Int)) = false := by rw [h1, h2, hl]; simp
    conv => whnf
    refine caseb (fun h => Bool.noConfusion ((tl).symm.trans h)) (fun _ => ?_)
    conv => whnf
    refine SW.loopM TTok (fun i : Nat => [(0, .sl 1 (irows .i64 a) false), (1, .sl 1 (irows .i64 b) false), (5, .val (.int .i64 (i : Int)))]) (fun i => []) 56 26 rfl (fun i => a.length - i) (fun i => i ≤ a.length ∧ a.take i = b.take i) 0 [] ⟨Nat.zero_le _, rfl⟩
      ⟨⟨rfl, rfl⟩, ⟨rfl, rfl⟩, ⟨rfl, rfl⟩, trivial⟩ trivial rfl ?_
    intro i hJ
    have hi : i ≤ a.length := hJ.1
    have ht : a.take i = b.take i := hJ.2
    clear hJ
    by_cases hlt : i < a.length
    · have hlt' : i < b.length := by omega
      have g1 := irows_get .i64 a (List.getElem?_eq_getElem hlt)
      have g2 := irows_get .i64 b (List.getElem?_eq_getElem hlt')
      have eI : IntKind.i64.wrap ((i : Int) + 1) = ((i + 1 : Nat) : Int) := by rw [IntWalk.i64_in _ (by omega)]; omega
      by_cases he : a[i] = b[i]
      · have te : (a[i] != b[i]) = false := by rw [he]; simp
        conv => whnf
        first
          | refine caseb (fun _ => ?_) (fun h => absurd (of_decide_eq_false h) (by omega))
          | refine caseb (fun h => absurd (of_decide_eq_true h) (by omega)) (fun _ => ?_)
          | refine caseb (fun _ => ?_) (fun h => absurd (beq_eq_false_iff_ne.1 h) (by omega))
          | refine caseb (fun h => absurd (eq_of_beq h) (by omega)) (fun _ => ?_)
        conv => whnf
        refine ⟨_, ⟨by omega, g1⟩, ?_⟩
        conv => whnf
        refine ⟨_, ⟨by omega, g2⟩, ?_⟩
        conv => whnf
        refine ⟨by kernel_rfl, ?_⟩
        conv => whnf
        refine caseb (fun h => Bool.noConfusion ((te).symm.trans h)) (fun _ => ?_)
        conv => whnf
        refine ⟨i + 1, [], (by show a.length - (i + 1) < a.length - i; omega), ⟨hlt, (by show a.take (i + 1) = b.take (i + 1); rw [take_snoc hlt, take_snoc hlt', ht, he])⟩, ⟨⟨rfl, rfl⟩, ⟨rfl, rfl⟩, ⟨valI eI, rfl⟩, trivial⟩, trivial, rfl⟩
      · have te : (a[i] != b[i]) = true := by simpa using he
        rw [decide_eq_false (fun e => he (by subst e; rfl))]
        conv => whnf
        first
          | refine caseb (fun _ => ?_) (fun h => absurd (of_decide_eq_false h) (by omega))
          | refine caseb (fun h => absurd (of_decide_eq_true h) (by omega)) (fun _ => ?_)
          | refine caseb (fun _ => ?_) (fun h => absurd (beq_eq_false_iff_ne.1 h) (by omega))
          | refine caseb (fun h => absurd (eq_of_beq h) (by omega)) (fun _ => ?_)
        conv => whnf
        refine ⟨_, ⟨by omega, g1⟩, ?_⟩
        conv => whnf
        refine ⟨_, ⟨by omega, g2⟩, ?_⟩
        conv => whnf
        refine ⟨by kernel_rfl, ?_⟩
        conv => whnf
        refine caseb (fun _ => ?_) (fun h => Bool.noConfusion ((te).symm.trans h))
        repeat
          conv => whnf
          first
            | refine ⟨_, by assumption, ?_⟩
            | refine ⟨(Nat.le_of_ble_eq_true rfl), _, by assumption, ?_⟩
            | refine ⟨by kernel_rfl, ?_⟩
            | exact rfl
            | exact ⟨Nat.le_of_ble_eq_true rfl, rfl⟩
            | refine ⟨by decide, ?_⟩
    · have hie : i = a.length := by omega
      rw [decide_eq_true (by rw [hie, List.take_length, hl, List.take_length] at ht; exact ht)]
      conv => whnf
      first
        | refine caseb (fun _ => ?_) (fun h => absurd (of_decide_eq_false h) (by omega))
        | refine caseb (fun h => absurd (of_decide_eq_true h) (by omega)) (fun _ => ?_)
        | refine caseb (fun _ => ?_) (fun h => absurd (beq_eq_false_iff_ne.1 h) (by omega))
        | refine caseb (fun h => absurd (eq_of_beq h) (by omega)) (fun _ => ?_)
      repeat
        conv => whnf
        first
          | refine ⟨_, by assumption, ?_⟩
          | refine ⟨(Nat.le_of_ble_eq_true rfl), _, by assumption, ?_⟩
          | refine ⟨by kernel_rfl, ?_⟩
          | exact rfl
          | exact ⟨Nat.le_of_ble_eq_true rfl, rfl⟩
          | refine ⟨by decide, ?_⟩
  · have tl : (((irows .i64 a).length : Int) != ((irows .i64 b).length : Int)) = true := by rw [h1, h2]; simpa using (show ¬ (a.length : Int) = b.length by omega)
    rw [decide_eq_false (fun e => hl (by rw [e]))]
    conv => whnf
    refine caseb (fun _ => ?_) (fun h => Bool.noConfusion ((tl).symm.trans h))
    repeat
      conv => whnf
      first
        | refine ⟨_, by assumption, ?_⟩
        | refine ⟨(Nat.le_of_ble_eq_true rfl), _, by assumption, ?_⟩
        | refine ⟨by kernel_rfl, ?_⟩
        | exact rfl
        | exact ⟨Nat.le_of_ble_eq_true rfl, rfl⟩
        | refine ⟨by decide, ?_⟩

theorem Runes_ok (a b : List Int) (ha : a.length ≤ 1000000) (hb : b.length ≤ 1000000) : AC Try.prog 60 [.sl 1 (irows .i32 a) false, .sl 1 (irows .i32 b) false] (.pure (.val (.bool (decide (a = b))))) := by
  refine AC.of_body TTok Try.func60 rfl (enter_of Try.func60 (by kernel_rfl) (by kernel_rfl)) (noid2 (noid_sl _ _ _) (noid_sl _ _ _)) (.val _) (Nat.le_of_ble_eq_true rfl) ?_
  have h1 := irows_len .i32 a
  have h2 := irows_len .i32 b
  by_cases hl : a.length = b.length
  · have tl : (((irows .i32 a).length : Int) != ((irows .i32 b).length : Int)) = false := by rw [h1, h2, hl]; simp
    conv => whnf
    refine caseb (fun h => Bool.noConfusion ((tl).symm.trans h)) (fun _ => ?_)
    conv => whnf
    refine SW.loopM TTok (fun i : Nat => [(0, .sl 1 (irows .i32 a) false), (1, .sl 1 (irows .i32 b) false), (5, .val (.int .i64 (i : Int)))]) (fun i => []) 56 26 rfl (fun i => a.length - i) (fun i => i ≤ a.length ∧ a.take i = b.take i) 0 [] ⟨Nat.zero_le _, rfl⟩
      ⟨⟨rfl, rfl⟩, ⟨rfl, rfl⟩, ⟨rfl, rfl⟩, trivial⟩ trivial rfl ?_
    intro i hJ
    have hi : i ≤ a.length := hJ.1
    have ht : a.take i = b.take i := hJ.2
    clear hJ
    by_cases hlt : i < a.length
    · have hlt' : i < b.length := by omega
      have g1 := irows_get .i32 a (List.getElem?_eq_getElem hlt)
      have g2 := irows_get .i32 b (List.getElem?_eq_getElem hlt')
      have eI : IntKind.i64.wrap ((i : Int) + 1) = ((i + 1 : Nat) : Int) := by rw [IntWalk.i64_in _ (by omega)]; omega
      by_cases he : a[i] = b[i]
      · have te : (a[i] != b[i]) = false := by rw [he]; simp
        conv => whnf
        first
          | refine caseb (fun _ => ?_) (fun h => absurd (of_decide_eq_false h) (by omega))
          | refine caseb (fun h => absurd (of_decide_eq_true h) (by omega)) (fun _ => ?_)
          | refine caseb (fun _ => ?_) (fun h => absurd (beq_eq_false_iff_ne.1 h) (by omega))
          | refine caseb (fun h => absurd (eq_of_beq h) (by omega)) (fun _ => ?_)
        conv => whnf
        refine ⟨_, ⟨by omega, g1⟩, ?_⟩
        conv => whnf
        refine ⟨_, ⟨by omega, g2⟩, ?_⟩
        conv => whnf
        refine ⟨by kernel_rfl, ?_⟩
        conv => whnf
        refine caseb (fun h => Bool.noConfusion ((te).symm.trans h)) (fun _ => ?_)
        conv => whnf
        refine ⟨i + 1, [], (by show a.length - (i + 1) < a.length - i; omega), ⟨hlt, (by show a.take (i + 1) = b.take (i + 1); rw [take_snoc hlt, take_snoc hlt', ht, he])⟩, ⟨⟨rfl, rfl⟩, ⟨rfl, rfl⟩, ⟨valI eI, rfl⟩, trivial⟩, trivial, rfl⟩
      · have te : (a[i] != b[i]) = true := by simpa using he
        rw [decide_eq_false (fun e => he (by subst e; rfl))]
        conv => whnf
        first
          | refine caseb (fun _ => ?_) (fun h => absurd (of_decide_eq_false h) (by omega))
          | refine caseb (fun h => absurd (of_decide_eq_true h) (by omega)) (fun _ => ?_)
          | refine caseb (fun _ => ?_) (fun h => absurd (beq_eq_false_iff_ne.1 h) (by omega))
          | refine caseb (fun h => absurd (eq_of_beq h) (by omega)) (fun _ => ?_)
        conv => whnf
        refine ⟨_, ⟨by omega, g1⟩, ?_⟩
        conv => whnf
        refine ⟨_, ⟨by omega, g2⟩, ?_⟩
        conv => whnf
        refine ⟨by kernel_rfl, ?_⟩
        conv => whnf
        refine caseb (fun _ => ?_) (fun h => Bool.noConfusion ((te).symm.trans h))
        repeat
          conv => whnf
          first
            | refine ⟨_, by assumption, ?_⟩
            | refine ⟨(Nat.le_of_ble_eq_true rfl), _, by assumption, ?_⟩
            | refine ⟨by kernel_rfl, ?_⟩
            | exact rfl
            | exact ⟨Nat.le_of_ble_eq_true rfl, rfl⟩
            | refine ⟨by decide, ?_⟩
    · have hie : i = a.length := by omega
      rw [decide_eq_true (by rw [hie, List.take_length, hl, List.take_length] at ht; exact ht)]
      conv => whnf
      first
        | refine caseb (fun _ => ?_) (fun h => absurd (of_decide_eq_false h) (by omega))
        | refine caseb (fun h => absurd (of_decide_eq_true h) (by omega)) (fun _ => ?_)
        | refine caseb (fun _ => ?_) (fun h => absurd (beq_eq_false_iff_ne.1 h) (by omega))
        | refine caseb (fun h => absurd (eq_of_beq h) (by omega)) (fun _ => ?_)
      repeat
        conv => whnf
        first
          | refine ⟨_, by assumption, ?_⟩
          | refine ⟨(Nat.le_of_ble_eq_true rfl), _, by assumption, ?_⟩
          | refine ⟨by kernel_rfl, ?_⟩
          | exact rfl
          | exact ⟨Nat.le_of_ble_eq_true rfl, rfl⟩
          | refine ⟨by decide, ?_⟩
  · have tl : (((irows .i32 a).length : Int) != ((irows .i32 b).length : Int)) = true := by rw [h1, h2]; simpa using (show ¬ (a.length : Int) = b.length by omega)
    rw [decide_eq_false (fun e => hl (by rw [e]))]
    conv => whnf
    refine caseb (fun _ => ?_) (fun h => Bool.noConfusion ((tl).symm.trans h))
    repeat
      conv => whnf
      first
        | refine ⟨_, by assumption, ?_⟩
        | refine ⟨(Nat.le_of_ble_eq_true rfl), _, by assumption, ?_⟩
        | refine ⟨by kernel_rfl, ?_⟩
        | exact rfl
        | exact ⟨Nat.le_of_ble_eq_true rfl, rfl⟩
        | refine ⟨by decide, ?_⟩

theorem Equal_ok (a b : List Int) (ha : a.length ≤ 1000000) (hb : b.length ≤ 1000000) : AC Try.prog 39 [.sl 1 (irows .i64 a) false, .sl 1 (irows .i64 b) false] (.pure (.val (.bool (decide (a = b))))) := by
  refine AC.of_body TTok Try.func39 rfl (enter_of Try.func39 (by kernel_rfl) (by kernel_rfl)) (noid2 (noid_sl _ _ _) (noid_sl _ _ _)) (.val _) (Nat.le_of_ble_eq_true rfl) ?_
  have h1 := irows_len .i64 a
  have h2 := irows_len .i64 b
  by_cases hl : a.length = b.length
  · have tl : (((irows .i64 a).length : Int) != ((irows .i64 b).length : Int)) = false := by rw [h1, h2, hl]; simp
    conv => whnf
    refine caseb (fun h => Bool.noConfusion ((tl).symm.trans h)) (fun _ => ?_)
    conv => whnf
    refine SW.loopM TTok (fun i : Nat => [(0, .sl 1 (irows .i64 a) false), (1, .sl 1 (irows .i64 b) false), (12, .val (.int .i64 ((irows .i64 a).length : Int))), (13, .val (.int .i64 (i : Int)))]) (fun i => []) 72 26 rfl (fun i => a.length - i) (fun i => i ≤ a.length ∧ a.take i = b.take i) 0 [] ⟨Nat.zero_le _, rfl⟩
      ⟨⟨rfl, rfl⟩, ⟨rfl, rfl⟩, ⟨rfl, rfl⟩, ⟨rfl, rfl⟩, trivial⟩ trivial rfl ?_
    intro i hJ
    have hi : i ≤ a.length := hJ.1
    have ht : a.take i = b.take i := hJ.2
    clear hJ
    by_cases hlt : i < a.length
    · have hlt' : i < b.length := by omega
      have g1 := irows_get .i64 a (List.getElem?_eq_getElem hlt)
      have g2 := irows_get .i64 b (List.getElem?_eq_getElem hlt')
      have eI : IntKind.i64.wrap ((i : Int) + 1) = ((i + 1 : Nat) : Int) := by rw [IntWalk.i64_in _ (by omega)]; omega
      by_cases he : a[i] = b[i]
      · have te : (a[i] != b[i]) = false := by rw [he]; simp
        conv => whnf
        first
          | refine caseb (fun _ => ?_) (fun h => absurd (of_decide_eq_false h) (by omega))
          | refine caseb (fun h => absurd (of_decide_eq_true h) (by omega)) (fun _ => ?_)
          | refine caseb (fun _ => ?_) (fun h => absurd (beq_eq_false_iff_ne.1 h) (by omega))
          | refine caseb (fun h => absurd (eq_of_beq h) (by omega)) (fun _ => ?_)
        conv => whnf
        refine ⟨_, ⟨by omega, g1⟩, ?_⟩
        conv => whnf
        refine ⟨_, ⟨by omega, g2⟩, ?_⟩
        conv => whnf
        refine ⟨by kernel_rfl, ?_⟩
        conv => whnf
        refine caseb (fun h => Bool.noConfusion ((te).symm.trans h)) (fun _ => ?_)
        conv => whnf
        refine ⟨i + 1, [], (by show a.length - (i + 1) < a.length - i; omega), ⟨hlt, (by show a.take (i + 1) = b.take (i + 1); rw [take_snoc hlt, take_snoc hlt', ht, he])⟩, ⟨⟨rfl, rfl⟩, ⟨rfl, rfl⟩, ⟨rfl, rfl⟩, ⟨valI eI, rfl⟩, trivial⟩, trivial, rfl⟩
      · have te : (a[i] != b[i]) = true := by simpa using he
        rw [decide_eq_false (fun e => he (by subst e; rfl))]
        conv => whnf
        first
          | refine caseb (fun _ => ?_) (fun h => absurd (of_decide_eq_false h) (by omega))
          | refine caseb (fun h => absurd (of_decide_eq_true h) (by omega)) (fun _ => ?_)
          | refine caseb (fun _ => ?_) (fun h => absurd (beq_eq_false_iff_ne.1 h) (by omega))
          | refine caseb (fun h => absurd (eq_of_beq h) (by omega)) (fun _ => ?_)
        conv => whnf
        refine ⟨_, ⟨by omega, g1⟩, ?_⟩
        conv => whnf
        refine ⟨_, ⟨by omega, g2⟩, ?_⟩
        conv => whnf
        refine ⟨by kernel_rfl, ?_⟩
        conv => whnf
        refine caseb (fun _ => ?_) (fun h => Bool.noConfusion ((te).symm.trans h))
        repeat
          conv => whnf
          first
            | refine ⟨_, by assumption, ?_⟩
            | refine ⟨(Nat.le_of_ble_eq_true rfl), _, by assumption, ?_⟩
            | refine ⟨by kernel_rfl, ?_⟩
            | exact rfl
            | exact ⟨Nat.le_of_ble_eq_true rfl, rfl⟩
            | refine ⟨by decide, ?_⟩
    · have hie : i = a.length := by omega
      rw [decide_eq_true (by rw [hie, List.take_length, hl, List.take_length] at ht; exact ht)]
      conv => whnf
      first
        | refine caseb (fun _ => ?_) (fun h => absurd (of_decide_eq_false h) (by omega))
        | refine caseb (fun h => absurd (of_decide_eq_true h) (by omega)) (fun _ => ?_)
        | refine caseb (fun _ => ?_) (fun h => absurd (beq_eq_false_iff_ne.1 h) (by omega))
        | refine caseb (fun h => absurd (eq_of_beq h) (by omega)) (fun _ => ?_)
      repeat
        conv => whnf
        first
          | refine ⟨_, by assumption, ?_⟩
          | refine ⟨(Nat.le_of_ble_eq_true rfl), _, by assumption, ?_⟩
          | refine ⟨by kernel_rfl, ?_⟩
          | exact rfl
          | exact ⟨Nat.le_of_ble_eq_true rfl, rfl⟩
          | refine ⟨by decide, ?_⟩
  · have tl : (((irows .i64 a).length : Int) != ((irows .i64 b).length : Int)) = true := by rw [h1, h2]; simpa using (show ¬ (a.length : Int) = b.length by omega)
    rw [decide_eq_false (fun e => hl (by rw [e]))]
    conv => whnf
    refine caseb (fun _ => ?_) (fun h => Bool.noConfusion ((tl).symm.trans h))
    repeat
      conv => whnf
      first
        | refine ⟨_, by assumption, ?_⟩
        | refine ⟨(Nat.le_of_ble_eq_true rfl), _, by assumption, ?_⟩
        | refine ⟨by kernel_rfl, ?_⟩
        | exact rfl
        | exact ⟨Nat.le_of_ble_eq_true rfl, rfl⟩
        | refine ⟨by decide, ?_⟩

theorem ShSame_ok (a b : List Int) (ha : a.length ≤ 1000000) (hb : b.length ≤ 1000000) : AC Try.prog 64 [.sl 1 (irows .i64 a) false, .sl 1 (irows .i64 b) false] (.pure (.val (.bool (decide (a = b))))) := by
  refine AC.of_body TTok Try.func64 rfl (enter_of Try.func64 (by kernel_rfl) (by kernel_rfl)) (noid2 (noid_sl _ _ _) (noid_sl _ _ _)) (.val _) (Nat.le_of_ble_eq_true rfl) ?_
  have h := Equal_ok a b ha hb
  repeat
    conv => whnf
    first
      | refine ⟨_, by assumption, ?_⟩
      | refine ⟨(Nat.le_of_ble_eq_true rfl), _, by assumption, ?_⟩
      | refine ⟨by kernel_rfl, ?_⟩
      | exact rfl
      | exact ⟨Nat.le_of_ble_eq_true rfl, rfl⟩
      | refine ⟨by decide, ?_⟩
section
variable (sh : List Int) (ch : Bool) (tx : List Int) (ns : List (Option (Rat × Nat))) (made : Bool)
theorem ALen_ok (h1 : tx.length ≤ 1000000) (h2 : ns.length ≤ 1000000) : AC Try.prog 19 [AA sh ch tx ns made] (.pure (.val (.int .i64 ((tx.length + ns.length : Nat) : Int)))) := by
  refine AC.of_body TTok Try.func19 rfl (enter_of Try.func19 (by kernel_rfl) (by kernel_rfl)) (noid1 (AA_noid _ _ _ _ _)) (.val _) (Nat.le_of_ble_eq_true rfl) ?_
  unfold AA
  conv => whnf
  exact valI (by rw [irows_len, List.length_map, IntWalk.i64_in _ (by omega)]; omega)
theorem IsChar_ok : AC Try.prog 66 [AA sh ch tx ns made] (.pure (.val (.bool ch))) := by
  refine AC.of_body TTok Try.func66 rfl (enter_of Try.func66 (by kernel_rfl) (by kernel_rfl)) (noid1 (AA_noid _ _ _ _ _)) (.val _) (Nat.le_of_ble_eq_true rfl) ?_
  unfold AA
  repeat
    conv => whnf
    first
      | refine ⟨_, by assumption, ?_⟩
      | refine ⟨(Nat.le_of_ble_eq_true rfl), _, by assumption, ?_⟩
      | refine ⟨by kernel_rfl, ?_⟩
      | exact rfl
      | exact ⟨Nat.le_of_ble_eq_true rfl, rfl⟩
      | refine ⟨by decide, ?_⟩
theorem Shape_ok (h : sh.length ≤ 1000000) : AC Try.prog 28 [AA sh ch tx ns true] (.pure (.sl 1 (irows .i64 sh) false)) := by
  refine AC.of_body TTok Try.func28 rfl (enter_of Try.func28 (by kernel_rfl) (by kernel_rfl)) (noid1 (AA_noid _ _ _ _ _)) (noid_sl _ _ _) (Nat.le_of_ble_eq_true rfl) ?_
  have hC := CloneI_ok sh h
  unfold AA
  repeat
    conv => whnf
    first
      | refine ⟨_, by assumption, ?_⟩
      | refine ⟨(Nat.le_of_ble_eq_true rfl), _, by assumption, ?_⟩
      | refine ⟨by kernel_rfl, ?_⟩
      | exact rfl
      | exact ⟨Nat.le_of_ble_eq_true rfl, rfl⟩
      | refine ⟨by decide, ?_⟩
theorem Rank_ok (h : sh.length ≤ 1000000) : AC Try.prog 35 [AA sh ch tx ns true] (.pure (.val (.int .i64 (sh.length : Nat)))) := by
  refine AC.of_body TTok Try.func35 rfl (enter_of Try.func35 (by kernel_rfl) (by kernel_rfl)) (noid1 (AA_noid _ _ _ _ _)) (.val _) (Nat.le_of_ble_eq_true rfl) ?_
  have hS := Shape_ok sh ch tx ns h
  unfold AA at *
  conv => whnf
  refine ⟨_, hS, ?_⟩
  conv => whnf
  exact valI (by rw [irows_len])
theorem Runes86_ok (h : tx.length ≤ 1000000) : AC Try.prog 61 [AA sh ch tx ns made] (.pure (.sl 1 (irows .i32 tx) false)) := by
  refine AC.of_body TTok Try.func61 rfl (enter_of Try.func61 (by kernel_rfl) (by kernel_rfl)) (noid1 (AA_noid _ _ _ _ _)) (noid_sl _ _ _) (Nat.le_of_ble_eq_true rfl) ?_
  have hC := CloneR_ok tx h
  unfold AA
  repeat
    conv => whnf
    first
      | refine ⟨_, by assumption, ?_⟩
      | refine ⟨(Nat.le_of_ble_eq_true rfl), _, by assumption, ?_⟩
      | refine ⟨by kernel_rfl, ?_⟩
      | exact rfl
      | exact ⟨Nat.le_of_ble_eq_true rfl, rfl⟩
      | refine ⟨by decide, ?_⟩
theorem Rats_ok (h : ns.length ≤ 1000000) : AC Try.prog 87 [AA sh ch tx ns made] (.pure (.sl 3 (ns.map rowX) false)) := by
  refine AC.of_body TTok Try.func87 rfl (enter_of Try.func87 (by kernel_rfl) (by kernel_rfl)) (noid1 (AA_noid _ _ _ _ _)) (slX_noid _) (Nat.le_of_ble_eq_true rfl) ?_
  have hC := CloneQ_ok ns h
  unfold AA
  repeat
    conv => whnf
    first
      | refine ⟨_, by assumption, ?_⟩
      | refine ⟨(Nat.le_of_ble_eq_true rfl), _, by assumption, ?_⟩
      | refine ⟨by kernel_rfl, ?_⟩
      | exact rfl
      | exact ⟨Nat.le_of_ble_eq_true rfl, rfl⟩
      | refine ⟨by decide, ?_⟩
theorem RatI_ok (k : Nat) (hk : k < ns.length) (hb : ns.length ≤ 1000000) : AC Try.prog 74 [AA sh ch tx ns made, .val (.int .i64 (k : Int))] (.pure (.agg (rowX ns[k]))) := by
  refine AC.of_body TTok Try.func74 rfl (enter_of Try.func74 (by kernel_rfl) (by kernel_rfl)) (noid2 (AA_noid _ _ _ _ _) (.val _)) (.agg _ (rowX_noid _)) (Nat.le_of_ble_eq_true rfl) ?_
  have hlen : (ns.map rowX).length = ns.length := List.length_map _
  have hg : (ns.map rowX)[k]? = some (rowX ns[k]) := by rw [List.getElem?_map, List.getElem?_eq_getElem hk]; rfl
  unfold AA
  cases hr : ns[k] with
  | none =>
    have hg : (ns.map rowX)[k]? = some [.sl 0 [] true, .val (.bool false), .sl 0 [] true] := by rw [hg, hr]; rfl
    conv => whnf
    first
      | refine caseb (fun _ => ?_) (fun h => absurd (of_decide_eq_false h) (by omega))
      | refine caseb (fun h => absurd (of_decide_eq_true h) (by omega)) (fun _ => ?_)
      | refine caseb (fun _ => ?_) (fun h => absurd (beq_eq_false_iff_ne.1 h) (by omega))
      | refine caseb (fun h => absurd (eq_of_beq h) (by omega)) (fun _ => ?_)
    conv => whnf
    refine ⟨_, ⟨by omega, hg⟩, ?_⟩
    repeat
      conv => whnf
      first
        | refine ⟨_, by assumption, ?_⟩
        | refine ⟨(Nat.le_of_ble_eq_true rfl), _, by assumption, ?_⟩
        | refine ⟨by kernel_rfl, ?_⟩
        | exact rfl
        | exact ⟨Nat.le_of_ble_eq_true rfl, rfl⟩
        | refine ⟨by decide, ?_⟩
  | some p =>
    have hg : (ns.map rowX)[k]? = some [.sl 1 (irows .u32 (limbs p.1.num.natAbs)) false, .val (.bool (decide (p.1.num < 0))), .sl 1 (irows .u32 (limbs p.2)) false] := by rw [hg, hr]; rfl
    conv => whnf
    first
      | refine caseb (fun _ => ?_) (fun h => absurd (of_decide_eq_false h) (by omega))
      | refine caseb (fun h => absurd (of_decide_eq_true h) (by omega)) (fun _ => ?_)
      | refine caseb (fun _ => ?_) (fun h => absurd (beq_eq_false_iff_ne.1 h) (by omega))
      | refine caseb (fun h => absurd (eq_of_beq h) (by omega)) (fun _ => ?_)
    conv => whnf
    refine ⟨_, ⟨by omega, hg⟩, ?_⟩
    repeat
      conv => whnf
      first
        | refine ⟨_, by assumption, ?_⟩
        | refine ⟨(Nat.le_of_ble_eq_true rfl), _, by assumption, ?_⟩
        | refine ⟨by kernel_rfl, ?_⟩
        | exact rfl
        | exact ⟨Nat.le_of_ble_eq_true rfl, rfl⟩
        | refine ⟨by decide, ?_⟩
end
end
section

theorem Nums_ok (sh : List Int) (ns : List (Option (Rat × Nat))) (hv : vS sh) (hc : cntI sh = (ns.length : Int)) (hb : ns.length ≤ 1000000) : AC Try.prog 86 [.sl 1 (irows .i64 sh) false, .sl 3 (ns.map rowX) false] (.pure (.tup [AA sh false [] ns true, .val (.bool true)])) := by
  have h8 := hv.1
  have hC := Count_ok sh (by omega)
  rw [CNT_good hv, hc] at hC
  have h1 := CloneI_ok sh (by omega)
  have h2 := CloneQ_ok ns hb
  have hlen : (ns.map rowX).length = ns.length := List.length_map _
  refine AC.le_res (?_ : AC Try.prog 86 _ (.pure (.tup [.agg [.sl 1 (irows .i64 sh) false, .val (.bool false), .sl 0 [] true, .sl 3 (ns.map rowX) false, .val (.bool true)], .val (.bool true)]))) (.tup2 (le_agg5 (.refl _) (.refl _) (le_nil 1) (.refl _) (.refl _)) (.refl _)) (.tup _ (noid2 (AA_noid _ _ _ _ _) (.val _)))
  refine AC.of_body TTok Try.func86 rfl (enter_of Try.func86 (by kernel_rfl) (by kernel_rfl)) (noid2 (noid_sl _ _ _) (slX_noid _)) (.tup _ (noid2 (.agg _ (noid5 (noid_sl _ _ _) (.val _) (.sl _ _ _ (fun r hr => nomatch hr)) (slX_noid _) (.val _))) (.val _))) (Nat.le_of_ble_eq_true rfl) ?_
  have t1 : (((ns.length : Nat) : Int) != ((ns.map rowX).length : Int)) = false := by rw [hlen]; simp
  conv => whnf
  refine ⟨_, hC, ?_⟩
  conv => whnf
  refine caseb (fun h => Bool.noConfusion ((t1).symm.trans h)) (fun _ => ?_)
  repeat
    conv => whnf
    first
      | refine ⟨_, by assumption, ?_⟩
      | refine ⟨(Nat.le_of_ble_eq_true rfl), _, by assumption, ?_⟩
      | refine ⟨by kernel_rfl, ?_⟩
      | exact rfl
      | exact ⟨Nat.le_of_ble_eq_true rfl, rfl⟩
      | refine ⟨by decide, ?_⟩
theorem NumX_ok (o : Option (Rat × Nat)) (ho : okX o) (hs : Sz (valX o) 100000) : AC Try.prog 62 [.agg (rowX o)] (.pure (RN (valX o).num (valX o).den)) := by
  cases o with
  | none =>
    have hz : AC Try.prog 62 [RA 0 0] (.pure (RN 0 1)) := NumS 0 0 rfl ⟨by show (limbs 0).length ≤ _; rw [limbs_zero]; exact Nat.zero_le _, by show (limbs 1).length ≤ _; rw [limbs_1]; decide⟩
    exact AC.le_args hz rfl (fun i x y hx hy => by
      match i with
      | 0 => cases hx; cases hy; exact RZ_le
      | (i + 1) => cases hx) (noid1 RZ_noid)
  | some p => exact NumS p.1 p.2 ho hs

theorem Plain_ok (sh : List Int) (ch : Bool) (tx : List Int) (ns : List (Option (Rat × Nat))) (h1 : sh.length ≤ 1000) (h2 : tx.length ≤ 100000) (h3 : ns.length ≤ 100000) (ho : ∀ o ∈ ns, okX o ∧ Sz (valX o) 100000) :
    AC Try.prog 32 [AA sh ch tx ns true] (.pure (PA sh ch tx (ns.map valX))) := by
  refine AC.of_body TTok Try.func32 rfl (enter_of Try.func32 (by kernel_rfl) (by kernel_rfl)) (noid1 (AA_noid _ _ _ _ _)) (PA_noid _ _ _ _) (Nat.le_of_ble_eq_true rfl) ?_
  have hS := Shape_ok sh ch tx ns (by omega)
  have hR := Runes86_ok sh ch tx ns true (by omega)
  have hlen : (ns.map rowX).length = ns.length := List.length_map _
  unfold AA at *
  conv => whnf
  refine ⟨_, hS, ?_⟩
  conv => whnf
  refine ⟨_, hR, ?_⟩
  conv => whnf
  refine ⟨by kernel_rfl, ?_⟩
  conv => whnf
  refine SW.nilC 72 3 3 rfl rfl ?_
  refine SW.loopM TTok (fun i : Nat => [(2, .lp 8 0), (3, .lp 72 0), (14, .sl 3 (ns.map rowX) false), (15, .val (.int .i64 ((ns.map rowX).length : Int))), (16, .val (.int .i64 (i : Int)))])
    (fun i => [(8, .cells 4 [[.sl 0 [] true, .val (.bool false), .sl 0 [] true, .sl 0 [] true]]), (72, .cells 4 [[.sl 1 (irows .i64 sh) false, .val (.bool ch), .sl 1 (irows .i32 tx) false, .own 120 0 i]]), (120, .cells 3 (((ns.take i).map valX).map rowN))]) 128 29 rfl (fun i => ns.length - i) (fun i => i ≤ ns.length) 0 [] (Nat.zero_le _)
    ⟨⟨rfl, rfl⟩, ⟨rfl, rfl⟩, ⟨rfl, rfl⟩, ⟨rfl, rfl⟩, ⟨rfl, rfl⟩, trivial⟩ ⟨⟨rfl, .inr ⟨rfl, rfl⟩⟩, ⟨rfl, .inr ⟨rfl, rfl⟩⟩, ⟨rfl, .inl ⟨rfl, rowsN_noid _⟩⟩, trivial⟩ rfl ?_
  intro i hi
  have hi : i ≤ ns.length := hi
  have hql : (((ns.take i).map valX).map rowN).length = i := by rw [List.length_map, List.length_map, List.length_take]; omega
  by_cases hlt : i < ns.length
  · have eI : IntKind.i64.wrap ((i : Int) + 1) = ((i + 1 : Nat) : Int) := by rw [IntWalk.i64_in _ (by omega)]; omega
    have hg : (ns.map rowX)[i]? = some (rowX ns[i]) := by rw [List.getElem?_map, List.getElem?_eq_getElem hlt]; rfl
    obtain ⟨o1, o2⟩ := ho _ (List.getElem_mem hlt)
    have hN := NumX_ok ns[i] o1 o2
    have hsn : ((ns.take i).map valX).map rowN ++ [rowN (valX ns[i])] = ((ns.take (i + 1)).map valX).map rowN := by
      rw [take_snoc hlt, List.map_append, List.map_append]; rfl
    have hdt : (((ns.take i).map valX).map rowN).drop 0 = ((ns.take i).map valX).map rowN := rfl
    have htk : ((((ns.take i).map valX).map rowN).drop 0).take i = ((ns.take i).map valX).map rowN := by rw [hdt, List.take_of_length_le (by omega)]
    cases hr : ns[i] with
    | none =>
      rw [hr] at hg hN hsn
      have hg : (ns.map rowX)[i]? = some [.sl 0 [] true, .val (.bool false), .sl 0 [] true] := hg
      have hN : AC Try.prog 62 [.agg [.sl 0 [] true, .val (.bool false), .sl 0 [] true]] (.pure (.agg (rowN (valX none)))) := hN
      unfold rowN at hN
      conv => whnf
      first
        | refine caseb (fun _ => ?_) (fun h => absurd (of_decide_eq_false h) (by omega))
        | refine caseb (fun h => absurd (of_decide_eq_true h) (by omega)) (fun _ => ?_)
        | refine caseb (fun _ => ?_) (fun h => absurd (beq_eq_false_iff_ne.1 h) (by omega))
        | refine caseb (fun h => absurd (eq_of_beq h) (by omega)) (fun _ => ?_)
      conv => whnf
      refine ⟨_, ⟨by omega, hg⟩, ?_⟩
      conv => whnf
      refine ⟨_, hN, ?_⟩
      conv => whnf
      refine ⟨⟨by show 0 + i ≤ _; omega, by show (i + 1) * 40 ≤ 140737488355328; omega, Nat.le_of_ble_eq_true rfl⟩, ?_⟩
      conv => whnf
      refine ⟨by kernel_rfl, ?_⟩
      conv => whnf
      refine ⟨i + 1, [(120, 208)], (by show ns.length - (i + 1) < ns.length - i; omega), hlt, ⟨⟨rfl, rfl⟩, ⟨rfl, rfl⟩, ⟨rfl, rfl⟩, ⟨rfl, rfl⟩, ⟨valI eI, rfl⟩, trivial⟩, ⟨⟨rfl, .inr ⟨rfl, rfl⟩⟩, ⟨rfl, .inr ⟨rfl, rfl⟩⟩, ⟨rfl, .inl ⟨celE ?_, rowsN_noid _⟩⟩, trivial⟩, rfl⟩
      rw [← hsn]
      show List.take i (List.drop 0 (((ns.take i).map valX).map rowN)) ++ [rowN (valX none)] = _
      rw [htk]
    | some p =>
      rw [hr] at hg hN hsn
      have hg : (ns.map rowX)[i]? = some [.sl 1 (irows .u32 (limbs p.1.num.natAbs)) false, .val (.bool (decide (p.1.num < 0))), .sl 1 (irows .u32 (limbs p.2)) false] := hg
      have hN : AC Try.prog 62 [.agg [.sl 1 (irows .u32 (limbs p.1.num.natAbs)) false, .val (.bool (decide (p.1.num < 0))), .sl 1 (irows .u32 (limbs p.2)) false]] (.pure (.agg (rowN (valX (some p))))) := hN
      unfold rowN at hN
      conv => whnf
      first
        | refine caseb (fun _ => ?_) (fun h => absurd (of_decide_eq_false h) (by omega))
        | refine caseb (fun h => absurd (of_decide_eq_true h) (by omega)) (fun _ => ?_)
        | refine caseb (fun _ => ?_) (fun h => absurd (beq_eq_false_iff_ne.1 h) (by omega))
        | refine caseb (fun h => absurd (eq_of_beq h) (by omega)) (fun _ => ?_)
      conv => whnf
      refine ⟨_, ⟨by omega, hg⟩, ?_⟩
      conv => whnf
      refine ⟨_, hN, ?_⟩
      conv => whnf
      refine ⟨⟨by show 0 + i ≤ _; omega, by show (i + 1) * 40 ≤ 140737488355328; omega, Nat.le_of_ble_eq_true rfl⟩, ?_⟩
      conv => whnf
      refine ⟨by kernel_rfl, ?_⟩
      conv => whnf
      refine ⟨i + 1, [(120, 208)], (by show ns.length - (i + 1) < ns.length - i; omega), hlt, ⟨⟨rfl, rfl⟩, ⟨rfl, rfl⟩, ⟨rfl, rfl⟩, ⟨rfl, rfl⟩, ⟨valI eI, rfl⟩, trivial⟩, ⟨⟨rfl, .inr ⟨rfl, rfl⟩⟩, ⟨rfl, .inr ⟨rfl, rfl⟩⟩, ⟨rfl, .inl ⟨celE ?_, rowsN_noid _⟩⟩, trivial⟩, rfl⟩
      rw [← hsn]
      show List.take i (List.drop 0 (((ns.take i).map valX).map rowN)) ++ [rowN (valX (some p))] = _
      rw [htk]
  · have hie : i = ns.length := by omega
    subst hie
    rw [List.take_length] at *
    conv => whnf
    first
      | refine caseb (fun _ => ?_) (fun h => absurd (of_decide_eq_false h) (by omega))
      | refine caseb (fun h => absurd (of_decide_eq_true h) (by omega)) (fun _ => ?_)
      | refine caseb (fun _ => ?_) (fun h => absurd (beq_eq_false_iff_ne.1 h) (by omega))
      | refine caseb (fun h => absurd (eq_of_beq h) (by omega)) (fun _ => ?_)
    conv => whnf
    refine ⟨by show 0 + ns.length ≤ _; omega, ?_⟩
    show AV.agg [_, _, _, AV.sl 3 (List.take ns.length (List.drop 0 ((ns.map valX).map rowN))) false] = _
    rw [List.drop_zero, List.take_of_length_le (by omega)]
    rfl

theorem Num_ok' (q : Rat) (d : Nat) : AC Try.prog 25 [RA q.num d] (.pure (AA [] false [] [some (q, d)] true)) := by
  refine AC.le_res (?_ : AC Try.prog 25 _ (.pure (.agg [.sl 0 [] true, .val (.bool false), .sl 0 [] true, .sl 3 [rowR (q, d)] false, .val (.bool true)]))) (le_agg5 (le_nil 1) (.refl _) (le_nil 1) (.refl _) (.refl _)) (AA_noid _ _ _ _ _)
  refine AC.of_body TTok Try.func25 rfl (enter_of Try.func25 (by kernel_rfl) (by kernel_rfl)) (noid1 (RA_noid _ _)) (.agg _ (noid5 (.sl _ _ _ (fun r hr => nomatch hr)) (.val _) (.sl _ _ _ (fun r hr => nomatch hr)) (slX_noid [some (q, d)]) (.val _))) (Nat.le_of_ble_eq_true rfl) ?_
  unfold RA rowR
  conv => whnf
  exact ⟨Nat.le_refl _, rfl⟩
theorem AInt_ok (n : Int) (hn : -9223372036854775808 ≤ n ∧ n < 9223372036854775808) : AC Try.prog 8 [.val (.int .i64 n)] (.pure (AA [] false [] [some ((n : Rat), 1)] true)) := by
  refine AC.of_body TTok Try.func8 rfl (enter_of Try.func8 (by kernel_rfl) (by kernel_rfl)) (noid1 (.val _)) (AA_noid _ _ _ _ _) (Nat.le_of_ble_eq_true rfl) ?_
  have h1 := RatFrom_ok n hn
  have h2 := Num_ok' (n : Rat) 1
  rw [Rat.num_intCast] at h2
  generalize some ((n : Rat), 1) = o at *
  unfold RA AA at *
  repeat
    conv => whnf
    first
      | refine ⟨_, by assumption, ?_⟩
      | refine ⟨(Nat.le_of_ble_eq_true rfl), _, by assumption, ?_⟩
      | refine ⟨by kernel_rfl, ?_⟩
      | exact rfl
      | exact ⟨Nat.le_of_ble_eq_true rfl, rfl⟩
      | refine ⟨by decide, ?_⟩
theorem Text_ok' (l : List Int) (hb : l.length ≤ 1000000) : AC Try.prog 85 [.sl 1 (irows .i32 l) false] (.pure (AA [(l.length : Int)] true l [] true)) := by
  refine AC.le_res (?_ : AC Try.prog 85 _ (.pure (.agg [.sl 1 (irows .i64 [(l.length : Int)]) false, .val (.bool true), .sl 1 (irows .i32 l) false, .sl 0 [] true, .val (.bool true)]))) (le_agg5 (.refl _) (.refl _) (.refl _) (le_nil 3) (.refl _)) (AA_noid _ _ _ _ _)
  refine AC.of_body TTok Try.func85 rfl (enter_of Try.func85 (by kernel_rfl) (by kernel_rfl)) (noid1 (noid_sl _ _ _)) (.agg _ (noid5 (noid_sl _ _ _) (.val _) (noid_sl _ _ _) (.sl _ _ _ (fun r hr => nomatch hr)) (.val _))) (Nat.le_of_ble_eq_true rfl) ?_
  have h := CloneR_ok l hb
  have hl := irows_len .i32 l
  conv => whnf
  refine ⟨_, h, ?_⟩
  conv => whnf
  refine ⟨Nat.le_refl _, ?_⟩
  rw [hl]; rfl
end
section

def intX (n : Int) : Option (Rat × Nat) := some ((n : Rat), 1)
def i64b (n : Int) : Prop := -9223372036854775808 ≤ n ∧ n < 9223372036854775808
theorem intX_row (n : Int) : rowX (intX n) = [.sl 1 (irows .u32 (limbs n.natAbs)) false, .val (.bool (decide (n < 0))), .sl 1 (irows .u32 (limbs 1)) false] := by
  show [AV.sl 1 (irows .u32 (limbs ((n : Rat)).num.natAbs)) false, AV.val (.bool (decide (((n : Rat)).num < 0))), AV.sl 1 (irows .u32 (limbs 1)) false] = _
  rw [Rat.num_intCast]
theorem intN_row (n : Int) : rowN (n : Rat) = [.val (.bool (decide (n < 0))), .val (.string (decS n.natAbs)), .val (.string (decS 1))] := by
  unfold rowN
  rw [Rat.num_intCast, Rat.den_intCast]
theorem noid_own5 (n : Int) (l : List (Option (Rat × Nat))) : NoId (.agg [.sl 1 [[.val (.int .i64 n)]] false, .val (.bool false), .sl 0 [] true, .sl 3 (l.map rowX) false, .val (.bool true)]) :=
  .agg _ (noid5 (noid_sl .i64 [n] false) (.val _) (.sl _ _ _ (fun r hr => nomatch hr)) (slX_noid _) (.val _))
theorem AInts_ok (l : List Int) (hb : l.length ≤ 100000) (hl : ∀ n ∈ l, i64b n) : AC Try.prog 6 [.sl 1 (irows .i64 l) false] (.pure (AA [(l.length : Int)] false [] (l.map intX) true)) := by
  have hlen := irows_len .i64 l
  refine AC.le_res (?_ : AC Try.prog 6 _ (.pure (.agg [.sl 1 [[.val (.int .i64 ((irows .i64 l).length : Int))]] false, .val (.bool false), .sl 0 [] true, .sl 3 ((l.map intX).map rowX) false, .val (.bool true)]))) (by rw [hlen]; exact le_agg5 (.refl _) (.refl _) (le_nil 1) (.refl _) (.refl _)) (AA_noid _ _ _ _ _)
  refine AC.of_body TTok Try.func6 rfl (enter_of Try.func6 (by kernel_rfl) (by kernel_rfl)) (noid1 (noid_sl _ _ _)) (noid_own5 _ _) (Nat.le_of_ble_eq_true rfl) ?_
  conv => whnf
  refine SW.nilC 40 3 3 rfl rfl ?_
  refine SW.loopM TTok (fun i : Nat => [(2, .lp 0 0), (3, .lp 40 0), (10, .sl 1 (irows .i64 l) false), (11, .val (.int .i64 ((irows .i64 l).length : Int))), (12, .val (.int .i64 (i : Int)))])
    (fun i => [(0, .cells 5 [[.sl 0 [] true, .val (.bool false), .sl 0 [] true, .sl 0 [] true, .val (.bool false)]]), (24, .cells 1 [[.val (.int .i64 ((irows .i64 l).length : Int))]]), (40, .cells 5 [[.own 24 0 1, .val (.bool false), .sl 0 [] true, .own 80 0 i, .val (.bool true)]]), (80, .cells 3 (((l.take i).map intX).map rowX))]) 88 25 rfl (fun i => l.length - i) (fun i => i ≤ l.length) 0 [] (Nat.zero_le _)
    ⟨⟨rfl, rfl⟩, ⟨rfl, rfl⟩, ⟨rfl, rfl⟩, ⟨rfl, rfl⟩, ⟨rfl, rfl⟩, trivial⟩ ⟨⟨rfl, .inr ⟨rfl, rfl⟩⟩, ⟨rfl, .inr ⟨rfl, rfl⟩⟩, ⟨rfl, .inr ⟨rfl, rfl⟩⟩, ⟨rfl, .inl ⟨rfl, rowsX_noid _⟩⟩, trivial⟩ rfl ?_
  intro i hi
  have hi : i ≤ l.length := hi
  have hql : (((l.take i).map intX).map rowX).length = i := by rw [List.length_map, List.length_map, List.length_take]; omega
  by_cases hlt : i < l.length
  · have eI : IntKind.i64.wrap ((i : Int) + 1) = ((i + 1 : Nat) : Int) := by rw [IntWalk.i64_in _ (by omega)]; omega
    have hg := irows_get .i64 l (List.getElem?_eq_getElem hlt)
    have hF := RatFrom_ok l[i] (hl _ (List.getElem_mem hlt))
    have hsn : ((l.take i).map intX).map rowX ++ [rowX (intX l[i])] = ((l.take (i + 1)).map intX).map rowX := by
      rw [take_snoc hlt, List.map_append, List.map_append]; rfl
    have htk : ((((l.take i).map intX).map rowX).drop 0).take i = ((l.take i).map intX).map rowX := by rw [List.drop_zero, List.take_of_length_le (by omega)]
    unfold RA at hF
    conv => whnf
    first
      | refine caseb (fun _ => ?_) (fun h => absurd (of_decide_eq_false h) (by omega))
      | refine caseb (fun h => absurd (of_decide_eq_true h) (by omega)) (fun _ => ?_)
      | refine caseb (fun _ => ?_) (fun h => absurd (beq_eq_false_iff_ne.1 h) (by omega))
      | refine caseb (fun h => absurd (eq_of_beq h) (by omega)) (fun _ => ?_)
    conv => whnf
    refine ⟨_, ⟨by omega, hg⟩, ?_⟩
    conv => whnf
    refine ⟨_, hF, ?_⟩
    conv => whnf
    refine ⟨⟨by show 0 + i ≤ _; omega, by show (i + 1) * 56 ≤ 140737488355328; omega, Nat.le_of_ble_eq_true rfl⟩, ?_⟩
    conv => whnf
    refine ⟨by kernel_rfl, ?_⟩
    conv => whnf
    refine ⟨i + 1, [(80, 160)], (by show l.length - (i + 1) < l.length - i; omega), hlt, ⟨⟨rfl, rfl⟩, ⟨rfl, rfl⟩, ⟨rfl, rfl⟩, ⟨rfl, rfl⟩, ⟨valI eI, rfl⟩, trivial⟩, ⟨⟨rfl, .inr ⟨rfl, rfl⟩⟩, ⟨rfl, .inr ⟨rfl, rfl⟩⟩, ⟨rfl, .inr ⟨rfl, rfl⟩⟩, ⟨rfl, .inl ⟨celE ?_, rowsX_noid _⟩⟩, trivial⟩, rfl⟩
    rw [← hsn, intX_row]
    show List.take i (List.drop 0 (((l.take i).map intX).map rowX)) ++ [_] = _
    rw [htk]; rfl
  · have hie : i = l.length := by omega
    subst hie
    rw [List.take_length] at *
    conv => whnf
    first
      | refine caseb (fun _ => ?_) (fun h => absurd (of_decide_eq_false h) (by omega))
      | refine caseb (fun h => absurd (of_decide_eq_true h) (by omega)) (fun _ => ?_)
      | refine caseb (fun _ => ?_) (fun h => absurd (beq_eq_false_iff_ne.1 h) (by omega))
      | refine caseb (fun h => absurd (eq_of_beq h) (by omega)) (fun _ => ?_)
    conv => whnf
    refine ⟨⟨by first | exact Nat.le_refl _ | (show 0 + l.length ≤ _; omega), by first | exact Nat.le_refl _ | (show 0 + l.length ≤ _; omega)⟩, ?_⟩
    have e : List.take l.length (List.drop 0 ((l.map intX).map rowX)) = (l.map intX).map rowX := by rw [List.drop_zero, List.take_of_length_le (by omega)]
    show AV.agg [_, _, _, AV.sl 3 (List.take l.length (List.drop 0 ((l.map intX).map rowX))) false, _] = _
    rw [e]
    rfl
theorem noid_own4 (n : Int) (l : List Rat) : NoId (.agg [.sl 1 [[.val (.int .i64 n)]] false, .val (.bool false), .sl 0 [] true, .sl 3 (l.map rowN) false]) :=
  .agg _ (noidF (noid_sl .i64 [n] false) (.val _) (.sl _ _ _ (fun r hr => nomatch hr)) (slN_noid _))
theorem RInts_ok (l : List Int) (hb : l.length ≤ 100000) (hl : ∀ n ∈ l, i64b n) : AC Try.prog 15 [.sl 1 (irows .i64 l) false] (.pure (PA [(l.length : Int)] false [] (l.map fun n : Int => (n : Rat)))) := by
  have hlen := irows_len .i64 l
  refine AC.le_res (?_ : AC Try.prog 15 _ (.pure (.agg [.sl 1 [[.val (.int .i64 ((irows .i64 l).length : Int))]] false, .val (.bool false), .sl 0 [] true, .sl 3 ((l.map fun n : Int => (n : Rat)).map rowN) false]))) (by rw [hlen]; exact le_agg4 (.refl _) (.refl _) (le_nil 1) (.refl _)) (PA_noid _ _ _ _)
  refine AC.of_body TTok Try.func15 rfl (enter_of Try.func15 (by kernel_rfl) (by kernel_rfl)) (noid1 (noid_sl _ _ _)) (noid_own4 _ _) (Nat.le_of_ble_eq_true rfl) ?_
  conv => whnf
  refine SW.nilC 40 3 3 rfl rfl ?_
  refine SW.loopM TTok (fun i : Nat => [(0, .sl 1 (irows .i64 l) false), (2, .lp 0 0), (3, .lp 40 0), (4, .val (.int .i64 (i : Int)))])
    (fun i => [(0, .cells 4 [[.sl 0 [] true, .val (.bool false), .sl 0 [] true, .sl 0 [] true]]), (24, .cells 1 [[.val (.int .i64 ((irows .i64 l).length : Int))]]), (40, .cells 4 [[.own 24 0 1, .val (.bool false), .sl 0 [] true, .own 64 0 i]]), (64, .cells 3 (((l.take i).map fun n : Int => (n : Rat)).map rowN))]) 72 26 rfl (fun i => l.length - i) (fun i => i ≤ l.length) 0 [] (Nat.zero_le _)
    ⟨⟨rfl, rfl⟩, ⟨rfl, rfl⟩, ⟨rfl, rfl⟩, ⟨rfl, rfl⟩, trivial⟩ ⟨⟨rfl, .inr ⟨rfl, rfl⟩⟩, ⟨rfl, .inr ⟨rfl, rfl⟩⟩, ⟨rfl, .inr ⟨rfl, rfl⟩⟩, ⟨rfl, .inl ⟨rfl, rowsN_noid _⟩⟩, trivial⟩ rfl ?_
  intro i hi
  have hi : i ≤ l.length := hi
  have hql : (((l.take i).map fun n : Int => (n : Rat)).map rowN).length = i := by rw [List.length_map, List.length_map, List.length_take]; omega
  by_cases hlt : i < l.length
  · have eI : IntKind.i64.wrap ((i : Int) + 1) = ((i + 1 : Nat) : Int) := by rw [IntWalk.i64_in _ (by omega)]; omega
    have hg := irows_get .i64 l (List.getElem?_eq_getElem hlt)
    have hF := SFrom_ok l[i] (hl _ (List.getElem_mem hlt))
    have hsn : ((l.take i).map fun n : Int => (n : Rat)).map rowN ++ [rowN ((l[i] : Int) : Rat)] = ((l.take (i + 1)).map fun n : Int => (n : Rat)).map rowN := by
      rw [take_snoc hlt, List.map_append, List.map_append]; rfl
    have htk : ((((l.take i).map fun n : Int => (n : Rat)).map rowN).drop 0).take i = ((l.take i).map fun n : Int => (n : Rat)).map rowN := by rw [List.drop_zero, List.take_of_length_le (by omega)]
    unfold RN at hF
    conv => whnf
    first
      | refine caseb (fun _ => ?_) (fun h => absurd (of_decide_eq_false h) (by omega))
      | refine caseb (fun h => absurd (of_decide_eq_true h) (by omega)) (fun _ => ?_)
      | refine caseb (fun _ => ?_) (fun h => absurd (beq_eq_false_iff_ne.1 h) (by omega))
      | refine caseb (fun h => absurd (eq_of_beq h) (by omega)) (fun _ => ?_)
    conv => whnf
    refine ⟨_, ⟨by omega, hg⟩, ?_⟩
    conv => whnf
    refine ⟨_, hF, ?_⟩
    conv => whnf
    refine ⟨⟨by show 0 + i ≤ _; omega, by show (i + 1) * 40 ≤ 140737488355328; omega, Nat.le_of_ble_eq_true rfl⟩, ?_⟩
    conv => whnf
    refine ⟨by kernel_rfl, ?_⟩
    conv => whnf
    refine ⟨i + 1, [(64, 168)], (by show l.length - (i + 1) < l.length - i; omega), hlt, ⟨⟨rfl, rfl⟩, ⟨rfl, rfl⟩, ⟨rfl, rfl⟩, ⟨valI eI, rfl⟩, trivial⟩, ⟨⟨rfl, .inr ⟨rfl, rfl⟩⟩, ⟨rfl, .inr ⟨rfl, rfl⟩⟩, ⟨rfl, .inr ⟨rfl, rfl⟩⟩, ⟨rfl, .inl ⟨celE ?_, rowsN_noid _⟩⟩, trivial⟩, rfl⟩
    rw [← hsn, intN_row]
    show List.take i (List.drop 0 (((l.take i).map fun n : Int => (n : Rat)).map rowN)) ++ [_] = _
    rw [htk]; rfl
  · have hie : i = l.length := by omega
    subst hie
    rw [List.take_length] at *
    conv => whnf
    first
      | refine caseb (fun _ => ?_) (fun h => absurd (of_decide_eq_false h) (by omega))
      | refine caseb (fun h => absurd (of_decide_eq_true h) (by omega)) (fun _ => ?_)
      | refine caseb (fun _ => ?_) (fun h => absurd (beq_eq_false_iff_ne.1 h) (by omega))
      | refine caseb (fun h => absurd (eq_of_beq h) (by omega)) (fun _ => ?_)
    conv => whnf
    refine ⟨⟨by first | exact Nat.le_refl _ | (show 0 + l.length ≤ _; omega), by first | exact Nat.le_refl _ | (show 0 + l.length ≤ _; omega)⟩, ?_⟩
    have e : List.take l.length (List.drop 0 ((l.map fun n : Int => (n : Rat)).map rowN)) = (l.map fun n : Int => (n : Rat)).map rowN := by rw [List.drop_zero, List.take_of_length_le (by omega)]
    show AV.agg [_, _, _, AV.sl 3 (List.take l.length (List.drop 0 ((l.map fun n : Int => (n : Rat)).map rowN))) false] = _
    rw [e]
    rfl
end
section

abbrev TX := Bool × List Int × List Int
def rowB (x : TX) : List AV := [.val (.bool x.1), .val (.string (strL x.2.1)), .val (.string (strL x.2.2))]
def PB (sh : List Int) (ch : Bool) (tx : List Int) (L : List TX) : AV :=
  .agg [.sl 1 (irows .i64 sh) false, .val (.bool ch), .sl 1 (irows .i32 tx) false, .sl 3 (L.map rowB) false]
def RQx (x : TX) : Prop := RQ x.1 x.2.1 x.2.2
def qX (x : TX) : Rat := qOf x.1 x.2.1 x.2.2
def bytX (x : TX) : Prop := Byt x.2.1 ∧ Byt x.2.2
def smX (x : TX) : Prop := x.2.1.length ≤ 40 ∧ x.2.2.length ≤ 40
/-- Does the kind fit the number of elements? -/
def kinds (sh : List Int) (ch : Bool) (a b : Nat) : Prop := if ch then (a : Int) = cntI sh ∧ b = 0 else (b : Int) = cntI sh ∧ a = 0
open Classical in
noncomputable def goodB (sh : List Int) (ch : Bool) (tx : List Int) (L : List TX) : Bool := decide (vS sh ∧ kinds sh ch tx.length L.length ∧ ∀ x ∈ L, RQx x)
end
section

/-- A number as the page speaks of it, short. -/
def QR (q : Rat) : Prop := ∃ b s t, RQ b s t ∧ Byt s ∧ Byt t ∧ s.length ≤ 40 ∧ t.length ≤ 40 ∧ q = qOf b s t
theorem QR.sz {q : Rat} (h : QR q) : Sz q 5 := by
  obtain ⟨b, s, t, h1, _, _, h4, h5, rfl⟩ := h
  exact RQ_sz h1 h4 h5 (by decide)
end
section

def ofX (q : Rat) : Option (Rat × Nat) := some (q, q.den)
end
section

theorem PSame_ok (sh : List Int) (ch : Bool) (tx : List Int) (qs : List Rat) (h1 : sh.length ≤ 1000) (h2 : tx.length ≤ 100000) (h3 : qs.length ≤ 100000) : AC Try.prog 31 [PA sh ch tx qs, PA sh ch tx qs] (.pure (.val (.bool true))) := by
  refine AC.of_body TTok Try.func31 rfl (enter_of Try.func31 (by kernel_rfl) (by kernel_rfl)) (noid2 (PA_noid _ _ _ _) (PA_noid _ _ _ _)) (.val _) (Nat.le_of_ble_eq_true rfl) ?_
  have hI := IntsSame_ok sh sh (by omega) (by omega)
  rw [decide_eq_true rfl] at hI
  have hR := Runes_ok tx tx (by omega) (by omega)
  rw [decide_eq_true rfl] at hR
  have l3 : (qs.map rowN).length = qs.length := List.length_map _
  have hbb : (!(ch == ch)) = false := by cases ch <;> rfl
  unfold PA
  conv => whnf
  refine caseb (fun h => Bool.noConfusion ((hbb).symm.trans h)) (fun _ => ?_)
  conv => whnf
  refine ⟨_, hI, ?_⟩
  conv => whnf
  refine ⟨_, hR, ?_⟩
  conv => whnf
  first
    | refine caseb (fun h => absurd (bne_iff_ne.1 h) (by omega)) (fun _ => ?_)
    | refine caseb (fun _ => ?_) (fun h => absurd (bne_eq_false_iff_eq.1 h) (by omega))
  conv => whnf
  refine SW.loopM TTok (fun i : Nat => [(2, .lp 0 0), (3, .lp 8 0), (5, .val (.int .i64 (i : Int)))]) (fun i => [(0, .cells 4 [[.sl 1 (irows .i64 sh) false, .val (.bool ch), .sl 1 (irows .i32 tx) false, .sl 3 (qs.map rowN) false]]), (8, .cells 4 [[.sl 1 (irows .i64 sh) false, .val (.bool ch), .sl 1 (irows .i32 tx) false, .sl 3 (qs.map rowN) false]])]) 272 54 rfl (fun i => qs.length - i) (fun i => i ≤ qs.length) 0 [] (Nat.zero_le _)
    ⟨⟨rfl, rfl⟩, ⟨rfl, rfl⟩, ⟨rfl, rfl⟩, trivial⟩ ⟨⟨rfl, .inr ⟨rfl, rfl⟩⟩, ⟨rfl, .inr ⟨rfl, rfl⟩⟩, trivial⟩ rfl ?_
  intro i hi
  have hi : i ≤ qs.length := hi
  by_cases hlt : i < qs.length
  · have eI : IntKind.i64.wrap ((i : Int) + 1) = ((i + 1 : Nat) : Int) := by rw [IntWalk.i64_in _ (by omega)]; omega
    have hg : (qs.map rowN)[i]? = some [.val (.bool (decide (qs[i].num < 0))), .val (.string (decS qs[i].num.natAbs)), .val (.string (decS qs[i].den))] := by rw [List.getElem?_map, List.getElem?_eq_getElem hlt]; rfl
    conv => whnf
    first
      | refine caseb (fun _ => ?_) (fun h => absurd (of_decide_eq_false h) (by omega))
      | refine caseb (fun h => absurd (of_decide_eq_true h) (by omega)) (fun _ => ?_)
      | refine caseb (fun _ => ?_) (fun h => absurd (beq_eq_false_iff_ne.1 h) (by omega))
      | refine caseb (fun h => absurd (eq_of_beq h) (by omega)) (fun _ => ?_)
    conv => whnf
    refine ⟨_, ⟨by omega, hg⟩, ?_⟩
    conv => whnf
    refine ⟨_, ⟨by omega, hg⟩, ?_⟩
    conv => whnf
    refine ⟨by kernel_rfl, ?_⟩
    conv => whnf
    refine caseb (fun h => Bool.noConfusion ((RN_selfn _ _ _).symm.trans h)) (fun _ => ?_)
    conv => whnf
    refine ⟨i + 1, [], (by show qs.length - (i + 1) < qs.length - i; omega), hlt, ⟨⟨rfl, rfl⟩, ⟨rfl, rfl⟩, ⟨valI eI, rfl⟩, trivial⟩, ⟨⟨rfl, .inr ⟨rfl, rfl⟩⟩, ⟨rfl, .inr ⟨rfl, rfl⟩⟩, trivial⟩, rfl⟩
  · conv => whnf
    first
      | refine caseb (fun _ => ?_) (fun h => absurd (of_decide_eq_false h) (by omega))
      | refine caseb (fun h => absurd (of_decide_eq_true h) (by omega)) (fun _ => ?_)
      | refine caseb (fun _ => ?_) (fun h => absurd (beq_eq_false_iff_ne.1 h) (by omega))
      | refine caseb (fun h => absurd (eq_of_beq h) (by omega)) (fun _ => ?_)
    repeat
      conv => whnf
      first
        | refine ⟨_, by assumption, ?_⟩
        | refine ⟨(Nat.le_of_ble_eq_true rfl), _, by assumption, ?_⟩
        | refine ⟨by kernel_rfl, ?_⟩
        | exact rfl
        | exact ⟨Nat.le_of_ble_eq_true rfl, rfl⟩
        | refine ⟨by decide, ?_⟩
/-- The shape that two arrays make together. -/
def fitS (sa sb : List Int) (la lb : Nat) : List Int × Bool × Bool × Int :=
  if sa = sb then (sa, false, false, 0)
  else if la = 1 ∧ (lb ≠ 1 ∨ sa.length < sb.length) then (sb, true, false, 0)
  else if lb = 1 then (sa, false, true, 0)
  else if sa.length ≠ sb.length then ([], false, false, 23) else ([], false, false, 24)
def FV (x : List Int × Bool × Bool × Int) : AV := .tup [.sl 1 (irows .i64 x.1) false, .val (.bool x.2.1), .val (.bool x.2.2.1), .val (.int .i64 x.2.2.2)]
section
variable (sa sb : List Int) (ca cb : Bool) (ta tb : List Int)
end
end
section

def isOne (c : Int) : Prop := c = 43 ∨ c = 45 ∨ c = 215 ∨ c = 247 ∨ c = 8968 ∨ c = 8970 ∨ c = 124 ∨ c = 42 ∨ c = 33 ∨ c = 126 ∨ c = 9055 ∨ c = 9675
instance (c : Int) : Decidable (isOne c) := inferInstanceAs (Decidable (_ ∨ _ ∨ _ ∨ _ ∨ _ ∨ _ ∨ _ ∨ _ ∨ _ ∨ _ ∨ _ ∨ _))
/-- A number, if it is of at most so many limbs. -/
def withQ (x : Rat) (most : Int) : Rat × Int := if most < (qLimbs x.num x.den : Nat) then (0, 26) else (x, 0)
/-- The truth turned about. -/
def notQ (x : Rat) : Rat × Int := if x = 0 then (1, 0) else if x = 1 then (0, 0) else (0, 22)
end
section

def fac : Nat → Nat
  | 0 => 1
  | i + 1 => fac i * (i + 1)
def natQm (q : Rat) : Prop := q.den = 1 ∧ 0 ≤ q.num
instance (q : Rat) : Decidable (natQm q) := inferInstanceAs (Decidable (_ ∧ _))
/-- The product of all whole numbers from 1 up to a number. -/
def facQ (x : Rat) (most : Int) : Rat × Int := if natQm x then withQ (((fac x.num.toNat : Nat) : Int) : Rat) most else (0, 22)
end
section

/-- What a function makes of one number. -/
def monoQ (c : Int) (x : Rat) (most : Int) : Rat × Int :=
  if c = 43 then withQ x most
  else if c = 45 then withQ (-x) most
  else if c = 215 then withQ ((sigW x.num : Int) : Rat) most
  else if c = 247 then (if x = 0 then (0, 22) else withQ (1 / x) most)
  else if c = 8968 then withQ ((x.ceil : Int) : Rat) most
  else if c = 8970 then withQ ((x.floor : Int) : Rat) most
  else if c = 124 then withQ (if x.num < 0 then -x else x) most
  else if c = 33 then facQ x most
  else if c = 126 then notQ x
  else if isOne c then (0, 22) else (0, 20)
end
section

end
section

/-- The first error of a list's elements (0: none). -/
def firstE : List (Rat × Int) → Int
  | [] => 0
  | x :: l => if x.2 = 0 then firstE l else x.2
/-- What an array's element by element function comes to. -/
def resA (sh : List Int) (E : Int) (l : List (Option (Rat × Nat))) : AV := if E = 0 then .tup [AA sh false [] l true, .val (.int .i64 0)] else .tup [AA [] false [] [] false, .val (.int .i64 E)]
theorem set_mid {α : Type} (a : List α) (x y : α) (b : List α) : (a ++ x :: b).set a.length y = a ++ y :: b := by
  rw [List.set_append_right _ _ (Nat.le_refl _), Nat.sub_self]; rfl

section
variable (c : Int) (sh : List Int) (ch : Bool) (tx : List Int) (qs : List Rat) (most : Int)
def oneE : Int := if isOne c then (if ch = true ∧ 0 < tx.length + qs.length then 22 else firstE (qs.map fun q => monoQ c q most)) else 20
end
end
section

end
section

def resP (sh : List Int) (E : Int) (l : List Rat) : AV := if E = 0 then .tup [PA sh false [] l, .val (.int .i64 0)] else .tup [PA [] false [] [], .val (.int .i64 E)]
end
section

def isCmp (c : Int) : Prop := c = 60 ∨ c = 8804 ∨ c = 61 ∨ c = 8805 ∨ c = 62 ∨ c = 8800
instance (c : Int) : Decidable (isCmp c) := inferInstanceAs (Decidable (_ ∨ _ ∨ _ ∨ _ ∨ _ ∨ _))
def isJdg (c : Int) : Prop := c = 8743 ∨ c = 8744 ∨ c = 9074 ∨ c = 9073
instance (c : Int) : Decidable (isJdg c) := inferInstanceAs (Decidable (_ ∨ _ ∨ _ ∨ _))
def isRec (c : Int) : Prop := c = 43 ∨ c = 45 ∨ c = 215 ∨ c = 247 ∨ c = 8968 ∨ c = 8970 ∨ c = 124 ∨ c = 42 ∨ c = 33 ∨ c = 9055 ∨ c = 9675
instance (c : Int) : Decidable (isRec c) := inferInstanceAs (Decidable (_ ∨ _ ∨ _ ∨ _ ∨ _ ∨ _ ∨ _ ∨ _ ∨ _ ∨ _ ∨ _))
def isTwo (c : Int) : Prop := isRec c ∨ isCmp c ∨ isJdg c
instance (c : Int) : Decidable (isTwo c) := inferInstanceAs (Decidable (_ ∨ _))
def signs : List Int := [43, 45, 215, 247, 8968, 8970, 124, 42, 33, 9055, 9675, 60, 8804, 61, 8805, 62, 8800, 8743, 8744, 9074, 9073]
end
section

/-- What a sign tells of an order. -/
def cmpS (c n : Int) : Bool :=
  if c = 60 then decide (n < 0) else if c = 8804 then decide (n ≤ 0) else if c = 61 then n == 0 else if c = 8805 then decide (n ≥ 0) else if c = 62 then decide (n > 0) else n != 0

/-- Truths as numbers. -/
def tq (t : Bool) : Rat := if t then 1 else 0
def td (t : Bool) : Nat := if t then 1 else 0
/-- A truth that a number is. -/
def bitQ (q : Rat) : Option Bool := if q = 0 then some false else if q = 1 then some true else none
def jdgB (c : Int) (x y : Bool) : Bool := if c = 8743 then x && y else if c = 8744 then x || y else if c = 9074 then !(x && y) else !(x || y)
def intV (q : Rat) : Int := if fitQ q.num q.den then q.num else 0
/-- What a judging function makes of two numbers. -/
def judgeQ (c : Int) (a b : Rat) : Rat × Int :=
  match bitQ a, bitQ b with
  | some x, some y => (tq (jdgB c x y), 0)
  | _, _ => (0, 22)

end
section

/-- A number to another one, or why not. -/
def powerQ (a b : Rat) (most : Int) : Rat × Int :=
  if b.den ≠ 1 ∨ (a = 0 ∧ b.num < 0) then (0, 22)
  else if limQ a ∧ b.num ≠ 0 then (if a.num < 0 ∧ b.num.natAbs % 2 = 0 then -a else a, 0)
  else if ¬ fit b.num then (0, 26)
  else ((powQ a b.num most).1, if (powQ a b.num most).2 then 0 else 26)

end
section

end
section

/-- How many ways, factor by factor. -/
def chs (r : Nat) : Nat → Nat
  | 0 => 1
  | i + 1 => chs r i * (r + (i + 1)) / (i + 1)
/-- Is it fewer limbs than may be? -/
def chsOk (k r : Nat) (most : Int) : Prop := k = 0 ∨ ((limbs (chs r k)).length : Int) ≤ most
instance (k r : Nat) (most : Int) : Decidable (chsOk k r most) := inferInstanceAs (Decidable (_ ∨ _))
def natQ (q : Rat) : Prop := q.den = 1 ∧ 0 ≤ q.num
instance (q : Rat) : Decidable (natQ q) := inferInstanceAs (Decidable (_ ∧ _))
/-- How many ways there are to take so many of others, or why not. -/
def chooseQ (a b : Rat) (most : Int) : Rat × Int :=
  if ¬ (natQ a ∧ natQ b) then (0, 22)
  else if b.num < a.num then (0, 0)
  else if chsOk (min a.num (b.num - a.num)).toNat (max a.num (b.num - a.num)).toNat most then (((chs (max a.num (b.num - a.num)).toNat (min a.num (b.num - a.num)).toNat : Nat) : Int), 0)
  else (0, 26)

section
variable (a b : Rat) (i j : Nat) (most : Int) (hi : dn i = a.den) (hj : dn j = b.den) (hm : most ≤ 200) (la : Sz a 90) (lb : Sz b 90) (na : natQ a) (nb : natQ b)
include hi hj la lb na nb
end

end
section

end
section

/-- What a reckoning function makes of two numbers. -/
def reckonQ (c : Int) (a b : Rat) (most : Int) : Rat × Int :=
  if c = 43 then (a + b, 0)
  else if c = 45 then (a + -b, 0)
  else if c = 215 then (a * b, 0)
  else if c = 247 then (if b ≠ 0 then (a / b, 0) else if a = 0 then (1, 0) else (0, 22))
  else if c = 8968 then (if a < b then b else a, 0)
  else if c = 8970 then (if a < b then a else b, 0)
  else if c = 124 then (restQ a b, 0)
  else if c = 42 then powerQ a b most
  else if c = 33 then chooseQ a b most
  else (0, 22)
theorem cmp_lt {a b : Rat} (h : a < b) : cmpQ a b = -1 := if_pos h
end
section

/-- What a function makes of two numbers. -/
def twoQ (c : Int) (a b : Rat) (most : Int) : Rat × Int :=
  if isCmp c then (tq (cmpS c (cmpQ a b)), 0)
  else if isJdg c then judgeQ c a b
  else if ¬ isRec c then (0, 20)
  else if (reckonQ c a b most).2 ≠ 0 then (0, (reckonQ c a b most).2)
  else if most < (qLimbs (reckonQ c a b most).1.num (reckonQ c a b most).1.den : Nat) then (0, 26)
  else ((reckonQ c a b most).1, 0)

section
variable (c : Int) (a b : Rat) (i j : Nat) (most : Int) (hi : dn i = a.den) (hj : dn j = b.den) (hm : most ≤ 200) (la : Sz a 20) (lb : Sz b 20)
include hi hj hm la lb
end
end
section

theorem kinds_len {sh : List Int} {ch : Bool} {a b : Nat} (h : kinds sh ch a b) : ((a + b : Nat) : Int) = cntI sh ∧ (if ch then a else b) = a + b := by
  unfold kinds at h
  cases ch with
  | true =>
    have h : (a : Int) = cntI sh ∧ b = 0 := h
    exact ⟨by omega, by show a = a + b; omega⟩
  | false =>
    have h : (b : Int) = cntI sh ∧ a = 0 := h
    exact ⟨by omega, by show b = a + b; omega⟩
/-- An index of one of two arrays: the first one's alone, if it is one for all. -/
def ix (one : Bool) (i : Nat) : Nat := if one then 0 else i
/-- What stands below the line of a number. -/
def denX : Option (Rat × Nat) → Nat
  | none => 0
  | some p => p.2
theorem denX_ok {o : Option (Rat × Nat)} (h : okX o) : dn (denX o) = (valX o).den := by
  cases o with
  | none => rfl
  | some p => exact h
theorem rowX_le (o : Option (Rat × Nat)) : AVle (.agg (rowX o)) (RA (valX o).num (denX o)) := by
  cases o with
  | none => exact RZ_le
  | some p => exact .refl _
/-- What two elements come to. -/
def elemF (c : Int) (ca cb : Bool) (ta tb : List Int) (qa qb : List Rat) (one two : Bool) (most : Int) (i : Nat) : Rat × Int :=
  if ca = true ∨ cb = true then
    if c = 61 ∨ c = 8800 then (if (ca && cb && decide (ta.getD (ix one i) 0 = tb.getD (ix two i) 0)) = decide (c = 61) then 1 else 0, 0) else (0, 22)
  else twoQ c (qa.getD (ix one i) 0) (qb.getD (ix two i) 0) most
end
section

theorem rep_drop {α : Type} (x : α) (n i : Nat) (h : i < n) : (List.replicate (n - i) x) = x :: List.replicate (n - (i + 1)) x := by
  rw [show n - i = (n - (i + 1)) + 1 by omega, List.replicate_succ]

end
section

/-- Whether two elements are the same character. -/
def smE (ca cb : Bool) (ta tb : List Int) (one two : Bool) (i : Nat) : Bool := ca && cb && decide (ta.getD (ix one i) 0 = tb.getD (ix two i) 0)
def chE (c : Int) (ca cb : Bool) (ta tb : List Int) (one two : Bool) (i : Nat) : Option (Rat × Nat) := if smE ca cb ta tb one two i = decide (c = 61) then some (1, 1) else none
end
section

section
variable (c : Int) (sa sb : List Int) (ca cb : Bool) (ta tb : List Int)
end
end
section

/-- The first error of a function of two arrays (0: none). -/
def twoE (c : Int) (sa sb : List Int) (ca cb : Bool) (ta tb : List Int) (qa qb : List Rat) (most : Int) : Int :=
  if isTwo c then (if (fitS sa sb (ta.length + qa.length) (tb.length + qb.length)).2.2.2 ≠ 0 then (fitS sa sb (ta.length + qa.length) (tb.length + qb.length)).2.2.2
    else firstE ((List.range (cntI (fitS sa sb (ta.length + qa.length) (tb.length + qb.length)).1).toNat).map (elemF c ca cb ta tb qa qb (fitS sa sb (ta.length + qa.length) (tb.length + qb.length)).2.1 (fitS sa sb (ta.length + qa.length) (tb.length + qb.length)).2.2.1 most))) else 20
/-- Its elements. -/
def twoV (c : Int) (sa sb : List Int) (ca cb : Bool) (ta tb : List Int) (qa qb : List Rat) (most : Int) : List Rat :=
  (List.range (cntI (fitS sa sb (ta.length + qa.length) (tb.length + qb.length)).1).toNat).map fun i => (elemF c ca cb ta tb qa qb (fitS sa sb (ta.length + qa.length) (tb.length + qb.length)).2.1 (fitS sa sb (ta.length + qa.length) (tb.length + qb.length)).2.2.1 most i).1
end
section

def PE (ch : Bool) (x : Int) (q : Rat) : AV := if ch then PA [] true [x] [] else PA [] false [] [q]
/-- What two elements come to, alone. -/
def pairV (c : Int) (ca cb : Bool) (x y : Int) (p q : Rat) (most : Int) : Rat × Int :=
  if ca = true ∨ cb = true then
    if c = 61 ∨ c = 8800 then (if (ca && cb && decide (x = y)) = decide (c = 61) then 1 else 0, 0) else (0, 22)
  else twoQ c p q most
def pairR (r : Rat × Int) : AV := .tup [RN r.1.num r.1.den, .val (.int .i64 r.2)]
section
variable (c : Int) (ca cb : Bool) (x y : Int) (p q : Rat) (most : Int) (hm : most ≤ 200) (lp : Sz p 20) (lq : Sz q 20)
include hm lp lq
end
end
section

def PEt (ch : Bool) (x : Int) : List (List AV) := if ch then [[.val (.int .i32 x)]] else []
def PEn (ch : Bool) (q : Rat) : List (List AV) := if ch then [] else [rowN q]
end
section

end
section

theorem sz_nat (n : Nat) (h : n < 4294967296) : Sz ((n : Int) : Rat) 1 := Sz_small (by
  show ((n : Int)).natAbs < _
  rw [Int.natAbs_natCast]; exact h) (by show (1 : Nat) < 4294967296; decide)
end
section

/-- What is read of a light array. -/
def Lite (sh : List Int) (ch : Bool) (tx : List Int) (L : List TX) (most : Nat) (qs : List Rat) : Prop :=
  PB sh ch tx L = PA sh ch tx qs ∧ vS sh ∧ kinds sh ch tx.length qs.length ∧ tx.length ≤ most ∧ qs.length ≤ most ∧ ∀ q ∈ qs, QR q
end
section

end
end Go.Proofs.Ytcdeiegpeiodjaa

namespace Go.Proofs.Ytcdeiegpeiodjaa
open Go Go.AL
section

/-- How many indices a shape has. -/
def pr : List Int → Nat
  | [] => 1
  | d :: v => d.toNat * pr v
/-- The index at a place. -/
def dig : List Int → Nat → List Int
  | [], _ => []
  | _ :: v, i => ((i / pr v : Nat) : Int) :: dig v (i % pr v)
/-- All indices. -/
def allS : List Int → List (List Int)
  | [] => [[]]
  | d :: v => (List.range d.toNat).flatMap fun n : Nat => (allS v).map fun w => (n : Int) :: w
/-- An index's place. -/
def plS (n : Int) : List Int → List Int → Int
  | d :: v, a :: w => if a < 0 ∨ d ≤ a then -1 else plS (n * d + a) v w
  | _, _ => n
theorem pr_append (u v : List Int) : pr (u ++ v) = pr u * pr v := by
  induction u with
  | nil => rw [List.nil_append]; exact (Nat.one_mul _).symm
  | cons d u ih => show d.toNat * pr (u ++ v) = d.toNat * pr u * pr v; rw [ih, Nat.mul_assoc]
theorem dig_len (s : List Int) : ∀ i, (dig s i).length = s.length := by
  induction s with
  | nil => intro i; rfl
  | cons d v ih => intro i; show (dig v _).length + 1 = _; rw [ih]; rfl
theorem dig_append (u v : List Int) : ∀ i, i < pr (u ++ v) → dig (u ++ v) i = dig u (i / pr v) ++ dig v (i % pr v) := by
  induction u with
  | nil =>
    intro i h
    have h : i < pr v := h
    show dig v i = dig v (i % pr v)
    rw [Nat.mod_eq_of_lt h]
  | cons d u ih =>
    intro i h
    have h : i < d.toNat * pr (u ++ v) := h
    have hp : 0 < pr (u ++ v) := Nat.pos_of_ne_zero fun e => by rw [e] at h; omega
    show ((i / pr (u ++ v) : Nat) : Int) :: dig (u ++ v) (i % pr (u ++ v)) = ((i / pr v / pr u : Nat) : Int) :: (dig u (i / pr v % pr u) ++ dig v (i % pr v))
    rw [ih _ (Nat.mod_lt _ hp), pr_append]
    rw [Nat.div_div_eq_div_mul, Nat.mul_comm (pr v)]
    congr 2
    · congr 1
      exact Nat.mod_mul_left_div_self _ _ _
    · congr 1
      exact Nat.mod_mul_left_mod _ _ _
end
end Go.Proofs.Ytcdeiegpeiodjaa

namespace Go.Proofs.Ytcdeiegpeiodjaa
open Go Go.AL NM
section

theorem pm_from (v : List Int) : ∀ n : Int, v.foldl (fun n d => n * max 1 d) n = n * pmI v := by
  induction v with
  | nil => intro n; exact (Int.mul_one n).symm
  | cons d v ih =>
    intro n
    show v.foldl (fun n d => n * max 1 d) (n * max 1 d) = n * v.foldl (fun n d => n * max 1 d) (1 * max 1 d)
    rw [ih, ih, Int.one_mul, Int.mul_assoc]
theorem pm_cons (d : Int) (v : List Int) : pmI (d :: v) = max 1 d * pmI v := by
  show v.foldl (fun n d => n * max 1 d) (1 * max 1 d) = _
  rw [pm_from, Int.one_mul]
theorem pm_append (u v : List Int) : pmI (u ++ v) = pmI u * pmI v := by
  induction u with
  | nil => exact (Int.one_mul _).symm
  | cons d u ih => rw [List.cons_append, pm_cons, pm_cons, ih, Int.mul_assoc]
theorem pr_zero {s : List Int} (h : 0 ∈ s) : pr s = 0 := by
  induction s with
  | nil => cases h
  | cons d v ih =>
    show d.toNat * pr v = 0
    rcases List.mem_cons.1 h with h | h
    · rw [← h]; exact Nat.zero_mul _
    · rw [ih h, Nat.mul_zero]
theorem cnt_pr {s : List Int} (h : ∀ d ∈ s, 0 ≤ d) : cntI s = (pr s : Int) := by
  unfold cntI
  by_cases h0 : 0 ∈ s
  · rw [if_pos h0, pr_zero h0]; rfl
  · rw [if_neg h0]
    induction s with
    | nil => rfl
    | cons d v ih =>
      rw [pm_cons]
      have hd := h d List.mem_cons_self
      have hn : d ≠ 0 := fun e => h0 (by rw [e]; exact List.mem_cons_self)
      rw [ih (fun x hx => h x (List.mem_cons_of_mem _ hx)) (fun hx => h0 (List.mem_cons_of_mem _ hx))]
      show _ = ((d.toNat * pr v : Nat) : Int)
      rw [Int.natCast_mul, show max 1 d = ((d.toNat : Nat) : Int) by omega]
theorem pr_le_pm {s : List Int} (h : ∀ d ∈ s, 0 ≤ d) : (pr s : Int) ≤ pmI s := by
  rw [← cnt_pr h]
  unfold cntI
  split
  · have := pm_pos s; omega
  · exact Int.le_refl _
theorem vS_pr {s : List Int} (h : vS s) : cntI s = (pr s : Int) ∧ pr s ≤ 4096 := by
  refine ⟨cnt_pr h.2.1, ?_⟩
  have := pr_le_pm h.2.1
  have := h.2.2
  omega
theorem mid_split {s : List Int} {k : Nat} (hk : k < s.length) : s = s.take k ++ s[k] :: s.drop (k + 1) := by
  rw [← List.drop_eq_getElem_cons hk, List.take_append_drop]
theorem vS_mid {u v : List Int} {d : Int} : vS (u ++ d :: v) ↔ u.length + v.length ≤ 7 ∧ (∀ x ∈ u, 0 ≤ x) ∧ 0 ≤ d ∧ (∀ x ∈ v, 0 ≤ x) ∧ pmI u * (max 1 d * pmI v) ≤ 4096 := by
  unfold vS
  rw [pm_append, pm_cons, List.length_append, List.length_cons]
  constructor
  · rintro ⟨h1, h2, h3⟩
    exact ⟨by omega, fun x hx => h2 x (List.mem_append_left _ hx), h2 d (List.mem_append_right _ List.mem_cons_self), fun x hx => h2 x (List.mem_append_right _ (List.mem_cons_of_mem _ hx)), h3⟩
  · rintro ⟨h1, h2, h3, h4, h5⟩
    refine ⟨by omega, fun x hx => ?_, h5⟩
    rcases List.mem_append.1 hx with h | h
    · exact h2 x h
    · rcases List.mem_cons.1 h with rfl | h
      · exact h3
      · exact h4 x h
theorem vS_app {u v : List Int} : vS (u ++ v) ↔ u.length + v.length ≤ 8 ∧ (∀ x ∈ u, 0 ≤ x) ∧ (∀ x ∈ v, 0 ≤ x) ∧ pmI u * pmI v ≤ 4096 := by
  unfold vS
  rw [pm_append, List.length_append]
  constructor
  · rintro ⟨h1, h2, h3⟩
    exact ⟨h1, fun x hx => h2 x (List.mem_append_left _ hx), fun x hx => h2 x (List.mem_append_right _ hx), h3⟩
  · rintro ⟨h1, h2, h3, h4⟩
    refine ⟨h1, fun x hx => ?_, h4⟩
    rcases List.mem_append.1 hx with h | h
    · exact h2 x h
    · exact h3 x h
theorem vS_parts {u v : List Int} (h : vS (u ++ v)) : vS u ∧ vS v := by
  obtain ⟨h1, h2, h3, h4⟩ := vS_app.1 h
  have p1 := pm_pos u
  have p2 := pm_pos v
  have m1 : pmI u * 1 ≤ pmI u * pmI v := Int.mul_le_mul_of_nonneg_left p2 (by omega)
  have m2 : 1 * pmI v ≤ pmI u * pmI v := Int.mul_le_mul_of_nonneg_right p1 (by omega)
  exact ⟨⟨by omega, h2, by omega⟩, ⟨by omega, h3, by omega⟩⟩
theorem vS_one {u v : List Int} {d : Int} (h : vS (u ++ d :: v)) : vS (u ++ 1 :: v) := by
  obtain ⟨h1, h2, h3, h4, h5⟩ := vS_mid.1 h
  refine vS_mid.2 ⟨h1, h2, by decide, h4, ?_⟩
  have p1 := pm_pos u
  have p2 := pm_pos v
  have m1 : max 1 1 * pmI v ≤ max 1 d * pmI v := Int.mul_le_mul_of_nonneg_right (by omega) (by omega)
  exact Int.le_trans (Int.mul_le_mul_of_nonneg_left m1 (by omega)) h5
theorem vS_ins {u v : List Int} (h : vS (u ++ v)) (hl : u.length + v.length ≤ 7) : vS (u ++ 1 :: v) := by
  obtain ⟨h1, h2, h3, h4⟩ := vS_app.1 h
  exact vS_mid.2 ⟨hl, h2, by decide, h3, by rw [show max (1 : Int) 1 = 1 from rfl, Int.one_mul]; exact h4⟩
theorem vS_dim {s : List Int} (h : vS s) {d : Int} (hd : d ∈ s) : d ≤ 4096 := by
  obtain ⟨u, v, rfl⟩ := List.append_of_mem hd
  obtain ⟨h1, h2, h3, h4, h5⟩ := vS_mid.1 h
  have p1 := pm_pos u
  have p2 := pm_pos v
  have m1 : max 1 d * 1 ≤ max 1 d * pmI v := Int.mul_le_mul_of_nonneg_left p2 (by omega)
  have m2 : 1 * (max 1 d * pmI v) ≤ pmI u * (max 1 d * pmI v) := Int.mul_le_mul_of_nonneg_right p1 (by omega)
  omega
end
end Go.Proofs.Ytcdeiegpeiodjaa

set_option linter.unusedSimpArgs false
namespace Go.AL
open Go Go.RowKit

end Go.AL

namespace Go.Proofs.Ytcdeiegpeiodjaa
open Go Go.AL NM
section

theorem Grow_zero : AC Try.prog 94 [.sl 0 [] true, .val (.int .i64 0)] (.pure (.sl 0 [] true)) := by
  refine AC.of_body TTok Try.func94 rfl (enter_of Try.func94 (by kernel_rfl) (by kernel_rfl)) (noid2 (.sl _ _ _ (fun r hr => nomatch hr)) (.val _)) (.sl _ _ _ (fun r hr => nomatch hr)) (Nat.le_of_ble_eq_true rfl) ?_
  repeat
    conv => whnf
    first
      | refine ⟨_, by assumption, ?_⟩
      | refine ⟨(Nat.le_of_ble_eq_true rfl), _, by assumption, ?_⟩
      | refine ⟨by kernel_rfl, ?_⟩
      | exact rfl
      | exact ⟨Nat.le_of_ble_eq_true rfl, rfl⟩
      | refine ⟨by decide, ?_⟩
theorem Grow_pos (n : Nat) (h0 : 0 < n) (hb : n ≤ 1000000) : AC Try.prog 94 [.sl 0 [] true, .val (.int .i64 (n : Int))] (.fresh 1 []) := by
  have e1 : IntKind.i64.wrap ((n : Int) - IntKind.i64.wrap ((([] : List (List AV)).length : Int) - (([] : List (List AV)).length : Int))) = (n : Int) := by
    rw [show (([] : List (List AV)).length : Int) - (([] : List (List AV)).length : Int) = 0 from rfl, show IntKind.i64.wrap 0 = 0 by decide, Int.sub_zero, IntWalk.i64_in _ (by omega)]
  refine AC.of_body TTok Try.func94 rfl (enter_of Try.func94 (by kernel_rfl) (by kernel_rfl)) (noid2 (.sl _ _ _ (fun r hr => nomatch hr)) (.val _)) (fun r hr => nomatch hr) (Nat.le_of_ble_eq_true rfl) ?_
  conv => whnf
  refine caseb (fun _ => ?_) (fun h => absurd (of_decide_eq_false h) (by rw [e1]; omega))
  conv => whnf
  refine ⟨by decide, ?_⟩
  conv => whnf
  refine ⟨by rw [e1]; exact ⟨by omega, by show (n : Int) * 8 ≤ 140737488355328; omega⟩, ?_⟩
  conv => whnf
  refine ⟨⟨Int.le_refl _, Int.natCast_nonneg _⟩, ?_⟩
  conv => whnf
  exact ⟨rfl, Nat.zero_le _, rfl⟩

def lrows (ls : List (List Int)) : List (List AV) := ls.map fun l => [.sl 1 (irows .i64 l) false]
theorem lrows_len (ls : List (List Int)) : (lrows ls).length = ls.length := List.length_map _
theorem lrows_noid (ls : List (List Int)) : ∀ r ∈ lrows ls, ∀ x ∈ r, NoId x := by
  intro r hr x hx
  obtain ⟨l, _, rfl⟩ := List.mem_map.1 hr
  rw [List.mem_singleton.1 hx]
  exact noid_sl _ _ _
theorem flat_snoc {ls : List (List Int)} {i : Nat} (h : i < ls.length) : (ls.take (i + 1)).flatten = (ls.take i).flatten ++ ls[i] := by
  rw [take_snoc h, List.flatten_append]; simp
theorem Concat_ok (ls : List (List Int)) (hl : ls.length ≤ 1000) (hb : ls.flatten.length ≤ 100000) : AC Try.prog 84 [.sl 1 (lrows ls) false] (.pure (.sl 1 (irows .i64 ls.flatten) false)) := by
  have lr := lrows_len ls
  have hle : ∀ i, i ≤ ls.length → (ls.take i).flatten.length ≤ ls.flatten.length := fun i hi => by
    have := List.take_append_drop i ls
    have h2 : ls.flatten = (ls.take i).flatten ++ (ls.drop i).flatten := by rw [← List.flatten_append, this]
    rw [h2, List.length_append]; omega
  refine AC.of_body TTok Try.func84 rfl (enter_of Try.func84 (by kernel_rfl) (by kernel_rfl)) (noid1 (.sl _ _ _ (lrows_noid _))) (noid_sl _ _ _) (Nat.le_of_ble_eq_true rfl) ?_
  conv => whnf
  refine SW.loopM TTok (fun i : Nat => [(0, .sl 1 (lrows ls) false), (3, .val (.int .i64 ((ls.take i).flatten.length : Nat))), (9, .sl 1 (lrows ls) false), (10, .val (.int .i64 ((lrows ls).length : Nat))), (11, .val (.int .i64 (i : Int)))]) (fun _ => []) 40 36 rfl (fun i => ls.length - i) (fun i => i ≤ ls.length) 0 [] (Nat.zero_le _)
    ⟨⟨rfl, rfl⟩, ⟨rfl, rfl⟩, ⟨rfl, rfl⟩, ⟨rfl, rfl⟩, ⟨rfl, rfl⟩, trivial⟩ trivial rfl ?_
  intro i hJ
  have hi : i ≤ ls.length := hJ
  clear hJ
  have b1 := hle i hi
  by_cases hlt : i < ls.length
  · have eI : IntKind.i64.wrap ((i : Int) + 1) = ((i + 1 : Nat) : Int) := by rw [IntWalk.i64_in _ (by omega)]; omega
    have b2 := hle (i + 1) hlt
    have hg : (lrows ls)[i]? = some [.sl 1 (irows .i64 ls[i]) false] := by unfold lrows; rw [List.getElem?_map, List.getElem?_eq_getElem hlt]; rfl
    have hs := flat_snoc hlt
    have hsl : (ls.take (i + 1)).flatten.length = (ls.take i).flatten.length + ls[i].length := by rw [hs, List.length_append]
    have ln := irows_len .i64 ls[i]
    have eS : IntKind.i64.wrap (((ls.take i).flatten.length : Nat) + ((irows .i64 ls[i]).length : Int)) = (((ls.take (i + 1)).flatten.length : Nat) : Int) := by rw [ln, IntWalk.i64_in _ (by omega), hsl]; omega
    conv => whnf
    first
      | refine caseb (fun _ => ?_) (fun h => absurd (of_decide_eq_false h) (by omega))
      | refine caseb (fun h => absurd (of_decide_eq_true h) (by omega)) (fun _ => ?_)
      | refine caseb (fun _ => ?_) (fun h => absurd (beq_eq_false_iff_ne.1 h) (by omega))
      | refine caseb (fun h => absurd (eq_of_beq h) (by omega)) (fun _ => ?_)
    conv => whnf
    refine ⟨_, ⟨by omega, by rw [Int.toNat_natCast]; exact hg⟩, ?_⟩
    conv => whnf
    refine caseb (fun h => absurd (of_decide_eq_true h) (by rw [eS]; omega)) (fun _ => ?_)
    conv => whnf
    exact ⟨i + 1, [], (by show ls.length - (i + 1) < ls.length - i; omega), hlt, ⟨⟨rfl, rfl⟩, ⟨valI eS, rfl⟩, ⟨rfl, rfl⟩, ⟨rfl, rfl⟩, ⟨valI eI, rfl⟩, trivial⟩, trivial, rfl⟩
  · have hie : i = ls.length := by omega
    have e0 : ls.take i = ls := by rw [hie, List.take_length]
    rw [e0]
    obtain ⟨n, hn⟩ : ∃ n, n = ls.flatten.length := ⟨_, rfl⟩
    rw [← hn] at hb hle ⊢
    by_cases hn0 : n = 0
    · subst hn0
      have hG := Grow_zero
      conv => whnf
      first
        | refine caseb (fun _ => ?_) (fun h => absurd (of_decide_eq_false h) (by omega))
        | refine caseb (fun h => absurd (of_decide_eq_true h) (by omega)) (fun _ => ?_)
        | refine caseb (fun _ => ?_) (fun h => absurd (beq_eq_false_iff_ne.1 h) (by omega))
        | refine caseb (fun h => absurd (eq_of_beq h) (by omega)) (fun _ => ?_)
      conv => whnf
      refine ⟨_, hG, ?_⟩
      conv => whnf
      refine SW.nil 6 1 rfl ?_
      refine SW.loopM TTok (fun i : Nat => [(6, .own 96 0 (ls.take i).flatten.length), (25, .sl 1 (lrows ls) false), (26, .val (.int .i64 ((lrows ls).length : Nat))), (27, .val (.int .i64 (i : Int)))]) (fun i => [(96, .cells 1 (irows .i64 (ls.take i).flatten))]) 104 36 rfl (fun i => ls.length - i) (fun i => i ≤ ls.length) 0 [] (Nat.zero_le _)
        ⟨⟨rfl, rfl⟩, ⟨rfl, rfl⟩, ⟨rfl, rfl⟩, ⟨rfl, rfl⟩, trivial⟩ ⟨⟨rfl, .inr ⟨rfl, rfl⟩⟩, trivial⟩ rfl ?_
      intro i hJ
      have hi : i ≤ ls.length := hJ
      clear hJ
      have b1 := hle i hi
      have lf := irows_len .i64 (ls.take i).flatten
      by_cases hlt : i < ls.length
      · have eI : IntKind.i64.wrap ((i : Int) + 1) = ((i + 1 : Nat) : Int) := by rw [IntWalk.i64_in _ (by omega)]; omega
        have b2 := hle (i + 1) hlt
        have hg : (lrows ls)[i]? = some [.sl 1 (irows .i64 ls[i]) false] := by unfold lrows; rw [List.getElem?_map, List.getElem?_eq_getElem hlt]; rfl
        have hs := flat_snoc hlt
        have hsl : (ls.take (i + 1)).flatten.length = (ls.take i).flatten.length + ls[i].length := by rw [hs, List.length_append]
        have ln := irows_len .i64 ls[i]
        conv => whnf
        first
          | refine caseb (fun _ => ?_) (fun h => absurd (of_decide_eq_false h) (by omega))
          | refine caseb (fun h => absurd (of_decide_eq_true h) (by omega)) (fun _ => ?_)
          | refine caseb (fun _ => ?_) (fun h => absurd (beq_eq_false_iff_ne.1 h) (by omega))
          | refine caseb (fun h => absurd (eq_of_beq h) (by omega)) (fun _ => ?_)
        conv => whnf
        refine ⟨_, ⟨by omega, by rw [Int.toNat_natCast]; exact hg⟩, ?_⟩
        conv => whnf
        refine ⟨⟨by show 0 + _ ≤ _; omega, by show ((ls.take i).flatten.length + (irows .i64 ls[i]).length) * 8 ≤ 140737488355328; omega⟩, ?_⟩
        conv => whnf
        refine ⟨i + 1, [(96, 152)], (by show ls.length - (i + 1) < ls.length - i; omega), hlt, ⟨⟨ownE rfl (by rw [hsl, ln]), rfl⟩, ⟨rfl, rfl⟩, ⟨rfl, rfl⟩, ⟨valI eI, rfl⟩, trivial⟩, ⟨⟨rfl, .inl ⟨celE ?_, irows_noid _ _⟩⟩, trivial⟩, rfl⟩
        show List.take _ (List.drop 0 (irows .i64 (ls.take i).flatten)) ++ irows .i64 ls[i] = _
        rw [List.drop_zero, List.take_of_length_le (by omega), hs, ← irows_append]
      · have hie : i = ls.length := by omega
        have e0 : ls.take i = ls := by rw [hie, List.take_length]
        rw [e0] at lf ⊢
        conv => whnf
        first
          | refine caseb (fun _ => ?_) (fun h => absurd (of_decide_eq_false h) (by omega))
          | refine caseb (fun h => absurd (of_decide_eq_true h) (by omega)) (fun _ => ?_)
          | refine caseb (fun _ => ?_) (fun h => absurd (beq_eq_false_iff_ne.1 h) (by omega))
          | refine caseb (fun h => absurd (eq_of_beq h) (by omega)) (fun _ => ?_)
        conv => whnf
        refine ⟨by show 0 + _ ≤ _; omega, ?_⟩
        show AV.sl 1 (List.take _ (List.drop 0 (irows .i64 ls.flatten))) false = _
        rw [List.drop_zero, List.take_of_length_le (by omega)]
    · have hG := Grow_pos n (by omega) (by omega)
      conv => whnf
      first
        | refine caseb (fun _ => ?_) (fun h => absurd (of_decide_eq_false h) (by omega))
        | refine caseb (fun h => absurd (of_decide_eq_true h) (by omega)) (fun _ => ?_)
        | refine caseb (fun _ => ?_) (fun h => absurd (beq_eq_false_iff_ne.1 h) (by omega))
        | refine caseb (fun h => absurd (eq_of_beq h) (by omega)) (fun _ => ?_)
      conv => whnf
      refine ⟨_, hG, ?_⟩
      conv => whnf
      refine SW.loopM TTok (fun i : Nat => [(6, .own 56 0 (ls.take i).flatten.length), (25, .sl 1 (lrows ls) false), (26, .val (.int .i64 ((lrows ls).length : Nat))), (27, .val (.int .i64 (i : Int)))]) (fun i => [(56, .cells 1 (irows .i64 (ls.take i).flatten))]) 96 36 rfl (fun i => ls.length - i) (fun i => i ≤ ls.length) 0 [] (Nat.zero_le _)
        ⟨⟨rfl, rfl⟩, ⟨rfl, rfl⟩, ⟨rfl, rfl⟩, ⟨rfl, rfl⟩, trivial⟩ ⟨⟨rfl, .inr ⟨rfl, rfl⟩⟩, trivial⟩ rfl ?_
      intro i hJ
      have hi : i ≤ ls.length := hJ
      clear hJ
      have b1 := hle i hi
      have lf := irows_len .i64 (ls.take i).flatten
      by_cases hlt : i < ls.length
      · have eI : IntKind.i64.wrap ((i : Int) + 1) = ((i + 1 : Nat) : Int) := by rw [IntWalk.i64_in _ (by omega)]; omega
        have b2 := hle (i + 1) hlt
        have hg : (lrows ls)[i]? = some [.sl 1 (irows .i64 ls[i]) false] := by unfold lrows; rw [List.getElem?_map, List.getElem?_eq_getElem hlt]; rfl
        have hs := flat_snoc hlt
        have hsl : (ls.take (i + 1)).flatten.length = (ls.take i).flatten.length + ls[i].length := by rw [hs, List.length_append]
        have ln := irows_len .i64 ls[i]
        conv => whnf
        first
          | refine caseb (fun _ => ?_) (fun h => absurd (of_decide_eq_false h) (by omega))
          | refine caseb (fun h => absurd (of_decide_eq_true h) (by omega)) (fun _ => ?_)
          | refine caseb (fun _ => ?_) (fun h => absurd (beq_eq_false_iff_ne.1 h) (by omega))
          | refine caseb (fun h => absurd (eq_of_beq h) (by omega)) (fun _ => ?_)
        conv => whnf
        refine ⟨_, ⟨by omega, by rw [Int.toNat_natCast]; exact hg⟩, ?_⟩
        conv => whnf
        refine ⟨⟨by show 0 + _ ≤ _; omega, by show ((ls.take i).flatten.length + (irows .i64 ls[i]).length) * 8 ≤ 140737488355328; omega⟩, ?_⟩
        conv => whnf
        refine ⟨i + 1, [(56, 144)], (by show ls.length - (i + 1) < ls.length - i; omega), hlt, ⟨⟨ownE rfl (by rw [hsl, ln]), rfl⟩, ⟨rfl, rfl⟩, ⟨rfl, rfl⟩, ⟨valI eI, rfl⟩, trivial⟩, ⟨⟨rfl, .inl ⟨celE ?_, irows_noid _ _⟩⟩, trivial⟩, rfl⟩
        show List.take _ (List.drop 0 (irows .i64 (ls.take i).flatten)) ++ irows .i64 ls[i] = _
        rw [List.drop_zero, List.take_of_length_le (by omega), hs, ← irows_append]
      · have hie : i = ls.length := by omega
        have e0 : ls.take i = ls := by rw [hie, List.take_length]
        rw [e0] at lf ⊢
        conv => whnf
        first
          | refine caseb (fun _ => ?_) (fun h => absurd (of_decide_eq_false h) (by omega))
          | refine caseb (fun h => absurd (of_decide_eq_true h) (by omega)) (fun _ => ?_)
          | refine caseb (fun _ => ?_) (fun h => absurd (beq_eq_false_iff_ne.1 h) (by omega))
          | refine caseb (fun h => absurd (eq_of_beq h) (by omega)) (fun _ => ?_)
        conv => whnf
        refine ⟨by show 0 + _ ≤ _; omega, ?_⟩
        show AV.sl 1 (List.take _ (List.drop 0 (irows .i64 ls.flatten))) false = _
        rw [List.drop_zero, List.take_of_length_le (by omega)]
theorem ShJoin_ok (ls : List (List Int)) (hl : ls.length ≤ 1000) (hb : ls.flatten.length ≤ 100000) : AC Try.prog 65 [.sl 1 (lrows ls) false] (.pure (.sl 1 (irows .i64 ls.flatten) false)) := by
  have hC := Concat_ok ls hl hb
  refine AC.of_body TTok Try.func65 rfl (enter_of Try.func65 (by kernel_rfl) (by kernel_rfl)) (noid1 (.sl _ _ _ (lrows_noid _))) (noid_sl _ _ _) (Nat.le_of_ble_eq_true rfl) ?_
  repeat
    conv => whnf
    first
      | refine ⟨_, by assumption, ?_⟩
      | refine ⟨(Nat.le_of_ble_eq_true rfl), _, by assumption, ?_⟩
      | refine ⟨by kernel_rfl, ?_⟩
      | exact rfl
      | exact ⟨Nat.le_of_ble_eq_true rfl, rfl⟩
      | refine ⟨by decide, ?_⟩
end
section

theorem CloneI_fresh (l : List Int) (hne : l ≠ []) (hb : l.length ≤ 1000000) : AC Try.prog 56 [.sl 1 (irows .i64 l) false] (.fresh 1 (irows .i64 l)) := by
  refine AC.of_sw TTok Try.func56 rfl (enter_of Try.func56 (by kernel_rfl) (by kernel_rfl)) (noid1 (noid_sl _ _ _)) (irows_noid _ _) (Nat.le_of_ble_eq_true rfl) ?_
  have hlen := irows_len .i64 l
  refine SW.seqA TTok ?_
  conv => whnf
  refine SW.seq (SW.seq ?_)
  refine SW.regionNil (sz := 1) (rows := irows .i64 l) (tight := false) TTok _ rfl rfl rfl rfl (show Try.prog.underlying 25 = some (.slice 3) by kernel_rfl) ?_
  conv => whnf
  refine ⟨rfl, rfl, by decide, fun bv hbv => ?_⟩
  conv => whnf
  cases bv with
  | true =>
    have := hbv rfl
    rw [this] at hlen
    exact absurd (List.length_eq_zero_iff.1 hlen.symm) hne
  | false =>
    refine SW.cond (t := false) rfl (fun h => Bool.noConfusion h) (fun _ => ?_)
    refine axp_sound TTok _ _ _ ?_
    conv => whnf
    refine axp_sound TTok _ _ _ ?_
    conv => whnf
    refine ⟨⟨Nat.le_refl _, by show (0 + (irows .i64 l).length) * 8 ≤ 140737488355328; omega⟩, ?_⟩
    conv => whnf
    refine ⟨rfl, by show 0 + (0 + (irows .i64 l).length) ≤ (irows .i64 l).length; omega, ?_⟩
    show (irows .i64 l).take (0 + (irows .i64 l).length) = _
    rw [Nat.zero_add, List.take_length]

theorem irows_set (k : IntKind) (l : List Int) (i : Nat) (x : Int) : (irows k l).set i [.val (.int k x)] = irows k (l.set i x) := by unfold irows; rw [List.map_set]
theorem irows_take (k : IntKind) (l : List Int) (i : Nat) : (irows k l).take i = irows k (l.take i) := by unfold irows; rw [List.map_take]
theorem irows_drop (k : IntKind) (l : List Int) (i : Nat) : (irows k l).drop i = irows k (l.drop i) := by unfold irows; rw [List.map_drop]
theorem With_ok (s : List Int) (k : Nat) (n : Int) (hk : k < s.length) (hb : s.length ≤ 1000000) : AC Try.prog 58 [.sl 1 (irows .i64 s) false, .val (.int .i64 (k : Int)), .val (.int .i64 n)] (.pure (.sl 1 (irows .i64 (s.set k n)) false)) := by
  have hC := CloneI_fresh s (fun h => by rw [h] at hk; exact absurd hk (Nat.not_lt_zero _)) hb
  have ln := irows_len .i64 s
  refine AC.of_body TTok Try.func58 rfl (enter_of Try.func58 (by kernel_rfl) (by kernel_rfl)) (noid3 (noid_sl _ _ _) (.val _) (.val _)) (noid_sl _ _ _) (Nat.le_of_ble_eq_true rfl) ?_
  conv => whnf
  refine ⟨_, hC, ?_⟩
  conv => whnf
  first
    | refine caseb (fun _ => ?_) (fun h => absurd (of_decide_eq_false h) (by omega))
    | refine caseb (fun h => absurd (of_decide_eq_true h) (by omega)) (fun _ => ?_)
    | refine caseb (fun _ => ?_) (fun h => absurd (beq_eq_false_iff_ne.1 h) (by omega))
    | refine caseb (fun h => absurd (eq_of_beq h) (by omega)) (fun _ => ?_)
  conv => whnf
  refine ⟨by omega, ?_⟩
  conv => whnf
  refine ⟨by rw [Nat.zero_add, Int.toNat_natCast]; omega, ?_⟩
  conv => whnf
  refine ⟨by show 0 + _ ≤ ((irows .i64 s).set _ _).length; rw [List.length_set]; omega, ?_⟩
  show AV.sl 1 (List.take _ (List.drop 0 ((irows .i64 s).set (0 + (k : Int).toNat) [.val (.int .i64 n)]))) false = _
  rw [List.drop_zero, Nat.zero_add, Int.toNat_natCast, irows_set, List.take_of_length_le (by rw [irows_len, List.length_set]; omega)]
theorem Without_ok (s : List Int) (k : Nat) (hk : k < s.length) (hb : s.length ≤ 100000) : AC Try.prog 68 [.sl 1 (irows .i64 s) false, .val (.int .i64 (k : Int))] (.pure (.sl 1 (irows .i64 (s.take k ++ s.drop (k + 1))) false)) := by
  have hC := Concat_ok [s.take k, s.drop (k + 1)] (by show 2 ≤ 1000; omega) (by simp; omega)
  rw [show [s.take k, s.drop (k + 1)].flatten = s.take k ++ s.drop (k + 1) by simp] at hC
  have ln := irows_len .i64 s
  have eK : IntKind.i64.wrap ((k : Int) + 1) = ((k + 1 : Nat) : Int) := by rw [IntWalk.i64_in _ (by omega)]; omega
  have e1 : lrows [s.take k, s.drop (k + 1)] = [[.sl 1 (List.drop 0 (List.take (k : Int).toNat (irows .i64 s))) false], [.sl 1 (List.drop (IntKind.i64.wrap ((k : Int) + 1)).toNat (List.take (irows .i64 s).length (irows .i64 s))) false]] := by
    rw [eK, Int.toNat_natCast, Int.toNat_natCast, List.drop_zero, List.take_length, irows_take, irows_drop]; rfl
  rw [e1] at hC
  refine AC.of_body TTok Try.func68 rfl (enter_of Try.func68 (by kernel_rfl) (by kernel_rfl)) (noid2 (noid_sl _ _ _) (.val _)) (noid_sl _ _ _) (Nat.le_of_ble_eq_true rfl) ?_
  conv => whnf
  first
    | refine caseb (fun _ => ?_) (fun h => absurd (of_decide_eq_false h) (by omega))
    | refine caseb (fun h => absurd (of_decide_eq_true h) (by omega)) (fun _ => ?_)
    | refine caseb (fun _ => ?_) (fun h => absurd (beq_eq_false_iff_ne.1 h) (by omega))
    | refine caseb (fun h => absurd (eq_of_beq h) (by omega)) (fun _ => ?_)
  conv => whnf
  refine ⟨by omega, ?_⟩
  conv => whnf
  refine ⟨by rw [eK]; omega, ?_⟩
  conv => whnf
  refine ⟨(Nat.le_of_ble_eq_true rfl), _, hC, ?_⟩
  conv => whnf
  refine ⟨by kernel_rfl, ?_⟩
  repeat
    conv => whnf
    first
      | refine ⟨_, by assumption, ?_⟩
      | refine ⟨(Nat.le_of_ble_eq_true rfl), _, by assumption, ?_⟩
      | refine ⟨by kernel_rfl, ?_⟩
      | exact rfl
      | exact ⟨Nat.le_of_ble_eq_true rfl, rfl⟩
      | refine ⟨by decide, ?_⟩
theorem Split_ok (s : List Int) (k : Nat) (hk : k < s.length) (hv : vS s) : AC Try.prog 57 [.sl 1 (irows .i64 s) false, .val (.int .i64 (k : Int))] (.pure (.tup [.val (.int .i64 (pr (s.take k))), .val (.int .i64 s[k]), .val (.int .i64 (pr (s.drop (k + 1)))), .val (.bool true)])) := by
  have h8 := hv.1
  have hp := mid_split hk
  have v1 : vS (s.take k) := (vS_parts (by rw [← List.take_append_drop k s] at hv; exact hv)).1
  have v2 : vS (s.drop (k + 1)) := (vS_parts (by rw [← List.take_append_drop (k + 1) s] at hv; exact hv)).2
  have c0 := Count_ok s (by omega)
  have c1 := Count_ok (s.take k) (by rw [List.length_take]; omega)
  have c2 := Count_ok (s.drop (k + 1)) (by rw [List.length_drop]; omega)
  rw [CNT_good hv] at c0
  rw [CNT_good v1, (vS_pr v1).1] at c1
  rw [CNT_good v2, (vS_pr v2).1] at c2
  have ln := irows_len .i64 s
  have eK : IntKind.i64.wrap ((k : Int) + 1) = ((k + 1 : Nat) : Int) := by rw [IntWalk.i64_in _ (by omega)]; omega
  have e1 : irows .i64 (s.take k) = List.drop 0 (List.take (k : Int).toNat (irows .i64 s)) := by rw [Int.toNat_natCast, List.drop_zero, irows_take]
  have e2 : irows .i64 (s.drop (k + 1)) = List.drop (IntKind.i64.wrap ((k : Int) + 1)).toNat (List.take (irows .i64 s).length (irows .i64 s)) := by rw [eK, Int.toNat_natCast, List.take_length, irows_drop]
  rw [e1] at c1
  rw [e2] at c2
  have hg : (irows .i64 s)[k]? = some [.val (.int .i64 s[k])] := irows_get .i64 s (List.getElem?_eq_getElem hk)
  refine AC.of_body TTok Try.func57 rfl (enter_of Try.func57 (by kernel_rfl) (by kernel_rfl)) (noid2 (noid_sl _ _ _) (.val _)) (.tup _ (noidF (.val _) (.val _) (.val _) (.val _))) (Nat.le_of_ble_eq_true rfl) ?_
  conv => whnf
  refine ⟨_, c0, ?_⟩
  conv => whnf
  first
    | refine caseb (fun _ => ?_) (fun h => absurd (of_decide_eq_false h) (by omega))
    | refine caseb (fun h => absurd (of_decide_eq_true h) (by omega)) (fun _ => ?_)
    | refine caseb (fun _ => ?_) (fun h => absurd (beq_eq_false_iff_ne.1 h) (by omega))
    | refine caseb (fun h => absurd (eq_of_beq h) (by omega)) (fun _ => ?_)
  conv => whnf
  refine ⟨by omega, ?_⟩
  conv => whnf
  refine ⟨_, c1, ?_⟩
  conv => whnf
  refine ⟨by rw [eK]; omega, ?_⟩
  conv => whnf
  refine ⟨_, c2, ?_⟩
  conv => whnf
  refine ⟨_, ⟨by omega, by rw [Int.toNat_natCast]; exact hg⟩, ?_⟩
  repeat
    conv => whnf
    first
      | refine ⟨_, by assumption, ?_⟩
      | refine ⟨(Nat.le_of_ble_eq_true rfl), _, by assumption, ?_⟩
      | refine ⟨by kernel_rfl, ?_⟩
      | exact rfl
      | exact ⟨Nat.le_of_ble_eq_true rfl, rfl⟩
      | refine ⟨by decide, ?_⟩
end
section

end
section

theorem plS_neg (v w : List Int) (d a n : Int) (h : a < 0 ∨ d ≤ a) : plS n (d :: v) (a :: w) = -1 := if_pos h
/-- What is before an axis: the place so far is small. -/
def plB (s : List Int) (i : Nat) (n : Int) : Prop := 0 ≤ n ∧ n < pmI (s.take i)
theorem plB_step {s : List Int} (hv : vS s) {i : Nat} (hi : i < s.length) {n a : Int} (h : plB s i n) (h0 : 0 ≤ a) (h1 : a < s[i]) : plB s (i + 1) (n * s[i] + a) := by
  obtain ⟨b0, b1⟩ := h
  rw [plB, pm_take hi]
  have hd : 0 ≤ s[i] := by omega
  have m0 : 0 ≤ n * s[i] := Int.mul_nonneg b0 hd
  have m1 : (n + 1) * s[i] ≤ pmI (s.take i) * s[i] := Int.mul_le_mul_of_nonneg_right (by omega) hd
  rw [Int.add_mul, Int.one_mul] at m1
  rw [show max 1 s[i] = s[i] by omega]
  omega
theorem plB_small {s : List Int} (hv : vS s) {i : Nat} {n : Int} (h : plB s i n) : 0 ≤ n ∧ n < 4096 := by
  have := pm_mono s i
  have := hv.2.2
  exact ⟨h.1, by have := h.2; omega⟩
end
section

def gA (D : Nat) (w : List Int) : List (List Int) := (List.range D).map fun n : Nat => w ++ [(n : Int)]
end
end Go.Proofs.Ytcdeiegpeiodjaa

set_option linter.unusedSimpArgs false
namespace Go.AL
open Go Go.RowKit

theorem SW.cutW {P : Program} {TT : Nat → Option TI} (hT : TTok P TT) {α : Type} {x y : Code} {Q : Exit → St → Prop} {s : St} (ts : α → List (Nat × AV)) (hs : α → List (Nat × LB)) (n m : Nat) (hm : s.m = m) (J : α → Prop)
    (h : axp P TT x (loopQ Q fun s2 => ∃ (s3 : St) (a : α) (σ : List (Nat × Nat)), Wk s2 s3 ∧ s3.m = s2.m ∧ J a ∧ okT s3 (σf σ) n (ts a) ∧ okH s3 (σf σ) n (hs a) ∧ distinct (((hs a).map (·.1)).map (σf σ)) = true) s)
    (hy : ∀ a, J a → SW P y Q (mkS (ts a) (hs a) n m)) : SW P (.seq x y) Q s := by
  refine SW.cut (fun s3 => ∃ a, J a ∧ s3 = mkS (ts a) (hs a) n m) (((axp_sound hT _ _ _ h).keep).mono fun e s' hq => ?_) ?_
  · obtain ⟨hq, hms⟩ := hq
    cases e with
    | normal =>
      obtain ⟨s4, a, σ, w1, w2, g2, g3, g4, g5⟩ := hq
      exact ⟨mkS (ts a) (hs a) n m, w1.trans (Wk.of _ _ _ _ _ (by rw [w2, hms, hm]) g3 g4 g5), (by rw [hms, hm]; rfl), a, g2, rfl⟩
    | _ => exact hq
  · rintro s3 hm3 ⟨a, hJ, rfl⟩
    exact hy a hJ

end Go.AL

namespace Go.Proofs.Ytcdeiegpeiodjaa
open Go Go.AL NM
section

/-- An element at a place; what stands for none, where there is no such place. -/
def getX (ns : List (Option (Rat × Nat))) (k : Int) : Option (Rat × Nat) := if 0 ≤ k then ns.getD k.toNat none else none
def getT (tx : List Int) (k : Int) : Int := if 0 ≤ k then tx.getD k.toNat 32 else 32
def getQ (qs : List Rat) (k : Int) : Rat := if 0 ≤ k then qs.getD k.toNat 0 else 0
theorem getX_in {ns : List (Option (Rat × Nat))} {k : Nat} (h : k < ns.length) : getX ns (k : Int) = ns[k] := by
  unfold getX
  rw [if_pos (by omega), Int.toNat_natCast, List.getD_eq_getElem?_getD, List.getElem?_eq_getElem h]; rfl
theorem getX_out {ns : List (Option (Rat × Nat))} {k : Int} (h : k < 0 ∨ (ns.length : Int) ≤ k) : getX ns k = none := by
  unfold getX
  split
  · rw [List.getD_eq_getElem?_getD, List.getElem?_eq_none (by omega)]; rfl
  · rfl
theorem getT_in {tx : List Int} {k : Nat} (h : k < tx.length) : getT tx (k : Int) = tx[k] := by
  unfold getT
  rw [if_pos (by omega), Int.toNat_natCast, List.getD_eq_getElem?_getD, List.getElem?_eq_getElem h]; rfl
theorem getT_out {tx : List Int} {k : Int} (h : k < 0 ∨ (tx.length : Int) ≤ k) : getT tx k = 32 := by
  unfold getT
  split
  · rw [List.getD_eq_getElem?_getD, List.getElem?_eq_none (by omega)]; rfl
  · rfl
theorem RatAny_ok (sh : List Int) (ch : Bool) (tx : List Int) (ns : List (Option (Rat × Nat))) (made : Bool) (k : Int) (hb : ns.length ≤ 1000000) : AC Try.prog 74 [AA sh ch tx ns made, .val (.int .i64 k)] (.pure (.agg (rowX (getX ns k)))) := by
  by_cases h : k < 0 ∨ (ns.length : Int) ≤ k
  · rw [getX_out h]
    refine AC.of_body TTok Try.func74 rfl (enter_of Try.func74 (by kernel_rfl) (by kernel_rfl)) (noid2 (AA_noid _ _ _ _ _) (.val _)) (.agg _ (rowX_noid none)) (Nat.le_of_ble_eq_true rfl) ?_
    have hlen : (ns.map rowX).length = ns.length := List.length_map _
    unfold AA
    by_cases h0 : k < 0
    · conv => whnf
      first
        | refine caseb (fun _ => ?_) (fun h => absurd (of_decide_eq_false h) (by omega))
        | refine caseb (fun h => absurd (of_decide_eq_true h) (by omega)) (fun _ => ?_)
        | refine caseb (fun _ => ?_) (fun h => absurd (beq_eq_false_iff_ne.1 h) (by omega))
        | refine caseb (fun h => absurd (eq_of_beq h) (by omega)) (fun _ => ?_)
      repeat
        conv => whnf
        first
          | refine ⟨_, by assumption, ?_⟩
          | refine ⟨(Nat.le_of_ble_eq_true rfl), _, by assumption, ?_⟩
          | refine ⟨by kernel_rfl, ?_⟩
          | exact rfl
          | exact ⟨Nat.le_of_ble_eq_true rfl, rfl⟩
          | refine ⟨by decide, ?_⟩
    · conv => whnf
      first
        | refine caseb (fun _ => ?_) (fun h => absurd (of_decide_eq_false h) (by omega))
        | refine caseb (fun h => absurd (of_decide_eq_true h) (by omega)) (fun _ => ?_)
        | refine caseb (fun _ => ?_) (fun h => absurd (beq_eq_false_iff_ne.1 h) (by omega))
        | refine caseb (fun h => absurd (eq_of_beq h) (by omega)) (fun _ => ?_)
      conv => whnf
      first
        | refine caseb (fun _ => ?_) (fun h => absurd (of_decide_eq_false h) (by omega))
        | refine caseb (fun h => absurd (of_decide_eq_true h) (by omega)) (fun _ => ?_)
        | refine caseb (fun _ => ?_) (fun h => absurd (beq_eq_false_iff_ne.1 h) (by omega))
        | refine caseb (fun h => absurd (eq_of_beq h) (by omega)) (fun _ => ?_)
      repeat
        conv => whnf
        first
          | refine ⟨_, by assumption, ?_⟩
          | refine ⟨(Nat.le_of_ble_eq_true rfl), _, by assumption, ?_⟩
          | refine ⟨by kernel_rfl, ?_⟩
          | exact rfl
          | exact ⟨Nat.le_of_ble_eq_true rfl, rfl⟩
          | refine ⟨by decide, ?_⟩
  · obtain ⟨j, rfl⟩ := Int.eq_ofNat_of_zero_le (show 0 ≤ k by omega)
    rw [getX_in (show j < ns.length by omega)]
    exact RatI_ok sh ch tx ns made j (by omega) hb
theorem rowX_eq (o : Option (Rat × Nat)) : ∃ (k : Nat) (l1 l2 : List (List AV)) (z : Bool) (b : Bool), rowX o = [.sl k l1 z, .val (.bool b), .sl k l2 z] := by
  cases o with
  | none => exact ⟨0, [], [], true, false, rfl⟩
  | some p => exact ⟨1, _, _, false, _, rfl⟩
/-- Numbers picked (the program). -/
theorem PickN_ok (sh : List Int) (tx : List Int) (ns : List (Option (Rat × Nat))) (s at_ : List Int) (hv : vS s) (hc : cntI s = (at_.length : Int)) (hb : ns.length ≤ 100000) :
    AC Try.prog 51 [AA sh false tx ns true, .sl 1 (irows .i64 s) false, .sl 1 (irows .i64 at_) false] (.pure (.tup [AA s false [] (at_.map (getX ns)) true, .val (.bool true)])) := by
  have l4 : at_.length ≤ 4096 := by have := vS_pr hv; omega
  have hC := Count_ok s (by have := hv.1; omega)
  rw [CNT_good hv, hc] at hC
  have hK := CloneI_ok s (by have := hv.1; omega)
  have la := irows_len .i64 at_
  obtain ⟨Y, hY⟩ : ∃ Y, Y = at_.map (getX ns) := ⟨_, rfl⟩
  have lY : Y.length = at_.length := by rw [hY, List.length_map]
  have hYi : ∀ i (h : i < at_.length), Y[i]'(by omega) = getX ns at_[i] := fun i h => by subst hY; rw [List.getElem_map]
  have hR : ∀ i (h : i < at_.length), AC Try.prog 74 [AA sh false tx ns true, .val (.int .i64 at_[i])] (.pure (.agg (rowX (getX ns at_[i])))) := fun i h => RatAny_ok sh false tx ns true _ (by omega)
  rw [← hY]
  refine AC.le_res (?_ : AC Try.prog 51 _ (.pure (.tup [.agg [.sl 1 (irows .i64 s) false, .val (.bool false), .sl 0 [] true, .sl 3 (Y.map rowX) false, .val (.bool true)], .val (.bool true)]))) (.tup2 (le_agg5 (.refl _) (.refl _) (le_nil 1) (.refl _) (.refl _)) (.refl _)) (.tup _ (noid2 (AA_noid _ _ _ _ _) (.val _)))
  refine AC.of_body TTok Try.func51 rfl (enter_of Try.func51 (by kernel_rfl) (by kernel_rfl)) (noid3 (AA_noid _ _ _ _ _) (noid_sl _ _ _) (noid_sl _ _ _)) (.tup _ (noid2 (.agg _ (noid5 (noid_sl _ _ _) (.val _) (.sl _ _ _ (fun r hr => nomatch hr)) (slX_noid _) (.val _))) (.val _))) (Nat.le_of_ble_eq_true rfl) ?_
  unfold AA at hR ⊢
  conv => whnf
  refine ⟨_, hC, ?_⟩
  conv => whnf
  first
    | refine caseb (fun h => absurd (bne_iff_ne.1 h) (by omega)) (fun _ => ?_)
    | refine caseb (fun _ => ?_) (fun h => absurd (bne_eq_false_iff_eq.1 h) (by omega))
  conv => whnf
  refine ⟨_, hK, ?_⟩
  conv => whnf
  refine ⟨by kernel_rfl, ?_⟩
  conv => whnf
  refine SW.nilC 184 3 3 rfl rfl ?_
  refine SW.loopM TTok (fun i : Nat => [(3, .lp 0 0), (6, .lp 8 0), (10, .lp 184 0), (32, .sl 1 (irows .i64 at_) false), (33, .val (.int .i64 ((irows .i64 at_).length : Nat))), (34, .val (.int .i64 (i : Int)))])
    (fun i => [(0, .cells 5 [[.sl 1 (irows .i64 sh) false, .val (.bool false), .sl 1 (irows .i32 tx) false, .sl 3 (ns.map rowX) false, .val (.bool true)]]), (8, .cells 5 [[.sl 0 [] true, .val (.bool false), .sl 0 [] true, .sl 0 [] true, .val (.bool false)]]), (184, .cells 5 [[.sl 1 (irows .i64 s) false, .val (.bool false), .sl 0 [] true, .own 224 0 i, .val (.bool true)]]), (224, .cells 3 ((Y.take i).map rowX))]) 232 77 rfl (fun i => at_.length - i) (fun i => i ≤ at_.length) 0 [] (Nat.zero_le _)
    ⟨⟨rfl, rfl⟩, ⟨rfl, rfl⟩, ⟨rfl, rfl⟩, ⟨rfl, rfl⟩, ⟨rfl, rfl⟩, ⟨rfl, rfl⟩, trivial⟩ ⟨⟨rfl, .inr ⟨rfl, rfl⟩⟩, ⟨rfl, .inr ⟨rfl, rfl⟩⟩, ⟨rfl, .inr ⟨rfl, rfl⟩⟩, ⟨rfl, .inr ⟨rfl, rfl⟩⟩, trivial⟩ rfl ?_
  intro i hJ
  have hi : i ≤ at_.length := hJ
  clear hJ
  have lr : ((Y.take i).map rowX).length = i := by rw [List.length_map, List.length_take]; omega
  by_cases hlt : i < at_.length
  · have eI : IntKind.i64.wrap ((i : Int) + 1) = ((i + 1 : Nat) : Int) := by rw [IntWalk.i64_in _ (by omega)]; omega
    have hg : (irows .i64 at_)[i]? = some [.val (.int .i64 at_[i])] := irows_get .i64 at_ (List.getElem?_eq_getElem hlt)
    have d2 := hR i hlt
    have hsn : (Y.take i).map rowX ++ [rowX (getX ns at_[i])] = (Y.take (i + 1)).map rowX := by
      rw [take_snoc (show i < Y.length by omega), List.map_append, hYi i hlt]; rfl
    have htk : List.take i (List.drop 0 ((Y.take i).map rowX)) = (Y.take i).map rowX := by rw [List.drop_zero, List.take_of_length_le (by omega)]
    obtain ⟨k, l1, l2, z, b, hrow⟩ := rowX_eq (getX ns at_[i])
    rw [hrow] at d2 hsn
    conv => whnf
    first
      | refine caseb (fun _ => ?_) (fun h => absurd (of_decide_eq_false h) (by omega))
      | refine caseb (fun h => absurd (of_decide_eq_true h) (by omega)) (fun _ => ?_)
      | refine caseb (fun _ => ?_) (fun h => absurd (beq_eq_false_iff_ne.1 h) (by omega))
      | refine caseb (fun h => absurd (eq_of_beq h) (by omega)) (fun _ => ?_)
    conv => whnf
    refine ⟨_, ⟨by omega, by rw [Int.toNat_natCast]; exact hg⟩, ?_⟩
    conv => whnf
    refine ⟨_, d2, ?_⟩
    conv => whnf
    refine ⟨⟨by show 0 + i ≤ _; omega, by show (i + 1) * 56 ≤ 140737488355328; omega, Nat.le_of_ble_eq_true rfl⟩, ?_⟩
    conv => whnf
    refine ⟨by kernel_rfl, ?_⟩
    conv => whnf
    refine ⟨i + 1, [(224, 344)], (by show at_.length - (i + 1) < at_.length - i; omega), hlt, ⟨⟨rfl, rfl⟩, ⟨rfl, rfl⟩, ⟨rfl, rfl⟩, ⟨rfl, rfl⟩, ⟨rfl, rfl⟩, ⟨valI eI, rfl⟩, trivial⟩, ⟨⟨rfl, .inr ⟨rfl, rfl⟩⟩, ⟨rfl, .inr ⟨rfl, rfl⟩⟩, ⟨rfl, .inr ⟨rfl, rfl⟩⟩, ⟨rfl, .inl ⟨celE ?_, rowsX_noid _⟩⟩, trivial⟩, rfl⟩
    rw [← hsn]
    show List.take i (List.drop 0 ((Y.take i).map rowX)) ++ [_] = _
    rw [htk]
    rfl
  · have hie : i = at_.length := by omega
    have e1 : Y.take i = Y := List.take_of_length_le (by omega)
    rw [e1] at lr ⊢
    have key : List.take i (List.drop 0 (Y.map rowX)) = Y.map rowX := by rw [List.drop_zero, List.take_of_length_le (by omega)]
    conv => whnf
    first
      | refine caseb (fun _ => ?_) (fun h => absurd (of_decide_eq_false h) (by omega))
      | refine caseb (fun h => absurd (of_decide_eq_true h) (by omega)) (fun _ => ?_)
      | refine caseb (fun _ => ?_) (fun h => absurd (beq_eq_false_iff_ne.1 h) (by omega))
      | refine caseb (fun h => absurd (eq_of_beq h) (by omega)) (fun _ => ?_)
    conv => whnf
    refine ⟨by show 0 + i ≤ _; omega, ?_⟩
    show AV.tup [AV.agg [_, _, _, AV.sl 3 (List.take i (List.drop 0 (Y.map rowX))) false, _], _] = _
    rw [key]
    rfl
/-- Characters picked (the program). -/
theorem PickT_ok (sh : List Int) (tx : List Int) (ns : List (Option (Rat × Nat))) (s at_ : List Int) (hv : vS s) (hc : cntI s = (at_.length : Int)) (hb : tx.length ≤ 100000) :
    AC Try.prog 51 [AA sh true tx ns true, .sl 1 (irows .i64 s) false, .sl 1 (irows .i64 at_) false] (.pure (.tup [AA s true (at_.map (getT tx)) [] true, .val (.bool true)])) := by
  have l4 : at_.length ≤ 4096 := by have := vS_pr hv; omega
  have hC := Count_ok s (by have := hv.1; omega)
  rw [CNT_good hv, hc] at hC
  have hK := CloneI_ok s (by have := hv.1; omega)
  have la := irows_len .i64 at_
  have lt := irows_len .i32 tx
  obtain ⟨Y, hY⟩ : ∃ Y, Y = at_.map (getT tx) := ⟨_, rfl⟩
  have lY : Y.length = at_.length := by rw [hY, List.length_map]
  have hYi : ∀ i (h : i < at_.length), Y[i]'(by omega) = getT tx at_[i] := fun i h => by subst hY; rw [List.getElem_map]
  rw [← hY]
  refine AC.le_res (?_ : AC Try.prog 51 _ (.pure (.tup [.agg [.sl 1 (irows .i64 s) false, .val (.bool true), .sl 1 (irows .i32 Y) false, .sl 0 [] true, .val (.bool true)], .val (.bool true)]))) (.tup2 (le_agg5 (.refl _) (.refl _) (.refl _) (le_nil 3) (.refl _)) (.refl _)) (.tup _ (noid2 (AA_noid _ _ _ _ _) (.val _)))
  refine AC.of_body TTok Try.func51 rfl (enter_of Try.func51 (by kernel_rfl) (by kernel_rfl)) (noid3 (AA_noid _ _ _ _ _) (noid_sl _ _ _) (noid_sl _ _ _)) (.tup _ (noid2 (.agg _ (noid5 (noid_sl _ _ _) (.val _) (noid_sl _ _ _) (.sl _ _ _ (fun r hr => nomatch hr)) (.val _))) (.val _))) (Nat.le_of_ble_eq_true rfl) ?_
  unfold AA
  conv => whnf
  refine ⟨_, hC, ?_⟩
  conv => whnf
  first
    | refine caseb (fun h => absurd (bne_iff_ne.1 h) (by omega)) (fun _ => ?_)
    | refine caseb (fun _ => ?_) (fun h => absurd (bne_eq_false_iff_eq.1 h) (by omega))
  conv => whnf
  refine ⟨_, hK, ?_⟩
  conv => whnf
  refine ⟨by kernel_rfl, ?_⟩
  conv => whnf
  refine SW.nilC 184 2 1 rfl rfl ?_
  refine SW.loopM TTok (fun i : Nat => [(3, .lp 0 0), (6, .lp 8 0), (10, .lp 184 0), (32, .sl 1 (irows .i64 at_) false), (33, .val (.int .i64 ((irows .i64 at_).length : Nat))), (34, .val (.int .i64 (i : Int)))])
    (fun i => [(0, .cells 5 [[.sl 1 (irows .i64 sh) false, .val (.bool true), .sl 1 (irows .i32 tx) false, .sl 3 (ns.map rowX) false, .val (.bool true)]]), (8, .cells 5 [[.sl 0 [] true, .val (.bool false), .sl 0 [] true, .sl 0 [] true, .val (.bool false)]]), (184, .cells 5 [[.sl 1 (irows .i64 s) false, .val (.bool true), .own 224 0 i, .sl 0 [] true, .val (.bool true)]]), (224, .cells 1 (irows .i32 (Y.take i)))]) 232 77 rfl (fun i => at_.length - i) (fun i => i ≤ at_.length) 0 [] (Nat.zero_le _)
    ⟨⟨rfl, rfl⟩, ⟨rfl, rfl⟩, ⟨rfl, rfl⟩, ⟨rfl, rfl⟩, ⟨rfl, rfl⟩, ⟨rfl, rfl⟩, trivial⟩ ⟨⟨rfl, .inr ⟨rfl, rfl⟩⟩, ⟨rfl, .inr ⟨rfl, rfl⟩⟩, ⟨rfl, .inr ⟨rfl, rfl⟩⟩, ⟨rfl, .inr ⟨rfl, rfl⟩⟩, trivial⟩ rfl ?_
  intro i hJ
  have hi : i ≤ at_.length := hJ
  clear hJ
  have lr : (irows .i32 (Y.take i)).length = i := by rw [irows_len, List.length_take]; omega
  by_cases hlt : i < at_.length
  · have eI : IntKind.i64.wrap ((i : Int) + 1) = ((i + 1 : Nat) : Int) := by rw [IntWalk.i64_in _ (by omega)]; omega
    have hg : (irows .i64 at_)[i]? = some [.val (.int .i64 at_[i])] := irows_get .i64 at_ (List.getElem?_eq_getElem hlt)
    have hsn : irows .i32 (Y.take i) ++ irows .i32 [getT tx at_[i]] = irows .i32 (Y.take (i + 1)) := by
      rw [take_snoc (show i < Y.length by omega), hYi i hlt, irows_append]
    have htk : List.take i (List.drop 0 (irows .i32 (Y.take i))) = irows .i32 (Y.take i) := by rw [List.drop_zero, List.take_of_length_le (by omega)]
    obtain ⟨k, hk⟩ : ∃ k, k = at_[i] := ⟨_, rfl⟩
    rw [← hk] at hg hsn
    by_cases h0 : k < 0
    · rw [getT_out (.inl h0)] at hsn
      conv => whnf
      first
        | refine caseb (fun _ => ?_) (fun h => absurd (of_decide_eq_false h) (by omega))
        | refine caseb (fun h => absurd (of_decide_eq_true h) (by omega)) (fun _ => ?_)
        | refine caseb (fun _ => ?_) (fun h => absurd (beq_eq_false_iff_ne.1 h) (by omega))
        | refine caseb (fun h => absurd (eq_of_beq h) (by omega)) (fun _ => ?_)
      conv => whnf
      refine ⟨_, ⟨by omega, by rw [Int.toNat_natCast]; exact hg⟩, ?_⟩
      conv => whnf
      first
        | refine caseb (fun _ => ?_) (fun h => absurd (of_decide_eq_false h) (by omega))
        | refine caseb (fun h => absurd (of_decide_eq_true h) (by omega)) (fun _ => ?_)
        | refine caseb (fun _ => ?_) (fun h => absurd (beq_eq_false_iff_ne.1 h) (by omega))
        | refine caseb (fun h => absurd (eq_of_beq h) (by omega)) (fun _ => ?_)
      conv => whnf
      refine ⟨⟨by show 0 + i ≤ _; omega, by show (i + 1) * 4 ≤ 140737488355328; omega, Nat.le_of_ble_eq_true rfl⟩, ?_⟩
      conv => whnf
      refine ⟨i + 1, [(224, 400)], (by show at_.length - (i + 1) < at_.length - i; omega), hlt, ⟨⟨rfl, rfl⟩, ⟨rfl, rfl⟩, ⟨rfl, rfl⟩, ⟨rfl, rfl⟩, ⟨rfl, rfl⟩, ⟨valI eI, rfl⟩, trivial⟩, ⟨⟨rfl, .inr ⟨rfl, rfl⟩⟩, ⟨rfl, .inr ⟨rfl, rfl⟩⟩, ⟨rfl, .inr ⟨rfl, rfl⟩⟩, ⟨rfl, .inl ⟨celE ?_, irows_noid _ _⟩⟩, trivial⟩, rfl⟩
      rw [← hsn]
      show List.take i (List.drop 0 (irows .i32 (Y.take i))) ++ [_] = _
      rw [htk]; rfl
    · by_cases h1 : (tx.length : Int) ≤ k
      · rw [getT_out (.inr h1)] at hsn
        conv => whnf
        first
          | refine caseb (fun _ => ?_) (fun h => absurd (of_decide_eq_false h) (by omega))
          | refine caseb (fun h => absurd (of_decide_eq_true h) (by omega)) (fun _ => ?_)
          | refine caseb (fun _ => ?_) (fun h => absurd (beq_eq_false_iff_ne.1 h) (by omega))
          | refine caseb (fun h => absurd (eq_of_beq h) (by omega)) (fun _ => ?_)
        conv => whnf
        refine ⟨_, ⟨by omega, by rw [Int.toNat_natCast]; exact hg⟩, ?_⟩
        conv => whnf
        first
          | refine caseb (fun _ => ?_) (fun h => absurd (of_decide_eq_false h) (by omega))
          | refine caseb (fun h => absurd (of_decide_eq_true h) (by omega)) (fun _ => ?_)
          | refine caseb (fun _ => ?_) (fun h => absurd (beq_eq_false_iff_ne.1 h) (by omega))
          | refine caseb (fun h => absurd (eq_of_beq h) (by omega)) (fun _ => ?_)
        conv => whnf
        first
          | refine caseb (fun _ => ?_) (fun h => absurd (of_decide_eq_false h) (by omega))
          | refine caseb (fun h => absurd (of_decide_eq_true h) (by omega)) (fun _ => ?_)
          | refine caseb (fun _ => ?_) (fun h => absurd (beq_eq_false_iff_ne.1 h) (by omega))
          | refine caseb (fun h => absurd (eq_of_beq h) (by omega)) (fun _ => ?_)
        conv => whnf
        refine ⟨⟨by show 0 + i ≤ _; omega, by show (i + 1) * 4 ≤ 140737488355328; omega, Nat.le_of_ble_eq_true rfl⟩, ?_⟩
        conv => whnf
        refine ⟨i + 1, [(224, 400)], (by show at_.length - (i + 1) < at_.length - i; omega), hlt, ⟨⟨rfl, rfl⟩, ⟨rfl, rfl⟩, ⟨rfl, rfl⟩, ⟨rfl, rfl⟩, ⟨rfl, rfl⟩, ⟨valI eI, rfl⟩, trivial⟩, ⟨⟨rfl, .inr ⟨rfl, rfl⟩⟩, ⟨rfl, .inr ⟨rfl, rfl⟩⟩, ⟨rfl, .inr ⟨rfl, rfl⟩⟩, ⟨rfl, .inl ⟨celE ?_, irows_noid _ _⟩⟩, trivial⟩, rfl⟩
        rw [← hsn]
        show List.take i (List.drop 0 (irows .i32 (Y.take i))) ++ [_] = _
        rw [htk]; rfl
      · obtain ⟨j, rfl⟩ := Int.eq_ofNat_of_zero_le (show 0 ≤ k by omega)
        rw [getT_in (show j < tx.length by omega)] at hsn
        have hg2 : (irows .i32 tx)[j]? = some [.val (.int .i32 tx[j])] := irows_get .i32 tx (List.getElem?_eq_getElem (by omega))
        conv => whnf
        first
          | refine caseb (fun _ => ?_) (fun h => absurd (of_decide_eq_false h) (by omega))
          | refine caseb (fun h => absurd (of_decide_eq_true h) (by omega)) (fun _ => ?_)
          | refine caseb (fun _ => ?_) (fun h => absurd (beq_eq_false_iff_ne.1 h) (by omega))
          | refine caseb (fun h => absurd (eq_of_beq h) (by omega)) (fun _ => ?_)
        conv => whnf
        refine ⟨_, ⟨by omega, by rw [Int.toNat_natCast]; exact hg⟩, ?_⟩
        conv => whnf
        first
          | refine caseb (fun _ => ?_) (fun h => absurd (of_decide_eq_false h) (by omega))
          | refine caseb (fun h => absurd (of_decide_eq_true h) (by omega)) (fun _ => ?_)
          | refine caseb (fun _ => ?_) (fun h => absurd (beq_eq_false_iff_ne.1 h) (by omega))
          | refine caseb (fun h => absurd (eq_of_beq h) (by omega)) (fun _ => ?_)
        conv => whnf
        refine ⟨_, ⟨by omega, by rw [Int.toNat_natCast]; exact hg2⟩, ?_⟩
        conv => whnf
        refine ⟨⟨by show 0 + i ≤ _; omega, by show (i + 1) * 4 ≤ 140737488355328; omega, Nat.le_of_ble_eq_true rfl⟩, ?_⟩
        conv => whnf
        refine ⟨by kernel_rfl, ?_⟩
        conv => whnf
        refine ⟨i + 1, [(224, 440)], (by show at_.length - (i + 1) < at_.length - i; omega), hlt, ⟨⟨rfl, rfl⟩, ⟨rfl, rfl⟩, ⟨rfl, rfl⟩, ⟨rfl, rfl⟩, ⟨rfl, rfl⟩, ⟨valI eI, rfl⟩, trivial⟩, ⟨⟨rfl, .inr ⟨rfl, rfl⟩⟩, ⟨rfl, .inr ⟨rfl, rfl⟩⟩, ⟨rfl, .inr ⟨rfl, rfl⟩⟩, ⟨rfl, .inl ⟨celE ?_, irows_noid _ _⟩⟩, trivial⟩, rfl⟩
        rw [← hsn]
        show List.take i (List.drop 0 (irows .i32 (Y.take i))) ++ [_] = _
        rw [htk]; rfl
  · have hie : i = at_.length := by omega
    have e1 : Y.take i = Y := List.take_of_length_le (by omega)
    rw [e1] at lr ⊢
    have key : List.take i (List.drop 0 (irows .i32 Y)) = irows .i32 Y := by rw [List.drop_zero, List.take_of_length_le (by omega)]
    conv => whnf
    first
      | refine caseb (fun _ => ?_) (fun h => absurd (of_decide_eq_false h) (by omega))
      | refine caseb (fun h => absurd (of_decide_eq_true h) (by omega)) (fun _ => ?_)
      | refine caseb (fun _ => ?_) (fun h => absurd (beq_eq_false_iff_ne.1 h) (by omega))
      | refine caseb (fun h => absurd (eq_of_beq h) (by omega)) (fun _ => ?_)
    conv => whnf
    refine ⟨by show 0 + i ≤ _; omega, ?_⟩
    show AV.tup [AV.agg [_, _, AV.sl 1 (List.take i (List.drop 0 (irows .i32 Y))) false, _, _], _] = _
    rw [key]
    rfl
end
section

end
section

/-- An array made ready to be laid along an axis: its shape, whether it is one for all, the error. -/
def fitJ (sh s : List Int) (k : Nat) : List Int × Bool × Int :=
  if sh = [] then (s.set k 1, true, 0)
  else if (if sh.length + 1 = s.length then sh.take k ++ 1 :: sh.drop k else sh).length ≠ s.length then ([], false, 23)
  else if (if sh.length + 1 = s.length then sh.take k ++ 1 :: sh.drop k else sh).take k ++ (if sh.length + 1 = s.length then sh.take k ++ 1 :: sh.drop k else sh).drop (k + 1) ≠ s.take k ++ s.drop (k + 1) then ([], false, 24)
  else ((if sh.length + 1 = s.length then sh.take k ++ 1 :: sh.drop k else sh), false, 0)
theorem ins_len {sh : List Int} {k : Nat} (hk : k ≤ sh.length) : (sh.take k ++ 1 :: sh.drop k).length = sh.length + 1 := by
  rw [List.length_append, List.length_cons, List.length_take, List.length_drop]; omega
theorem app_parts {a b c d : List Int} (h : a ++ b = c ++ d) (hl : a.length = c.length) : a = c ∧ b = d := List.append_inj h hl
theorem fitJ_good {sh s : List Int} {k : Nat} (hk : k < s.length) (hs : vS s) (hv : vS sh) (h : (fitJ sh s k).2.2 = 0) :
    (fitJ sh s k).1.length = s.length ∧ (fitJ sh s k).1.take k = s.take k ∧ (fitJ sh s k).1.drop (k + 1) = s.drop (k + 1) ∧ vS (fitJ sh s k).1 ∧ (fitJ sh s k).2.1 = decide (sh = []) := by
  unfold fitJ at h ⊢
  by_cases h0 : sh = []
  · rw [if_pos h0] at h ⊢
    refine ⟨List.length_set, by rw [List.take_set_of_le (Nat.le_refl _)], by rw [List.drop_set_of_lt (by omega)], ?_, by rw [decide_eq_true h0]⟩
    show vS (s.set k 1)
    rw [List.set_eq_take_append_cons_drop, if_pos hk]
    rw [mid_split hk] at hs
    exact vS_one hs
  · rw [if_neg h0] at h ⊢
    have hown : vS (if sh.length + 1 = s.length then sh.take k ++ 1 :: sh.drop k else sh) := by
      by_cases h1 : sh.length + 1 = s.length
      · rw [if_pos h1]
        have := hs.1
        rw [← List.take_append_drop k sh] at hv
        exact vS_ins hv (by rw [List.length_take, List.length_drop]; omega)
      · rw [if_neg h1]; exact hv
    generalize (if sh.length + 1 = s.length then sh.take k ++ 1 :: sh.drop k else sh) = own at *
    by_cases h1 : own.length ≠ s.length
    · rw [if_pos h1] at h; exact absurd h (by decide)
    · rw [if_neg h1] at h ⊢
      by_cases h2 : own.take k ++ own.drop (k + 1) ≠ s.take k ++ s.drop (k + 1)
      · rw [if_pos h2] at h; exact absurd h (by decide)
      · rw [if_neg h2]
        have h1' : own.length = s.length := Decidable.byContradiction h1
        have h2' : own.take k ++ own.drop (k + 1) = s.take k ++ s.drop (k + 1) := Decidable.byContradiction h2
        obtain ⟨g1, g2⟩ := app_parts h2' (by rw [List.length_take, List.length_take, h1'])
        exact ⟨h1', g1, g2, hown, by rw [decide_eq_false h0]⟩
/-- The place of an element of two arrays laid side by side: n, m how many along the axis, I how many behind it. -/
def atJ (n m I la : Nat) (one two : Bool) (i : Nat) : Int :=
  if i / I % (n + m) < n then (if one then 0 else ((((i / I / (n + m)) * n + i / I % (n + m)) * I + i % I : Nat) : Int))
  else (if two then (la : Int) else ((la + ((i / I / (n + m)) * m + (i / I % (n + m) - n)) * I + i % I : Nat) : Int))
/-- What an index of the two comes to. -/
def docJ (n : Nat) (x y : List Int) (la : Nat) (one two : Bool) (k : Nat) (idx : List Int) : Int :=
  if idx.getD k 0 < (n : Int) then (if one then 0 else plS 0 x idx) else (la : Int) + (if two then 0 else plS 0 y (idx.set k (idx.getD k 0 - (n : Int))))
theorem getD_mid (a b : List Int) (d x : Int) : (a ++ x :: b).getD a.length d = x := by
  rw [List.getD_eq_getElem?_getD, List.getElem?_append_right (Nat.le_refl _), Nat.sub_self]; rfl
theorem set_mid' (a b : List Int) (x y : Int) : (a ++ x :: b).set a.length y = a ++ y :: b := by
  rw [List.set_append_right _ _ (Nat.le_refl _), Nat.sub_self]; rfl
end
section

theorem CloneT_fresh (l : List Int) (hb : l.length ≤ 1000000) : AC Try.prog 80 [.sl 1 (irows .i32 l) false] (.fresh 1 (irows .i32 l)) := by
  refine AC.of_sw TTok Try.func80 rfl (enter_of Try.func80 (by kernel_rfl) (by kernel_rfl)) (noid1 (noid_sl _ _ _)) (irows_noid _ _) (Nat.le_of_ble_eq_true rfl) ?_
  have hlen := irows_len .i32 l
  refine SW.seqA TTok ?_
  conv => whnf
  refine SW.seq (SW.seq ?_)
  refine SW.regionNil (sz := 1) (rows := irows .i32 l) (tight := false) TTok _ rfl rfl rfl rfl (show Try.prog.underlying 27 = some (.slice 21) by kernel_rfl) ?_
  conv => whnf
  refine ⟨rfl, rfl, by decide, fun bv hbv => ?_⟩
  conv => whnf
  cases bv with
  | true =>
    have h0 := hbv rfl
    refine SW.cond (t := true) rfl (fun _ => ?_) (fun h => Bool.noConfusion h)
    refine SW.seqA TTok ?_
    conv => whnf
    refine SW.nil 2 1 rfl ?_
    refine SW.ret ?_
    rw [h0]
    exact ⟨rfl, Nat.le_refl _, rfl⟩
  | false =>
    refine SW.cond (t := false) rfl (fun h => Bool.noConfusion h) (fun _ => ?_)
    refine axp_sound TTok _ _ _ ?_
    conv => whnf
    refine axp_sound TTok _ _ _ ?_
    conv => whnf
    refine ⟨⟨Nat.le_refl _, by show (0 + (irows .i32 l).length) * 4 ≤ 140737488355328; omega⟩, ?_⟩
    conv => whnf
    refine ⟨rfl, by show 0 + (0 + (irows .i32 l).length) ≤ (irows .i32 l).length; omega, ?_⟩
    show (irows .i32 l).take (0 + (irows .i32 l).length) = _
    rw [Nat.zero_add, List.take_length]
theorem CloneQ_freshA (l : List (Option (Rat × Nat))) (hb : l.length ≤ 1000000) : AC Try.prog 95 [.sl 3 (l.map rowX) false] (.fresh 3 (l.map rowX)) := by
  by_cases hne : l = []
  · subst hne
    refine AC.of_sw TTok Try.func95 rfl (enter_of Try.func95 (by kernel_rfl) (by kernel_rfl)) (noid1 (slX_noid _)) (rowsX_noid _) (Nat.le_of_ble_eq_true rfl) ?_
    refine SW.seqA TTok ?_
    conv => whnf
    refine SW.seq (SW.seq ?_)
    refine SW.regionNil (sz := 3) (rows := ([] : List (Option (Rat × Nat))).map rowX) (tight := false) TTok _ rfl rfl rfl rfl (show Try.prog.underlying 28 = some (.slice 55) by kernel_rfl) ?_
    conv => whnf
    refine ⟨rfl, rfl, by decide, fun bv hbv => ?_⟩
    conv => whnf
    cases bv with
    | true =>
      refine SW.cond (t := true) rfl (fun _ => ?_) (fun h => Bool.noConfusion h)
      refine SW.seqA TTok ?_
      conv => whnf
      refine SW.nil 2 3 rfl ?_
      refine SW.ret ?_
      exact ⟨rfl, Nat.le_refl _, rfl⟩
    | false =>
      refine SW.cond (t := false) rfl (fun h => Bool.noConfusion h) (fun _ => ?_)
      refine axp_sound TTok _ _ _ ?_
      conv => whnf
      refine axp_sound TTok _ _ _ ?_
      conv => whnf
      refine ⟨⟨Nat.le_refl _, by show 0 * 56 ≤ 140737488355328; decide⟩, ?_⟩
      conv => whnf
      exact ⟨rfl, Nat.le_refl _, rfl⟩
  · exact CloneQ_fresh l hne hb
section
variable (sh : List Int) (ch : Bool) (tx : List Int) (ns : List (Option (Rat × Nat)))
theorem Runes_fresh (h : tx.length ≤ 1000000) : AC Try.prog 61 [AA sh ch tx ns true] (.fresh 1 (irows .i32 tx)) := by
  have hC := CloneT_fresh tx h
  have ln := irows_len .i32 tx
  refine AC.of_body TTok Try.func61 rfl (enter_of Try.func61 (by kernel_rfl) (by kernel_rfl)) (noid1 (AA_noid _ _ _ _ _)) (irows_noid _ _) (Nat.le_of_ble_eq_true rfl) ?_
  unfold AA
  conv => whnf
  refine ⟨_, hC, ?_⟩
  conv => whnf
  refine ⟨rfl, by show 0 + _ ≤ _; omega, ?_⟩
  show (irows .i32 tx).take (irows .i32 tx).length = _
  rw [List.take_length]
theorem Rats_freshA (h : ns.length ≤ 1000000) : AC Try.prog 87 [AA sh ch tx ns true] (.fresh 3 (ns.map rowX)) := by
  have hC := CloneQ_freshA ns h
  refine AC.of_body TTok Try.func87 rfl (enter_of Try.func87 (by kernel_rfl) (by kernel_rfl)) (noid1 (AA_noid _ _ _ _ _)) (rowsX_noid _) (Nat.le_of_ble_eq_true rfl) ?_
  unfold AA
  conv => whnf
  refine ⟨_, hC, ?_⟩
  conv => whnf
  refine ⟨rfl, by show 0 + _ ≤ _; omega, ?_⟩
  show (ns.map rowX).take (ns.map rowX).length = _
  rw [List.take_length]
end
theorem None_ok (c : Bool) : AC Try.prog 67 [.val (.bool c)] (.pure (AA [0] c [] [] true)) := by
  refine AC.le_res (?_ : AC Try.prog 67 _ (.pure (.agg [.sl 1 (irows .i64 [0]) false, .val (.bool c), .sl 0 [] true, .sl 0 [] true, .val (.bool true)]))) (le_agg5 (.refl _) (.refl _) (le_nil 1) (le_nil 3) (.refl _)) (AA_noid _ _ _ _ _)
  refine AC.of_body TTok Try.func67 rfl (enter_of Try.func67 (by kernel_rfl) (by kernel_rfl)) (noid1 (.val _)) (.agg _ (noid5 (noid_sl _ _ _) (.val _) (.sl _ _ _ (fun r hr => nomatch hr)) (.sl _ _ _ (fun r hr => nomatch hr)) (.val _))) (Nat.le_of_ble_eq_true rfl) ?_
  conv => whnf
  exact ⟨Nat.le_refl _, rfl⟩
theorem both_text (sa sb : List Int) (ta tb : List Int) (na nb : List (Option (Rat × Nat))) (h1 : ta.length ≤ 10000) (h2 : tb.length ≤ 10000) : AC Try.prog 69 [AA sa true ta na true, AA sb true tb nb true] (.pure (AA [((ta ++ tb).length : Int)] true (ta ++ tb) [] true)) := by
  have hI := IsChar_ok sa true ta na true
  have hA := Runes_fresh sa true ta na (by omega)
  have hB := Runes86_ok sb true tb nb true (by omega)
  have hT := Text_ok' (ta ++ tb) (by rw [List.length_append]; omega)
  have la := irows_len .i32 ta
  have lb := irows_len .i32 tb
  have key : List.take ((irows .i32 ta).length + (irows .i32 tb).length) (List.drop 0 (List.take (irows .i32 ta).length (List.drop 0 (irows .i32 ta)) ++ irows .i32 tb)) = irows .i32 (ta ++ tb) := by
    rw [List.drop_zero, List.drop_zero, List.take_length, ← irows_append, List.take_of_length_le (by rw [List.length_append]; exact Nat.le_refl _)]
  refine AC.of_body TTok Try.func69 rfl (enter_of Try.func69 (by kernel_rfl) (by kernel_rfl)) (noid2 (AA_noid _ _ _ _ _) (AA_noid _ _ _ _ _)) (AA_noid _ _ _ _ _) (Nat.le_of_ble_eq_true rfl) ?_
  unfold AA at *
  conv => whnf
  refine ⟨_, hI, ?_⟩
  conv => whnf
  refine ⟨_, hA, ?_⟩
  conv => whnf
  refine ⟨_, hB, ?_⟩
  conv => whnf
  refine ⟨⟨by show 0 + _ ≤ _; omega, by show ((irows .i32 ta).length + (irows .i32 tb).length) * 4 ≤ 140737488355328; omega⟩, ?_⟩
  conv => whnf
  rw [key]
  refine ⟨by show 0 + _ ≤ _; rw [List.length_append, List.drop_zero, List.take_length]; omega, _, hT, ?_⟩
  repeat
    conv => whnf
    first
      | refine ⟨_, by assumption, ?_⟩
      | refine ⟨(Nat.le_of_ble_eq_true rfl), _, by assumption, ?_⟩
      | refine ⟨by kernel_rfl, ?_⟩
      | exact rfl
      | exact ⟨Nat.le_of_ble_eq_true rfl, rfl⟩
      | refine ⟨by decide, ?_⟩
theorem vS_single (n : Nat) (h : n ≤ 4096) : vS [(n : Int)] ∧ cntI [(n : Int)] = (n : Int) := by
  have hv : vS [(n : Int)] := ⟨by show 1 ≤ 8; omega, fun d hd => by rw [List.mem_singleton.1 hd]; omega, by show 1 * max 1 (n : Int) ≤ 4096; omega⟩
  refine ⟨hv, ?_⟩
  rw [cnt_pr hv.2.1]
  show (((n : Int).toNat * 1 : Nat) : Int) = _
  omega
theorem both_nums (sa sb : List Int) (na nb : List (Option (Rat × Nat))) (h : na.length + nb.length ≤ 4096) : AC Try.prog 69 [AA sa false [] na true, AA sb false [] nb true] (.pure (AA [((na.length + nb.length : Nat) : Int)] false [] (na ++ nb) true)) := by
  have hI := IsChar_ok sa false [] na true
  have hLa := ALen_ok sa false [] na true (by decide) (by omega)
  have hLb := ALen_ok sb false [] nb true (by decide) (by omega)
  rw [show ([] : List Int).length = 0 from rfl, Nat.zero_add] at hLa hLb
  have hA := Rats_freshA sa false [] na (by omega)
  have hB := Rats_ok sb false [] nb true (by omega)
  obtain ⟨v1, v2⟩ := vS_single (na.length + nb.length) h
  have hN := Nums_ok [((na.length + nb.length : Nat) : Int)] (na ++ nb) v1 (by rw [v2, List.length_append]) (by rw [List.length_append]; omega)
  have la : (na.map rowX).length = na.length := List.length_map _
  have lb : (nb.map rowX).length = nb.length := List.length_map _
  have eS : IntKind.i64.wrap ((na.length : Int) + (nb.length : Int)) = ((na.length + nb.length : Nat) : Int) := by rw [IntWalk.i64_in _ (by omega)]; omega
  have key : List.take ((na.map rowX).length + (nb.map rowX).length) (List.drop 0 (List.take (na.map rowX).length (List.drop 0 (na.map rowX)) ++ nb.map rowX)) = (na ++ nb).map rowX := by
    rw [List.drop_zero, List.drop_zero, List.take_length, List.map_append, List.take_of_length_le (by rw [List.length_append]; exact Nat.le_refl _)]
  rw [← eS] at hN ⊢
  refine AC.of_body TTok Try.func69 rfl (enter_of Try.func69 (by kernel_rfl) (by kernel_rfl)) (noid2 (AA_noid _ _ _ _ _) (AA_noid _ _ _ _ _)) (AA_noid _ _ _ _ _) (Nat.le_of_ble_eq_true rfl) ?_
  unfold AA at *
  conv => whnf
  refine ⟨_, hI, ?_⟩
  conv => whnf
  refine ⟨_, hLa, ?_⟩
  conv => whnf
  refine ⟨_, hLb, ?_⟩
  conv => whnf
  refine ⟨_, hA, ?_⟩
  conv => whnf
  refine ⟨_, hB, ?_⟩
  conv => whnf
  refine ⟨⟨by show 0 + (na.map rowX).length ≤ _; omega, by show ((na.map rowX).length + (nb.map rowX).length) * 56 ≤ 140737488355328; omega⟩, ?_⟩
  conv => whnf
  rw [key]
  refine ⟨⟨Nat.le_refl _, by show 0 + ((na.map rowX).length + (nb.map rowX).length) ≤ (List.take (na.map rowX).length (List.drop 0 (na.map rowX)) ++ nb.map rowX).length; rw [List.length_append, List.drop_zero, List.take_length]; omega⟩, _, hN, ?_⟩
  conv => whnf
  refine ⟨by kernel_rfl, ?_⟩
  repeat
    conv => whnf
    first
      | refine ⟨_, by assumption, ?_⟩
      | refine ⟨(Nat.le_of_ble_eq_true rfl), _, by assumption, ?_⟩
      | refine ⟨by kernel_rfl, ?_⟩
      | exact rfl
      | exact ⟨Nat.le_of_ble_eq_true rfl, rfl⟩
      | refine ⟨by decide, ?_⟩
end
end Go.Proofs.Ytcdeiegpeiodjaa

set_option linter.unusedSimpArgs false
namespace Go.AL
open Go Go.RowKit

/-- A call gone through in place. -/
theorem wp_in {P : Program} {TT : Nat → Option TI} (hT : TTok P TT) {gh : Array Value} {w0 : World} {F0 F1 : Nat → Prop} {ρ1 : Nat → Option BI} {s1 : St} {a1 : Act} {w1 : World} {n0 : Nat} {o : Oper} {c : Call} {f : Nat} {fn : Func} {body : Code} {K' : St → Prop} {K : Act → World → Prop} {Q : Exit → Act → World → Prop}
    (h1 : Rel gh w0 F0 F1 ρ1 (fun id => n0 ≤ id) s1 a1 w1) (ho : o.op = .call c) (hc : c.callee = .value (.func f)) (hf : P.funcs[f]? = some fn) (hb : fn.body = some body)
    (henter : ∀ (vals : Array Value) (w : World), (callFunc f vals).run P w = .ok (.enter f vals) w) (hm : fn.ntmps ≤ 1000000) (ha : c.args.toList.length ≤ fn.ntmps) (hdst : dstOk o.dst s1.m = true)
    (hsw : SW P body (fun e s2 => (e = .ret ∨ e = .normal) ∧ ∃ vs, ares TT s2.t s2.h fn.results.toList = some vs ∧ K' ⟨putT (outT s2.t) o.dst (oneV vs), s2.h, s2.n, s1.m⟩) ⟨inT (c.args.toList.map (aval s1.t)) s1.t, s1.h, n0, fn.ntmps⟩)
    (hK : ∀ s3 a' w', K' s3 → s3.m = s1.m → (∃ F ρ, Rel gh w0 F0 F ρ (fun id => s3.n ≤ id) s3 a' w') → K a' w') : o.wp P a1 w1 K Q := by
  have hexec : (execOp a1.eval o).run P w1 = .ok (.enter f (c.args.map a1.eval)) w1 := by
    simp [execOp, ho, resolve, hc, Deferred.ofValue, Act.eval, invoke, henter]
  unfold Oper.wp
  rw [hexec]
  simp only [Oper.upon]
  refine calls_of_wp hf hb ?_
  unfold SW at hsw
  have h2 : Rel (ghosts a1 gh) w0 F0 F1 ρ1 (fun id => n0 ≤ id) ⟨inT (c.args.toList.map (aval s1.t)) s1.t, s1.h, n0, fn.ntmps⟩
      { tmps := c.args.map a1.eval ++ Array.replicate (fn.ntmps - (c.args.map a1.eval).size) undef, defers := [] } w1 := by
    refine ⟨rfl, ?_, hm, h1.below, h1.Fb, h1.F0F, h1.Fnew, fun t => ?_, h1.blks, h1.inj, h1.fresh⟩
    · have : c.args.size ≤ fn.ntmps := ha
      simp
      omega
    · show VR w1 F1 ρ1 _ (bif Nat.blt t 1000000 then getA (c.args.toList.map (aval s1.t)) t else s1.t (t - 1000000))
      cases hb : Nat.blt t 1000000 with
      | true =>
        have ht : t < 1000000 := Nat.blt_eq.mp hb
        rw [gval_lt ht]
        show VR w1 F1 ρ1 _ (getA (c.args.toList.map (aval s1.t)) t)
        rw [getA_eq]
        by_cases hta : t < c.args.size
        · have e0 : c.args.toList[t]? = some c.args[t] := by rw [Array.getElem?_toList]; exact Array.getElem?_eq_getElem hta
          have e1 : (c.args.toList.map (aval s1.t)).getD t .any = aval s1.t c.args[t] := by simp [List.getD, e0]
          have e2 : (c.args.map a1.eval ++ Array.replicate (fn.ntmps - (c.args.map a1.eval).size) undef).getD t undef = a1.eval c.args[t] := by
            simp only [Array.getD_eq_getD_getElem?, Array.getElem?_append]
            rw [if_pos (by simpa using hta)]
            simp [hta]
          rw [e1, e2]
          exact h1.aval _
        · have e1 : (c.args.toList.map (aval s1.t)).getD t .any = .any := by
            rw [List.getD, List.getElem?_eq_none (by simp; omega)]; rfl
          rw [e1]
          exact .any _
      | false =>
        have ht : ¬ t < 1000000 := fun h => by rw [Nat.blt_eq.mpr h] at hb; cases hb
        have e : ∀ a', gval a' (ghosts a1 gh) t = gval a1 gh (t - 1000000) := fun a' => by
          have hg := ghosts_get a1 gh (t - 1000000)
          rw [← hg]
          exact if_neg ht
        rw [e]
        exact h1.vals _
  refine wp_mono (hsw (ghosts a1 gh) w0 F0 _ w1 ⟨F1, ρ1, h2⟩) ?_
  rintro e a2 w2 ⟨s2, ⟨he, vs, hvs, hQ⟩, hm2, F2, ρ2, h3⟩
  obtain ⟨vals, g1, g2, g3⟩ := run_results hT h3 fn vs hvs
  have h4 : Rel gh w0 F0 F2 ρ2 (fun id => s2.n ≤ id) ⟨outT s2.t, s2.h, s2.n, s1.m⟩ a1 w2 := by
    refine ⟨h1.defers, h1.size, h1.mle, h3.below, h3.Fb, h3.F0F, h3.Fnew, fun t => ?_, h3.blks, h3.inj, h3.fresh⟩
    have hv := h3.vals (1000000 + t)
    rw [gval_ge, ghosts_get] at hv
    exact hv
  have hd := h4.putd (one_ok g2 g3) o.dst hdst
  have fin : a2.defers = [] ∧ ∃ v, (results fn a2.tmps).run P w2 = .ok v w2 ∧ K (a1.put o.dst v) w2 := ⟨h3.defers, _, g1, hK _ _ _ hQ rfl ⟨F2, ρ2, hd⟩⟩
  rcases he with rfl | rfl
  · exact fin
  · exact fin

/-- Operations in whatever order is drawn. -/
def anyR (P : Program) (TT : Nat → Option TI) (ops : Array Oper) (K : Array Bool → St → Prop) : Nat → Array Bool → St → Prop
  | 0, listed, s => K listed s
  | fuel + 1, listed, s => Region.ready .any ops listed ≠ [] ∧ ∀ j ∈ Region.ready .any ops listed, ∃ o, ops[j]? = some o ∧ o.guard = none ∧ aopK P TT o (s.n + 8 * j) (anyR P TT ops K fuel (listed.setIfInBounds j true)) s
@[irreducible] def anyK (P : Program) (TT : Nat → Option TI) (ops : Array Oper) (K : Array Bool → St → Prop) (fuel : Nat) (listed : Array Bool) (s : St) : Prop := anyR P TT ops K fuel listed s
def frA (n N : Nat) (listed : Array Bool) (id : Nat) : Prop := (∃ j, listed.getD j true = false ∧ n + 8 * j ≤ id ∧ id < n + 8 * j + 8) ∨ n + 8 * N ≤ id
end Go.AL

set_option linter.unusedSimpArgs false
namespace Go.AL
open Go Go.RowKit

/-- An operation's step, told by what comes of it. -/
def Stp (P : Program) (o : Oper) (K' : St → Prop) (s1 : St) (n0 : Nat) : Prop :=
  ∀ (gh : Array Value) (w0 : World) (F0 F1 : Nat → Prop) (ρ1 : Nat → Option BI) (a1 : Act) (w1 : World) (K : Act → World → Prop) (Q : Exit → Act → World → Prop), Rel gh w0 F0 F1 ρ1 (fun id => n0 ≤ id) s1 a1 w1 →
    (∀ s3 a' w', K' s3 → s3.m = s1.m → (∃ F ρ, Rel gh w0 F0 F ρ (fun id => s3.n ≤ id) s3 a' w') → K a' w') → o.wp P a1 w1 K Q

/-- A call gone through in place. -/
theorem Stp.inn {P : Program} {TT : Nat → Option TI} (hT : TTok P TT) {s1 : St} {n0 : Nat} {o : Oper} {c : Call} {f : Nat} {fn : Func} {body : Code} {K' : St → Prop}
    (ho : o.op = .call c) (hc : c.callee = .value (.func f)) (hf : P.funcs[f]? = some fn) (hb : fn.body = some body)
    (henter : ∀ (vals : Array Value) (w : World), (callFunc f vals).run P w = .ok (.enter f vals) w) (hm : fn.ntmps ≤ 1000000) (ha : c.args.toList.length ≤ fn.ntmps) (hdst : dstOk o.dst s1.m = true)
    (hsw : SW P body (fun e s2 => (e = .ret ∨ e = .normal) ∧ ∃ vs, ares TT s2.t s2.h fn.results.toList = some vs ∧ K' ⟨putT (outT s2.t) o.dst (oneV vs), s2.h, s2.n, s1.m⟩) ⟨inT (c.args.toList.map (aval s1.t)) s1.t, s1.h, n0, fn.ntmps⟩) : Stp P o K' s1 n0 :=
  fun gh w0 F0 F1 ρ1 a1 w1 K Q h1 hK => wp_in hT h1 ho hc hf hb henter hm ha hdst hsw hK

/-- A closure's call, gone through in place: what it closes over stands behind its arguments. -/
theorem Stp.clo {P : Program} {TT : Nat → Option TI} (hT : TTok P TT) {s1 : St} {n0 : Nat} {o : Oper} {c : Call} {g : Operand} {f : Nat} {cs : List AV} {fn : Func} {body : Code} {K' : St → Prop}
    (ho : o.op = .call c) (hc : c.callee = .value g) (hg : aval s1.t g = .clo f cs) (hf : P.funcs[f]? = some fn) (hb : fn.body = some body)
    (henter : ∀ (vals : Array Value) (w : World), (callFunc f vals).run P w = .ok (.enter f vals) w) (hm : fn.ntmps ≤ 1000000) (ha : c.args.toList.length + cs.length ≤ fn.ntmps) (hdst : dstOk o.dst s1.m = true)
    (hsw : SW P body (fun e s2 => (e = .ret ∨ e = .normal) ∧ ∃ vs, ares TT s2.t s2.h fn.results.toList = some vs ∧ K' ⟨putT (outT s2.t) o.dst (oneV vs), s2.h, s2.n, s1.m⟩) ⟨inT (c.args.toList.map (aval s1.t) ++ cs) s1.t, s1.h, n0, fn.ntmps⟩) : Stp P o K' s1 n0 := by
  intro gh w0 F0 F1 ρ1 a1 w1 K Q h1 hK
  have hv := h1.aval g
  rw [hg] at hv
  generalize hve : a1.eval g = ve at hv
  cases hv with
  | clo _ vs _ hl hcs =>
  have hexec : (execOp a1.eval o).run P w1 = .ok (.enter f (c.args.map a1.eval ++ vs)) w1 := by
    simp [execOp, ho, resolve, hc, hve, Deferred.ofValue, invoke, henter]
  unfold Oper.wp
  rw [hexec]
  simp only [Oper.upon]
  refine calls_of_wp hf hb ?_
  unfold SW at hsw
  have hlen : (c.args.map a1.eval ++ vs).size ≤ fn.ntmps := by
    have : c.args.size + cs.length ≤ fn.ntmps := ha
    simp
    omega
  have h2 : Rel (ghosts a1 gh) w0 F0 F1 ρ1 (fun id => n0 ≤ id) ⟨inT (c.args.toList.map (aval s1.t) ++ cs) s1.t, s1.h, n0, fn.ntmps⟩
      { tmps := (c.args.map a1.eval ++ vs) ++ Array.replicate (fn.ntmps - (c.args.map a1.eval ++ vs).size) undef, defers := [] } w1 := by
    refine ⟨rfl, ?_, hm, h1.below, h1.Fb, h1.F0F, h1.Fnew, fun t => ?_, h1.blks, h1.inj, h1.fresh⟩
    · rw [Array.size_append, Array.size_replicate]
      show _ = fn.ntmps
      omega
    · show VR w1 F1 ρ1 _ (bif Nat.blt t 1000000 then getA (c.args.toList.map (aval s1.t) ++ cs) t else s1.t (t - 1000000))
      cases hb : Nat.blt t 1000000 with
      | true =>
        have ht : t < 1000000 := Nat.blt_eq.mp hb
        rw [gval_lt ht]
        show VR w1 F1 ρ1 _ (getA (c.args.toList.map (aval s1.t) ++ cs) t)
        rw [getA_eq]
        have hal : (c.args.toList.map (aval s1.t)).length = c.args.size := by simp
        by_cases hta : t < c.args.size
        · have e0 : c.args.toList[t]? = some c.args[t] := by rw [Array.getElem?_toList]; exact Array.getElem?_eq_getElem hta
          have e1 : (c.args.toList.map (aval s1.t) ++ cs).getD t .any = aval s1.t c.args[t] := by
            rw [List.getD_eq_getElem?_getD, List.getElem?_append_left (by omega), List.getElem?_map, e0]; rfl
          have e2 : ((c.args.map a1.eval ++ vs) ++ Array.replicate (fn.ntmps - (c.args.map a1.eval ++ vs).size) undef).getD t undef = a1.eval c.args[t] := by
            simp only [Array.getD_eq_getD_getElem?]
            rw [Array.getElem?_append_left (by rw [Array.size_append, Array.size_map]; omega), Array.getElem?_append_left (by rw [Array.size_map]; exact hta)]
            simp [hta]
          rw [e1, e2]
          exact h1.aval _
        · by_cases htb : t < c.args.size + cs.length
          · have hi : t - c.args.size < cs.length := by omega
            have e1 : (c.args.toList.map (aval s1.t) ++ cs).getD t .any = cs[t - c.args.size] := by
              rw [List.getD_eq_getElem?_getD, List.getElem?_append_right (by omega), hal, List.getElem?_eq_getElem hi]; rfl
            have e2 : ((c.args.map a1.eval ++ vs) ++ Array.replicate (fn.ntmps - (c.args.map a1.eval ++ vs).size) undef).getD t undef = vs.getD (t - c.args.size) undef := by
              simp only [Array.getD_eq_getD_getElem?]
              rw [Array.getElem?_append_left (by rw [Array.size_append, Array.size_map]; omega), Array.getElem?_append_right (by rw [Array.size_map]; omega), Array.size_map]
            rw [e1, e2]
            exact hcs _ _ (List.getElem?_eq_getElem hi)
          · have e1 : (c.args.toList.map (aval s1.t) ++ cs).getD t .any = .any := by
              rw [List.getD_eq_getElem?_getD, List.getElem?_eq_none (by rw [List.length_append]; omega)]; rfl
            rw [e1]
            exact .any _
      | false =>
        have ht : ¬ t < 1000000 := fun h => by rw [Nat.blt_eq.mpr h] at hb; cases hb
        have e : ∀ a', gval a' (ghosts a1 gh) t = gval a1 gh (t - 1000000) := fun a' => by
          have hg := ghosts_get a1 gh (t - 1000000)
          rw [← hg]
          exact if_neg ht
        rw [e]
        exact h1.vals _
  refine wp_mono (hsw (ghosts a1 gh) w0 F0 _ w1 ⟨F1, ρ1, h2⟩) ?_
  rintro e a2 w2 ⟨s2, ⟨he, vs2, hvs, hQ⟩, hm2, F2, ρ2, h3⟩
  obtain ⟨vals, g1, g2, g3⟩ := run_results hT h3 fn vs2 hvs
  have h4 : Rel gh w0 F0 F2 ρ2 (fun id => s2.n ≤ id) ⟨outT s2.t, s2.h, s2.n, s1.m⟩ a1 w2 := by
    refine ⟨h1.defers, h1.size, h1.mle, h3.below, h3.Fb, h3.F0F, h3.Fnew, fun t => ?_, h3.blks, h3.inj, h3.fresh⟩
    have hv := h3.vals (1000000 + t)
    rw [gval_ge, ghosts_get] at hv
    exact hv
  have hd := h4.putd (one_ok g2 g3) o.dst hdst
  have fin : a2.defers = [] ∧ ∃ v, (results fn a2.tmps).run P w2 = .ok v w2 ∧ K (a1.put o.dst v) w2 := ⟨h3.defers, _, g1, hK _ _ _ hQ rfl ⟨F2, ρ2, hd⟩⟩
  rcases he with rfl | rfl
  · exact fin
  · exact fin

/-- What comes of a step may be forgotten in part. -/
theorem Stp.norm {P : Program} {o : Oper} {K' : St → Prop} {s1 : St} {n0 : Nat} (h : Stp P o (fun s3 => ∃ s4, Wk s3 s4 ∧ s4.m = s3.m ∧ K' s4) s1 n0) : Stp P o K' s1 n0 :=
  fun gh w0 F0 F1 ρ1 a1 w1 K Q h1 hK => h _ _ _ _ _ _ _ _ _ h1 fun s3 a' w' ⟨s4, hw, hm, hk⟩ hm3 hx => hK s4 a' w' hk (hm.trans hm3) (hw _ _ _ _ _ hx)
/-- A closure's call, by what is known ahead of it and behind it. -/
theorem Stp.cloM {P : Program} {TT : Nat → Option TI} (hT : TTok P TT) {s1 : St} {n0 : Nat} {o : Oper} {c : Call} {g : Operand} {f : Nat} {cs : List AV} {fn : Func} {body : Code} {K' : St → Prop}
    (ho : o.op = .call c) (hc : c.callee = .value g) (hg : aval s1.t g = .clo f cs) (hf : P.funcs[f]? = some fn) (hb : fn.body = some body)
    (henter : ∀ (vals : Array Value) (w : World), (callFunc f vals).run P w = .ok (.enter f vals) w) (hm : fn.ntmps ≤ 1000000) (ha : c.args.toList.length + cs.length ≤ fn.ntmps) (hdst : dstOk o.dst s1.m = true)
    (ts : List (Nat × AV)) (hs : List (Nat × LB)) (n m : Nat) (hmm : fn.ntmps = m) (hin : Wk ⟨inT (c.args.toList.map (aval s1.t) ++ cs) s1.t, s1.h, n0, fn.ntmps⟩ (mkS ts hs n m)) (ts2 : List (Nat × AV)) (hs2 : List (Nat × LB)) (n2 m2 : Nat) (hm2 : s1.m = m2)
    (hrun : SW P body (fun e s2 => (e = .ret ∨ e = .normal) ∧ ∃ vs, ares TT s2.t s2.h fn.results.toList = some vs ∧ Wk ⟨putT (outT s2.t) o.dst (oneV vs), s2.h, s2.n, s1.m⟩ (mkS ts2 hs2 n2 m2)) (mkS ts hs n m)) (hK' : K' (mkS ts2 hs2 n2 m2)) : Stp P o K' s1 n0 :=
  Stp.norm (Stp.clo hT ho hc hg hf hb henter hm ha hdst (SW.weak hin hmm.symm (SW.mono hrun fun e s2 ⟨he, vs, hvs, hW⟩ => ⟨he, vs, hvs, _, hW, hm2.symm, hK'⟩)))

/-- A call gone through in place, by what is known ahead of it and behind it. -/
theorem Stp.innM {P : Program} {TT : Nat → Option TI} (hT : TTok P TT) {s1 : St} {n0 : Nat} {o : Oper} {c : Call} {f : Nat} {fn : Func} {body : Code} {K' : St → Prop}
    (ho : o.op = .call c) (hc : c.callee = .value (.func f)) (hf : P.funcs[f]? = some fn) (hb : fn.body = some body)
    (henter : ∀ (vals : Array Value) (w : World), (callFunc f vals).run P w = .ok (.enter f vals) w) (hm : fn.ntmps ≤ 1000000) (ha : c.args.toList.length ≤ fn.ntmps) (hdst : dstOk o.dst s1.m = true)
    (ts : List (Nat × AV)) (hs : List (Nat × LB)) (n m : Nat) (hmm : fn.ntmps = m) (hin : Wk ⟨inT (c.args.toList.map (aval s1.t)) s1.t, s1.h, n0, fn.ntmps⟩ (mkS ts hs n m)) (ts2 : List (Nat × AV)) (hs2 : List (Nat × LB)) (n2 m2 : Nat) (hm2 : s1.m = m2)
    (hrun : SW P body (fun e s2 => (e = .ret ∨ e = .normal) ∧ ∃ vs, ares TT s2.t s2.h fn.results.toList = some vs ∧ Wk ⟨putT (outT s2.t) o.dst (oneV vs), s2.h, s2.n, s1.m⟩ (mkS ts2 hs2 n2 m2)) (mkS ts hs n m)) (hK' : K' (mkS ts2 hs2 n2 m2)) : Stp P o K' s1 n0 :=
  Stp.norm (Stp.inn hT ho hc hf hb henter hm ha hdst (SW.weak hin hmm.symm (SW.mono hrun fun e s2 ⟨he, vs, hvs, hW⟩ => ⟨he, vs, hvs, _, hW, hm2.symm, hK'⟩)))

/-- A value with nothing of memory in it. -/
def flat1 : AV → Bool
  | .val _ => true
  | _ => false
def flat : AV → Bool
  | .tup cs => cs.all flat1
  | x => flat1 x
theorem flat1_vr {w w' : World} {F F' : Nat → Prop} {ρ ρ' : Nat → Option BI} {v : Value} {x : AV} (h : flat1 x = true) (hv : VR w F ρ v x) : VR w' F' ρ' v x := by
  cases x with
  | val u => cases hv; exact .val _
  | _ => cases h
theorem flat_vr {w w' : World} {F F' : Nat → Prop} {ρ ρ' : Nat → Option BI} {v : Value} {x : AV} (h : flat x = true) (hv : VR w F ρ v x) : VR w' F' ρ' v x := by
  cases x with
  | tup cs =>
    cases hv with
    | tup vs _ h1 h2 => exact .tup vs cs h1 fun i x hx => flat1_vr (List.all_eq_true.1 h x (List.mem_of_getElem? hx)) (h2 i x hx)
  | val u => cases hv; exact .val _
  | _ => cases h
/-- A call whose callee only looks at what it is lent: the live blocks stay live. -/
theorem Stp.bor {P : Program} {s1 : St} {n0 : Nat} {o : Oper} {c : Call} {f : Nat} {K' : St → Prop} (ho : o.op = .call c) (hc : c.callee = .value (.func f)) {args : List AV} {ps : List Prop} {u : Ups} {acc : Accs}
    (hfz : frzA s1.h (c.args.toList.map (aval s1.t)) = some (args, ps, u, acc)) (hp : allP ps) {r : AV} (hA : AC P f args (.pure r)) (hr : flat r = true) (hdst : dstOk o.dst s1.m = true)
    (hK' : K' ⟨putT s1.t o.dst r, s1.h, n0, s1.m⟩) : Stp P o K' s1 n0 := by
  intro gh w0 F0 F1 ρ1 a1 w1 K Q hR hK
  obtain ⟨F2, g1, g2, g3, g4⟩ := frzA_ok (c.args.toList.map (aval s1.t)) args (c.args.toList.map a1.eval) s1 F1 ps u acc hR (by simp) (fun i x hx => by
    rw [List.getElem?_map] at hx
    cases hi : c.args.toList[i]? with
    | none => simp [hi] at hx
    | some y =>
      simp [hi] at hx
      subst hx
      have : (c.args.toList.map a1.eval).getD i undef = a1.eval y := by simp only [List.getD, List.getElem?_map, hi, Option.map_some, Option.getD_some]
      rw [this]
      exact hR.aval y) hfz hp hA.noid
  have hvals : (c.args.map a1.eval).size = args.length := by rw [g3]; simp
  have hcall := hA.calls w1 F2 (c.args.map a1.eval) g2.Fb hvals (fun i x hx => by
    have h1 := g4 i x hx
    have e : (c.args.toList.map a1.eval).getD i undef = (c.args.map a1.eval).getD i undef := by
      simp only [List.getD, Array.getD_eq_getD_getElem?, List.getElem?_map, Array.getElem?_map, Array.getElem?_toList]
    rw [e] at h1
    exact h1.noid (hA.noid x (List.mem_of_getElem? hx)))
  have hexec : (execOp a1.eval o).run P w1 = .ok (.enter f (c.args.map a1.eval)) w1 := by
    simp [execOp, ho, resolve, hc, Deferred.ofValue, Act.eval, invoke, hA.enter]
  unfold Oper.wp
  rw [hexec]
  simp only [Oper.upon]
  refine hcall.mono ?_
  rintro e w' ⟨v, rfl, hb, hret⟩
  obtain ⟨hno, F', k1, k2, k3, k4⟩ := hret
  have hw := hR.world hb.size (fun k hk => hb.block k hk) hb.os hb.tape hb.output
  exact hK _ _ _ hK' rfl ⟨F1, ρ1, ((hw.setN n0).putd (flat_vr hr k4) o.dst hdst)⟩

/-- A region in which one operation's step is told by itself. -/
theorem SW.regionAt {P : Program} {TT : Nat → Option TI} (hT : TTok P TT) {Q : Exit → St → Prop} {s : St} {id : Nat} {ops : Array Oper} (k : Nat) (o : Oper)
    (hops : ops.toList = ops.toList.take k ++ o :: ops.toList.drop (k + 1)) (hk : (ops.toList.take k).length = k) (hg : o.guard = none)
    (h : aopsF P TT ops.toList (ops.toList.take k) 0 (fun s1 => Stp P o (fun s3 => aopsF P TT ops.toList (ops.toList.drop (k + 1)) (k + 1) (fun s4 => Q .normal ⟨s4.t, s4.h, s4.n + 8 * ops.toList.length, s4.m⟩) s3) s1 (s1.n + 8 * ops.toList.length)) s) : SW P (.region id ops false) Q s := by
  simp only [aopsF_eq] at h
  obtain ⟨l1, hl1⟩ : ∃ l, l = ops.toList.take k := ⟨_, rfl⟩
  obtain ⟨l2, hl2⟩ : ∃ l, l = ops.toList.drop (k + 1) := ⟨_, rfl⟩
  rw [← hl1, ← hl2] at hops h
  rw [← hl1] at hk
  unfold SW
  intro gh w0 F0 a w hR
  obtain ⟨F, ρ, hR'⟩ := hR
  refine wp_region ?_
  have := aops_pre (Q := fun e a w => ∃ s', Q e s' ∧ s'.m = s.m ∧ RelE gh w0 F0 s' a w) hT (ops := ops) s.n s.m (o :: l2) (fun i s1 a1 w1 hi hk1 hn hm1 hx => ?_) l1 0 s a w F ρ (by simpa using hops) (by rw [hops]; simp) rfl rfl h (by simpa using hR')
  · rw [show l1.length + (o :: l2).length = ops.size by rw [← Array.length_toList, hops]; simp] at this
    simpa [List.range_eq_range'] using this
  obtain ⟨F1, ρ1, h1⟩ := hx
  have hl : i = k := by rw [hops] at hi; simp at hi; omega
  have hoi : ops[i]? = some o := by
    rw [← Array.getElem?_toList, hops, hl, ← hk]
    simp
  rw [List.length_cons, List.range'_succ]
  have hw : Region.wanted o (yielded ops a1.tmps) = true := by simp [Region.wanted, hg]
  simp only [wpOps, hoi]
  rw [if_pos hw]
  refine .inl (hk1 _ _ _ _ _ _ _ _ _ (h1.mono_fr fun id hid => ?_) fun s3 a' w' hQ hm3 hx3 => ?_)
  · have hid : s1.n + 8 * ops.toList.length ≤ id := hid
    rw [hn] at hid
    show s.n + 8 * i ≤ id
    have : i ≤ ops.toList.length := by omega
    omega
  · obtain ⟨F2, ρ2, h5⟩ := hx3
    have hend := aops_pre (Q := fun e a w => ∃ s', Q e s' ∧ s'.m = s.m ∧ RelE gh w0 F0 s' a w) hT (ops := ops) s3.n s1.m [] (fun i' s4 a4 w4 hi4 hk4 hn4 hm4 hx4 => by
      obtain ⟨F3, ρ3, h6⟩ := hx4
      show ∃ s', Q .normal s' ∧ s'.m = s.m ∧ RelE gh w0 F0 s' a4 w4
      refine ⟨⟨s4.t, s4.h, s4.n + 8 * ops.toList.length, s4.m⟩, hk4, by rw [← hm1]; exact hm4, F3, ρ3, (h6.setN _).mono_fr fun id hid => ?_⟩
      have hid : s4.n + 8 * ops.toList.length ≤ id := hid
      rw [hn4] at hid
      have : i' ≤ ops.toList.length := by rw [← hi4]; exact Nat.le_add_right _ _
      show s3.n + 8 * i' ≤ id
      omega) l2 (k + 1) s3 a' w' F2 ρ2 (by rw [hops, List.append_nil, ← hk]; simp) (by rw [hops, List.length_append, List.length_cons, List.length_nil]; omega) rfl hm3 hQ (h5.mono_fr fun id hid => by
      have hid : s3.n + 8 * (k + 1) ≤ id := hid
      show s3.n ≤ id
      omega)
    rw [List.length_nil, Nat.add_zero, ← hl] at hend
    exact hend
end Go.AL

namespace Go.Proofs.Ytcdeiegpeiodjaa
open Go Go.AL
section

theorem dig_zero : ∀ v : List Int, dig v 0 = List.replicate v.length 0
  | [] => rfl
  | d :: v => by
    show ((0 / pr v : Nat) : Int) :: dig v (0 % pr v) = _
    rw [Nat.zero_div, Nat.zero_mod, dig_zero v]
    rfl
theorem odo_a {i p : Nat} (hm : i % p + 1 = p) : i + 1 = p * (i / p + 1) := by
  have h := Nat.div_add_mod i p
  rw [Nat.mul_add, Nat.mul_one]
  omega
section
variable {s : List Int} {k : Nat} (hk : k < s.length)
include hk
theorem pr_mid : pr s = pr (s.take k) * (s[k].toNat * pr (s.drop (k + 1))) := by
  have h := pr_append (s.take k) (s[k] :: s.drop (k + 1))
  rw [← mid_split hk] at h
  exact h
variable (i : Nat) (hi : i < pr s)
include hi
theorem dig_mid : dig s i = dig (s.take k) (i / pr (s.drop (k + 1)) / s[k].toNat) ++ ((i / pr (s.drop (k + 1)) % s[k].toNat : Nat) : Int) :: dig (s.drop (k + 1)) (i % pr (s.drop (k + 1))) := by
  have e := mid_split hk
  have hi' : i < pr (s.take k ++ s[k] :: s.drop (k + 1)) := by rw [← e]; exact hi
  have h := dig_append (s.take k) (s[k] :: s.drop (k + 1)) i hi'
  rw [← e] at h
  rw [h]
  show dig (s.take k) (i / (s[k].toNat * pr (s.drop (k + 1)))) ++ ((i % (s[k].toNat * pr (s.drop (k + 1))) / pr (s.drop (k + 1)) : Nat) : Int) :: dig (s.drop (k + 1)) (i % (s[k].toNat * pr (s.drop (k + 1))) % pr (s.drop (k + 1))) = _
  rw [Nat.mod_mul_left_mod, Nat.mod_mul_left_div_self, Nat.div_div_eq_div_mul, Nat.mul_comm (pr (s.drop (k + 1)))]
theorem dig_take : (dig s i).take k = dig (s.take k) (i / pr (s.drop (k + 1)) / s[k].toNat) := by
  rw [dig_mid hk i hi]
  exact List.take_left' (by rw [dig_len, List.length_take]; omega)
theorem dig_at (h : k < (dig s i).length) : (dig s i)[k] = ((i / pr (s.drop (k + 1)) % s[k].toNat : Nat) : Int) := by
  have e := dig_mid hk i hi
  have l : (dig (s.take k) (i / pr (s.drop (k + 1)) / s[k].toNat)).length = k := by rw [dig_len, List.length_take]; omega
  have g : (dig s i)[k]? = some ((i / pr (s.drop (k + 1)) % s[k].toNat : Nat) : Int) := by
    rw [e, List.getElem?_append_right (by omega), l, Nat.sub_self]
    rfl
  rw [List.getElem?_eq_getElem h] at g
  exact Option.some.inj g
variable (hm : i % pr (s.drop (k + 1)) + 1 = pr (s.drop (k + 1)))
include hm
/-- A digit goes up; those behind it are zero. -/
theorem odo_next (h : k < (dig s i).length) (hq : (dig s i)[k] + 1 < s[k]) : (dig s i).take k ++ ((dig s i)[k] + 1) :: List.replicate (s.length - (k + 1)) 0 = dig s (i + 1) ∧ i + 1 < pr s := by
  rw [dig_at hk i hi h] at hq ⊢
  rw [dig_take hk i hi]
  have ha := odo_a hm
  have hp := pr_mid hk
  generalize hv : s.drop (k + 1) = v at *
  generalize hd : s[k] = d at *
  generalize hu : s.take k = u at *
  obtain ⟨a, hae⟩ : ∃ a, a = i / pr v := ⟨_, rfl⟩
  rw [← hae] at hq ha ⊢
  have hpv : 0 < pr v := by omega
  have hq' : a % d.toNat + 1 < d.toNat := by omega
  have e1 : (i + 1) / pr v = a + 1 := by rw [ha, Nat.mul_div_cancel_left _ hpv]
  have e2 : (i + 1) % pr v = 0 := by rw [ha, Nat.mul_mod_right]
  have d0 := Nat.div_add_mod a d.toNat
  have e3 : (a + 1) / d.toNat = a / d.toNat := by
    rw [show a + 1 = d.toNat * (a / d.toNat) + (a % d.toNat + 1) by omega, Nat.mul_add_div (by omega), Nat.div_eq_of_lt hq', Nat.add_zero]
  have e4 : (a + 1) % d.toNat = a % d.toNat + 1 := by
    rw [show a + 1 = d.toNat * (a / d.toNat) + (a % d.toNat + 1) by omega, Nat.mul_add_mod, Nat.mod_eq_of_lt hq']
  have hlt : i + 1 < pr s := by
    have h1 : a < pr u * d.toNat := by
      rw [hp, ← Nat.mul_assoc, Nat.mul_comm _ (pr v)] at hi
      rw [hae]
      exact Nat.div_lt_of_lt_mul hi
    have h2 : a / d.toNat < pr u := Nat.div_lt_of_lt_mul (by rw [Nat.mul_comm]; exact h1)
    have h3 : a + 1 < pr u * d.toNat := by
      have : (a / d.toNat + 1) * d.toNat ≤ pr u * d.toNat := Nat.mul_le_mul_right _ h2
      rw [Nat.add_mul, Nat.one_mul, Nat.mul_comm _ d.toNat] at this
      omega
    rw [ha, hp, ← Nat.mul_assoc, Nat.mul_comm _ (pr v)]
    exact Nat.mul_lt_mul_of_pos_left h3 hpv
  refine ⟨?_, hlt⟩
  have g := dig_mid hk (i + 1) hlt
  have lv : v.length = s.length - (k + 1) := by rw [← hv, List.length_drop]
  rw [hv, hd, hu, e1, e2, e3, e4, dig_zero, lv] at g
  exact g.symm
/-- A digit is at its end. -/
theorem odo_full (h : k < (dig s i).length) (h0 : 0 ≤ s[k]) (hq : ¬ (dig s i)[k] + 1 < s[k]) : i % pr (s.drop k) + 1 = pr (s.drop k) := by
  rw [dig_at hk i hi h] at hq
  have hp := pr_mid hk
  have ev : pr (s.drop k) = s[k].toNat * pr (s.drop (k + 1)) := by rw [List.drop_eq_getElem_cons hk]; rfl
  rw [ev]
  generalize pr (s.drop (k + 1)) = p at *
  generalize hd : s[k] = d at *
  have hd0 : 0 < d.toNat := Nat.pos_of_ne_zero fun e => by rw [hp, e, Nat.zero_mul, Nat.mul_zero] at hi; omega
  have hr := Nat.mod_lt (i / p) hd0
  have hq' : i / p % d.toNat + 1 = d.toNat := by omega
  have hp0 : 0 < p := by omega
  have e := Nat.mod_mul (x := i) (a := p) (b := d.toNat)
  rw [Nat.mul_comm p] at e
  rw [e]
  have : p * (i / p % d.toNat) + p = d.toNat * p := by
    rw [← Nat.mul_succ, show (i / p % d.toNat).succ = d.toNat from hq', Nat.mul_comm]
  omega
end
end
end Go.Proofs.Ytcdeiegpeiodjaa

namespace Go.Proofs.Ytcdeiegpeiodjaa
open Go Go.AL NM
section

/-- What is told of an index's place. -/
def plT (n : Int) : AV := .tup [.val (.int .i64 (if n = -1 then 0 else n)), .val (.bool (decide (n ≠ -1)))]
theorem ShPlace_ok (s idx : List Int) (hv : vS s) (hl : idx.length = s.length) : AC Try.prog 50 [.sl 1 (irows .i64 s) false, .sl 1 (irows .i64 idx) false] (.pure (plT (plS 0 s idx))) := by
  have h8 := hv.1
  have ls := irows_len .i64 s
  have li := irows_len .i64 idx
  have hC := Count_ok s (by omega)
  rw [CNT_good hv, (vS_pr hv).1] at hC
  obtain ⟨res, hres⟩ : ∃ res, res = plS 0 s idx := ⟨_, rfl⟩
  rw [← hres]
  have bad : plT (-1) = .tup [.val (.int .i64 0), .val (.bool false)] := rfl
  refine AC.of_body TTok Try.func50 rfl (enter_of Try.func50 (by kernel_rfl) (by kernel_rfl)) (noid2 (noid_sl _ _ _) (noid_sl _ _ _)) (.tup _ (noid2 (.val _) (.val _))) (Nat.le_of_ble_eq_true rfl) ?_
  conv => whnf
  refine ⟨_, hC, ?_⟩
  conv => whnf
  first
    | refine caseb (fun h => absurd (bne_iff_ne.1 h) (by omega)) (fun _ => ?_)
    | refine caseb (fun _ => ?_) (fun h => absurd (bne_eq_false_iff_eq.1 h) (by omega))
  conv => whnf
  refine SW.loopM TTok (fun x : Nat × Int => [(0, .sl 1 (irows .i64 s) false), (1, .sl 1 (irows .i64 idx) false), (8, .val (.int .i64 x.2)), (25, .sl 1 (irows .i64 s) false), (26, .val (.int .i64 ((irows .i64 s).length : Nat))), (27, .val (.int .i64 (x.1 : Int)))]) (fun _ => []) 176 55 rfl (fun x => s.length - x.1) (fun x => x.1 ≤ s.length ∧ plB s x.1 x.2 ∧ plS x.2 (s.drop x.1) (idx.drop x.1) = res) (0, 0) [] ⟨Nat.zero_le _, ⟨Int.le_refl _, by show (0 : Int) < 1; decide⟩, hres.symm⟩
    ⟨⟨rfl, rfl⟩, ⟨rfl, rfl⟩, ⟨rfl, rfl⟩, ⟨rfl, rfl⟩, ⟨rfl, rfl⟩, ⟨rfl, rfl⟩, trivial⟩ trivial rfl ?_
  rintro ⟨i, n⟩ ⟨hi, hB, hP⟩
  have hi : i ≤ s.length := hi
  have hP : plS n (s.drop i) (idx.drop i) = res := hP
  have hB : plB s i n := hB
  obtain ⟨b0, b1⟩ := plB_small hv hB
  by_cases hlt : i < s.length
  · have eI : IntKind.i64.wrap ((i : Int) + 1) = ((i + 1 : Nat) : Int) := by rw [IntWalk.i64_in _ (by omega)]; omega
    have hlx : i < idx.length := by omega
    have hg1 : (irows .i64 s)[i]? = some [.val (.int .i64 s[i])] := irows_get .i64 s (List.getElem?_eq_getElem hlt)
    have hg2 : (irows .i64 idx)[i]? = some [.val (.int .i64 idx[i])] := irows_get .i64 idx (List.getElem?_eq_getElem hlx)
    rw [List.drop_eq_getElem_cons hlt, List.drop_eq_getElem_cons hlx] at hP
    have hd4 := vS_dim hv (List.getElem_mem hlt)
    obtain ⟨a, ha⟩ : ∃ a, a = idx[i] := ⟨_, rfl⟩
    obtain ⟨d, hd⟩ : ∃ d, d = s[i] := ⟨_, rfl⟩
    rw [← ha, ← hd] at hP
    rw [← ha] at hg2
    rw [← hd] at hg1 hd4
    by_cases h0 : a < 0
    · rw [plS_neg _ _ _ _ _ (.inl h0)] at hP
      rw [← hP, bad]
      conv => whnf
      first
        | refine caseb (fun _ => ?_) (fun h => absurd (of_decide_eq_false h) (by omega))
        | refine caseb (fun h => absurd (of_decide_eq_true h) (by omega)) (fun _ => ?_)
        | refine caseb (fun _ => ?_) (fun h => absurd (beq_eq_false_iff_ne.1 h) (by omega))
        | refine caseb (fun h => absurd (eq_of_beq h) (by omega)) (fun _ => ?_)
      conv => whnf
      refine ⟨_, ⟨by omega, by rw [Int.toNat_natCast]; exact hg1⟩, ?_⟩
      conv => whnf
      refine ⟨_, ⟨by omega, by rw [Int.toNat_natCast]; exact hg2⟩, ?_⟩
      conv => whnf
      first
        | refine caseb (fun _ => ?_) (fun h => absurd (of_decide_eq_false h) (by omega))
        | refine caseb (fun h => absurd (of_decide_eq_true h) (by omega)) (fun _ => ?_)
        | refine caseb (fun _ => ?_) (fun h => absurd (beq_eq_false_iff_ne.1 h) (by omega))
        | refine caseb (fun h => absurd (eq_of_beq h) (by omega)) (fun _ => ?_)
      repeat
        conv => whnf
        first
          | refine ⟨_, by assumption, ?_⟩
          | refine ⟨(Nat.le_of_ble_eq_true rfl), _, by assumption, ?_⟩
          | refine ⟨by kernel_rfl, ?_⟩
          | exact rfl
          | exact ⟨Nat.le_of_ble_eq_true rfl, rfl⟩
          | refine ⟨by decide, ?_⟩
    · by_cases h1 : d ≤ a
      · rw [plS_neg _ _ _ _ _ (.inr h1)] at hP
        rw [← hP, bad]
        conv => whnf
        first
          | refine caseb (fun _ => ?_) (fun h => absurd (of_decide_eq_false h) (by omega))
          | refine caseb (fun h => absurd (of_decide_eq_true h) (by omega)) (fun _ => ?_)
          | refine caseb (fun _ => ?_) (fun h => absurd (beq_eq_false_iff_ne.1 h) (by omega))
          | refine caseb (fun h => absurd (eq_of_beq h) (by omega)) (fun _ => ?_)
        conv => whnf
        refine ⟨_, ⟨by omega, by rw [Int.toNat_natCast]; exact hg1⟩, ?_⟩
        conv => whnf
        refine ⟨_, ⟨by omega, by rw [Int.toNat_natCast]; exact hg2⟩, ?_⟩
        conv => whnf
        first
          | refine caseb (fun _ => ?_) (fun h => absurd (of_decide_eq_false h) (by omega))
          | refine caseb (fun h => absurd (of_decide_eq_true h) (by omega)) (fun _ => ?_)
          | refine caseb (fun _ => ?_) (fun h => absurd (beq_eq_false_iff_ne.1 h) (by omega))
          | refine caseb (fun h => absurd (eq_of_beq h) (by omega)) (fun _ => ?_)
        conv => whnf
        refine ⟨_, ⟨by omega, by rw [Int.toNat_natCast]; exact hg2⟩, ?_⟩
        conv => whnf
        first
          | refine caseb (fun _ => ?_) (fun h => absurd (of_decide_eq_false h) (by omega))
          | refine caseb (fun h => absurd (of_decide_eq_true h) (by omega)) (fun _ => ?_)
          | refine caseb (fun _ => ?_) (fun h => absurd (beq_eq_false_iff_ne.1 h) (by omega))
          | refine caseb (fun h => absurd (eq_of_beq h) (by omega)) (fun _ => ?_)
        repeat
          conv => whnf
          first
            | refine ⟨_, by assumption, ?_⟩
            | refine ⟨(Nat.le_of_ble_eq_true rfl), _, by assumption, ?_⟩
            | refine ⟨by kernel_rfl, ?_⟩
            | exact rfl
            | exact ⟨Nat.le_of_ble_eq_true rfl, rfl⟩
            | refine ⟨by decide, ?_⟩
      · have hst := plB_step hv hlt hB (a := a) (by omega) (by rw [← hd]; omega)
        rw [← hd] at hst
        obtain ⟨c0, c1⟩ := plB_small hv hst
        have m0 : 0 ≤ n * d := Int.mul_nonneg b0 (by omega)
        have eN : IntKind.i64.wrap (IntKind.i64.wrap (n * d) + a) = n * d + a := by rw [IntWalk.i64_in (n * d) (by omega), IntWalk.i64_in _ (by omega)]
        have hP' : (if a < 0 ∨ d ≤ a then -1 else plS (n * d + a) (s.drop (i + 1)) (idx.drop (i + 1))) = res := hP
        rw [if_neg (by omega)] at hP'
        conv => whnf
        first
          | refine caseb (fun _ => ?_) (fun h => absurd (of_decide_eq_false h) (by omega))
          | refine caseb (fun h => absurd (of_decide_eq_true h) (by omega)) (fun _ => ?_)
          | refine caseb (fun _ => ?_) (fun h => absurd (beq_eq_false_iff_ne.1 h) (by omega))
          | refine caseb (fun h => absurd (eq_of_beq h) (by omega)) (fun _ => ?_)
        conv => whnf
        refine ⟨_, ⟨by omega, by rw [Int.toNat_natCast]; exact hg1⟩, ?_⟩
        conv => whnf
        refine ⟨_, ⟨by omega, by rw [Int.toNat_natCast]; exact hg2⟩, ?_⟩
        conv => whnf
        first
          | refine caseb (fun _ => ?_) (fun h => absurd (of_decide_eq_false h) (by omega))
          | refine caseb (fun h => absurd (of_decide_eq_true h) (by omega)) (fun _ => ?_)
          | refine caseb (fun _ => ?_) (fun h => absurd (beq_eq_false_iff_ne.1 h) (by omega))
          | refine caseb (fun h => absurd (eq_of_beq h) (by omega)) (fun _ => ?_)
        conv => whnf
        refine ⟨_, ⟨by omega, by rw [Int.toNat_natCast]; exact hg2⟩, ?_⟩
        conv => whnf
        first
          | refine caseb (fun _ => ?_) (fun h => absurd (of_decide_eq_false h) (by omega))
          | refine caseb (fun h => absurd (of_decide_eq_true h) (by omega)) (fun _ => ?_)
          | refine caseb (fun _ => ?_) (fun h => absurd (beq_eq_false_iff_ne.1 h) (by omega))
          | refine caseb (fun h => absurd (eq_of_beq h) (by omega)) (fun _ => ?_)
        conv => whnf
        refine ⟨_, ⟨by omega, by rw [Int.toNat_natCast]; exact hg2⟩, ?_⟩
        conv => whnf
        exact ⟨(i + 1, n * d + a), [], (by show s.length - (i + 1) < s.length - i; omega), ⟨hlt, hst, hP'⟩, ⟨⟨rfl, rfl⟩, ⟨rfl, rfl⟩, ⟨valI eN, rfl⟩, ⟨rfl, rfl⟩, ⟨rfl, rfl⟩, ⟨valI eI, rfl⟩, trivial⟩, trivial, rfl⟩
  · have hie : i = s.length := by omega
    have e1 : s.drop i = [] := List.drop_of_length_le (by omega)
    have e2 : idx.drop i = [] := List.drop_of_length_le (by omega)
    rw [e1, e2] at hP
    have hP : n = res := hP
    subst hP
    have e : plT n = .tup [.val (.int .i64 n), .val (.bool true)] := by
      unfold plT
      rw [if_neg (by omega), decide_eq_true (by omega)]
    rw [e]
    conv => whnf
    first
      | refine caseb (fun _ => ?_) (fun h => absurd (of_decide_eq_false h) (by omega))
      | refine caseb (fun h => absurd (of_decide_eq_true h) (by omega)) (fun _ => ?_)
      | refine caseb (fun _ => ?_) (fun h => absurd (beq_eq_false_iff_ne.1 h) (by omega))
      | refine caseb (fun h => absurd (eq_of_beq h) (by omega)) (fun _ => ?_)
    repeat
      conv => whnf
      first
        | refine ⟨_, by assumption, ?_⟩
        | refine ⟨(Nat.le_of_ble_eq_true rfl), _, by assumption, ?_⟩
        | refine ⟨by kernel_rfl, ?_⟩
        | exact rfl
        | exact ⟨Nat.le_of_ble_eq_true rfl, rfl⟩
        | refine ⟨by decide, ?_⟩
end
section

/-- An element: its kind, its sign, its number. -/
abbrev El := Bool × Int × Rat
def numE (q : Rat) : El := (false, 0, q)
def pairE (c most : Int) (x y : El) : Rat × Int := pairV c x.1 y.1 x.2.1 y.2.1 x.2.2 y.2.2 most
/-- Elements brought together, from the last one on; the error. -/
def foldE (c most : Int) : List El → El × Int
  | [] => (numE 0, 0)
  | x :: l => match l with
    | [] => (x, 0)
    | _ :: _ => if (foldE c most l).2 ≠ 0 then (numE 0, (foldE c most l).2)
      else if (pairE c most x (foldE c most l).1).2 ≠ 0 then (numE 0, (pairE c most x (foldE c most l).1).2) else (numE (pairE c most x (foldE c most l).1).1, 0)
/-- A list's element. -/
def elA (c : Bool) (tx : List Int) (qs : List Rat) (i : Nat) : El := (c, tx.getD i 0, qs.getD i 0)
/-- The first t elements along an axis (n of them, I elements behind it) at row r. -/
def lineE (c : Bool) (tx : List Int) (qs : List Rat) (t n I r : Nat) : List El := (List.range t).map fun i => elA c tx qs ((r / I * n + i) * I + r % I)
/-- The first error (0: none). -/
def fst0 : List Int → Int
  | [] => 0
  | e :: l => if e ≠ 0 then e else fst0 l
/-- The error of all rows from a place along the axis on. -/
def rowsE (c most : Int) (L : List (List El)) (i : Nat) : Int := fst0 (L.map fun l => (foldE c most (l.drop i)).2)
/-- The first error: from the end on, place by place, row by row. -/
def redE (c most : Int) (L : List (List El)) (n : Nat) : Int := fst0 ((List.range (n - 1)).reverse.map (rowsE c most L))
/-- What a function makes of nothing. -/
def unitQ (c : Int) : Option Int :=
  if c = 43 ∨ c = 45 ∨ c = 124 ∨ c = 60 ∨ c = 62 ∨ c = 8800 ∨ c = 8744 then some 0
  else if c = 215 ∨ c = 247 ∨ c = 42 ∨ c = 33 ∨ c = 8804 ∨ c = 61 ∨ c = 8805 ∨ c = 8743 then some 1 else none
/-- The rows. -/
def rowsL (c : Bool) (tx : List Int) (qs : List Rat) (t n I R : Nat) : List (List El) := (List.range R).map (lineE c tx qs t n I)
/-- The places of a part of an array. -/
def slabL (n I R i : Nat) : List Int := (List.range R).map fun r => (((r / I * n + i) * I + r % I : Nat) : Int)
end
section

end
section

/-- What the program comes to: an array, or the error. -/
def resF (sh : List Int) (ch : Bool) (tx : List Int) (na : List (Option (Rat × Nat))) (E : Int) : AV := if E = 0 then .tup [AA sh ch tx na true, .val (.int .i64 0)] else .tup [AA [] false [] [] false, .val (.int .i64 E)]
/-- What stands at a place along the axis: the elements from there on, brought together. -/
def StF (c most : Int) (rest : List Int) (ch : Bool) (tx : List Int) (qs : List Rat) (t n I R i : Nat) (x : Bool × List Int × List (Option (Rat × Nat))) : Prop :=
  x.1 = (ch && decide (i + 1 = t)) ∧ kinds rest x.1 x.2.1.length x.2.2.length ∧ (∀ o ∈ x.2.2, okX o) ∧ (∀ q ∈ x.2.2.map valX, Sz q 20) ∧ ∀ r, r < R → elA x.1 x.2.1 (x.2.2.map valX) r = (foldE c most ((lineE ch tx qs t n I r).drop i)).1
def slabX (ch : Bool) (tx : List Int) (na : List (Option (Rat × Nat))) (n I R i : Nat) : Bool × List Int × List (Option (Rat × Nat)) :=
  (ch, if ch then (slabL n I R i).map (getT tx) else [], if ch then [] else (slabL n I R i).map (getX na))
section
variable (c most : Int) (hc : isTwo c) (hm : most ≤ 200) (ch : Bool) (tx : List Int) (na : List (Option (Rat × Nat))) (qs : List Rat) (na1 : na.map valX = qs) (oa : ∀ o ∈ na, okX o) (hQ : ∀ q ∈ qs, Sz q 20) (rest : List Int) (hr : vS rest) (n I O : Nat)
  (hR : pr rest = O * I) (h5 : O * I ≤ 500) (k1 : ch = true → na = [] ∧ tx.length = O * (n * I)) (k2 : ch = false → tx = [] ∧ na.length = O * (n * I))
include na1 oa hQ hr hR k1 k2
include hc hm h5
end
end
section

end
section

/-- The whole numbers of a list. -/
theorem AWhole_ok (sh : List Int) (l : List Int) (hl : l.length ≤ 1000) (hI : ∀ n ∈ l, i64b n) : AC Try.prog 10 [AA sh false [] (l.map intX) true] (.pure (.tup [.sl 1 (irows .i64 l) false, .val (.bool true)])) := by
  refine AC.of_body TTok Try.func10 rfl (enter_of Try.func10 (by kernel_rfl) (by kernel_rfl)) (noid1 (AA_noid _ _ _ _ _)) (.tup _ (noid2 (noid_sl _ _ _) (.val _))) (Nat.le_of_ble_eq_true rfl) ?_
  unfold AA
  have lm : ((l.map intX).map rowX).length = l.length := by rw [List.length_map, List.length_map]
  conv => whnf
  refine SW.nil 4 1 rfl ?_
  refine SW.loopM TTok (fun i : Nat => [(1, .lp 0 0), (4, .own 120 0 i), (17, .sl 3 ((l.map intX).map rowX) false), (18, .val (.int .i64 (((l.map intX).map rowX).length : Nat))), (19, .val (.int .i64 (i : Int)))])
    (fun i => [(0, .cells 5 [[.sl 1 (irows .i64 sh) false, .val (.bool false), .sl 1 (irows .i32 []) false, .sl 3 ((l.map intX).map rowX) false, .val (.bool true)]]), (120, .cells 1 (irows .i64 (l.take i)))]) 128 36 rfl (fun i => l.length - i) (fun i => i ≤ l.length) 0 [] (Nat.zero_le _)
    ⟨⟨rfl, rfl⟩, ⟨rfl, rfl⟩, ⟨rfl, rfl⟩, ⟨rfl, rfl⟩, ⟨rfl, rfl⟩, trivial⟩ ⟨⟨rfl, .inr ⟨rfl, rfl⟩⟩, ⟨rfl, .inr ⟨rfl, rfl⟩⟩, trivial⟩ rfl ?_
  intro i hJ
  have hi : i ≤ l.length := hJ
  clear hJ
  have lr : (irows .i64 (l.take i)).length = i := by rw [irows_len, List.length_take]; omega
  by_cases hlt : i < l.length
  · have eI : IntKind.i64.wrap ((i : Int) + 1) = ((i + 1 : Nat) : Int) := by rw [IntWalk.i64_in _ (by omega)]; omega
    have hsn : irows .i64 (l.take i) ++ [[.val (.int .i64 l[i])]] = irows .i64 (l.take (i + 1)) := by
      rw [take_snoc hlt, ← irows_append]; rfl
    have htk : List.take i (List.drop 0 (irows .i64 (l.take i))) = irows .i64 (l.take i) := by rw [List.drop_zero, List.take_of_length_le (by omega)]
    obtain ⟨b1, b2⟩ := hI l[i] (List.getElem_mem hlt)
    have hg : ((l.map intX).map rowX)[i]? = some (rowX (intX l[i])) := by rw [List.getElem?_map, List.getElem?_map, List.getElem?_eq_getElem hlt]; rfl
    rw [intX_row] at hg
    obtain ⟨n, hn⟩ : ∃ n, n = l[i] := ⟨_, rfl⟩
    rw [← hn] at hg hsn b1 b2
    have hR := RInt_ok n 1
    have hf : fitQ n (dn 1) := ⟨rfl, by unfold fit; omega⟩
    rw [if_pos hf, decide_eq_true hf] at hR
    unfold RA at hR
    conv => whnf
    first
      | refine caseb (fun _ => ?_) (fun h => absurd (of_decide_eq_false h) (by omega))
      | refine caseb (fun h => absurd (of_decide_eq_true h) (by omega)) (fun _ => ?_)
      | refine caseb (fun _ => ?_) (fun h => absurd (beq_eq_false_iff_ne.1 h) (by omega))
      | refine caseb (fun h => absurd (eq_of_beq h) (by omega)) (fun _ => ?_)
    conv => whnf
    refine ⟨_, ⟨by omega, by rw [Int.toNat_natCast]; exact hg⟩, ?_⟩
    conv => whnf
    refine ⟨_, hR, ?_⟩
    conv => whnf
    refine ⟨⟨by show 0 + i ≤ _; omega, by show (i + 1) * 8 ≤ 140737488355328; omega, Nat.le_of_ble_eq_true rfl⟩, ?_⟩
    conv => whnf
    refine ⟨i + 1, [(120, 264)], (by show l.length - (i + 1) < l.length - i; omega), hlt, ⟨⟨rfl, rfl⟩, ⟨rfl, rfl⟩, ⟨rfl, rfl⟩, ⟨rfl, rfl⟩, ⟨valI eI, rfl⟩, trivial⟩, ⟨⟨rfl, .inr ⟨rfl, rfl⟩⟩, ⟨rfl, .inl ⟨celE ?_, irows_noid _ _⟩⟩, trivial⟩, rfl⟩
    rw [← hsn]
    show List.take i (List.drop 0 (irows .i64 (l.take i))) ++ [_] = _
    rw [htk]
    rfl
  · have hie : i = l.length := by omega
    have e1 : l.take i = l := List.take_of_length_le (by omega)
    rw [e1] at lr ⊢
    subst hie
    conv => whnf
    first
      | refine caseb (fun _ => ?_) (fun h => absurd (of_decide_eq_false h) (by omega))
      | refine caseb (fun h => absurd (of_decide_eq_true h) (by omega)) (fun _ => ?_)
      | refine caseb (fun _ => ?_) (fun h => absurd (beq_eq_false_iff_ne.1 h) (by omega))
      | refine caseb (fun h => absurd (eq_of_beq h) (by omega)) (fun _ => ?_)
    conv => whnf
    refine ⟨by show 0 + l.length ≤ _; omega, ?_⟩
    show AV.tup [AV.sl 1 (List.take l.length (List.drop 0 (irows .i64 l))) false, _] = _
    rw [List.drop_zero, List.take_of_length_le (by omega)]
    rfl
section
variable (s : List Int) (ch : Bool) (tx : List Int) (na : List (Option (Rat × Nat))) (axis : Int)
/-- Is it the axis? -/
def isAx (len : Nat) (axis : Int) (k : Nat) : Prop := k < len ∧ (axis = (k : Int) ∨ axis < 0 ∧ k + 1 = len)
end
theorem rep_set (n i : Nat) (x : List AV) : (List.replicate n x).set i x = List.replicate n x := by
  refine List.ext_getElem? fun j => ?_
  rw [List.getElem?_set]
  by_cases h : i = j
  · rw [if_pos h, List.length_replicate]
    subst h
    by_cases h2 : i < n
    · rw [if_pos h2, List.getElem?_replicate, if_pos h2]
    · rw [if_neg h2, List.getElem?_replicate, if_neg h2]
  · rw [if_neg h]
theorem set_set' (l : List (List AV)) (i : Nat) (x y : List AV) : (l.set i x).set i y = l.set i y := List.set_set ..
theorem irows_rep (n : Nat) : irows .i64 (List.replicate n 0) = List.replicate n [.val (.int .i64 0)] := by unfold irows; rw [List.map_replicate]
end
section

section
variable (c : Int) (s : List Int) (ch : Bool) (tx : List Int) (na : List (Option (Rat × Nat))) (axis most : Int)
end
end
section

/-- A part's cells. -/
def prow (x : Option (Rat × Nat)) : List AV := [.sl 1 (irows .i64 []) false, .val (.bool false), .sl 1 (irows .i32 []) false, .sl 3 ([x].map rowX) false, .val (.bool true)]
def zrow : List AV := [.sl 0 [] true, .val (.bool false), .sl 0 [] true, .sl 0 [] true, .val (.bool false)]
end
section

section
variable (c most : Int) (hc : isTwo c) (hm : most ≤ 200) (na : List (Option (Rat × Nat))) (qs : List Rat) (na1 : na.map valX = qs) (oa : ∀ o ∈ na, okX o) (hQ : ∀ q ∈ qs, Sz q 20)
include hc hm na1 oa hQ
end
end
section

def zlU : List Int := [43, 45, 124, 60, 62, 8800, 8744]
def olU : List Int := [215, 247, 42, 33, 8804, 61, 8805, 8743]
end
section

/-- An array's signs and numbers at some places. -/
def pickT (ch : Bool) (tx : List Int) (L : List Int) : List Int := if ch then L.map (getT tx) else []
def pickX (ch : Bool) (na : List (Option (Rat × Nat))) (L : List Int) : List (Option (Rat × Nat)) := if ch then [] else L.map (getX na)
theorem Pick_any (sh : List Int) (ch : Bool) (tx : List Int) (na : List (Option (Rat × Nat))) (s L : List Int) (hv : vS s) (hc : L.length = pr s) (h1 : tx.length ≤ 100000) (h2 : na.length ≤ 100000) :
    AC Try.prog 51 [AA sh ch tx na true, .sl 1 (irows .i64 s) false, .sl 1 (irows .i64 L) false] (.pure (.tup [AA s ch (pickT ch tx L) (pickX ch na L) true, .val (.bool true)])) := by
  have hc' : cntI s = (L.length : Int) := by rw [(vS_pr hv).1, hc]
  cases ch
  · exact PickN_ok sh tx na s L hv hc' h2
  · exact PickT_ok sh tx na s L hv hc' h1
/-- Indices, one added to the other. -/
def addL (a b : List Int) : List Int := List.zipWith (fun x y => x + y) a b
theorem addL_len (a b : List Int) (h : a.length = b.length) : (addL a b).length = a.length := by unfold addL; rw [List.length_zipWith]; omega
theorem addL_at {a b : List Int} {k : Nat} (ha : k < a.length) (hb : k < b.length) : (addL a b)[k]? = some (a[k] + b[k]) := by
  unfold addL
  rw [List.getElem?_zipWith, List.getElem?_eq_getElem ha, List.getElem?_eq_getElem hb]
theorem dig_small {s : List Int} (hv : vS s) : ∀ (i : Nat), i < pr s → ∀ x ∈ dig s i, 0 ≤ x ∧ x ≤ 4096 := by
  intro i hi x hx
  obtain ⟨k, hk, rfl⟩ := List.mem_iff_getElem.1 hx
  have hk' : k < s.length := by rw [← dig_len s i]; exact hk
  rw [dig_at hk' i hi hk]
  have h4 := (vS_pr hv).2
  have h1 := Nat.mod_le (i / pr (s.drop (k + 1))) s[k].toNat
  have h2 := Nat.div_le_self i (pr (s.drop (k + 1)))
  omega
theorem nz2_noid (L : List Int) (k : Nat) : ∀ r ∈ irows .i64 L ++ List.replicate k ([.val (.int .i64 0)] : List AV), ∀ x ∈ r, NoId x := fun r hr => by
  rcases List.mem_append.1 hr with h | h
  · exact irows_noid _ _ r h
  · rw [(List.mem_replicate.1 h).2]; exact noid1 (.val _)
theorem fill2_set (Y : List Int) (n i : Nat) (y : Int) (hi : i < n) (lY : Y.length = n) (hy : Y[i]? = some y) :
    (irows .i64 (Y.take i) ++ List.replicate (n - i) ([.val (.int .i64 0)] : List AV)).set i [.val (.int .i64 y)] = irows .i64 (Y.take (i + 1)) ++ List.replicate (n - (i + 1)) [.val (.int .i64 0)] := by
  have ltk : (irows .i64 (Y.take i)).length = i := by rw [irows_len, List.length_take]; omega
  have hY : Y[i]'(by omega) = y := by rw [List.getElem?_eq_getElem (by omega)] at hy; exact Option.some.inj hy
  rw [rep_drop _ n i hi, take_snoc (show i < Y.length by omega), hY, ← irows_append]
  have := set_mid (irows .i64 (Y.take i)) [.val (.int .i64 0)] [.val (.int .i64 y)] (List.replicate (n - (i + 1)) [.val (.int .i64 0)])
  rw [ltk] at this
  rw [this, List.append_assoc]; rfl
theorem set_take {α : Type} {l : List α} {k : Nat} {x : α} (hk : k < l.length) : (l.set k x).take (k + 1) = l.take k ++ [x] := by
  rw [take_snoc (by rw [List.length_set]; exact hk), List.getElem_set_self, List.take_set_of_le (Nat.le_refl k)]
theorem carry_set (Lp : List Int) (k t : Nat) (x : Int) (h : k < Lp.length) : (Lp.take (k + 1) ++ List.replicate t 0).set k x = Lp.take k ++ x :: List.replicate t 0 := by
  have l : (Lp.take k).length = k := by rw [List.length_take]; omega
  rw [take_snoc h, List.append_assoc]
  have := set_mid (Lp.take k) Lp[k] x (List.replicate t 0)
  rw [l] at this
  exact this
theorem carry_get (Lp : List Int) (k t : Nat) (h : k < Lp.length) : (Lp.take (k + 1) ++ List.replicate t 0)[k]? = some Lp[k] := by
  rw [List.getElem?_append_left (by rw [List.length_take]; omega), List.getElem?_take_of_lt (Nat.lt_succ_self k), List.getElem?_eq_getElem h]
section
variable (sa : List Int) (ch : Bool) (tx : List Int) (na : List (Option (Rat × Nat))) (s fr many : List Int)
set_option maxHeartbeats 4000000 in
set_option maxRecDepth 20000 in
theorem clo_run (hs : vS s) (L n i : Nat) (Y Lp K : List Int) (h8 : L ≤ 8) (hL : s.length = L) (hF : fr.length = L) (bF : ∀ x ∈ fr, -100000 ≤ x ∧ x ≤ 100000) (hLp : Lp.length = L) (hK : K.length = L) (bL : ∀ x ∈ Lp, 0 ≤ x ∧ x ≤ 4096) (y : Int) (hy : y = plS 0 s (addL Lp fr)) :
    SW Try.prog (Try.f49.body.getD .skip) (fun e s2 => e = .ret ∧ s2.t 5 = .val (.int .i64 y) ∧ okT s2 (σf []) 600 [(1000000, .sl 1 (irows .i64 many) false), (1000001, .clo 49 [.lp 16 0, .lp 136 0, .lp 8 0]), (1000007, .own 272 0 n), (1000008, .own 304 0 L), (1000024, .val (.int .i64 (n : Int))), (1000025, .val (.int .i64 (i : Int))), (1000009, .val (.int .i64 (i : Int))), (1000028, .own 272 0 n), (1000029, .val (.int .i64 (i : Int))), (2000003, .sl 1 (irows .i64 many) false), (2000004, .lp 0 0), (2000008, .lp 24 0), (2000009, .val (.int .i64 0))] ∧ okH s2 (σf []) 600 [(0, .cells 5 [[.sl 1 (irows .i64 sa) false, .val (.bool ch), .sl 1 (irows .i32 tx) false, .sl 3 (na.map rowX) false, .val (.bool true)]]), (8, .cells 1 [[.sl 1 (irows .i64 s) false]]), (16, .cells 1 [[.sl 1 (irows .i64 fr) false]]), (24, .cells 5 [[.sl 0 [] true, .val (.bool false), .sl 0 [] true, .sl 0 [] true, .val (.bool false)]]), (136, .cells 1 [[.own 128 0 L]]), (128, .cells 1 (irows .i64 (addL Lp fr))), (304, .cells 1 (irows .i64 Lp)), (272, .cells 1 (irows .i64 (Y.take i) ++ List.replicate (n - i) ([.val (.int .i64 0)] : List AV)))]) (mkS [(0, .own 304 0 L), (1, .lp 16 0), (2, .lp 136 0), (3, .lp 8 0), (1000000, .sl 1 (irows .i64 many) false), (1000001, .clo 49 [.lp 16 0, .lp 136 0, .lp 8 0]), (1000007, .own 272 0 n), (1000008, .own 304 0 L), (1000024, .val (.int .i64 (n : Int))), (1000025, .val (.int .i64 (i : Int))), (1000009, .val (.int .i64 (i : Int))), (1000028, .own 272 0 n), (1000029, .val (.int .i64 (i : Int))), (2000003, .sl 1 (irows .i64 many) false), (2000004, .lp 0 0), (2000008, .lp 24 0), (2000009, .val (.int .i64 0))] [(0, .cells 5 [[.sl 1 (irows .i64 sa) false, .val (.bool ch), .sl 1 (irows .i32 tx) false, .sl 3 (na.map rowX) false, .val (.bool true)]]), (8, .cells 1 [[.sl 1 (irows .i64 s) false]]), (16, .cells 1 [[.sl 1 (irows .i64 fr) false]]), (24, .cells 5 [[.sl 0 [] true, .val (.bool false), .sl 0 [] true, .sl 0 [] true, .val (.bool false)]]), (136, .cells 1 [[.own 128 0 L]]), (128, .cells 1 (irows .i64 K)), (304, .cells 1 (irows .i64 Lp)), (272, .cells 1 (irows .i64 (Y.take i) ++ List.replicate (n - i) ([.val (.int .i64 0)] : List AV)))] 600 36) := by
  have lfr := irows_len .i64 fr
  show SW Try.prog (.seq (.region 0 _ false) _) _ _
  refine SW.seqA TTok ?_
  conv => whnf
  refine SW.cutM TTok (fun _ : Unit => [(0, .own 304 0 L), (1, .lp 16 0), (2, .lp 136 0), (3, .lp 8 0), (1000000, .sl 1 (irows .i64 many) false), (1000001, .clo 49 [.lp 16 0, .lp 136 0, .lp 8 0]), (1000007, .own 272 0 n), (1000008, .own 304 0 L), (1000024, .val (.int .i64 (n : Int))), (1000025, .val (.int .i64 (i : Int))), (1000009, .val (.int .i64 (i : Int))), (1000028, .own 272 0 n), (1000029, .val (.int .i64 (i : Int))), (2000003, .sl 1 (irows .i64 many) false), (2000004, .lp 0 0), (2000008, .lp 24 0), (2000009, .val (.int .i64 0))]) (fun _ => [(0, .cells 5 [[.sl 1 (irows .i64 sa) false, .val (.bool ch), .sl 1 (irows .i32 tx) false, .sl 3 (na.map rowX) false, .val (.bool true)]]), (8, .cells 1 [[.sl 1 (irows .i64 s) false]]), (16, .cells 1 [[.sl 1 (irows .i64 fr) false]]), (24, .cells 5 [[.sl 0 [] true, .val (.bool false), .sl 0 [] true, .sl 0 [] true, .val (.bool false)]]), (136, .cells 1 [[.own 128 0 L]]), (128, .cells 1 (irows .i64 (addL Lp fr))), (304, .cells 1 (irows .i64 Lp)), (272, .cells 1 (irows .i64 (Y.take i) ++ List.replicate (n - i) ([.val (.int .i64 0)] : List AV)))]) 600 36 rfl (fun _ => True) ?_ (fun _ _ => ?_)
  · conv => whnf
    refine SW.loopM TTok (fun x : Nat × List Int => [(0, .own 304 0 L), (1, .lp 16 0), (2, .lp 136 0), (3, .lp 8 0), (10, .val (.int .i64 (L : Int))), (11, .val (.int .i64 (x.1 : Int))), (1000000, .sl 1 (irows .i64 many) false), (1000001, .clo 49 [.lp 16 0, .lp 136 0, .lp 8 0]), (1000007, .own 272 0 n), (1000008, .own 304 0 L), (1000024, .val (.int .i64 (n : Int))), (1000025, .val (.int .i64 (i : Int))), (1000009, .val (.int .i64 (i : Int))), (1000028, .own 272 0 n), (1000029, .val (.int .i64 (i : Int))), (2000003, .sl 1 (irows .i64 many) false), (2000004, .lp 0 0), (2000008, .lp 24 0), (2000009, .val (.int .i64 0))])
      (fun x => [(0, .cells 5 [[.sl 1 (irows .i64 sa) false, .val (.bool ch), .sl 1 (irows .i32 tx) false, .sl 3 (na.map rowX) false, .val (.bool true)]]), (8, .cells 1 [[.sl 1 (irows .i64 s) false]]), (16, .cells 1 [[.sl 1 (irows .i64 fr) false]]), (24, .cells 5 [[.sl 0 [] true, .val (.bool false), .sl 0 [] true, .sl 0 [] true, .val (.bool false)]]), (136, .cells 1 [[.own 128 0 L]]), (128, .cells 1 (irows .i64 x.2)), (304, .cells 1 (irows .i64 Lp)), (272, .cells 1 (irows .i64 (Y.take i) ++ List.replicate (n - i) ([.val (.int .i64 0)] : List AV)))]) 700 36 rfl (fun x => L - x.1) (fun x => x.1 ≤ L ∧ x.2.length = L ∧ x.2.take x.1 = (addL Lp fr).take x.1) (0, K) [] ⟨Nat.zero_le _, hK, rfl⟩
      ⟨⟨rfl, rfl⟩, ⟨rfl, rfl⟩, ⟨rfl, rfl⟩, ⟨rfl, rfl⟩, ⟨rfl, rfl⟩, ⟨rfl, rfl⟩, ⟨rfl, rfl⟩, ⟨rfl, rfl⟩, ⟨rfl, rfl⟩, ⟨rfl, rfl⟩, ⟨rfl, rfl⟩, ⟨rfl, rfl⟩, ⟨rfl, rfl⟩, ⟨rfl, rfl⟩, ⟨rfl, rfl⟩, ⟨rfl, rfl⟩, ⟨rfl, rfl⟩, ⟨rfl, rfl⟩, ⟨rfl, rfl⟩, trivial⟩ ⟨⟨rfl, .inr ⟨rfl, rfl⟩⟩, ⟨rfl, .inr ⟨rfl, rfl⟩⟩, ⟨rfl, .inr ⟨rfl, rfl⟩⟩, ⟨rfl, .inr ⟨rfl, rfl⟩⟩, ⟨rfl, .inr ⟨rfl, rfl⟩⟩, ⟨rfl, .inl ⟨rfl, irows_noid _ _⟩⟩, ⟨rfl, .inl ⟨rfl, irows_noid _ _⟩⟩, ⟨rfl, .inl ⟨rfl, nz2_noid _ _⟩⟩, trivial⟩ rfl ?_
    rintro ⟨k, K⟩ ⟨hk, hK, hE⟩
    have hk : k ≤ L := hk
    have hK : K.length = L := hK
    have hE : K.take k = (addL Lp fr).take k := hE
    by_cases hkt : k < L
    · have hkL : k < Lp.length := by omega
      have hkF : k < fr.length := by omega
      have g1 := irows_get .i64 Lp (List.getElem?_eq_getElem hkL)
      have g2 := irows_get .i64 fr (List.getElem?_eq_getElem hkF)
      have eK : IntKind.i64.wrap ((k : Int) + 1) = ((k + 1 : Nat) : Int) := by rw [IntWalk.i64_in _ (by omega)]; omega
      have b1 := bL Lp[k] (List.getElem_mem hkL)
      have b2 := bF fr[k] (List.getElem_mem hkF)
      have hAt := addL_at hkL hkF
      obtain ⟨p, hp⟩ : ∃ p, p = Lp[k] := ⟨_, rfl⟩
      obtain ⟨q, hq⟩ : ∃ q, q = fr[k] := ⟨_, rfl⟩
      rw [← hp] at g1 b1
      rw [← hq] at g2 b2
      rw [← hp, ← hq] at hAt
      have wpq : IntKind.i64.wrap (p + q) = p + q := by rw [IntWalk.i64_in _ (by omega)]
      have hlA : k < (addL Lp fr).length := by rw [addL_len _ _ (by omega)]; omega
      have hAk : (addL Lp fr)[k] = p + q := by rw [List.getElem?_eq_getElem hlA] at hAt; exact Option.some.inj hAt
      have lKr : (irows .i64 K).length = L := by rw [irows_len]; exact hK
      conv => whnf
      first
        | refine caseb (fun _ => ?_) (fun h => absurd (of_decide_eq_false h) (by omega))
        | refine caseb (fun h => absurd (of_decide_eq_true h) (by omega)) (fun _ => ?_)
        | refine caseb (fun _ => ?_) (fun h => absurd (beq_eq_false_iff_ne.1 h) (by omega))
        | refine caseb (fun h => absurd (eq_of_beq h) (by omega)) (fun _ => ?_)
      conv => whnf
      refine ⟨by omega, ?_⟩
      conv => whnf
      refine ⟨_, by rw [Nat.zero_add, Int.toNat_natCast]; exact g1, ?_⟩
      conv => whnf
      refine ⟨_, ⟨by omega, by rw [Int.toNat_natCast]; exact g2⟩, ?_⟩
      conv => whnf
      refine ⟨by omega, ?_⟩
      conv => whnf
      refine ⟨by rw [Nat.zero_add, Int.toNat_natCast]; show k < (irows .i64 K).length; omega, ?_⟩
      conv => whnf
      refine ⟨by kernel_rfl, ?_⟩
      conv => whnf
      refine ⟨(k + 1, K.set k (p + q)), [], (by show L - (k + 1) < L - k; omega), ⟨hkt, by show (K.set k (p + q)).length = L; rw [List.length_set]; exact hK, by show (K.set k (p + q)).take (k + 1) = (addL Lp fr).take (k + 1); rw [set_take (by omega), take_snoc hlA, hE, hAk]⟩, ⟨⟨rfl, rfl⟩, ⟨rfl, rfl⟩, ⟨rfl, rfl⟩, ⟨rfl, rfl⟩, ⟨rfl, rfl⟩, ⟨valI eK, rfl⟩, ⟨rfl, rfl⟩, ⟨rfl, rfl⟩, ⟨rfl, rfl⟩, ⟨rfl, rfl⟩, ⟨rfl, rfl⟩, ⟨rfl, rfl⟩, ⟨rfl, rfl⟩, ⟨rfl, rfl⟩, ⟨rfl, rfl⟩, ⟨rfl, rfl⟩, ⟨rfl, rfl⟩, ⟨rfl, rfl⟩, ⟨rfl, rfl⟩, trivial⟩, ⟨⟨rfl, .inr ⟨rfl, rfl⟩⟩, ⟨rfl, .inr ⟨rfl, rfl⟩⟩, ⟨rfl, .inr ⟨rfl, rfl⟩⟩, ⟨rfl, .inr ⟨rfl, rfl⟩⟩, ⟨rfl, .inr ⟨rfl, rfl⟩⟩, ⟨rfl, .inl ⟨celE ?_, irows_noid _ _⟩⟩, ⟨rfl, .inl ⟨rfl, irows_noid _ _⟩⟩, ⟨rfl, .inl ⟨rfl, nz2_noid _ _⟩⟩, trivial⟩, rfl⟩
      show (irows .i64 K).set (0 + (k : Int).toNat) [.val (.int .i64 (IntKind.i64.wrap (p + q)))] = _
      rw [wpq, Nat.zero_add, Int.toNat_natCast, irows_set]
    · have hke : k = L := by omega
      have eKK : K = addL Lp fr := by
        have l2 := addL_len Lp fr (by omega)
        rw [hke, List.take_of_length_le (by omega), List.take_of_length_le (by omega)] at hE
        exact hE
      rw [eKK]
      conv => whnf
      first
        | refine caseb (fun _ => ?_) (fun h => absurd (of_decide_eq_false h) (by omega))
        | refine caseb (fun h => absurd (of_decide_eq_true h) (by omega)) (fun _ => ?_)
        | refine caseb (fun _ => ?_) (fun h => absurd (beq_eq_false_iff_ne.1 h) (by omega))
        | refine caseb (fun h => absurd (eq_of_beq h) (by omega)) (fun _ => ?_)
      conv => whnf
      exact ⟨(), [], trivial, ⟨⟨rfl, rfl⟩, ⟨rfl, rfl⟩, ⟨rfl, rfl⟩, ⟨rfl, rfl⟩, ⟨rfl, rfl⟩, ⟨rfl, rfl⟩, ⟨rfl, rfl⟩, ⟨rfl, rfl⟩, ⟨rfl, rfl⟩, ⟨rfl, rfl⟩, ⟨rfl, rfl⟩, ⟨rfl, rfl⟩, ⟨rfl, rfl⟩, ⟨rfl, rfl⟩, ⟨rfl, rfl⟩, ⟨rfl, rfl⟩, ⟨rfl, rfl⟩, trivial⟩, ⟨⟨rfl, .inr ⟨rfl, rfl⟩⟩, ⟨rfl, .inr ⟨rfl, rfl⟩⟩, ⟨rfl, .inr ⟨rfl, rfl⟩⟩, ⟨rfl, .inr ⟨rfl, rfl⟩⟩, ⟨rfl, .inr ⟨rfl, rfl⟩⟩, ⟨rfl, .inl ⟨rfl, irows_noid _ _⟩⟩, ⟨rfl, .inl ⟨rfl, irows_noid _ _⟩⟩, ⟨rfl, .inl ⟨rfl, nz2_noid _ _⟩⟩, trivial⟩, rfl⟩
  have lA := addL_len Lp fr (by omega)
  have lAr := irows_len .i64 (addL Lp fr)
  have hPl := ShPlace_ok s (addL Lp fr) hs (by omega)
  have fE : irows .i64 (addL Lp fr) = List.take L (List.drop 0 (irows .i64 (addL Lp fr))) := by rw [List.drop_zero, List.take_of_length_le (by omega)]
  rw [fE] at hPl
  rw [← hy] at hPl
  unfold plT at hPl
  refine SW.seq (SW.regionAt TTok 2 _ rfl rfl rfl ?_)
  conv => whnf
  refine Stp.bor rfl rfl rfl (by show 0 + L ≤ (irows .i64 (addL Lp fr)).length; omega) hPl rfl rfl ?_
  conv => whnf
  refine SW.go TTok ?_
  by_cases hy1 : y = -1
  · subst hy1
    conv => whnf
    exact ⟨rfl, rfl, ⟨⟨rfl, rfl⟩, ⟨rfl, rfl⟩, ⟨rfl, rfl⟩, ⟨rfl, rfl⟩, ⟨rfl, rfl⟩, ⟨rfl, rfl⟩, ⟨rfl, rfl⟩, ⟨rfl, rfl⟩, ⟨rfl, rfl⟩, ⟨rfl, rfl⟩, ⟨rfl, rfl⟩, ⟨rfl, rfl⟩, ⟨rfl, rfl⟩, trivial⟩, ⟨⟨rfl, .inr ⟨rfl, rfl⟩⟩, ⟨rfl, .inr ⟨rfl, rfl⟩⟩, ⟨rfl, .inr ⟨rfl, rfl⟩⟩, ⟨rfl, .inr ⟨rfl, rfl⟩⟩, ⟨rfl, .inr ⟨rfl, rfl⟩⟩, ⟨rfl, .inl ⟨rfl, irows_noid _ _⟩⟩, ⟨rfl, .inl ⟨rfl, irows_noid _ _⟩⟩, ⟨rfl, .inl ⟨rfl, nz2_noid _ _⟩⟩, trivial⟩⟩
  · rw [decide_eq_true hy1, if_neg hy1]
    conv => whnf
    exact ⟨rfl, rfl, ⟨⟨rfl, rfl⟩, ⟨rfl, rfl⟩, ⟨rfl, rfl⟩, ⟨rfl, rfl⟩, ⟨rfl, rfl⟩, ⟨rfl, rfl⟩, ⟨rfl, rfl⟩, ⟨rfl, rfl⟩, ⟨rfl, rfl⟩, ⟨rfl, rfl⟩, ⟨rfl, rfl⟩, ⟨rfl, rfl⟩, ⟨rfl, rfl⟩, trivial⟩, ⟨⟨rfl, .inr ⟨rfl, rfl⟩⟩, ⟨rfl, .inr ⟨rfl, rfl⟩⟩, ⟨rfl, .inr ⟨rfl, rfl⟩⟩, ⟨rfl, .inr ⟨rfl, rfl⟩⟩, ⟨rfl, .inr ⟨rfl, rfl⟩⟩, ⟨rfl, .inl ⟨rfl, irows_noid _ _⟩⟩, ⟨rfl, .inl ⟨rfl, irows_noid _ _⟩⟩, ⟨rfl, .inl ⟨rfl, nz2_noid _ _⟩⟩, trivial⟩⟩
end
end
section

section
variable (sa : List Int) (ch : Bool) (tx : List Int) (na : List (Option (Rat × Nat))) (s fr many : List Int)
set_option maxHeartbeats 4000000 in
set_option maxRecDepth 20000 in
theorem carry_run (hv : vS many) (L n i : Nat) (Y Lp KK : List Int) (h8 : L ≤ 8) (hLL : L = many.length) (hn : n = pr many) (hlt : i < n) (hLp : Lp.length = L) (hD : Lp = dig many i) :
    SW Try.prog (cAt (Try.f48.body.getD .skip) [1,1,1,1,1,0,1,1,1,1,1,0,1,1,1]) (fun e s2 => e = .normal ∧ ∃ Lp', Lp'.length = L ∧ (i + 1 < n → Lp' = dig many (i + 1)) ∧ okT s2 (σf []) 600 [(0, .sl 1 (irows .i64 many) false), (1, .clo 49 [.lp 16 0, .lp 136 0, .lp 8 0]), (7, .own 272 0 n), (8, .own 304 0 L), (24, .val (.int .i64 (n : Int))), (25, .val (.int .i64 (i : Int))), (1000003, .sl 1 (irows .i64 many) false), (1000004, .lp 0 0), (1000008, .lp 24 0), (1000009, .val (.int .i64 0))] ∧ okH s2 (σf []) 600 [(0, .cells 5 [[.sl 1 (irows .i64 sa) false, .val (.bool ch), .sl 1 (irows .i32 tx) false, .sl 3 (na.map rowX) false, .val (.bool true)]]), (8, .cells 1 [[.sl 1 (irows .i64 s) false]]), (16, .cells 1 [[.sl 1 (irows .i64 fr) false]]), (24, .cells 5 [[.sl 0 [] true, .val (.bool false), .sl 0 [] true, .sl 0 [] true, .val (.bool false)]]), (136, .cells 1 [[.own 128 0 L]]), (128, .cells 1 (irows .i64 KK)), (304, .cells 1 (irows .i64 Lp')), (272, .cells 1 (irows .i64 (Y.take (i + 1)) ++ List.replicate (n - (i + 1)) ([.val (.int .i64 0)] : List AV)))]) (mkS [(0, .sl 1 (irows .i64 many) false), (1, .clo 49 [.lp 16 0, .lp 136 0, .lp 8 0]), (7, .own 272 0 n), (8, .own 304 0 L), (24, .val (.int .i64 (n : Int))), (25, .val (.int .i64 (i : Int))), (1000003, .sl 1 (irows .i64 many) false), (1000004, .lp 0 0), (1000008, .lp 24 0), (1000009, .val (.int .i64 0))] [(0, .cells 5 [[.sl 1 (irows .i64 sa) false, .val (.bool ch), .sl 1 (irows .i32 tx) false, .sl 3 (na.map rowX) false, .val (.bool true)]]), (8, .cells 1 [[.sl 1 (irows .i64 s) false]]), (16, .cells 1 [[.sl 1 (irows .i64 fr) false]]), (24, .cells 5 [[.sl 0 [] true, .val (.bool false), .sl 0 [] true, .sl 0 [] true, .val (.bool false)]]), (136, .cells 1 [[.own 128 0 L]]), (128, .cells 1 (irows .i64 KK)), (304, .cells 1 (irows .i64 Lp)), (272, .cells 1 (irows .i64 (Y.take (i + 1)) ++ List.replicate (n - (i + 1)) ([.val (.int .i64 0)] : List AV)))] 600 61) := by
  obtain ⟨z, hz⟩ : ∃ z : Nat → Int, ∀ t, z t = (L : Int) - 1 - (t : Int) := ⟨fun t => (L : Int) - 1 - (t : Int), fun _ => rfl⟩
  have lm := irows_len .i64 many
  show SW Try.prog (.seq (.region 10 _ false) (.block 2 _)) _ _
  refine SW.go TTok ?_
  conv => whnf
  refine SW.loopM TTok (fun t : Nat => [(0, .sl 1 (irows .i64 many) false), (1, .clo 49 [.lp 16 0, .lp 136 0, .lp 8 0]), (7, .own 272 0 n), (8, .own 304 0 L), (24, .val (.int .i64 (n : Int))), (25, .val (.int .i64 (i : Int))), (10, .val (.int .i64 (z t))), (1000003, .sl 1 (irows .i64 many) false), (1000004, .lp 0 0), (1000008, .lp 24 0), (1000009, .val (.int .i64 0))])
    (fun t => [(0, .cells 5 [[.sl 1 (irows .i64 sa) false, .val (.bool ch), .sl 1 (irows .i32 tx) false, .sl 3 (na.map rowX) false, .val (.bool true)]]), (8, .cells 1 [[.sl 1 (irows .i64 s) false]]), (16, .cells 1 [[.sl 1 (irows .i64 fr) false]]), (24, .cells 5 [[.sl 0 [] true, .val (.bool false), .sl 0 [] true, .sl 0 [] true, .val (.bool false)]]), (136, .cells 1 [[.own 128 0 L]]), (128, .cells 1 (irows .i64 KK)), (304, .cells 1 (irows .i64 (Lp.take (L - t) ++ List.replicate t 0))), (272, .cells 1 (irows .i64 (Y.take (i + 1)) ++ List.replicate (n - (i + 1)) ([.val (.int .i64 0)] : List AV)))]) 2000 61 rfl (fun t => L - t) (fun t => t ≤ L ∧ i % pr (many.drop (L - t)) + 1 = pr (many.drop (L - t))) 0 [] ⟨Nat.zero_le _, by rw [Nat.sub_zero, List.drop_of_length_le (by omega)]; show i % 1 + 1 = 1; rw [Nat.mod_one]⟩
    ⟨⟨rfl, rfl⟩, ⟨rfl, rfl⟩, ⟨rfl, rfl⟩, ⟨rfl, rfl⟩, ⟨rfl, rfl⟩, ⟨rfl, rfl⟩, ⟨valI ?_, rfl⟩, ⟨rfl, rfl⟩, ⟨rfl, rfl⟩, ⟨rfl, rfl⟩, ⟨rfl, rfl⟩, trivial⟩ ⟨⟨rfl, .inr ⟨rfl, rfl⟩⟩, ⟨rfl, .inr ⟨rfl, rfl⟩⟩, ⟨rfl, .inr ⟨rfl, rfl⟩⟩, ⟨rfl, .inr ⟨rfl, rfl⟩⟩, ⟨rfl, .inr ⟨rfl, rfl⟩⟩, ⟨rfl, .inl ⟨rfl, irows_noid _ _⟩⟩, ⟨rfl, .inl ⟨celE ?_, irows_noid _ _⟩⟩, ⟨rfl, .inl ⟨rfl, nz2_noid _ _⟩⟩, trivial⟩ rfl ?_
  · rw [IntWalk.i64_in _ (by omega), hz]; omega
  · show irows .i64 Lp = irows .i64 (Lp.take (L - 0) ++ [])
    rw [Nat.sub_zero, List.take_of_length_le (by omega), List.append_nil]
  intro t hJ
  have ht : t ≤ L := hJ.1
  have hm := hJ.2
  clear hJ
  have hzt := hz t
  have hz1 := hz (t + 1)
  by_cases htL : t < L
  · obtain ⟨k, hk⟩ : ∃ k, k = L - 1 - t := ⟨_, rfl⟩
    have ekt : L - t = k + 1 := by omega
    have zk : (z t).toNat = k := by omega
    rw [ekt] at hm ⊢
    have hkm : k < many.length := by omega
    have hkL : k < Lp.length := by omega
    have eC : ∀ x : Int, (Lp.take (k + 1) ++ List.replicate t 0).set k x = Lp.take k ++ x :: List.replicate t 0 := fun x => carry_set Lp k t x hkL
    have gC : (Lp.take (k + 1) ++ List.replicate t 0)[k]? = some Lp[k] := carry_get Lp k t hkL
    have lC : (irows .i64 (Lp.take (k + 1) ++ List.replicate t 0)).length = L := by rw [irows_len, List.length_append, List.length_take, List.length_replicate]; omega
    have g1 := irows_get .i64 _ gC
    have g2 := irows_get .i64 many (List.getElem?_eq_getElem hkm)
    have b1 := dig_small hv i (by omega) Lp[k] (by rw [← hD]; exact List.getElem_mem hkL)
    have b2 := vS_dim hv (List.getElem_mem hkm)
    have b3 := hv.2.1 _ (List.getElem_mem hkm)
    have hdk : k < (dig many i).length := by rw [← hD]; exact hkL
    have eDk : (dig many i)[k] = Lp[k] := by simp only [hD]
    have nx := odo_next hkm i (by omega) hm hdk
    have fl := odo_full hkm i (by omega) hm hdk b3
    rw [eDk] at nx fl
    rw [← hD] at nx
    obtain ⟨p, hp⟩ : ∃ p, p = Lp[k] := ⟨_, rfl⟩
    obtain ⟨d, hd⟩ : ∃ d, d = many[k] := ⟨_, rfl⟩
    rw [← hp] at g1 b1 nx fl
    rw [← hd] at g2 b2 nx fl
    have w1 : IntKind.i64.wrap (p + 1) = p + 1 := by rw [IntWalk.i64_in _ (by omega)]
    have wz : IntKind.i64.wrap (z t - 1) = z (t + 1) := by rw [IntWalk.i64_in _ (by omega)]; omega
    conv => whnf
    first
      | refine caseb (fun _ => ?_) (fun h => absurd (of_decide_eq_false h) (by omega))
      | refine caseb (fun h => absurd (of_decide_eq_true h) (by omega)) (fun _ => ?_)
      | refine caseb (fun _ => ?_) (fun h => absurd (beq_eq_false_iff_ne.1 h) (by omega))
      | refine caseb (fun h => absurd (eq_of_beq h) (by omega)) (fun _ => ?_)
    conv => whnf
    refine ⟨by omega, ?_⟩
    conv => whnf
    refine ⟨_, by rw [Nat.zero_add, zk]; exact g1, ?_⟩
    conv => whnf
    refine ⟨by omega, ?_⟩
    conv => whnf
    refine ⟨by rw [Nat.zero_add, zk]; show k < (irows .i64 (Lp.take (k + 1) ++ List.replicate t 0)).length; omega, ?_⟩
    conv => whnf
    refine ⟨by omega, ?_⟩
    conv => whnf
    refine ⟨_, by rw [Nat.zero_add, zk]; exact List.getElem?_set_self (by omega), ?_⟩
    conv => whnf
    refine ⟨_, ⟨by omega, by rw [zk]; exact g2⟩, ?_⟩
    by_cases hlt2 : p + 1 < d
    · obtain ⟨e1, e2⟩ := nx hlt2
      have e3 : L - (k + 1) = t := by omega
      have e4 : many.length - (k + 1) = t := by omega
      rw [e4] at e1
      conv => whnf
      refine ⟨by kernel_rfl, ?_⟩
      conv => whnf
      first
        | refine caseb (fun _ => ?_) (fun h => absurd (of_decide_eq_false h) (by omega))
        | refine caseb (fun h => absurd (of_decide_eq_true h) (by omega)) (fun _ => ?_)
        | refine caseb (fun _ => ?_) (fun h => absurd (beq_eq_false_iff_ne.1 h) (by omega))
        | refine caseb (fun h => absurd (eq_of_beq h) (by omega)) (fun _ => ?_)
      conv => whnf
      refine ⟨rfl, dig many (i + 1), by rw [dig_len]; omega, fun _ => rfl, ⟨⟨rfl, rfl⟩, ⟨rfl, rfl⟩, ⟨rfl, rfl⟩, ⟨rfl, rfl⟩, ⟨rfl, rfl⟩, ⟨rfl, rfl⟩, ⟨rfl, rfl⟩, ⟨rfl, rfl⟩, ⟨rfl, rfl⟩, ⟨rfl, rfl⟩, trivial⟩, ⟨⟨rfl, .inr ⟨rfl, rfl⟩⟩, ⟨rfl, .inr ⟨rfl, rfl⟩⟩, ⟨rfl, .inr ⟨rfl, rfl⟩⟩, ⟨rfl, .inr ⟨rfl, rfl⟩⟩, ⟨rfl, .inr ⟨rfl, rfl⟩⟩, ⟨rfl, .inl ⟨rfl, irows_noid _ _⟩⟩, ⟨rfl, .inl ⟨celE ?_, irows_noid _ _⟩⟩, ⟨rfl, .inl ⟨rfl, nz2_noid _ _⟩⟩, trivial⟩⟩
      show (irows .i64 (Lp.take (k + 1) ++ List.replicate t 0)).set (0 + (z t).toNat) [.val (.int .i64 (IntKind.i64.wrap (p + 1)))] = _
      rw [w1, Nat.zero_add, zk, irows_set, eC, e1]
    · have fl := fl hlt2
      conv => whnf
      refine ⟨by kernel_rfl, ?_⟩
      conv => whnf
      first
        | refine caseb (fun _ => ?_) (fun h => absurd (of_decide_eq_false h) (by omega))
        | refine caseb (fun h => absurd (of_decide_eq_true h) (by omega)) (fun _ => ?_)
        | refine caseb (fun _ => ?_) (fun h => absurd (beq_eq_false_iff_ne.1 h) (by omega))
        | refine caseb (fun h => absurd (eq_of_beq h) (by omega)) (fun _ => ?_)
      conv => whnf
      refine ⟨by omega, ?_⟩
      conv => whnf
      refine ⟨by rw [List.length_set, Nat.zero_add, zk]; show k < (irows .i64 (Lp.take (k + 1) ++ List.replicate t 0)).length; omega, ?_⟩
      conv => whnf
      refine ⟨t + 1, [], (by show L - (t + 1) < k + 1; omega), ⟨htL, by rw [show L - (t + 1) = k by omega]; exact fl⟩, ⟨⟨rfl, rfl⟩, ⟨rfl, rfl⟩, ⟨rfl, rfl⟩, ⟨rfl, rfl⟩, ⟨rfl, rfl⟩, ⟨rfl, rfl⟩, ⟨valI wz, rfl⟩, ⟨rfl, rfl⟩, ⟨rfl, rfl⟩, ⟨rfl, rfl⟩, ⟨rfl, rfl⟩, trivial⟩, ⟨⟨rfl, .inr ⟨rfl, rfl⟩⟩, ⟨rfl, .inr ⟨rfl, rfl⟩⟩, ⟨rfl, .inr ⟨rfl, rfl⟩⟩, ⟨rfl, .inr ⟨rfl, rfl⟩⟩, ⟨rfl, .inr ⟨rfl, rfl⟩⟩, ⟨rfl, .inl ⟨rfl, irows_noid _ _⟩⟩, ⟨rfl, .inl ⟨celE ?_, irows_noid _ _⟩⟩, ⟨rfl, .inl ⟨rfl, nz2_noid _ _⟩⟩, trivial⟩, rfl⟩
      show ((irows .i64 (Lp.take (k + 1) ++ List.replicate t 0)).set (0 + (z t).toNat) _).set (0 + (z t).toNat) [.val (.int .i64 0)] = irows .i64 (Lp.take (L - (t + 1)) ++ List.replicate (t + 1) 0)
      rw [set_set', Nat.zero_add, zk, irows_set, eC, show L - (t + 1) = k by omega, List.replicate_succ]
  · have hte : t = L := by omega
    have e0 : L - t = 0 := by omega
    rw [e0, List.drop_zero, ← hn, Nat.mod_eq_of_lt hlt] at hm
    conv => whnf
    first
      | refine caseb (fun _ => ?_) (fun h => absurd (of_decide_eq_false h) (by omega))
      | refine caseb (fun h => absurd (of_decide_eq_true h) (by omega)) (fun _ => ?_)
      | refine caseb (fun _ => ?_) (fun h => absurd (beq_eq_false_iff_ne.1 h) (by omega))
      | refine caseb (fun h => absurd (eq_of_beq h) (by omega)) (fun _ => ?_)
    conv => whnf
    exact ⟨rfl, Lp.take (L - t) ++ List.replicate t 0, by rw [List.length_append, List.length_take, List.length_replicate]; omega, fun h => absurd h (by omega), ⟨⟨rfl, rfl⟩, ⟨rfl, rfl⟩, ⟨rfl, rfl⟩, ⟨rfl, rfl⟩, ⟨rfl, rfl⟩, ⟨rfl, rfl⟩, ⟨rfl, rfl⟩, ⟨rfl, rfl⟩, ⟨rfl, rfl⟩, ⟨rfl, rfl⟩, trivial⟩, ⟨⟨rfl, .inr ⟨rfl, rfl⟩⟩, ⟨rfl, .inr ⟨rfl, rfl⟩⟩, ⟨rfl, .inr ⟨rfl, rfl⟩⟩, ⟨rfl, .inr ⟨rfl, rfl⟩⟩, ⟨rfl, .inr ⟨rfl, rfl⟩⟩, ⟨rfl, .inl ⟨rfl, irows_noid _ _⟩⟩, ⟨rfl, .inl ⟨rfl, irows_noid _ _⟩⟩, ⟨rfl, .inl ⟨rfl, nz2_noid _ _⟩⟩, trivial⟩⟩
end
end
end Go.Proofs.Ytcdeiegpeiodjaa
