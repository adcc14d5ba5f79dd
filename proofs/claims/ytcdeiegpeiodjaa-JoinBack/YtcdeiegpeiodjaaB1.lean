/- An abstract program logic over tree values (part 1): abstract values, how they stand to the machine's values, and what new blocks, stores and freezing do to that. -/
import Derived.WalkKit
import Derived.Below
import Derived.Orders
import Derived.Laws.CopyRow
import Derived.Laws.Append
import Derived.Laws.Rows
import Derived.Laws.RangeString
import Derived.Laws.StructEq
set_option linter.unusedVariables false
set_option linter.unusedSimpArgs false
namespace Go.AL
open Go Go.RowKit

/-- Abstract values. -/
inductive AV where
  | any
  | val (v : Value)
  | agg (cs : List AV)
  | tup (cs : List AV)
  | sl (sz : Nat) (rows : List (List AV)) (tight : Bool)
  | fp (row : List AV) (c : Nat)
  | own (id off len : Nat)
  | lp (id c : Nat)
  | li (id r c : Nat)
  | it (id : Nat)
  | clo (f : Nat) (cs : List AV)

instance : Inhabited AV := ⟨.any⟩

/-- Where a live block lies. -/
structure BI where
  blk : Nat
  base : Nat
  sz : Nat
  csz : Nat

/-- A live block's content. -/
inductive LB where
  | cells (sz : Nat) (rows : List (List AV))
  | iter (s : ByteArray) (pos : Nat)

/-- Values that name no live block. -/
inductive NoId : AV → Prop
  | any : NoId .any
  | val (v : Value) : NoId (.val v)
  | agg (cs : List AV) (h : ∀ x ∈ cs, NoId x) : NoId (.agg cs)
  | tup (cs : List AV) (h : ∀ x ∈ cs, NoId x) : NoId (.tup cs)
  | sl (sz : Nat) (rows : List (List AV)) (t : Bool) (h : ∀ r ∈ rows, ∀ x ∈ r, NoId x) : NoId (.sl sz rows t)
  | fp (row : List AV) (c : Nat) (h : ∀ x ∈ row, NoId x) : NoId (.fp row c)

inductive VR (w : World) (F : Nat → Prop) (ρ : Nat → Option BI) : Value → AV → Prop
  | any (v : Value) : VR w F ρ v .any
  | val (v : Value) : VR w F ρ v (.val v)
  | agg (vs : Array Value) (cs : List AV) (h : vs.size = cs.length)
      (h1 : ∀ (i : Nat) (x : AV), cs[i]? = some x → (vs.getD i undef).oneCell' = true)
      (h2 : ∀ (i : Nat) (x : AV), cs[i]? = some x → VR w F ρ (vs.getD i undef) x) : VR w F ρ (.agg vs) (.agg cs)
  | tup (vs : Array Value) (cs : List AV) (h : vs.size = cs.length)
      (h2 : ∀ (i : Nat) (x : AV), cs[i]? = some x → VR w F ρ (vs.getD i undef) x) : VR w F ρ (.tuple vs) (.tup cs)
  | sl (A : Option Addr) (n c sz : Nat) (rows : List (List AV)) (tight : Bool) (b o : Nat) (vals : Nat → Value)
      (hn : n = rows.length) (hc : n ≤ c) (ht : tight = true → c = n) (hw : ∀ r ∈ rows, r.length = sz)
      (hA : rows ≠ [] → A = some ⟨b, o, none⟩ ∧ F b)
      (h0 : ∀ (j : Nat) (x : AV), rows.flatten[j]? = some x → w.cell? ⟨b, o + j, none⟩ = some (vals j))
      (h1 : ∀ (j : Nat) (x : AV), rows.flatten[j]? = some x → (vals j).oneCell' = true)
      (h2 : ∀ (j : Nat) (x : AV), rows.flatten[j]? = some x → VR w F ρ (vals j) x)
      (hno : ∀ (j : Nat) (x : AV), rows.flatten[j]? = some x → NoId x) : VR w F ρ (.slice A n c) (.sl sz rows tight)
  | fp (row : List AV) (c b o : Nat) (vals : Nat → Value) (hF : F b)
      (h0 : ∀ (j : Nat) (x : AV), row[j]? = some x → w.cell? ⟨b, o + j, none⟩ = some (vals j))
      (h1 : ∀ (j : Nat) (x : AV), row[j]? = some x → (vals j).oneCell' = true)
      (h2 : ∀ (j : Nat) (x : AV), row[j]? = some x → VR w F ρ (vals j) x)
      (hno : ∀ (j : Nat) (x : AV), row[j]? = some x → NoId x) : VR w F ρ (.pointer (some ⟨b, o + c, none⟩)) (.fp row c)
  | own (A : Option Addr) (id off len cap : Nat) (bi : BI) (hρ : ρ id = some bi) (hl : len ≤ cap)
      (hA : 0 < cap → A = some ⟨bi.blk, bi.base + off * bi.sz, none⟩ ∧ bi.base + (off + cap) * bi.sz ≤ bi.csz) : VR w F ρ (.slice A len cap) (.own id off len)
  | lp (id c : Nat) (bi : BI) (hρ : ρ id = some bi) : VR w F ρ (.pointer (some ⟨bi.blk, bi.base + c, none⟩)) (.lp id c)
  | li (id r c : Nat) (bi : BI) (hρ : ρ id = some bi) : VR w F ρ (.pointer (some ⟨bi.blk, bi.base + r * bi.sz + c, none⟩)) (.li id r c)
  | it (id : Nat) (bi : BI) (hρ : ρ id = some bi) : VR w F ρ (.pointer (some ⟨bi.blk, 0, none⟩)) (.it id)
  | clo (f : Nat) (vs : Array Value) (cs : List AV) (h : vs.size = cs.length)
      (h2 : ∀ (i : Nat) (x : AV), cs[i]? = some x → VR w F ρ (vs.getD i undef) x) : VR w F ρ (.func (.func f) #[] vs) (.clo f cs)

theorem VR.mono {w w' : World} {F F' : Nat → Prop} {ρ ρ' : Nat → Option BI} (hF : ∀ b, F b → F' b) (hw : ∀ b, F b → w'.heap[b]? = w.heap[b]?)
    (hρ : ∀ id bi, ρ id = some bi → ρ' id = some bi) {v : Value} {x : AV} (h : VR w F ρ v x) : VR w' F' ρ' v x := by
  induction h with
  | any v => exact .any v
  | val v => exact .val v
  | agg vs cs h h1 h2 ih => exact .agg vs cs h h1 ih
  | tup vs cs h h2 ih => exact .tup vs cs h ih
  | sl A n c sz rows tight b o vals hn hc ht hwd hA h0 h1 h2 hno ih =>
    refine .sl A n c sz rows tight b o vals hn hc ht hwd (fun hr => ⟨(hA hr).1, hF _ (hA hr).2⟩) (fun j x hx => ?_) h1 ih hno
    have hr : rows ≠ [] := fun e => by simp [e] at hx
    rw [← h0 j x hx]
    exact World.cell?_of_block (hw b (hA hr).2)
  | fp row c b o vals hFb h0 h1 h2 hno ih =>
    refine .fp row c b o vals (hF _ hFb) (fun j x hx => ?_) h1 ih hno
    rw [← h0 j x hx]
    exact World.cell?_of_block (hw b hFb)
  | own A id off len cap bi hr hl hA => exact .own A id off len cap bi (hρ _ _ hr) hl hA
  | lp id c bi hr => exact .lp id c bi (hρ _ _ hr)
  | li id r c bi hr => exact .li id r c bi (hρ _ _ hr)
  | it id bi hr => exact .it id bi (hρ _ _ hr)
  | clo f vs cs h h2 ih => exact .clo f vs cs h ih

theorem mem_flat {rows : List (List AV)} {p : AV → Prop} (h : ∀ r ∈ rows, ∀ x ∈ r, p x) {j : Nat} {x : AV} (hx : rows.flatten[j]? = some x) : p x := by
  have hm : x ∈ rows.flatten := List.mem_of_getElem? hx
  obtain ⟨r, hr, hxr⟩ := List.mem_flatten.1 hm
  exact h r hr x hxr

theorem VR.noid {w : World} {F : Nat → Prop} {ρ ρ' : Nat → Option BI} {v : Value} {x : AV} (h : VR w F ρ v x) : NoId x → VR w F ρ' v x := by
  induction h with
  | any v => exact fun _ => .any v
  | val v => exact fun _ => .val v
  | agg vs cs h h1 h2 ih => intro hn; cases hn with | agg _ hh => exact .agg vs cs h h1 fun i x hx => ih i x hx (hh x (List.mem_of_getElem? hx))
  | tup vs cs h h2 ih => intro hn; cases hn with | tup _ hh => exact .tup vs cs h fun i x hx => ih i x hx (hh x (List.mem_of_getElem? hx))
  | sl A n c sz rows tight b o vals hn hc ht hwd hA h0 h1 h2 hno ih =>
    intro hn'
    cases hn' with
    | sl _ _ _ hh => exact .sl A n c sz rows tight b o vals hn hc ht hwd hA h0 h1 (fun j x hx => ih j x hx (hno j x hx)) hno
  | fp row c b o vals hFb h0 h1 h2 hno ih =>
    intro hn'
    cases hn' with
    | fp _ _ hh => exact .fp row c b o vals hFb h0 h1 (fun j x hx => ih j x hx (hno j x hx)) hno
  | own => intro hn; cases hn
  | lp => intro hn; cases hn
  | li => intro hn; cases hn
  | it => intro hn; cases hn
  | clo => intro hn; cases hn

/-- A live block's content stands in the machine's block. -/
def BR (w : World) (F : Nat → Prop) (ρ : Nat → Option BI) (bi : BI) : LB → Prop
  | .cells sz rows => bi.sz = sz ∧ (∀ r ∈ rows, r.length = sz) ∧ (bi.csz = 0 → rows.flatten = []) ∧
      (0 < bi.csz → ∃ cs ty, w.heap[bi.blk]? = some (.cells cs ty (0, 0)) ∧ cs.size = bi.csz ∧ bi.base + rows.length * sz ≤ cs.size ∧
        ∀ (j : Nat) (x : AV), rows.flatten[j]? = some x → (cs.getD (bi.base + j) undef).oneCell' = true ∧ VR w F ρ (cs.getD (bi.base + j) undef) x)
  | .iter s pos => 0 < bi.csz ∧ w.heap[bi.blk]? = some (.stringIter s pos)

theorem BR.mono {w w' : World} {F F' : Nat → Prop} {ρ ρ' : Nat → Option BI} (hF : ∀ b, F b → F' b) (hw : ∀ b, F b → w'.heap[b]? = w.heap[b]?)
    (hρ : ∀ id bi, ρ id = some bi → ρ' id = some bi) {bi : BI} {lb : LB} (hb : 0 < bi.csz → w'.heap[bi.blk]? = w.heap[bi.blk]?) (h : BR w F ρ bi lb) : BR w' F' ρ' bi lb := by
  cases lb with
  | cells sz rows =>
    obtain ⟨h1, h2, h3, h4⟩ := h
    refine ⟨h1, h2, h3, fun hp => ?_⟩
    obtain ⟨cs, ty, g1, g2, g3, g4⟩ := h4 hp
    exact ⟨cs, ty, by rw [hb hp]; exact g1, g2, g3, fun j x hx => ⟨(g4 j x hx).1, (g4 j x hx).2.mono hF hw hρ⟩⟩
  | iter s pos => exact ⟨h.1, by rw [hb h.1]; exact h.2⟩

/-- The abstract state: slots, live blocks, the next block's number, how many slots. -/
structure St where
  t : Nat → AV
  h : Nat → Option LB
  n : Nat
  m : Nat

def upd (t : Nat → AV) (d : Nat) (v : AV) : Nat → AV := fun j => bif Nat.beq j d then v else t j
def updH (h : Nat → Option LB) (d : Nat) (v : Option LB) : Nat → Option LB := fun j => bif Nat.beq j d then v else h j
theorem upd_same (t : Nat → AV) (d : Nat) (v : AV) : upd t d v d = v := by simp [upd]
theorem beq_ne {j d : Nat} (h : j ≠ d) : Nat.beq j d = false := by
  cases hb : Nat.beq j d with
  | false => rfl
  | true => exact absurd (Nat.eq_of_beq_eq_true hb) h
theorem upd_ne (t : Nat → AV) {d j : Nat} (v : AV) (h : j ≠ d) : upd t d v j = t j := by simp [upd, beq_ne h]
theorem updH_same (t : Nat → Option LB) (d : Nat) (v : Option LB) : updH t d v d = v := by simp [updH]
theorem updH_ne (t : Nat → Option LB) {d j : Nat} (v : Option LB) (h : j ≠ d) : updH t d v j = t j := by simp [updH, beq_ne h]
def updsH (h : Nat → Option LB) : List (Nat × Option LB) → Nat → Option LB
  | [] => h
  | (d, v) :: l => updsH (updH h d v) l

/-- A slot's value: the activation's own, or one of a caller's (from 1000000 on). -/
def gval (a : Act) (gh : Array Value) (t : Nat) : Value := if t < 1000000 then a.tmps.getD t undef else gh.getD (t - 1000000) undef
theorem gval_lt {a : Act} {gh : Array Value} {t : Nat} (h : t < 1000000) : gval a gh t = a.tmps.getD t undef := if_pos h
theorem gval_ge (a : Act) (gh : Array Value) (t : Nat) : gval a gh (1000000 + t) = gh.getD t undef := by
  unfold gval
  rw [if_neg (by omega), Nat.add_sub_cancel_left]

/-- The abstract state stands to the machine's: w0 is the world when the function began, F0 what was frozen then; F what is frozen, ρ where the live blocks lie; fr: the numbers that no block has yet. -/
structure Rel (gh : Array Value) (w0 : World) (F0 F : Nat → Prop) (ρ : Nat → Option BI) (fr : Nat → Prop) (s : St) (a : Act) (w : World) : Prop where
  defers : a.defers = []
  size : a.tmps.size = s.m
  mle : s.m ≤ 1000000
  below : Below w0.heap.size w0 w
  Fb : ∀ b, F b → b < w.heap.size
  F0F : ∀ b, F0 b → F b
  Fnew : ∀ b, F b → F0 b ∨ w0.heap.size ≤ b
  vals : ∀ t, VR w F ρ (gval a gh t) (s.t t)
  blks : ∀ id lb, s.h id = some lb → ∃ bi, ρ id = some bi ∧ BR w F ρ bi lb ∧ (0 < bi.csz → ¬ F bi.blk ∧ w0.heap.size ≤ bi.blk)
  inj : ∀ id id' bi bi', (s.h id).isSome = true → (s.h id').isSome = true → ρ id = some bi → ρ id' = some bi' → 0 < bi.csz → 0 < bi'.csz → id ≠ id' → bi.blk ≠ bi'.blk
  fresh : ∀ id, fr id → ρ id = none

section
variable {gh : Array Value} {w0 w w' : World} {F0 F : Nat → Prop} {ρ : Nat → Option BI} {fr fr' : Nat → Prop} {s : St} {a : Act}

theorem Rel.mono_fr (h : Rel gh w0 F0 F ρ fr s a w) (hf : ∀ id, fr' id → fr id) : Rel gh w0 F0 F ρ fr' s a w :=
  { h with fresh := fun id hid => h.fresh id (hf id hid) }

theorem Rel.put (h : Rel gh w0 F0 F ρ fr s a w) {v' : Value} {v : AV} (hv : VR w F ρ v' v) (d : Nat) (hd : d < s.m) :
    Rel gh w0 F0 F ρ fr { s with t := upd s.t d v } (a.put (some d) v') w :=
  { h with
    defers := h.defers
    size := by simp [Act.put, h.size]
    vals := fun t => by
      by_cases e : t = d
      · subst e
        have hlt : t < a.tmps.size := by rw [h.size]; exact hd
        have hm := h.mle
        have : (a.put (some t) v').tmps.getD t undef = v' := by simp [Act.put, hlt]
        rw [gval_lt (by omega), this]
        show VR w F ρ v' (upd s.t t v t)
        rw [upd_same]
        exact hv
      · have this' : (a.put (some d) v').tmps.getD t undef = a.tmps.getD t undef := by simp [Act.put, Array.getElem?_setIfInBounds_ne (Ne.symm e)]
        have : gval (a.put (some d) v') gh t = gval a gh t := by unfold gval; rw [this']
        rw [this]
        show VR w F ρ _ (upd s.t d v t)
        rw [upd_ne _ _ e]
        exact h.vals t }

/-- The world goes on: only draws, or blocks that are new. -/
theorem Rel.world (h : Rel gh w0 F0 F ρ fr s a w) (hs : w.heap.size ≤ w'.heap.size) (hb : ∀ k, k < w.heap.size → w'.heap[k]? = w.heap[k]?) (ho : w'.os = w.os) (ht : w'.tape = w.tape) (hu : w'.output = w.output) :
    Rel gh w0 F0 F ρ fr s a w' := by
  have hF : ∀ b, F b → w'.heap[b]? = w.heap[b]? := fun b hb' => hb b (h.Fb b hb')
  refine { h with below := ?_, Fb := fun b hb' => Nat.lt_of_lt_of_le (h.Fb b hb') hs, vals := fun t => (h.vals t).mono (fun _ h => h) hF (fun _ _ h => h), blks := fun id lb hl => ?_ }
  · have hb0 := h.below
    exact ⟨ho.trans hb0.os, ht.trans hb0.tape, hu.trans hb0.output, Nat.le_trans hb0.size hs, fun k hk => (hb k (Nat.lt_of_lt_of_le hk hb0.size)).trans (hb0.block k hk)⟩
  · obtain ⟨bi, h1, h2, h3⟩ := h.blks id lb hl
    refine ⟨bi, h1, h2.mono (fun _ h => h) hF (fun _ _ h => h) (fun hp => hb _ ?_), h3⟩
    cases lb with
    | cells sz rows => obtain ⟨cs, ty, g1, _⟩ := h2.2.2.2 hp; exact (Array.getElem?_eq_some_iff.1 g1).1
    | iter s pos => exact (Array.getElem?_eq_some_iff.1 h2.2).1

theorem Rel.drew (h : Rel gh w0 F0 F ρ fr s a w) : Rel gh w0 F0 F ρ fr s a w.drew := h.world (Nat.le_refl _) (fun _ _ => rfl) rfl rfl rfl

def putρ (ρ : Nat → Option BI) (id : Nat) (bi : BI) : Nat → Option BI := fun j => if j = id then some bi else ρ j

theorem putρ_ext {ρ : Nat → Option BI} {id : Nat} (hid : ρ id = none) (bi : BI) : ∀ j b, ρ j = some b → putρ ρ id bi j = some b := by
  intro j b hj
  unfold putρ
  split
  · rename_i e; subst e; rw [hid] at hj; cases hj
  · exact hj

/-- A number is given to a block that stands in the world and that nothing else names. -/
theorem Rel.name (h : Rel gh w0 F0 F ρ fr s a w) (id : Nat) (hid : fr id) (bi : BI) (lb : LB) (hbr : BR w F ρ bi lb) (hF : 0 < bi.csz → ¬ F bi.blk ∧ w0.heap.size ≤ bi.blk)
    (hnew : 0 < bi.csz → ∀ id' bi', (s.h id').isSome = true → ρ id' = some bi' → 0 < bi'.csz → bi'.blk ≠ bi.blk) :
    Rel gh w0 F0 F (putρ ρ id bi) (fun j => fr j ∧ j ≠ id) { s with h := updH s.h id (some lb) } a w := by
  have hn := h.fresh id hid
  have he := putρ_ext hn bi
  refine { h with vals := fun t => (h.vals t).mono (fun _ h => h) (fun _ _ => rfl) he, blks := fun j lb' hl => ?_, inj := fun i j b1 b2 h1 h2 r1 r2 p1 p2 hne => ?_, fresh := fun j hj => ?_ }
  · by_cases e : j = id
    · subst e
      have hl' : updH s.h j (some lb) j = some lb' := hl
      rw [updH_same] at hl'
      injection hl' with hl'
      subst hl'
      exact ⟨bi, by simp [putρ], hbr.mono (fun _ h => h) (fun _ _ => rfl) he (fun _ => rfl), hF⟩
    · have hl' : updH s.h id (some lb) j = some lb' := hl
      rw [updH_ne _ _ e] at hl'
      obtain ⟨b, g1, g2, g3⟩ := h.blks j lb' hl'
      exact ⟨b, he _ _ g1, g2.mono (fun _ h => h) (fun _ _ => rfl) he (fun _ => rfl), g3⟩
  · have g : ∀ k b, ((updH s.h id (some lb)) k).isSome = true → putρ ρ id bi k = some b → (k = id ∧ b = bi) ∨ (k ≠ id ∧ (s.h k).isSome = true ∧ ρ k = some b) := by
      intro k b hk hr
      by_cases e : k = id
      · subst e; simp [putρ] at hr; exact .inl ⟨rfl, hr.symm⟩
      · rw [updH_ne _ _ e] at hk; simp [putρ, e] at hr; exact .inr ⟨e, hk, hr⟩
    rcases g i b1 h1 r1 with ⟨e1, f1⟩ | ⟨e1, g1, f1⟩ <;> rcases g j b2 h2 r2 with ⟨e2, f2⟩ | ⟨e2, g2, f2⟩
    · exact absurd (e1.trans e2.symm) hne
    · subst f1; exact (hnew p1 j b2 g2 f2 p2).symm
    · subst f2; exact hnew p2 i b1 g1 f1 p1
    · exact h.inj i j b1 b2 g1 g2 f1 f2 p1 p2 hne
  · show putρ ρ id bi j = none
    simp [putρ, hj.2, h.fresh j hj.1]

theorem Rel.blk_lt (h : Rel gh w0 F0 F ρ fr s a w) {id : Nat} {bi : BI} (hi : (s.h id).isSome = true) (hr : ρ id = some bi) (hp : 0 < bi.csz) : bi.blk < w.heap.size := by
  obtain ⟨lb, hl⟩ := Option.isSome_iff_exists.1 hi
  obtain ⟨b, g1, g2, g3⟩ := h.blks id lb hl
  rw [hr] at g1
  injection g1 with g1
  subst g1
  cases lb with
  | cells sz rows => obtain ⟨cs, ty, q1, _⟩ := g2.2.2.2 hp; exact (Array.getElem?_eq_some_iff.1 q1).1
  | iter s pos => exact (Array.getElem?_eq_some_iff.1 g2.2).1

/-- A new row of cells. -/
theorem Rel.alloc (h : Rel gh w0 F0 F ρ fr s a w) (id : Nat) (hid : fr id) (cs : Array Value) (ty : TypeId) (sz : Nat) (rows : List (List AV)) (hw : ∀ r ∈ rows, r.length = sz) (hl : rows.length * sz ≤ cs.size)
    (hc : ∀ (j : Nat) (x : AV), rows.flatten[j]? = some x → (cs.getD j undef).oneCell' = true ∧ VR w F ρ (cs.getD j undef) x) :
    Rel gh w0 F0 F (putρ ρ id ⟨w.heap.size, 0, sz, cs.size⟩) (fun j => fr j ∧ j ≠ id) { s with h := updH s.h id (some (.cells sz rows)) } a (w.alloc (.cells cs ty)) := by
  have h' : Rel gh w0 F0 F ρ fr s a (w.alloc (.cells cs ty)) := h.world (by simp) (fun k hk => Below.heap_alloc w _ k hk) rfl rfl rfl
  have hm : ∀ {v x}, VR w F ρ v x → VR (w.alloc (.cells cs ty)) F ρ v x := fun hv => hv.mono (fun _ h => h) (fun b hb => Below.heap_alloc w _ b (h.Fb b hb)) (fun _ _ h => h)
  refine h'.name id hid _ _ ⟨rfl, hw, fun h0 => ?_, fun hp => ⟨cs, ty, heap_alloc_new w _, rfl, by simpa using hl, fun j x hx => ?_⟩⟩ (fun hp => ⟨fun hF => ?_, ?_⟩) ?_
  · have h0' : cs.size = 0 := h0
    by_cases hz : rows.flatten = []
    · exact hz
    · exfalso
      obtain ⟨x, hx⟩ : ∃ x, rows.flatten[0]? = some x := by
        cases hf : rows.flatten with
        | nil => exact absurd hf hz
        | cons x l => exact ⟨x, rfl⟩
      have := (hc 0 x hx).1
      simp [Array.getD, h0', undef, Value.oneCell'] at this
  · have := hc j x hx
    simp only [Nat.zero_add]
    exact ⟨this.1, hm this.2⟩
  · have := h.Fb _ hF; simp at this
  · exact h.below.size
  · intro hp id' bi' hi hr hp' he
    have h1 : bi'.blk < w.heap.size := h.blk_lt hi hr hp'
    rw [he] at h1
    exact Nat.lt_irrefl _ h1

/-- A live block is left alone from here on: what stands in it is frozen. -/
theorem Rel.forget (h : Rel gh w0 F0 F ρ fr s a w) (id : Nat) : Rel gh w0 F0 F ρ fr { s with h := updH s.h id none } a w := by
  have g : ∀ j lb, updH s.h id none j = some lb → s.h j = some lb := by
    intro j lb hj
    by_cases e : j = id
    · subst e; rw [updH_same] at hj; cases hj
    · rwa [updH_ne _ _ e] at hj
  refine { h with blks := fun j lb hl => h.blks j lb (g j lb hl), inj := fun i j b1 b2 h1 h2 => ?_ }
  obtain ⟨l1, g1⟩ := Option.isSome_iff_exists.1 h1
  obtain ⟨l2, g2⟩ := Option.isSome_iff_exists.1 h2
  exact h.inj i j b1 b2 (by rw [g i l1 g1]; rfl) (by rw [g j l2 g2]; rfl)

theorem Rel.freeze (h : Rel gh w0 F0 F ρ fr s a w) (id : Nat) (bi : BI) (hi : (s.h id).isSome = true) (hr : ρ id = some bi) (hp : 0 < bi.csz) :
    Rel gh w0 F0 (fun b => F b ∨ b = bi.blk) ρ fr { s with h := updH s.h id none } a w := by
  have h' := h.forget id
  have hF : ∀ b, F b → (F b ∨ b = bi.blk) := fun b hb => .inl hb
  have hge : w0.heap.size ≤ bi.blk := by
    obtain ⟨lb, hl⟩ := Option.isSome_iff_exists.1 hi
    obtain ⟨b, g1, g2, g3⟩ := h.blks id lb hl
    rw [hr] at g1; injection g1 with g1; subst g1
    exact (g3 hp).2
  refine { h' with Fb := fun b hb => ?_, F0F := fun b hb => .inl (h.F0F b hb), Fnew := fun b hb => ?_, vals := fun t => (h'.vals t).mono hF (fun _ _ => rfl) (fun _ _ h => h), blks := fun j lb hl => ?_ }
  · rcases hb with hb | rfl
    · exact h.Fb b hb
    · exact h.blk_lt hi hr hp
  · rcases hb with hb | rfl
    · exact h.Fnew b hb
    · exact .inr hge
  · obtain ⟨b, g1, g2, g3⟩ := h'.blks j lb hl
    refine ⟨b, g1, g2.mono hF (fun _ _ => rfl) (fun _ _ h => h) (fun _ => rfl), fun hp' => ⟨fun hc => ?_, (g3 hp').2⟩⟩
    rcases hc with hc | hc
    · exact (g3 hp').1 hc
    · have e : j ≠ id := fun e => by
        have hl' : updH s.h id none j = some lb := hl
        rw [e, updH_same] at hl'; cases hl'
      have hl' : s.h j = some lb := by
        have hl'' : updH s.h id none j = some lb := hl
        rwa [updH_ne _ _ e] at hl''
      exact h.inj j id b bi (by rw [hl']; rfl) hi g1 hr hp' hp e hc

/-- A live block's cells are written. -/
theorem Rel.write (h : Rel gh w0 F0 F ρ fr s a w) (id : Nat) (bi : BI) (sz : Nat) (rows rows' : List (List AV)) (hl : s.h id = some (.cells sz rows)) (hr : ρ id = some bi) (hp : 0 < bi.csz)
    (cs' : Array Value) (ty : TypeId) (cs : Array Value) (hg : w.heap[bi.blk]? = some (.cells cs ty (0, 0))) (hsz : cs'.size = bi.csz)
    (hw : ∀ r ∈ rows', r.length = sz) (hl' : bi.base + rows'.length * sz ≤ cs'.size)
    (hc : ∀ (j : Nat) (x : AV), rows'.flatten[j]? = some x → (cs'.getD (bi.base + j) undef).oneCell' = true ∧ VR w F ρ (cs'.getD (bi.base + j) undef) x) :
    Rel gh w0 F0 F ρ fr { s with h := updH s.h id (some (.cells sz rows')) } a (w.setRow bi.blk cs') := by
  obtain ⟨b0, g1, g2, g3⟩ := h.blks id _ hl
  rw [hr] at g1; injection g1 with g1; subst g1
  have hnF := (g3 hp).1
  have hge := (g3 hp).2
  have hoth : ∀ k, k ≠ bi.blk → (w.setRow bi.blk cs').heap[k]? = w.heap[k]? := by
    intro k hk
    simp only [World.setRow, Array.getElem?_modify]
    rw [if_neg (by omega)]
  have hF : ∀ b, F b → (w.setRow bi.blk cs').heap[b]? = w.heap[b]? := fun b hb => hoth b (fun e => hnF (e ▸ hb))
  have hm : ∀ {v x}, VR w F ρ v x → VR (w.setRow bi.blk cs') F ρ v x := fun hv => hv.mono (fun _ h => h) hF (fun _ _ h => h)
  refine { h with below := ?_, Fb := fun b hb => by simpa using h.Fb b hb, vals := fun t => hm (h.vals t), blks := fun j lb hj => ?_, inj := fun i j b1 b2 h1 h2 => ?_ }
  · have hb := h.below
    refine hb.trans ⟨rfl, rfl, rfl, by simp, fun k hk => hoth k (by omega)⟩
  · by_cases e : j = id
    · subst e
      have hj' : updH s.h j (some (.cells sz rows')) j = some lb := hj
      rw [updH_same] at hj'; injection hj' with hj'; subst hj'
      refine ⟨bi, hr, ⟨g2.1, hw, fun h0 => by omega, fun _ => ⟨cs', ty, setRow_heap w bi.blk cs cs' ty _ hg, hsz, hl', fun j x hx => ⟨(hc j x hx).1, hm (hc j x hx).2⟩⟩⟩, g3⟩
    · have hj' : updH s.h id (some (.cells sz rows')) j = some lb := hj
      rw [updH_ne _ _ e] at hj'
      obtain ⟨b, q1, q2, q3⟩ := h.blks j lb hj'
      refine ⟨b, q1, q2.mono (fun _ h => h) hF (fun _ _ h => h) (fun hp' => hoth _ ?_), q3⟩
      exact h.inj j id b bi (by rw [hj']; rfl) (by rw [hl]; rfl) q1 hr hp' hp e
  · have g : ∀ k, ((updH s.h id (some (.cells sz rows'))) k).isSome = true → (s.h k).isSome = true := by
      intro k hk
      by_cases e : k = id
      · subst e; rw [hl]; rfl
      · rwa [updH_ne _ _ e] at hk
    exact h.inj i j b1 b2 (g i h1) (g j h2)

end
end Go.AL

set_option linter.unusedSimpArgs false
namespace Go.AL
open Go Go.RowKit

inductive SD where
  | int (k : IntKind)
  | bool
  | str
  | slice (e : Nat)
  | struct (fs : List (Nat × Nat))
  | ptr (e : Nat)
  | func
  | other

def sdOf : TypeDesc → SD
  | .int k => .int k
  | .bool => .bool
  | .string => .str
  | .slice e => .slice e
  | .struct fs => .struct (fs.toList.map fun f => (f.offset, f.type))
  | .pointer e => .ptr e
  | .func _ _ _ => .func
  | _ => .other

structure TI where
  d : SD
  size : Nat
  bytes : Nat
  zero : List Value
  eqs : Bool

/-- May structs of the type be compared field by field? -/
def eqOKb (P : Program) (t : Nat) : Bool := !(P.stoodInHeld t) && !(P.eqGuardType P.depth t) && (match P.underlying t with | some (.struct fs) => fs.toList.all (fun f => !(f.name == "_")) | _ => false)

def TIok (P : Program) (t : Nat) (i : TI) : Prop :=
  ∃ d inf z, P.underlying t = some d ∧ sdOf d = i.d ∧ P.info? t = some inf ∧ inf.size = i.size ∧ inf.bytes = i.bytes ∧ inf.zero = some z ∧ z.cells.toList = i.zero ∧
    i.zero.length = i.size ∧ (i.zero.all Value.oneCell') = true ∧ (i.eqs = true → eqOKb P t = true)

def TTok (P : Program) (TT : Nat → Option TI) : Prop := ∀ t i, TT t = some i → TIok P t i

def findTI : List (Nat × TI) → Nat → Option TI
  | [], _ => none
  | (k, v) :: l, t => bif Nat.beq k t then some v else findTI l t

theorem TTok_of {P : Program} : ∀ {l : List (Nat × TI)}, (∀ p ∈ l, TIok P p.1 p.2) → TTok P (findTI l)
  | [], _ => fun t i h => by simp [findTI] at h
  | (k, v) :: l, hl => fun t i h => by
    unfold findTI at h
    by_cases e : k = t
    · subst e
      rw [show Nat.beq k k = true from Nat.beq_refl k] at h
      injection h with h
      subst h
      exact hl (k, v) (by simp)
    · rw [beq_ne e] at h
      exact TTok_of (fun p hp => hl p (by simp [hp])) t i h

/-- A constant as an abstract value. -/
def AV.ofV : Value → AV
  | .slice none 0 0 => .sl 0 [] true
  | v => .val v

def AV.cells? : AV → Option (List AV)
  | .agg cs => some cs
  | .val v => bif v.oneCell' then some [.val v] else none
  | .sl a b c => some [.sl a b c]
  | .fp r c => some [.fp r c]
  | .own a b c => some [.own a b c]
  | .lp a b => some [.lp a b]
  | .li a b c => some [.li a b c]
  | .it a => some [.it a]
  | _ => none

def ikeq : IntKind → IntKind → Bool
  | .i8, .i8 | .i16, .i16 | .i32, .i32 | .i64, .i64 | .u8, .u8 | .u16, .u16 | .u32, .u32 | .u64, .u64 => true
  | _, _ => false
theorem ikeq_eq {a b : IntKind} (h : ikeq a b = true) : a = b := by cases a <;> cases b <;> first | rfl | (simp [ikeq] at h)

abbrev Ups := List (Nat × Option LB)
abbrev Accs := List (Nat × Bool)

inductive AR where
  | pure (v : AV)
  | fresh (sz : Nat) (rows : List (List AV))

inductive Res : Type 1 where
  | bad
  | ok0 (v : AV) (u : Ups) (a : Accs)
  | ok (c : Prop) (v : AV) (u : Ups) (a : Accs)
  | ex {α : Type} (p : α → Prop) (k : α → Res)
  | br (b : Bool) (x y : Res)
  | call (f : Nat) (args : List AV) (ps : List Prop) (u : Ups) (a : Accs)

/-- What an operation that calls nothing comes to. -/
def Res.gives : Res → AV → Ups → Accs → Prop
  | .bad, _, _, _ => False
  | .ok0 v u a, v', u', a' => v' = v ∧ u' = u ∧ a' = a
  | .ok c v u a, v', u', a' => c ∧ v' = v ∧ u' = u ∧ a' = a
  | .ex p k, v', u', a' => ∃ x, p x ∧ (k x).gives v' u' a'
  | .br b x y, v', u', a' => (b = true ∧ x.gives v' u' a') ∨ (b = false ∧ y.gives v' u' a')
  | .call _ _ _ _ _, _, _, _ => False

def part (i : TI) (row : List AV) (c : Nat) : AV :=
  match i.d with
  | .struct _ => .agg ((row.drop c).take i.size)
  | .other => .any
  | _ => bif Nat.beq i.size 1 then row.getD c .any else .any

/-- Can a variable of the type be read as a whole? -/
def okd (i : TI) : Bool :=
  match i.d with
  | .struct _ => true
  | .other => false
  | _ => Nat.beq i.size 1

def spl (row : List AV) (c : Nat) (xs : List AV) : List AV := row.take c ++ xs ++ row.drop (c + xs.length)

def byteAt (s : ByteArray) (i : Int) : Int := ((s.data.toList.getD i.toNat 0).toNat : Int)
def bytesL (s : ByteArray) : List Int := s.data.toList.map fun b => (b.toNat : Int)
def strL (ns : List Int) : ByteArray := ⟨(ns.map fun n => UInt8.ofNat n.toNat).toArray⟩
def runesL (s : ByteArray) : Nat → Nat → List Int
  | 0, _ => []
  | b + 1, i => if i < s.size then ((Utf8.decode s i).1 : Int) :: runesL s b (i + (Utf8.decode s i).2) else []
def runes (s : ByteArray) : List Int := runesL s s.size 0
def runesStr (ns : List Int) : ByteArray := ns.foldl (fun s n => s ++ Utf8.encode n) ByteArray.empty
def irows (k : IntKind) (ns : List Int) : List (List AV) := ns.map fun n => [AV.val (.int k n)]

/-- Fills a struct's or a row's cells. -/
def fillA (TT : Nat → Option TI) (place : Nat → Option (Nat × Nat)) (cs : List AV) : List (Nat × AV) → Option (List AV)
  | [] => some cs
  | (i, x) :: rest =>
    match place i, x.cells? with
    | some (off, size), some xs => bif Nat.beq xs.length size && Nat.ble (off + size) cs.length then fillA TT place (spl cs off xs) rest else none
    | _, _ => none

def chunk (sz : Nat) : Nat → List AV → List (List AV)
  | 0, _ => []
  | n + 1, l => l.take sz :: chunk sz n (l.drop sz)

/-- Live blocks among a call's arguments are frozen. -/
def frz (h : Nat → Option LB) : AV → Option (AV × List Prop × Ups × Accs)
  | .own id off len => match h id with
    | some (.cells sz rows) => bif Nat.beq sz 0 then none else some (.sl sz ((rows.drop off).take len) false, [off + len ≤ rows.length], [(id, none)], [(id, true)])
    | _ => none
  | .lp _ _ | .li _ _ _ | .it _ | .clo _ _ => none
  | x => some (x, [], [], [])
def frzL (h : Nat → Option LB) : List AV → Option (List AV × List Prop × Ups × Accs)
  | [] => some ([], [], [], [])
  | x :: xs => match frz h x with
    | some (x', p, u, a) => match frzL (updsH h u) xs with
      | some (xs', p', u', a') => some (x' :: xs', p ++ p', u ++ u', a ++ a')
      | none => none
    | none => none
def frzA (h : Nat → Option LB) : List AV → Option (List AV × List Prop × Ups × Accs)
  | [] => some ([], [], [], [])
  | .agg cs :: xs => match frzL h cs with
    | some (cs', p, u, a) => match frzA (updsH h u) xs with
      | some (xs', p', u', a') => some (.agg cs' :: xs', p ++ p', u ++ u', a ++ a')
      | none => none
    | none => none
  | x :: xs => match frz h x with
    | some (x', p, u, a) => match frzA (updsH h u) xs with
      | some (xs', p', u', a') => some (x' :: xs', p ++ p', u ++ u', a ++ a')
      | none => none
    | none => none

def rbin (op : BinOp) (i : TI) : Value → Value → Res
  | .int k a, .int k' b => match op with
    | .shl => .ok (0 ≤ b) (.val (.int k (k.wrap (a * 2 ^ (min b.toNat k.bits))))) [] []
    | .shr => .ok (0 ≤ b) (.val (.int k (a.fdiv (2 ^ (min b.toNat k.bits))))) [] []
    | op => bif ikeq k k' then (match op with
      | .add => .ok0 (.val (.int k (k.wrap (a + b)))) [] []
      | .sub => .ok0 (.val (.int k (k.wrap (a - b)))) [] []
      | .mul => .ok0 (.val (.int k (k.wrap (a * b)))) [] []
      | .quo => .ok (b ≠ 0) (.val (.int k (k.wrap (a.tdiv b)))) [] []
      | .rem => .ok (b ≠ 0) (.val (.int k (a.tmod b))) [] []
      | .and => .ok0 (.val (.int k (k.wrap ((BitVec.ofInt k.bits a &&& BitVec.ofInt k.bits b).toNat)))) [] []
      | .or => .ok0 (.val (.int k (k.wrap ((BitVec.ofInt k.bits a ||| BitVec.ofInt k.bits b).toNat)))) [] []
      | .xor => .ok0 (.val (.int k (k.wrap ((BitVec.ofInt k.bits a ^^^ BitVec.ofInt k.bits b).toNat)))) [] []
      | .andNot => .ok0 (.val (.int k (k.wrap ((BitVec.ofInt k.bits a &&& ~~~ BitVec.ofInt k.bits b).toNat)))) [] []
      | .eql => .ok0 (.val (.bool (a == b))) [] []
      | .neq => .ok0 (.val (.bool (a != b))) [] []
      | .lss => .ok0 (.val (.bool (decide (a < b)))) [] []
      | .leq => .ok0 (.val (.bool (decide (a ≤ b)))) [] []
      | .gtr => .ok0 (.val (.bool (decide (a > b)))) [] []
      | .geq => .ok0 (.val (.bool (decide (a ≥ b)))) [] []
      | _ => .bad) else .bad
  | .string a, .string b => match op with
    | .add => .ok (a.size + b.size ≤ 9223372036854775807) (.val (.string (a ++ b))) [] []
    | .eql => .ok0 (.val (.bool (a.toList == b.toList))) [] []
    | .neq => .ok0 (.val (.bool (!(a.toList == b.toList)))) [] []
    | .lss => .ok0 (.val (.bool (Op.bytesLess a.toList b.toList))) [] []
    | .leq => .ok0 (.val (.bool (Op.bytesLess a.toList b.toList || a.toList == b.toList))) [] []
    | .gtr => .ok0 (.val (.bool (!(Op.bytesLess a.toList b.toList || a.toList == b.toList)))) [] []
    | .geq => .ok0 (.val (.bool (!(Op.bytesLess a.toList b.toList)))) [] []
    | _ => .bad
  | .bool a, .bool b => match i.d with
    | .bool => match op with
      | .eql => .ok0 (.val (.bool (a == b))) [] []
      | .neq => .ok0 (.val (.bool (!(a == b)))) [] []
      | _ => .bad
    | _ => .bad
  | _, _ => .bad

/-- Are structs of such fields the same? -/
def eqCells (TT : Nat → Option TI) (xs ys : List AV) : List (Nat × Nat) → Option Bool
  | [] => some true
  | (off, ft) :: fs => match TT ft, xs[off]?, ys[off]? with
    | some q, some (.val a), some (.val b) => match okd q, eqCells TT xs ys fs with
      | true, some r => match q.d, a, b with
        | .bool, .bool a, .bool b => some ((a == b) && r)
        | .int _, .int k a, .int k' b => bif ikeq k k' then some ((a == b) && r) else none
        | .str, .string a, .string b => some ((a.toList == b.toList) && r)
        | _, _, _ => none
      | _, _ => none
    | _, _, _ => none
def reqs (TT : Nat → Option TI) (op : BinOp) (i : TI) (xs ys : List AV) : Res :=
  match i.d, i.eqs with
  | .struct fs, true => match eqCells TT xs ys fs with
    | some b => match op with
      | .eql => .ok0 (.val (.bool b)) [] []
      | .neq => .ok0 (.val (.bool (!b))) [] []
      | _ => .bad
    | none => .bad
  | _, _ => .bad

def runop (op : UnOp) : Value → Res
  | .int k n => match op with
    | .neg => .ok0 (.val (.int k (k.wrap (0 - n)))) [] []
    | .xor => .ok0 (.val (.int k (k.wrap ((BitVec.ofInt k.bits (if k.signed then -1 else k.max) ^^^ BitVec.ofInt k.bits n).toNat)))) [] []
    | _ => .bad
  | .bool b => match op with
    | .not => .ok0 (.val (.bool (!b))) [] []
    | _ => .bad
  | _ => .bad

/-- The bounds of a slice expression: low, high, and whether the capacity ends at the high one. -/
def bnd (len : Nat) (lo hi mx : Option AV) : Option (Prop × Nat × Nat × Bool) :=
  match lo, hi, mx with
  | none, none, none => some (True, 0, len, false)
  | some (.val (.int _ l)), none, none => some (0 ≤ l ∧ l ≤ (len : Int), l.toNat, len, false)
  | none, some (.val (.int _ h)), none => some (0 ≤ h ∧ h ≤ (len : Int), 0, h.toNat, false)
  | some (.val (.int _ l)), some (.val (.int _ h)), none => some (0 ≤ l ∧ l ≤ h ∧ h ≤ (len : Int), l.toNat, h.toNat, false)
  | none, some (.val (.int _ h)), some (.val (.int _ m)) => some (0 ≤ h ∧ h = m ∧ h ≤ (len : Int), 0, h.toNat, true)
  | some (.val (.int _ l)), some (.val (.int _ h)), some (.val (.int _ m)) => some (0 ≤ l ∧ l ≤ h ∧ h = m ∧ h ≤ (len : Int), l.toNat, h.toNat, true)
  | _, _, _ => none

def rslice (i : TI) (TT : Nat → Option TI) (h : Nat → Option LB) (x : AV) (lo hi mx : Option AV) : Res :=
  match i.d, x with
  | .str, .val (.string s) => match mx with
    | none => match bnd s.size lo hi none with
      | some (c, l, u, _) => .ok c (.val (.string (s.extract l u))) [] []
      | none => .bad
    | some _ => .bad
  | .slice e, .sl sz rows t => match TT e with
    | some j => bif Nat.beq j.size sz || Nat.beq rows.length 0 then match bnd rows.length lo hi mx with
      | some (c, l, u, f) => .ok c (.sl sz ((rows.take u).drop l) (bif t then Nat.beq rows.length 0 || f else f)) [] []
      | none => .bad else .bad
    | none => .bad
  | .slice e, .own id off len => match TT e, h id with
    | some j, some (.cells sz rows) => bif Nat.beq j.size sz then match bnd len lo hi mx with
      | some (c, l, u, f) => bif f then .bad else .ok c (.own id (off + l) (u - l)) [] [(id, false)]
      | none => .bad else .bad
    | _, _ => .bad
  | _, _ => .bad

def rload (i : TI) (h : Nat → Option LB) : AV → Res
  | .lp id c => match h id with
    | some (.cells _ [row]) => bif okd i && Nat.ble (c + i.size) row.length then .ok0 (part i row c) [] [(id, false)] else .bad
    | _ => .bad
  | .li id r c => match h id with
    | some (.cells sz rows) => bif okd i && Nat.ble (c + i.size) sz then .ex (fun row : List AV => rows[r]? = some row) fun row => .ok0 (part i row c) [] [(id, false)] else .bad
    | _ => .bad
  | .fp row c => bif okd i && Nat.ble (c + i.size) row.length then .ok0 (part i row c) [] [] else .bad
  | _ => .bad

def rstore (i : TI) (h : Nat → Option LB) (xs : List AV) : AV → Res
  | .lp id c => match h id with
    | some (.cells sz [row]) => bif Nat.ble (c + i.size) row.length then .ok0 .any [(id, some (.cells sz [spl row c xs]))] [(id, true)] else .bad
    | _ => .bad
  | .li id r c => match h id with
    | some (.cells sz rows) => bif Nat.beq i.size sz && Nat.beq c 0 then .ok (r < rows.length) .any [(id, some (.cells sz (rows.set r xs)))] [(id, true)]
      else bif Nat.ble (c + i.size) sz then .ex (fun row : List AV => rows[r]? = some row) fun row => .ok0 .any [(id, some (.cells sz (rows.set r (spl row c xs))))] [(id, true)] else .bad
    | _ => .bad
  | _ => .bad

def rindexAddr (j : TI) (h : Nat → Option LB) (i : Int) : AV → Res
  | .sl sz rows _ => bif Nat.beq j.size sz then .ex (fun row : List AV => 0 ≤ i ∧ rows[i.toNat]? = some row) fun row => .ok0 (.fp row 0) [] [] else .bad
  | .own id off len => match h id with
    | some (.cells sz _) => bif Nat.beq j.size sz then .ok (0 ≤ i ∧ i < (len : Int)) (.li id (off + i.toNat) 0) [] [(id, false)] else .bad
    | _ => .bad
  | _ => .bad

def rconv (TT : Nat → Option TI) (base : Nat) (h : Nat → Option LB) (a b : TI) (x : AV) : Res :=
  match b.d, x with
  | .int k, .val (.int _ n) => .ok0 (.val (.int k (k.wrap n))) [] []
  | .str, .val (.int _ n) => .ok0 (.val (.string (Utf8.encode n))) [] []
  | .str, .val (.string s) => .ok0 (.val (.string s)) [] []
  | .slice e, .val (.string s) => match a.d, TT e with
    | .str, some j => match j.d with
      | .int .u8 => .ok0 (.sl 1 (irows .u8 (bytesL s)) false) [] []
      | .int .i32 => .ok0 (.own base 0 (runes s).length) [(base, some (.cells 1 (irows .i32 (runes s))))] []
      | _ => .bad
    | _, _ => .bad
  | .str, .sl sz rows _ => match a.d with
    | .slice e => match TT e with
      | some j => match j.d with
        | .int .u8 => .ex (fun ns : List Int => rows = irows .u8 ns) fun ns => .ok0 (.val (.string (strL ns))) [] []
        | .int .i32 => .ex (fun ns : List Int => rows = irows .i32 ns) fun ns => .ok0 (.val (.string (runesStr ns))) [] []
        | _ => .bad
      | none => .bad
    | _ => .bad
  | .str, .own id off len => match a.d, h id with
    | .slice e, some (.cells sz rows) => match TT e with
      | some j => match j.d with
        | .int .u8 => .ex (fun ns : List Int => off + len ≤ rows.length ∧ (rows.drop off).take len = irows .u8 ns) fun ns => .ok0 (.val (.string (strL ns))) [] [(id, false)]
        | .int .i32 => .ex (fun ns : List Int => off + len ≤ rows.length ∧ (rows.drop off).take len = irows .i32 ns) fun ns => .ok0 (.val (.string (runesStr ns))) [] [(id, false)]
        | _ => .bad
      | none => .bad
    | _, _ => .bad
  | _, _ => .bad

/-- What is appended: the rows, what must hold of them, what is read. -/
def rsrc (h : Nat → Option LB) : AV → Option (Nat × List (List AV) × List Prop × Accs)
  | .sl sz rows _ => some (sz, rows, [], [])
  | .own id off len => match h id with
    | some (.cells sz rows) => some (sz, (rows.drop off).take len, [off + len ≤ rows.length], [(id, false)])
    | _ => none
  | .val (.string s) => some (1, irows .u8 (bytesL s), [], [])
  | _ => none

def allP : List Prop → Prop
  | [] => True
  | [p] => p
  | p :: l => p ∧ allP l

def rappend (j : TI) (base : Nat) (h : Nat → Option LB) (x y : AV) : Res :=
  match rsrc h y with
  | some (sz', ys, ps, acc) => bif (Nat.beq j.size sz' || Nat.beq ys.length 0) && !Nat.beq j.bytes 0 then
    match x with
    | .sl sz rows true => bif Nat.beq j.size sz || Nat.beq rows.length 0 then
        .ok (allP ((rows = [] ∨ ys ≠ []) :: ((rows.length + ys.length) * j.bytes ≤ 140737488355328) :: ps)) (.own base 0 (rows.length + ys.length)) [(base, some (.cells j.size (rows ++ ys)))] acc else .bad
    | .own id off len => match h id with
      | some (.cells sz rows) => bif Nat.beq j.size sz then
          .ok (allP ((off + len ≤ rows.length) :: ((len + ys.length) * j.bytes ≤ 140737488355328) :: ps)) (.own base 0 (len + ys.length)) [(id, none), (base, some (.cells j.size ((rows.drop off).take len ++ ys)))] ((id, true) :: acc) else .bad
      | _ => .bad
    | _ => .bad else .bad
  | none => .bad

def rcopy (j : TI) (h : Nat → Option LB) (x y : AV) : Res :=
  match rsrc h y, x with
  | some (sz', ys, ps, acc), .own id off len => match h id with
    | some (.cells sz rows) => bif Nat.beq j.size sz' && Nat.beq j.size sz then
        .ok (allP ((off + len ≤ rows.length) :: ps)) (.val (.int .i64 (Nat.min ys.length len))) [(id, some (.cells sz (rows.take off ++ ys.take (Nat.min ys.length len) ++ rows.drop (off + Nat.min ys.length len))))] ((id, true) :: acc) else .bad
    | _ => .bad
  | _, _ => .bad

def rlen (i : TI) (x : AV) : Res :=
  match i.d, x with
  | .slice _, .sl _ rows _ => .ok0 (.val (.int .i64 rows.length)) [] []
  | .slice _, .own _ _ len => .ok0 (.val (.int .i64 len)) [] []
  | .str, .val (.string s) => .ok0 (.val (.int .i64 s.size)) [] []
  | _, _ => .bad

def rcap (i : TI) (x : AV) : Res :=
  match i.d, x with
  | .slice _, .sl _ rows true => .ok0 (.val (.int .i64 rows.length)) [] []
  | _, _ => .bad

/-- An append of so many zero values to an empty slice without room. -/
def rgrow (j : TI) (base : Nat) (x y : AV) : Res :=
  match x, y with
  | .sl _ rows true, .val (.int .i64 n) => bif Nat.beq rows.length 0 && !Nat.beq j.bytes 0 then
      .ok (0 ≤ n ∧ n * j.bytes ≤ 140737488355328) (.own base 0 n.toNat) [(base, some (.cells j.size (List.replicate n.toNat (j.zero.map AV.ofV))))] [] else .bad
  | _, _ => .bad

def rmin : List AV → Res
  | [.val (.int k a), .val (.int k' b)] => bif ikeq k k' then .ok0 (.val (.int k (if b < a then b else a))) [] [] else .bad
  | _ => .bad
def rmax : List AV → Res
  | [.val (.int k a), .val (.int k' b)] => bif ikeq k k' then .ok0 (.val (.int k (if b > a then b else a))) [] [] else .bad
  | _ => .bad

def rcall (TT : Nat → Option TI) (ev : Operand → AV) (h : Nat → Option LB) (base : Nat) (c : Call) : Res :=
  match c.callee with
  | .builtin b => match b, c.args.toList.map ev, c.argTypes.toList with
    | .len, [x], t :: _ => match TT t with
      | some i => rlen i x
      | none => .bad
    | .cap, [x], t :: _ => match TT t with
      | some i => rcap i x
      | none => .bad
    | .append, [x, y], [t, u] => match TT t with
      | some i => match i.d with
        | .slice e => match TT e, TT u with
          | some j, some k => match k.d with
            | .slice _ => rappend j base h x y
            | .str => rappend j base h x y
            | .int _ => rgrow j base x y
            | _ => .bad
          | _, _ => .bad
        | _ => .bad
      | none => .bad
    | .copy, [x, y], t :: _ => match TT t with
      | some i => match i.d with
        | .slice e => match TT e with
          | some j => rcopy j h x y
          | none => .bad
        | _ => .bad
      | none => .bad
    | .min, l, _ => rmin l
    | .max, l, _ => rmax l
    | _, _, _ => .bad
  | .value f => match ev f with
    | .val (.func (.func g) ⟨[]⟩ ⟨[]⟩) => match frzA h (c.args.toList.map ev) with
      | some (args, ps, u, a) => .call g args ps u a
      | none => .bad
    | _ => .bad
  | .invoke _ _ => .bad

def aop (TT : Nat → Option TI) (o : Oper) (ev : Operand → AV) (h : Nat → Option LB) (base : Nat) : Res :=
  match o.op with
  | .move x | .assign x => .ok0 (ev x) [] []
  | .pick c a b => match ev c with
    | .val (.bool p) => .br p (.ok0 (ev a) [] []) (.ok0 (ev b) [] [])
    | _ => .bad
  | .alloc e => match TT e with
    | some i => .ok0 (.lp base 0) [(base, some (.cells i.size [i.zero.map AV.ofV]))] []
    | none => .bad
  | .box e x => match (ev x).cells? with
    | some cs => .ok0 (.lp base 0) [(base, some (.cells cs.length [cs]))] []
    | none => .bad
  | .build t parts => match TT t with
    | some i => match i.d with
      | .struct fs => bif fs.all (fun p => (TT p.2).isSome) then match fillA TT (fun k => match fs[k]? with | some (off, ft) => (TT ft).map fun q => (off, q.size) | none => none) (i.zero.map AV.ofV) (parts.toList.map fun p => (p.1, ev p.2)) with
        | some cs => .ok0 (.agg cs) [] []
        | none => .bad else .bad
      | _ => .bad
    | none => .bad
  | .buildSlice t len parts => match TT t with
    | some i => match i.d with
      | .slice e => match TT e with
        | some j => bif Nat.ble (len * j.size) 16777216 && !Nat.beq j.size 0 then match frzA h (parts.toList.map fun p => ev p.2) with
          | some (xs, p :: ps, u, a) => match fillA TT (fun k => some (k * j.size, j.size)) (List.replicate len (j.zero.map AV.ofV)).flatten ((parts.toList.map (·.1)).zip xs) with
            | some cs => .ok (allP (p :: ps) ∧ ∀ x ∈ xs, NoId x) (.own base 0 len) (u ++ [(base, some (.cells j.size (chunk j.size len cs)))]) a
            | none => .bad
          | _ => match fillA TT (fun k => some (k * j.size, j.size)) (List.replicate len (j.zero.map AV.ofV)).flatten (parts.toList.map fun p => (p.1, ev p.2)) with
            | some cs => .ok0 (.own base 0 len) [(base, some (.cells j.size (chunk j.size len cs)))] []
            | none => .bad
          else .bad
        | none => .bad
      | _ => .bad
    | none => .bad
  | .load t x => match TT t with
    | some i => rload i h (ev x)
    | none => .bad
  | .store t x y => match TT t, (ev y).cells? with
    | some i, some xs => bif Nat.beq xs.length i.size && !Nat.beq i.size 0 then rstore i h xs (ev x) else .bad
    | _, _ => .bad
  | .nilCheck x => match ev x with
    | .lp a b => .ok0 (.lp a b) [] []
    | .li a b c => .ok0 (.li a b c) [] []
    | .fp a b => .ok0 (.fp a b) [] []
    | .val (.func (.func g) a b) => .ok0 (.val (.func (.func g) a b)) [] []
    | _ => .bad
  | .binOp op xt x y _ => match TT xt, ev x, ev y with
    | some i, .val a, .val b => rbin op i a b
    | some i, .agg xs, .agg ys => reqs TT op i xs ys
    | _, _, _ => .bad
  | .unOp op _ x => match ev x with
    | .val a => runop op a
    | _ => .bad
  | .convert s d x => match TT s, TT d with
    | some a, some b => rconv TT base h a b (ev x)
    | _, _ => .bad
  | .makeSlice t l c => match TT t with
    | some i => match i.d with
      | .slice e => match TT e, ev l, ev c with
        | some j, .val (.int kl n), .val (.int kc m) => bif ikeq kl .i64 && ikeq kc .i64 && !Nat.beq j.bytes 0 then
            .ok (0 ≤ n ∧ n ≤ m ∧ m * j.bytes ≤ 140737488355328) (.own base 0 n.toNat) [(base, some (.cells j.size (List.replicate n.toNat (j.zero.map AV.ofV))))] [] else .bad
        | _, _, _ => .bad
      | _ => .bad
    | none => .bad
  | .slice t x lo hi mx => match TT t with
    | some i => rslice i TT h (ev x) (lo.map ev) (hi.map ev) (mx.map ev)
    | none => .bad
  | .fieldAddr s x f => match TT s with
    | some i => match i.d with
      | .struct fs => match fs[f]? with
        | some (off, ft) => match TT ft with
          | some q => bif Nat.beq q.size 0 then .bad else match ev x with
            | .lp id c => .ok0 (.lp id (c + off)) [] []
            | .li id r c => .ok0 (.li id r (c + off)) [] []
            | .fp row c => .ok0 (.fp row (c + off)) [] []
            | _ => .bad
          | none => .bad
        | none => .bad
      | _ => .bad
    | none => .bad
  | .field s x f => match TT s with
    | some i => match i.d with
      | .struct fs => match fs[f]?, ev x with
        | some (off, ft), .agg cs => match TT ft with
          | some q => bif okd q && Nat.ble (off + q.size) cs.length then .ok0 (part q cs off) [] [] else .bad
          | none => .bad
        | _, _ => .bad
      | _ => .bad
    | none => .bad
  | .indexAddr t x ix => match TT t with
    | some i => match i.d with
      | .slice e => match TT e, ev ix with
        | some j, .val (.int _ n) => rindexAddr j h n (ev x)
        | _, _ => .bad
      | _ => .bad
    | none => .bad
  | .index t x ix => match TT t, ev x, ev ix with
    | some i, .val (.string s), .val (.int _ n) => match i.d with
      | .str => .ok (0 ≤ n ∧ n < (s.size : Int)) (.val (.int .u8 (byteAt s n))) [] []
      | _ => .bad
    | _, _, _ => .bad
  | .range t x => match TT t, ev x with
    | some i, .val (.string s) => match i.d with
      | .str => .ok0 (.it base) [(base, some (.iter s 0))] []
      | _ => .bad
    | _, _ => .bad
  | .next x true => match ev x with
    | .it id => match h id with
      | some (.iter s pos) => .br (decide (pos < s.size))
          (.ok0 (.tup [.val (.bool true), .val (.int .i64 pos), .val (.int .i32 (Utf8.decode s pos).1)]) [(id, some (.iter s (pos + (Utf8.decode s pos).2)))] [(id, true)])
          (.ok0 (.tup [.val (.bool false)]) [] [(id, false)])
      | _ => .bad
    | _ => .bad
  | .extract x i => match ev x with
    | .tup cs => match cs[i]? with
      | some v => .ok0 v [] []
      | none => .bad
    | _ => .bad
  | .call c => rcall TT ev h base c
  | .makeFunc (.func f) ⟨[]⟩ caps => .ok0 (.clo f (caps.toList.map ev)) [] []
  | _ => .bad

end Go.AL

set_option linter.unusedSimpArgs false
namespace Go.AL
open Go Go.RowKit

theorem flat_get {α : Type} {sz : Nat} (hs : 0 < sz) : ∀ (rows : List (List α)) (hw : ∀ r ∈ rows, r.length = sz) (j : Nat), rows.flatten[j]? = (rows[j / sz]?).bind fun r => r[j % sz]?
  | [], _, j => by simp
  | r :: rows, hw, j => by
    have hr : r.length = sz := hw r (by simp)
    have ih := flat_get hs rows (fun q hq => hw q (by simp [hq]))
    rw [List.flatten_cons, List.getElem?_append]
    by_cases h : j < sz
    · simp [hr, h, Nat.div_eq_of_lt h, Nat.mod_eq_of_lt h]
    · rw [if_neg (by omega), hr, ih]
      have h1 : j / sz = (j - sz) / sz + 1 := by
        have := Nat.div_eq_sub_div hs (show sz ≤ j by omega)
        omega
      have h2 : j % sz = (j - sz) % sz := Nat.mod_eq_sub_mod (by omega)
      rw [h1, h2]
      simp

theorem flat_len {α : Type} {sz : Nat} : ∀ (rows : List (List α)) (hw : ∀ r ∈ rows, r.length = sz), rows.flatten.length = rows.length * sz
  | [], _ => by simp
  | r :: rows, hw => by
    have hr : r.length = sz := hw r (by simp)
    have ih := flat_len rows (fun q hq => hw q (by simp [hq]))
    simp only [List.flatten_cons, List.length_append, ih, hr, List.length_cons, Nat.add_mul, Nat.one_mul]
    omega

theorem flat_row {α : Type} {sz : Nat} {rows : List (List α)} (hw : ∀ r ∈ rows, r.length = sz) {r c : Nat} {row : List α} {x : α} (hr : rows[r]? = some row) (hx : row[c]? = some x) : rows.flatten[r * sz + c]? = some x := by
  have hl : row.length = sz := hw row (List.mem_of_getElem? hr)
  have hc : c < sz := by have := (List.getElem?_eq_some_iff.1 hx).1; omega
  rw [flat_get (by omega) rows hw]
  have h1 : (r * sz + c) / sz = r := by rw [Nat.mul_comm, Nat.mul_add_div (by omega), Nat.div_eq_of_lt hc]; rfl
  have h2 : (r * sz + c) % sz = c := by rw [Nat.mul_comm, Nat.mul_add_mod, Nat.mod_eq_of_lt hc]
  rw [h1, h2, hr]
  exact hx

theorem addr_add (b o j : Nat) : (⟨b, o, none⟩ : Addr).add j = ⟨b, o + j, none⟩ := by unfold Addr.add; split <;> simp_all

section
variable {P : Program} {TT : Nat → Option TI}

theorem run_sizeOf {t : Nat} {i : TI} (h : TIok P t i) (w : World) : (sizeOf t).run P w = .ok i.size w := by
  obtain ⟨d, inf, z, hu, hd, hi, h1, h2, h3, h4, h5, h6, h7⟩ := h
  simp [sizeOf, typeInfo, hi, h1]

theorem run_loadVar' {t : Nat} {i : TI} (h : TIok P t i) (hs : match i.d with | .struct _ => True | .other => False | _ => i.size = 1) (w : World) (b o : Nat) (vals : Nat → Value)
    (hc : ∀ j, j < i.size → w.cell? ⟨b, o + j, none⟩ = some (vals j)) :
    (loadVar t ⟨b, o, none⟩).run P w = .ok (match i.d with | .struct _ => .agg ((List.range i.size).map vals).toArray | _ => vals 0) w := by
  have hsz := run_sizeOf h w
  obtain ⟨d, inf, z, hu, hd, hi, h1, h2, h3, h4, h5, h6, h7⟩ := h
  have hone : i.size = 1 → (load (⟨b, o, none⟩ : Addr)).run P w = .ok (vals 0) w := by
    intro h1'
    have := hc 0 (by omega)
    simp only [Nat.add_zero] at this
    simp [this]
  rw [← hd] at hs ⊢
  cases d <;> simp only [sdOf] at hs ⊢ <;> simp [loadVar, isAgg, run_underlying hu]
  all_goals first
    | (have := hone hs; simpa using this)
    | skip
  · rw [hsz]
    simp only [Result.andThen_ok]
    rw [run_loadCells w ⟨b, o, none⟩ i.size vals (fun j hj => by rw [addr_add]; exact hc j hj)]
    simp

theorem run_storeVar' {t : Nat} {i : TI} (h : TIok P t i) (v : Value) (hv : v.cells.size = i.size) (w : World) (g o : Nat) (cur : Array Value) (ty : TypeId) (hg : w.heap[g]? = some (.cells cur ty (0, 0)))
    (hfit : o + i.size ≤ cur.size) (h1 : ∀ x ∈ v.cells.toList, x.oneCell' = true) :
    (storeVar t ⟨g, o, none⟩ v).run P w = .ok () (w.setRow g (cur.toList.take o ++ v.cells.toList ++ cur.toList.drop (o + i.size)).toArray) := by
  have hsz := run_sizeOf h w
  have hst := run_storeCells_at P g o ty v.cells.toList 0 cur w hg (by simp [hv]; omega) h1
  simp only [Nat.add_zero, Array.length_toList, hv] at hst
  simp only [storeVar, Sem.run_bind, hsz, Result.andThen_ok]
  rw [if_neg (by simp [hv])]
  exact hst

end

theorem VR.cells {w : World} {F : Nat → Prop} {ρ : Nat → Option BI} {v : Value} {x : AV} {cs : List AV} (h : VR w F ρ v x) (hc : x.cells? = some cs) :
    v.cells.size = cs.length ∧ ∀ (j : Nat) (y : AV), cs[j]? = some y → (v.cells.getD j undef).oneCell' = true ∧ VR w F ρ (v.cells.getD j undef) y := by
  have one : ∀ (v : Value) (y : AV), v.oneCell' = true → VR w F ρ v y → v.cells.size = [y].length ∧ ∀ (j : Nat) (z : AV), [y][j]? = some z → (v.cells.getD j undef).oneCell' = true ∧ VR w F ρ (v.cells.getD j undef) z := by
    intro v y hv hy
    have e : v.cells = #[v] := by cases v <;> first | rfl | (simp [Value.oneCell'] at hv)
    rw [e]
    refine ⟨rfl, fun j z hz => ?_⟩
    cases j with
    | zero => simp at hz; subst hz; exact ⟨hv, hy⟩
    | succ j => simp at hz
  cases h with
  | any v => simp [AV.cells?] at hc
  | tup vs cs' h h2 => simp [AV.cells?] at hc
  | agg vs cs' h h1 h2 =>
    simp only [AV.cells?, Option.some.injEq] at hc
    subst hc
    exact ⟨h, fun j y hy => ⟨h1 j y hy, h2 j y hy⟩⟩
  | val v =>
    simp only [AV.cells?] at hc
    cases hv : v.oneCell' with
    | false => simp [hv] at hc
    | true =>
      simp [hv] at hc
      subst hc
      exact one v _ hv (.val v)
  | sl A n c sz rows t b o vals hn hcc ht hw hA h0 h1 h2 hno =>
    simp only [AV.cells?, Option.some.injEq] at hc; subst hc
    exact one _ _ rfl (.sl A n c sz rows t b o vals hn hcc ht hw hA h0 h1 h2 hno)
  | fp row c b o vals hF h0 h1 h2 hno => simp only [AV.cells?, Option.some.injEq] at hc; subst hc; exact one _ _ rfl (.fp row c b o vals hF h0 h1 h2 hno)
  | own A id off len cap bi hr hl hA => simp only [AV.cells?, Option.some.injEq] at hc; subst hc; exact one _ _ rfl (.own A id off len cap bi hr hl hA)
  | lp id c bi hr => simp only [AV.cells?, Option.some.injEq] at hc; subst hc; exact one _ _ rfl (.lp id c bi hr)
  | li id r c bi hr => simp only [AV.cells?, Option.some.injEq] at hc; subst hc; exact one _ _ rfl (.li id r c bi hr)
  | it id bi hr => simp only [AV.cells?, Option.some.injEq] at hc; subst hc; exact one _ _ rfl (.it id bi hr)
  | clo f vs cs' h h2 => simp [AV.cells?] at hc

theorem VR.ofV (w : World) (F : Nat → Prop) (ρ : Nat → Option BI) (v : Value) : VR w F ρ v (AV.ofV v) := by
  unfold AV.ofV
  split
  · exact .sl none 0 0 0 [] true 0 0 (fun _ => undef) rfl (Nat.le_refl _) (fun _ => rfl) (fun r hr => by cases hr) (fun h => absurd rfl h) (fun j x hx => by simp at hx) (fun j x hx => by simp at hx) (fun j x hx => by simp at hx) (fun j x hx => by simp at hx)
  · exact .val v

/-- An operand as the abstract state has it. -/
def aval (t : Nat → AV) : Operand → AV
  | .tmp j => bif Nat.blt j 1000000 then t j else .val undef
  | .const v => AV.ofV v
  | .global g => .val (.pointer (some ⟨g, 0, none⟩))
  | .func f => .val (.func (.func f) #[] #[])

section
variable {P : Program} {TT : Nat → Option TI} {gh : Array Value} {w0 w : World} {F0 F : Nat → Prop} {ρ : Nat → Option BI} {fr : Nat → Prop} {s : St} {a : Act} {b : Nat}

theorem Rel.aval (hR : Rel gh w0 F0 F ρ fr s a w) (x : Operand) : VR w F ρ (a.eval x) (AL.aval s.t x) := by
  cases x with
  | tmp j =>
    have hs := hR.size
    have hm := hR.mle
    show VR w F ρ (a.tmps.getD j undef) (bif Nat.blt j 1000000 then s.t j else .val undef)
    cases hb : Nat.blt j 1000000 with
    | true =>
      have hj : j < 1000000 := Nat.blt_eq.mp hb
      have := hR.vals j
      rw [gval_lt hj] at this
      exact this
    | false =>
      have hj : 1000000 ≤ j := Nat.le_of_not_lt fun h => by rw [Nat.blt_eq.mpr h] at hb; cases hb
      have hge : a.tmps.size ≤ j := Nat.le_trans (Nat.le_of_eq hs) (Nat.le_trans hm hj)
      rw [Array.getD_eq_getD_getElem?, Array.getElem?_eq_none hge]
      exact .val _
  | const v => exact .ofV w F ρ v
  | global g => exact .val _
  | func f => exact .val _

/-- What an operation must come to. -/
def Post (P : Program) (o : Oper) (a : Act) (w : World) (gh : Array Value) (w0 : World) (F0 : Nat → Prop) (fr : Nat → Prop) (b : Nat) (s' : St) (x : AV) : Prop :=
  ∃ nx w' v, (execOp a.eval o).run P w = .ok nx w' ∧ (nx = .value v ∨ (nx = .skip ∧ v = undef)) ∧
    ∃ F' ρ', Rel gh w0 F0 F' ρ' (fun j => fr j ∧ ¬ (b ≤ j ∧ j < b + 8)) s' a w' ∧ VR w' F' ρ' v x

theorem Post.val {o : Oper} {v : Value} {x : AV} (hR : Rel gh w0 F0 F ρ fr s a w) (hr : (execOp a.eval o).run P w = .ok (.value v) w) (hv : VR w F ρ v x) : Post P o a w gh w0 F0 fr b s x :=
  ⟨_, w, v, hr, .inl rfl, F, ρ, hR.mono_fr (fun _ h => h.1), hv⟩

theorem Post.alloc {o : Oper} {v : Value} {x : AV} (hR : Rel gh w0 F0 F ρ fr s a w) (hfr : ∀ k, k < 8 → fr (b + k)) (cs : Array Value) (ty : TypeId) (sz : Nat) (rows : List (List AV)) (hw : ∀ r ∈ rows, r.length = sz) (hl : rows.length * sz ≤ cs.size)
    (hc : ∀ (j : Nat) (x : AV), rows.flatten[j]? = some x → (cs.getD j undef).oneCell' = true ∧ VR w F ρ (cs.getD j undef) x)
    (hr : (execOp a.eval o).run P w = .ok (.value v) (w.alloc (.cells cs ty)))
    (hv : VR (w.alloc (.cells cs ty)) F (putρ ρ b ⟨w.heap.size, 0, sz, cs.size⟩) v x) : Post P o a w gh w0 F0 fr b { s with h := updH s.h b (some (.cells sz rows)) } x :=
  ⟨_, _, v, hr, .inl rfl, F, _, (hR.alloc b (hfr 0 (by omega)) cs ty sz rows hw hl hc).mono_fr (fun j hj => ⟨hj.1, fun e => hj.2 ⟨by omega, by omega⟩⟩), hv⟩

theorem zero_cells {t : Nat} {i : TI} (h : TIok P t i) (j : Nat) (x : AV) (hx : (i.zero.map AV.ofV)[j]? = some x) : (i.zero.toArray.getD j undef).oneCell' = true ∧ VR w F ρ (i.zero.toArray.getD j undef) x := by
  obtain ⟨d, inf, z, hu, hd, hi, h1, h2, h3, h4, h5, h6, h7⟩ := h
  rw [List.getElem?_map] at hx
  cases hz : i.zero[j]? with
  | none => simp [hz] at hx
  | some v =>
    simp [hz] at hx
    subst hx
    have hm := List.mem_of_getElem? hz
    have e : i.zero.toArray.getD j undef = v := by
      have hj := (List.getElem?_eq_some_iff.1 hz).1
      simp [hj]
      exact (List.getElem?_eq_some_iff.1 hz).2
    rw [e]
    exact ⟨List.all_eq_true.1 h6 v hm, .ofV w F ρ v⟩

theorem run_zero {t : Nat} {i : TI} (h : TIok P t i) (w : World) : ∃ z, (zeroValue t).run P w = .ok z w ∧ z.cells = i.zero.toArray := by
  obtain ⟨d, inf, z, hu, hd, hi, h1, h2, h3, h4, h5, h6, h7⟩ := h
  exact ⟨z, by simp [zeroValue, typeInfo, hi, h3], by rw [← h4]⟩

theorem op_alloc {o : Oper} {e : Nat} {i : TI} (hT : TTok P TT) (hR : Rel gh w0 F0 F ρ fr s a w) (hfr : ∀ k, k < 8 → fr (b + k)) (ho : o.op = .alloc e) (hi : TT e = some i) :
    Post P o a w gh w0 F0 fr b { s with h := updH s.h b (some (.cells i.size [i.zero.map AV.ofV])) } (.lp b 0) := by
  have ht := hT e i hi
  obtain ⟨z, hz, hzc⟩ := run_zero ht w
  have hlen : i.zero.length = i.size := by obtain ⟨d, inf, z, hu, hd, hi, h1, h2, h3, h4, h5, h6, h7⟩ := ht; exact h5
  refine Post.alloc hR hfr i.zero.toArray e i.size [i.zero.map AV.ofV] (by simp [hlen]) (by simp [hlen]) (fun j x hx => zero_cells ht j x (by simpa using hx)) (v := .pointer (some ⟨w.heap.size, 0, none⟩)) ?_ ?_
  · simp [execOp, ho, Instr.alloc, hz, newVar, newRow, hzc]
  · exact .lp b 0 ⟨w.heap.size, 0, i.size, i.zero.toArray.size⟩ (by simp [putρ])

theorem op_box {o : Oper} {e : Nat} {x : Operand} {cs : List AV} (hR : Rel gh w0 F0 F ρ fr s a w) (hfr : ∀ k, k < 8 → fr (b + k)) (ho : o.op = .box e x) (hc : (aval s.t x).cells? = some cs) :
    Post P o a w gh w0 F0 fr b { s with h := updH s.h b (some (.cells cs.length [cs])) } (.lp b 0) := by
  obtain ⟨h1, h2⟩ := (hR.aval x).cells hc
  refine Post.alloc hR hfr (a.eval x).cells e cs.length [cs] (by simp) (by simp [h1]) (fun j y hy => h2 j y (by simpa using hy)) (v := .pointer (some ⟨w.heap.size, 0, none⟩)) ?_ ?_
  · simp [execOp, ho, Instr.box, newVar, newRow]
  · exact .lp b 0 ⟨w.heap.size, 0, cs.length, (a.eval x).cells.size⟩ (by simp [putρ])

end
end Go.AL

set_option linter.unusedSimpArgs false
namespace Go.AL
open Go Go.RowKit

section
variable {P : Program} {TT : Nat → Option TI} {gh : Array Value} {w0 w : World} {F0 F : Nat → Prop} {ρ : Nat → Option BI} {fr : Nat → Prop} {s : St} {a : Act} {b : Nat}

theorem Rel.block (hR : Rel gh w0 F0 F ρ fr s a w) {id sz : Nat} {rows : List (List AV)} (hl : s.h id = some (.cells sz rows)) :
    ∃ bi, ρ id = some bi ∧ bi.sz = sz ∧ (∀ r ∈ rows, r.length = sz) ∧ (0 < bi.csz → ¬ F bi.blk ∧ w0.heap.size ≤ bi.blk) ∧ (bi.csz = 0 → rows.flatten = []) ∧
      (0 < bi.csz → ∃ cs ty, w.heap[bi.blk]? = some (.cells cs ty (0, 0)) ∧ cs.size = bi.csz ∧ bi.base + rows.length * sz ≤ cs.size ∧
        ∀ (j : Nat) (x : AV), rows.flatten[j]? = some x → (cs.getD (bi.base + j) undef).oneCell' = true ∧ VR w F ρ (cs.getD (bi.base + j) undef) x) := by
  obtain ⟨bi, h1, ⟨h2, h3, h4, h5⟩, h6⟩ := hR.blks id _ hl
  exact ⟨bi, h1, h2, h3, h6, h4, h5⟩

/-- A live block's cell is read. -/
theorem Rel.cell (hR : Rel gh w0 F0 F ρ fr s a w) {id sz : Nat} {rows : List (List AV)} (hl : s.h id = some (.cells sz rows)) :
    ∃ bi, ρ id = some bi ∧ bi.sz = sz ∧ ∀ (j : Nat) (x : AV), rows.flatten[j]? = some x → ∃ v, w.cell? ⟨bi.blk, bi.base + j, none⟩ = some v ∧ v.oneCell' = true ∧ VR w F ρ v x := by
  obtain ⟨bi, h1, h2, h3, h4, h5, h6⟩ := hR.block hl
  refine ⟨bi, h1, h2, fun j x hx => ?_⟩
  have hp : 0 < bi.csz := Nat.pos_of_ne_zero fun h0 => by rw [h5 h0] at hx; simp at hx
  obtain ⟨cs, ty, g1, g2, g3, g4⟩ := h6 hp
  have hj : j < rows.flatten.length := (List.getElem?_eq_some_iff.1 hx).1
  rw [flat_len rows h3] at hj
  have hlt : bi.base + j < cs.size := by omega
  refine ⟨cs.getD (bi.base + j) undef, ?_, (g4 j x hx).1, (g4 j x hx).2⟩
  rw [cell_of_row w bi.blk (bi.base + j) cs ty (0, 0) g1]
  simp [hlt]

/-- A variable is read as a whole. -/
theorem load_part {t : Nat} {i : TI} (h : TIok P t i) (hk : okd i = true) (bl o c : Nat) (row : List AV) (hle : c + i.size ≤ row.length)
    (hc : ∀ (j : Nat) (x : AV), row[j]? = some x → ∃ v, w.cell? ⟨bl, o + j, none⟩ = some v ∧ v.oneCell' = true ∧ VR w F ρ v x) :
    ∃ v, (loadVar t ⟨bl, o + c, none⟩).run P w = .ok v w ∧ VR w F ρ v (part i row c) := by
  have hcell : ∀ j, j < i.size → ∃ x, row[c + j]? = some x := fun j hj => ⟨row[c + j]'(by omega), List.getElem?_eq_getElem (by omega)⟩
  let vals : Nat → Value := fun j => (w.cell? ⟨bl, o + c + j, none⟩).getD undef
  have hv : ∀ j, j < i.size → ∀ x, row[c + j]? = some x → w.cell? ⟨bl, o + c + j, none⟩ = some (vals j) ∧ (vals j).oneCell' = true ∧ VR w F ρ (vals j) x := by
    intro j hj x hx
    obtain ⟨v, h1, h2, h3⟩ := hc (c + j) x hx
    rw [← Nat.add_assoc] at h1
    have e : vals j = v := by simp [vals, h1]
    rw [e]
    exact ⟨h1, h2, h3⟩
  have hrun := run_loadVar' h (by unfold okd at hk; cases hd : i.d <;> simp only [hd] at hk ⊢ <;> first | (cases hk; done) | exact Nat.eq_of_beq_eq_true hk) w bl (o + c) vals (fun j hj => by obtain ⟨x, hx⟩ := hcell j hj; exact (hv j hj x hx).1)
  refine ⟨_, hrun, ?_⟩
  unfold part
  unfold okd at hk
  cases hd : i.d <;> simp only [hd] at hk ⊢
  case struct fs =>
    refine .agg _ _ (by simp; omega) (fun j x hx => ?_) (fun j x hx => ?_)
    all_goals
      rw [List.getElem?_take] at hx
      split at hx
      · rename_i hj
        rw [List.getElem?_drop] at hx
        have e : (((List.range i.size).map vals).toArray.getD j undef) = vals j := by simp [hj]
        rw [e]
        first | exact (hv j hj x hx).2.1 | exact (hv j hj x hx).2.2
      · cases hx
  case other => cases hk
  all_goals
    have h1 : i.size = 1 := by simpa using hk
    obtain ⟨x, hx⟩ := hcell 0 (by omega)
    simp only [hk, cond_true]
    have e : row.getD c .any = x := by simp [List.getD, show row[c]? = some x from hx]
    rw [e]
    exact (hv 0 (by omega) x hx).2.2

theorem op_load {o : Oper} {t : Nat} {x : Operand} {i : TI} {v : AV} {u : Ups} (hT : TTok P TT) (hR : Rel gh w0 F0 F ρ fr s a w) (ho : o.op = .load t x) (hi : TT t = some i) 
    (hg : ∃ row c, (v = part i row c ∧ u = []) ∧ okd i = true ∧ ((∃ id sz, aval s.t x = .lp id c ∧ s.h id = some (.cells sz [row]) ∧ c + i.size ≤ row.length) ∨
      (∃ id sz rows r, aval s.t x = .li id r c ∧ s.h id = some (.cells sz rows) ∧ c + i.size ≤ sz ∧ rows[r]? = some row) ∨ (aval s.t x = .fp row c ∧ c + i.size ≤ row.length))) :
    Post P o a w gh w0 F0 fr b { s with h := updsH s.h u } v := by
  obtain ⟨row, c, ⟨rfl, rfl⟩, hk, hg⟩ := hg
  have ht := hT t i hi
  have hx := hR.aval x
  have fin : ∀ bl o', a.eval x = .pointer (some ⟨bl, o' + c, none⟩) → c + i.size ≤ row.length → (∀ (j : Nat) (y : AV), row[j]? = some y → ∃ v, w.cell? ⟨bl, o' + j, none⟩ = some v ∧ v.oneCell' = true ∧ VR w F ρ v y) →
      Post P o a w gh w0 F0 fr b s (part i row c) := by
    intro bl o' he hle hc
    obtain ⟨v, h1, h2⟩ := load_part ht hk bl o' c row hle hc
    refine Post.val hR ?_ h2
    simp [execOp, ho, Instr.loadAt, he, Instr.sureAddr, h1]
  rcases hg with ⟨id, sz, h1, h2, h3⟩ | ⟨id, sz, rows, r, h1, h2, h3, h4⟩ | ⟨h1, h2⟩
  · obtain ⟨bi, q1, q2, q3⟩ := hR.cell h2
    rw [h1] at hx
    generalize hv : a.eval x = vx at hx
    cases hx with
    | lp _ _ bi' hr =>
      rw [q1] at hr; injection hr with hr; subst hr
      exact fin bi.blk bi.base hv h3 (fun j y hy => q3 j y (by simpa using hy))
  · obtain ⟨bi, q1, q2, q3⟩ := hR.cell h2
    obtain ⟨bi2, p1, p2, p3, _⟩ := hR.block h2
    rw [q1] at p1; injection p1 with p1; subst p1
    rw [h1] at hx
    generalize hv : a.eval x = vx at hx
    cases hx with
    | li _ _ _ bi' hr =>
      rw [q1] at hr; injection hr with hr; subst hr
      have hl : row.length = sz := p3 row (List.mem_of_getElem? h4)
      refine fin bi.blk (bi.base + r * bi.sz) hv (by omega) (fun j y hy => ?_)
      have := q3 (r * sz + j) y (flat_row p3 h4 hy)
      rwa [← Nat.add_assoc, ← q2] at this
  · rw [h1] at hx
    generalize hv : a.eval x = vx at hx
    cases hx with
    | fp _ _ bl o' vals hF g0 g1 g2 g3 => exact fin bl o' hv h2 (fun j y hy => ⟨vals j, g0 j y hy, g1 j y hy, g2 j y hy⟩)

theorem splice_getD (cur : Array Value) (xs : Array Value) (o k : Nat) (h : o + xs.size ≤ cur.size) :
    (cur.toList.take o ++ xs.toList ++ cur.toList.drop (o + xs.size)).toArray.getD k undef = if k < o then cur.getD k undef else if k < o + xs.size then xs.getD (k - o) undef else cur.getD k undef := by
  have hl : cur.toList.length = cur.size := by simp
  have hx : xs.toList.length = xs.size := by simp
  simp only [Array.getD_eq_getD_getElem?, List.getElem?_toArray]
  rw [← Array.getElem?_toList (xs := cur), ← Array.getElem?_toList (xs := xs)]
  rw [List.append_assoc, List.getElem?_append, List.getElem?_append, List.getElem?_take, List.getElem?_drop]
  simp only [List.length_take, hl, hx]
  have hm : min o cur.size = o := by omega
  rw [hm]
  by_cases h1 : k < o
  · simp [h1]
  · by_cases h2 : k < o + xs.size
    · have : k - o < xs.size := by omega
      simp [h1, h2, this]
    · have h3 : ¬ k - o < xs.size := by omega
      have h4 : o + xs.size + (k - o - xs.size) = k := by omega
      simp [h1, h2, h3, h4]

theorem spl_get (row : List AV) (c k : Nat) (xs : List AV) (h : c + xs.length ≤ row.length) :
    (spl row c xs)[k]? = if k < c then row[k]? else if k < c + xs.length then xs[k - c]? else row[k]? := by
  unfold spl
  rw [List.append_assoc, List.getElem?_append, List.getElem?_append, List.getElem?_take, List.getElem?_drop]
  simp only [List.length_take]
  have hm : min c row.length = c := by omega
  rw [hm]
  by_cases h1 : k < c
  · simp [h1]
  · by_cases h2 : k < c + xs.length
    · have : k - c < xs.length := by omega
      simp [h1, h2, this]
    · have h3 : ¬ k - c < xs.length := by omega
      have h4 : c + xs.length + (k - c - xs.length) = k := by omega
      simp [h1, h2, h3, h4]

theorem spl_len (row : List AV) (c : Nat) (xs : List AV) (h : c + xs.length ≤ row.length) : (spl row c xs).length = row.length := by
  unfold spl; simp; omega

/-- A store into a live block's row. -/
theorem Rel.storeAt (hR : Rel gh w0 F0 F ρ fr s a w) {id sz r c : Nat} {rows : List (List AV)} {row xs : List AV} {v : Value} {y : AV} {t : Nat} {i : TI} (ht : TIok P t i)
    (hl : s.h id = some (.cells sz rows)) (hr : rows[r]? = some row) (hle : c + xs.length ≤ sz) (hv : VR w F ρ v y) (hy : y.cells? = some xs) (hsz : xs.length = i.size) (h0 : 0 < i.size) :
    ∃ bi, ρ id = some bi ∧ bi.sz = sz ∧ ∃ w', (storeVar t ⟨bi.blk, bi.base + r * sz + c, none⟩ v).run P w = .ok () w' ∧
      Rel gh w0 F0 F ρ fr { s with h := updH s.h id (some (.cells sz (rows.set r (spl row c xs)))) } a w' := by
  obtain ⟨bi, q1, q2, q3, q4, q5, q6⟩ := hR.block hl
  have hrl : row.length = sz := q3 row (List.mem_of_getElem? hr)
  have hr' : r < rows.length := (List.getElem?_eq_some_iff.1 hr).1
  obtain ⟨hvs, hvc⟩ := hv.cells hy
  have hp : 0 < bi.csz := by
    apply Nat.pos_of_ne_zero
    intro e
    have hf := q5 e
    obtain ⟨z, hz⟩ : ∃ z, row[0]? = some z := ⟨row[0]'(by omega), List.getElem?_eq_getElem (by omega)⟩
    have := flat_row q3 hr hz
    rw [hf] at this
    simp at this
  obtain ⟨cs, ty, g1, g2, g3, g4⟩ := q6 hp
  have hrs : r * sz + sz ≤ rows.length * sz := by
    have : (r + 1) * sz ≤ rows.length * sz := Nat.mul_le_mul_right _ (by omega)
    rw [Nat.add_mul, Nat.one_mul] at this
    exact this
  have hfit : bi.base + r * sz + c + i.size ≤ cs.size := by omega
  have hst := run_storeVar' ht v (by omega) w bi.blk (bi.base + r * sz + c) cs ty g1 hfit (fun x hx => by
    obtain ⟨j, hj⟩ := List.mem_iff_getElem?.1 hx
    have hjl : j < v.cells.size := by have := (List.getElem?_eq_some_iff.1 hj).1; simpa using this
    obtain ⟨z, hz⟩ : ∃ z, xs[j]? = some z := ⟨xs[j]'(by omega), List.getElem?_eq_getElem (by omega)⟩
    have := (hvc j z hz).1
    have e : v.cells.getD j undef = x := by
      rw [Array.getElem?_toList] at hj
      simp [Array.getD_eq_getD_getElem?, hj]
    rwa [e] at this)
  refine ⟨bi, q1, q2, _, hst, ?_⟩
  have e2 : i.size = v.cells.size := by omega
  rw [e2] at hfit ⊢
  refine hR.write id bi sz rows _ hl q1 hp _ ty cs g1 (by simp; omega) (fun q hq => ?_) (by simp; omega) (fun j x hx => ?_)
  · rcases List.mem_or_eq_of_mem_set hq with h | h
    · exact q3 q h
    · rw [h, spl_len _ _ _ (by omega)]; exact hrl
  · rw [splice_getD _ _ _ _ hfit]
    have hszp : 0 < sz := by omega
    have hw' : ∀ q ∈ rows.set r (spl row c xs), q.length = sz := fun q hq => by
      rcases List.mem_or_eq_of_mem_set hq with h | h
      · exact q3 q h
      · rw [h, spl_len _ _ _ (by omega)]; exact hrl
    have hx' := hx
    rw [flat_get hszp _ hw'] at hx
    have hjd : j = (j / sz) * sz + j % sz := by rw [Nat.mul_comm]; exact (Nat.div_add_mod j sz).symm
    have hmod : j % sz < sz := Nat.mod_lt _ hszp
    by_cases hjr : j / sz = r
    · rw [hjr, List.getElem?_set_self hr'] at hx
      simp only [Option.bind_some] at hx
      rw [spl_get _ _ _ _ (by omega)] at hx
      rw [hjr] at hjd
      have old : row[j % sz]? = some x → (cs.getD (bi.base + j) undef).oneCell' = true ∧ VR w F ρ (cs.getD (bi.base + j) undef) x := by
        intro h
        have := flat_row q3 hr h
        rw [← hjd] at this
        exact g4 j x this
      by_cases h1 : j % sz < c
      · rw [if_pos h1] at hx
        rw [if_pos (by omega)]
        exact old hx
      · rw [if_neg h1] at hx
        rw [if_neg (by omega)]
        by_cases h2 : j % sz < c + xs.length
        · rw [if_pos h2] at hx
          rw [if_pos (by omega)]
          have e : bi.base + j - (bi.base + r * sz + c) = j % sz - c := by omega
          rw [e]
          exact hvc _ _ hx
        · rw [if_neg h2] at hx
          rw [if_neg (by omega)]
          exact old hx
    · rw [List.getElem?_set_ne (Ne.symm hjr)] at hx
      have hx2 : rows.flatten[j]? = some x := by rw [flat_get hszp _ q3]; exact hx
      have hout : j < r * sz ∨ r * sz + sz ≤ j := by
        rcases Nat.lt_or_gt_of_ne hjr with h | h
        · left
          have : (j / sz + 1) * sz ≤ r * sz := Nat.mul_le_mul_right _ (by omega)
          rw [Nat.add_mul, Nat.one_mul] at this
          omega
        · right
          have : (r + 1) * sz ≤ (j / sz) * sz := Nat.mul_le_mul_right _ (by omega)
          rw [Nat.add_mul, Nat.one_mul] at this
          omega
      rcases hout with h | h
      · rw [if_pos (by omega)]; exact g4 j x hx2
      · rw [if_neg (by omega), if_neg (by omega)]; exact g4 j x hx2

theorem op_store {o : Oper} {t : Nat} {x y : Operand} {i : TI} {xs : List AV} {u : Ups} (hT : TTok P TT) (hR : Rel gh w0 F0 F ρ fr s a w) (ho : o.op = .store t x y) (hi : TT t = some i)
    (hy : (aval s.t y).cells? = some xs) (hsz : xs.length = i.size) (h0 : 0 < i.size)
    (hg : ∃ id sz rows r row c, u = [(id, some (.cells sz (rows.set r (spl row c xs))))] ∧ s.h id = some (.cells sz rows) ∧ rows[r]? = some row ∧ c + i.size ≤ sz ∧
      (aval s.t x = .li id r c ∨ (aval s.t x = .lp id c ∧ r = 0))) :
    Post P o a w gh w0 F0 fr b { s with h := updsH s.h u } .any := by
  obtain ⟨id, sz, rows, r, row, c, rfl, hl, hr, hle, hg⟩ := hg
  have ht := hT t i hi
  obtain ⟨bi, q1, q2, w', q3, q4⟩ := hR.storeAt (r := r) (c := c) (xs := xs) ht hl hr (by omega) (hR.aval y) hy hsz h0
  have hx := hR.aval x
  have hadr : a.eval x = .pointer (some ⟨bi.blk, bi.base + r * sz + c, none⟩) := by
    rcases hg with h | ⟨h, hr0⟩
    · rw [h] at hx
      generalize a.eval x = vx at hx
      cases hx with | li _ _ _ bi' hr' => rw [q1] at hr'; injection hr' with hr'; subst hr'; rw [q2]
    · rw [h] at hx
      generalize a.eval x = vx at hx
      cases hx with | lp _ _ bi' hr' => rw [q1] at hr'; injection hr' with hr'; subst hr'; subst hr0; simp
  refine ⟨.skip, w', undef, ?_, .inr ⟨rfl, rfl⟩, F, ρ, q4.mono_fr (fun _ h => h.1), .any _⟩
  simp [execOp, ho, Instr.storeAt, hadr, Instr.sureAddr, q3]

end
end Go.AL

set_option linter.unusedSimpArgs false
namespace Go.AL
open Go Go.RowKit

section
variable {P : Program} {TT : Nat → Option TI} {gh : Array Value} {w0 w : World} {F0 F : Nat → Prop} {ρ : Nat → Option BI} {fr : Nat → Prop} {s : St} {a : Act} {b : Nat}

theorem eqGuard_int (op : BinOp) (t : TypeId) (x y : Operand) (k k' : IntKind) (m n : Int) (w : World) : (eqGuard op t x y (.int k m) (.int k' n)).run P w = .ok () w := by
  cases op <;> simp [eqGuard]
theorem eqGuard_str (op : BinOp) (t : TypeId) (x y : Operand) (m n : ByteArray) (w : World) : (eqGuard op t x y (.string m) (.string n)).run P w = .ok () w := by
  cases op <;> simp [eqGuard]
theorem eqGuard_bool (op : BinOp) (t : TypeId) (x y : Operand) (m n : Bool) (w : World) : (eqGuard op t x y (.bool m) (.bool n)).run P w = .ok () w := by
  cases op <;> simp [eqGuard]

theorem run_rbin {op : BinOp} {xt : Nat} {i : TI} {x y : Operand} {va vb : Value} {v : AV} {u : Ups} {acc : Accs} (ht : TIok P xt i)
    (hg : (rbin op i va vb).gives v u acc) (w : World) :
    u = [] ∧ ∃ r, v = .val r ∧ (do eqGuard op xt x y va vb; binOp op xt va vb : Sem Value).run P w = .ok r w := by
  cases va <;> cases vb <;> try (simp [rbin, Res.gives] at hg; done)
  case bool p q =>
    obtain ⟨d, inf, z, hu, hd, hi, h1, h2, h3, h4, h5, h6, h7⟩ := ht
    simp only [rbin, Res.gives] at hg
    cases hid : i.d <;> simp only [hid, Res.gives] at hg
    all_goals try (exact hg.elim)
    have hd' : d = .bool := by rw [hid] at hd; cases d <;> simp [sdOf] at hd ⊢
    subst hd'
    cases op <;> simp only [Res.gives] at hg
    all_goals first
      | exact hg.elim
      | (obtain ⟨rfl, rfl, rfl⟩ := hg
         refine ⟨rfl, _, rfl, ?_⟩
         simp [eqGuard_bool, binOp, run_equal_bool _ _ _ _ hu])
  case int k m k' n =>
    cases op <;> simp only [rbin, Res.gives] at hg
    all_goals first
      | (obtain ⟨hc, rfl, rfl, rfl⟩ := hg
         refine ⟨rfl, _, rfl, ?_⟩
         have hn : ¬ n < 0 := by omega
         simp [eqGuard_int, binOp, Op.shift, hn]
         done)
      | (cases hk : ikeq k k' with
         | false => simp [hk, Res.gives] at hg
         | true =>
           have e := ikeq_eq hk
           subst e
           simp only [hk, cond_true, Res.gives] at hg
           first
             | (obtain ⟨hc, rfl, rfl, rfl⟩ := hg
                refine ⟨rfl, _, rfl, ?_⟩
                simp [eqGuard_int, binOp, Op.intDiv, hc]
                done)
             | (obtain ⟨rfl, rfl, rfl⟩ := hg
                refine ⟨rfl, _, rfl, ?_⟩
                simp [eqGuard_int, binOp, Op.intArith, Op.intBits, Op.intCmp]
                done))
  case string p q =>
    cases op <;> simp only [rbin, Res.gives] at hg
    all_goals first
      | exact hg.elim
      | (obtain ⟨rfl, rfl, rfl⟩ := hg
         refine ⟨rfl, _, rfl, ?_⟩
         simp [eqGuard_str, binOp, Op.stringOp]
         done)
      | (obtain ⟨hc, rfl, rfl, rfl⟩ := hg
         refine ⟨rfl, _, rfl, ?_⟩
         have hn : ¬ (IntKind.i64.max < ((p.size : Int) + (q.size : Int))) := by
           have : IntKind.i64.max = 9223372036854775807 := by decide
           rw [this]; omega
         have hm : IntKind.i64.max = 9223372036854775807 := by decide
         simp [eqGuard_str, binOp, Op.stringOp, hn]
         first | omega | (rw [hm]; omega) | skip
         done)

theorem run_runop {op : UnOp} {va : Value} {v : AV} {u : Ups} {acc : Accs}
    (hg : (runop op va).gives v u acc) (w : World) :
    u = [] ∧ ∃ r, v = .val r ∧ (Op.unary op va).run P w = .ok r w := by
  cases va <;> try (simp [runop, Res.gives] at hg; done)
  all_goals
    cases op <;> simp only [runop, Res.gives] at hg
    all_goals first
      | exact hg.elim
      | (obtain ⟨rfl, rfl, rfl⟩ := hg
         refine ⟨rfl, _, rfl, ?_⟩
         simp [Op.unary, Op.intArith, Op.intBits])


/-! rows and cells -/

/-- Cells that hold abstract cells. -/
def CR (w : World) (F : Nat → Prop) (ρ : Nat → Option BI) (cells : Array Value) (cs : List AV) : Prop :=
  cells.size = cs.length ∧ ∀ (j : Nat) (x : AV), cs[j]? = some x → (cells.getD j undef).oneCell' = true ∧ VR w F ρ (cells.getD j undef) x

theorem foldl_set_size (off : Nat) : ∀ (xs : List (Value × Nat)) (cells : Array Value), (xs.foldl (fun cs p => cs.setIfInBounds (off + p.2) p.1) cells).size = cells.size
  | [], _ => rfl
  | p :: xs, cells => by rw [List.foldl_cons, foldl_set_size off xs]; simp

theorem foldl_set_get (off : Nat) : ∀ (xs : List Value) (k : Nat) (cells : Array Value) (m : Nat), off + k + xs.length ≤ cells.size →
    ((xs.zipIdx k).foldl (fun cs p => cs.setIfInBounds (off + p.2) p.1) cells).getD m undef = if off + k ≤ m ∧ m < off + k + xs.length then xs.getD (m - (off + k)) undef else cells.getD m undef
  | [], k, cells, m, h => by simp; omega
  | x :: xs, k, cells, m, h => by
    simp only [List.length_cons] at h
    rw [List.zipIdx_cons, List.foldl_cons, foldl_set_get off xs (k + 1) _ m (by simp; omega)]
    by_cases h1 : m = off + k
    · subst h1
      rw [if_neg (by omega), if_pos (by simp)]
      have : off + k < cells.size := by omega
      simp [this]
    · have hs : (cells.setIfInBounds (off + k) x).getD m undef = cells.getD m undef := by
        simp [Array.getD_eq_getD_getElem?, Array.getElem?_setIfInBounds_ne (Ne.symm h1)]
      by_cases h2 : off + (k + 1) ≤ m ∧ m < off + (k + 1) + xs.length
      · rw [if_pos h2, if_pos (by simp; omega)]
        have e : m - (off + k) = m - (off + (k + 1)) + 1 := by omega
        rw [e]
        simp [List.getD]
      · rw [if_neg h2, if_neg (by simp; omega)]
        exact hs

/-- Values that stand for parts. -/
inductive PV (R : Operand → AV → Prop) : List (Nat × Operand) → List (Nat × AV) → Prop
  | nil : PV R [] []
  | cons (k : Nat) (x : Operand) (y : AV) (ps : List (Nat × Operand)) (ys : List (Nat × AV)) (h : R x y) (hr : PV R ps ys) : PV R ((k, x) :: ps) ((k, y) :: ys)

theorem fill_okP {pa pc : Nat → Option (Nat × Nat)} (hp : ∀ k z, pa k = some z → pc k = some z) : ∀ (ps : List (Nat × Operand)) (ys : List (Nat × AV)) (cells : Array Value) (cs cs' : List AV), CR w F ρ cells cs →
    PV (fun x y => VR w F ρ (a.eval x) y) ps ys → fillA TT pa cs ys = some cs' →
    ∃ cells', Instr.fill pc cells (ps.map fun p => (p.1, a.eval p.2)) = some cells' ∧ CR w F ρ cells' cs'
  | [], _, cells, cs, cs', hc, .nil, h => by
    simp only [fillA, Option.some.injEq] at h
    subst h
    exact ⟨cells, rfl, hc⟩
  | (_, _) :: ps, _, cells, cs, cs', hc, .cons k x y0 _ ys hv hv', h => by
    simp only [fillA] at h
    cases hk : pa k with
    | none => simp [hk] at h
    | some z =>
      obtain ⟨off, size⟩ := z
      cases hx : y0.cells? with
      | none => simp [hk, hx] at h
      | some xs =>
        simp only [hk, hx] at h
        cases hb : (Nat.beq xs.length size && Nat.ble (off + size) cs.length) with
        | false => simp [hb] at h
        | true =>
          simp only [hb, cond_true] at h
          simp only [Bool.and_eq_true, Nat.beq_eq, Nat.ble_eq] at hb
          obtain ⟨hb1, hb2⟩ := hb
          have hb1' : xs.length = size := by simpa using hb1
          obtain ⟨g1, g2⟩ := hv.cells hx
          have hcs := hc.1
          have hlen : off + 0 + (a.eval x).cells.toList.length ≤ cells.size := by simp; omega
          let cells2 := ((a.eval x).cells.toList.zipIdx.foldl (fun cs p => cs.setIfInBounds (off + p.2) p.1) cells)
          have hc2 : CR w F ρ cells2 (spl cs off xs) := by
            refine ⟨by rw [foldl_set_size, spl_len _ _ _ (by omega)]; exact hcs, fun j y hy => ?_⟩
            rw [spl_get _ _ _ _ (by omega)] at hy
            have e := foldl_set_get off (a.eval x).cells.toList 0 cells j hlen
            show (cells2.getD j undef).oneCell' = true ∧ VR w F ρ (cells2.getD j undef) y
            rw [show cells2.getD j undef = _ from e]
            by_cases h1 : j < off
            · rw [if_pos h1] at hy
              rw [if_neg (by omega)]
              exact hc.2 j y hy
            · rw [if_neg h1] at hy
              by_cases h2 : j < off + xs.length
              · rw [if_pos h2] at hy
                rw [if_pos (by simp; omega)]
                have := g2 (j - off) y hy
                simpa [Array.getD_eq_getD_getElem?, List.getD] using this
              · rw [if_neg h2] at hy
                rw [if_neg (by simp; omega)]
                exact hc.2 j y hy
          obtain ⟨cells', r1, r2⟩ := fill_okP hp ps ys cells2 _ cs' hc2 hv' h
          refine ⟨cells', ?_, r2⟩
          simp only [List.map_cons, Instr.fill, hp k _ hk]
          rw [if_neg (by simp; omega)]
          rw [← r1]
          congr 1
          rw [← Array.foldl_toList]
          simp only [Array.toList_zipIdx]
          rfl

theorem fill_ok {pa pc : Nat → Option (Nat × Nat)} (hp : ∀ k z, pa k = some z → pc k = some z) : ∀ (ps : List (Nat × Operand)) (cells : Array Value) (cs cs' : List AV), CR w F ρ cells cs →
    (∀ x, VR w F ρ (a.eval x) (AL.aval s.t x)) → fillA TT pa cs (ps.map fun p => (p.1, AL.aval s.t p.2)) = some cs' →
    ∃ cells', Instr.fill pc cells (ps.map fun p => (p.1, a.eval p.2)) = some cells' ∧ CR w F ρ cells' cs'
  | [], cells, cs, cs', hc, hv, h => by
    simp only [List.map_nil, fillA, Option.some.injEq] at h
    subst h
    exact ⟨cells, rfl, hc⟩
  | (k, x) :: ps, cells, cs, cs', hc, hv, h => by
    simp only [List.map_cons, fillA] at h
    cases hk : pa k with
    | none => simp [hk] at h
    | some z =>
      obtain ⟨off, size⟩ := z
      cases hx : (AL.aval s.t x).cells? with
      | none => simp [hk, hx] at h
      | some xs =>
        simp only [hk, hx] at h
        cases hb : (Nat.beq xs.length size && Nat.ble (off + size) cs.length) with
        | false => simp [hb] at h
        | true =>
          simp only [hb, cond_true] at h
          simp only [Bool.and_eq_true, Nat.beq_eq, Nat.ble_eq] at hb
          obtain ⟨hb1, hb2⟩ := hb
          have hb1' : xs.length = size := by simpa using hb1
          obtain ⟨g1, g2⟩ := (hv x).cells hx
          have hcs := hc.1
          have hlen : off + 0 + (a.eval x).cells.toList.length ≤ cells.size := by simp; omega
          let cells2 := ((a.eval x).cells.toList.zipIdx.foldl (fun cs p => cs.setIfInBounds (off + p.2) p.1) cells)
          have hc2 : CR w F ρ cells2 (spl cs off xs) := by
            refine ⟨by rw [foldl_set_size, spl_len _ _ _ (by omega)]; exact hcs, fun j y hy => ?_⟩
            rw [spl_get _ _ _ _ (by omega)] at hy
            have e := foldl_set_get off (a.eval x).cells.toList 0 cells j hlen
            show (cells2.getD j undef).oneCell' = true ∧ VR w F ρ (cells2.getD j undef) y
            rw [show cells2.getD j undef = _ from e]
            by_cases h1 : j < off
            · rw [if_pos h1] at hy
              rw [if_neg (by omega)]
              exact hc.2 j y hy
            · rw [if_neg h1] at hy
              by_cases h2 : j < off + xs.length
              · rw [if_pos h2] at hy
                rw [if_pos (by simp; omega)]
                have := g2 (j - off) y hy
                simpa [Array.getD_eq_getD_getElem?, List.getD] using this
              · rw [if_neg h2] at hy
                rw [if_neg (by simp; omega)]
                exact hc.2 j y hy
          obtain ⟨cells', r1, r2⟩ := fill_ok hp ps cells2 _ cs' hc2 hv h
          refine ⟨cells', ?_, r2⟩
          simp only [List.map_cons, Instr.fill, hp k _ hk]
          rw [if_neg (by simp; omega)]
          rw [← r1]
          congr 1
          rw [← Array.foldl_toList]
          simp only [Array.toList_zipIdx]
          rfl

theorem run_mapM_list {α β : Type} (f : α → Sem β) (g : α → β) (w : World) : ∀ (l : List α), (∀ x ∈ l, (f x).run P w = .ok (g x) w) → (l.mapM f).run P w = .ok (l.map g) w
  | [], _ => by simp
  | x :: l, h => by
    have ih := run_mapM_list f g w l (fun y hy => h y (by simp [hy]))
    simp [List.mapM_cons, h x (by simp), ih]

theorem run_mapM {α β : Type} (f : α → Sem β) (g : α → β) (w : World) (l : Array α) (h : ∀ x ∈ l.toList, (f x).run P w = .ok (g x) w) : (l.mapM f).run P w = .ok (l.map g) w := by
  obtain ⟨l⟩ := l
  have := run_mapM_list (P := P) f g w l h
  simp [this]

end
end Go.AL

set_option linter.unusedSimpArgs false
namespace Go.AL
open Go Go.RowKit

section
variable {P : Program} {TT : Nat → Option TI} {gh : Array Value} {w0 w : World} {F0 F : Nat → Prop} {ρ : Nat → Option BI} {fr : Nat → Prop} {s : St} {a : Act} {b : Nat}

theorem op_build {o : Oper} {t : Nat} {parts : Array (Nat × Operand)} {i : TI} {fs : List (Nat × Nat)} {cs : List AV} (hT : TTok P TT) (hR : Rel gh w0 F0 F ρ fr s a w) (ho : o.op = .build t parts) (hi : TT t = some i) (hd : i.d = .struct fs)
    (hall : fs.all (fun p => (TT p.2).isSome) = true)
    (hg : fillA TT (fun k => match fs[k]? with | some (off, ft) => (TT ft).map fun q => (off, q.size) | none => none) (i.zero.map AV.ofV) (parts.toList.map fun p => (p.1, aval s.t p.2)) = some cs) :
    Post P o a w gh w0 F0 fr b s (.agg cs) := by
  have ht := hT t i hi
  obtain ⟨z, hz, hzc⟩ := run_zero ht w
  have hlen : i.zero.length = i.size := by obtain ⟨d, inf, z, hu, hd, hi, h1, h2, h3, h4, h5, h6, h7⟩ := ht; exact h5
  have hzero : CR w F ρ i.zero.toArray (i.zero.map AV.ofV) := ⟨by simp, fun j x hx => zero_cells ht j x hx⟩
  obtain ⟨d, inf, z', hu, hsd, hinf, h1, h2, h3, h4, h5, h6, h7⟩ := ht
  have hfields : ∃ fields, d = .struct fields ∧ fs = fields.toList.map fun f => (f.offset, f.type) := by
    rw [hd] at hsd
    cases d <;> simp [sdOf] at hsd
    rename_i fields
    exact ⟨fields, rfl, hsd.symm⟩
  obtain ⟨fields, rfl, hfs⟩ := hfields
  have hsz : ∀ f ∈ fields.toList, (do pure (f.offset, ← sizeOf f.type) : Sem (Nat × Nat)).run P w = .ok (f.offset, ((TT f.type).map (·.size)).getD 0) w := by
    intro f hf
    have hm : (f.offset, f.type) ∈ fs := by rw [hfs]; exact List.mem_map.2 ⟨f, hf, rfl⟩
    have := List.all_eq_true.1 hall _ hm
    obtain ⟨q, hq⟩ := Option.isSome_iff_exists.1 this
    simp [run_sizeOf (hT f.type q hq) w, show TT f.type = some q from hq]
  have hpl := run_mapM (P := P) (fun f : Field => (do pure (f.offset, ← sizeOf f.type) : Sem (Nat × Nat))) (fun f => (f.offset, ((TT f.type).map (·.size)).getD 0)) w fields hsz
  obtain ⟨cells', g1, g2⟩ := fill_ok (TT := TT) (pc := fun k => (fields.map fun f => (f.offset, ((TT f.type).map (·.size)).getD 0))[k]?) (by
    intro k q hq
    rw [hfs] at hq
    simp only [List.getElem?_map, Array.getElem?_toList] at hq
    simp only [Array.getElem?_map]
    cases hk : fields[k]? with
    | none => simp [hk] at hq
    | some f =>
      simp only [hk, Option.map_some] at hq ⊢
      cases hf : TT f.type with
      | none => simp [hf] at hq
      | some q' => simp [hf] at hq; simp [hq]) parts.toList _ _ cs hzero hR.aval hg
  refine Post.val hR (v := .agg cells') ?_ (.agg cells' cs g2.1 (fun j x hx => (g2.2 j x hx).1) (fun j x hx => (g2.2 j x hx).2))
  have hpt : (parts.map fun p => (p.1, a.eval p.2)).toList = parts.toList.map fun p => (p.1, a.eval p.2) := by simp
  simp only [execOp, ho, Instr.build, Sem.run_bind, hz, Result.andThen_ok, run_underlying hu, hpl, hzc, hpt, g1, Sem.run_pure]

theorem chunk_len (sz : Nat) : ∀ (n : Nat) (l : List AV), (chunk sz n l).length = n
  | 0, _ => rfl
  | n + 1, l => by simp [chunk, chunk_len sz n]
theorem chunk_width (sz : Nat) : ∀ (n : Nat) (l : List AV), n * sz ≤ l.length → ∀ r ∈ chunk sz n l, r.length = sz
  | 0, _, _, r, hr => by cases hr
  | n + 1, l, h, r, hr => by
    rw [Nat.add_mul, Nat.one_mul] at h
    rcases List.mem_cons.1 hr with e | e
    · subst e; simp; omega
    · exact chunk_width sz n _ (by simp; omega) r e
theorem chunk_flat (sz : Nat) : ∀ (n : Nat) (l : List AV), n * sz = l.length → (chunk sz n l).flatten = l
  | 0, l, h => by simp at h; have : l = [] := List.eq_nil_of_length_eq_zero h.symm; simp [chunk, this]
  | n + 1, l, h => by
    rw [Nat.add_mul, Nat.one_mul] at h
    rw [chunk, List.flatten_cons, chunk_flat sz n _ (by simp; omega), List.take_append_drop]

theorem fillA_len {pa : Nat → Option (Nat × Nat)} : ∀ (ps : List (Nat × AV)) (cs cs' : List AV), fillA TT pa cs ps = some cs' → cs'.length = cs.length
  | [], cs, cs', h => by simp [fillA] at h; rw [h]
  | (k, x) :: ps, cs, cs', h => by
    simp only [fillA] at h
    cases hk : pa k with
    | none => simp [hk] at h
    | some z =>
      obtain ⟨off, size⟩ := z
      cases hx : x.cells? with
      | none => simp [hk, hx] at h
      | some xs =>
        simp only [hk, hx] at h
        cases hb : (Nat.beq xs.length size && Nat.ble (off + size) cs.length) with
        | false => simp [hb] at h
        | true =>
          simp only [hb, cond_true] at h
          simp only [Bool.and_eq_true, Nat.beq_eq, Nat.ble_eq] at hb
          have hb1 : xs.length = size := by simpa using hb.1
          rw [fillA_len ps _ _ h, spl_len _ _ _ (by have := hb.2; omega)]

/-- A row of zeros. -/
theorem zeros_ok {e : Nat} {j : TI} (h : TIok P e j) (n m : Nat) (hm : n * j.size ≤ m) (k : Nat) (x : AV) (hx : (List.replicate n (j.zero.map AV.ofV)).flatten[k]? = some x) :
    (((Array.range m).map (fun q => j.zero.toArray[q % j.zero.toArray.size]!)).getD k undef).oneCell' = true ∧ VR w F ρ (((Array.range m).map (fun q => j.zero.toArray[q % j.zero.toArray.size]!)).getD k undef) x := by
  have hlen : j.zero.length = j.size := by obtain ⟨d, inf, z, hu, hd, hi, h1, h2, h3, h4, h5, h6, h7⟩ := h; exact h5
  have hw : ∀ r ∈ List.replicate n (j.zero.map AV.ofV), r.length = j.size := fun r hr => by rw [List.eq_of_mem_replicate hr]; simp [hlen]
  have hk : k < n * j.size := by
    have := (List.getElem?_eq_some_iff.1 hx).1
    rwa [flat_len _ hw, List.length_replicate] at this
  have hs : 0 < j.size := Nat.pos_of_ne_zero fun e => by rw [e] at hk; simp at hk
  rw [flat_get hs _ hw] at hx
  have hkd : k / j.size < n := by rw [Nat.div_lt_iff_lt_mul hs]; exact hk
  rw [List.getElem?_replicate, if_pos hkd, Option.bind_some] at hx
  have := zero_cells (w := w) (F := F) (ρ := ρ) h (k % j.size) x hx
  have hmod : k % j.size < j.zero.length := by rw [hlen]; exact Nat.mod_lt _ hs
  have e : ((Array.range m).map (fun q => j.zero.toArray[q % j.zero.toArray.size]!)).getD k undef = j.zero.toArray.getD (k % j.size) undef := by
    have hkm : k < m := by omega
    simp [Array.getD_eq_getD_getElem?, hkm, hlen]
    rw [List.getElem?_eq_getElem hmod]
    simp [getElem!_pos, hmod, hlen]
  rw [e]
  exact this

theorem op_buildSlice {o : Oper} {t len e : Nat} {parts : Array (Nat × Operand)} {i j : TI} {cs : List AV} (hT : TTok P TT) (hR : Rel gh w0 F0 F ρ fr s a w) (hfr : ∀ k, k < 8 → fr (b + k)) (ho : o.op = .buildSlice t len parts) (hi : TT t = some i) (hd : i.d = .slice e) (hj : TT e = some j)
    (hle : len * j.size ≤ 16777216) (h0 : j.size ≠ 0)
    (hg : fillA TT (fun k => some (k * j.size, j.size)) (List.replicate len (j.zero.map AV.ofV)).flatten (parts.toList.map fun p => (p.1, aval s.t p.2)) = some cs) :
    Post P o a w gh w0 F0 fr b { s with h := updH s.h b (some (.cells j.size (chunk j.size len cs))) } (.own b 0 len) := by
  have ht := hT t i hi
  have hte := hT e j hj
  obtain ⟨z, hz, hzc⟩ := run_zero hte w
  have hsz := run_sizeOf hte w
  have hlen : j.zero.length = j.size := by obtain ⟨d, inf, z, hu, hd, hi, h1, h2, h3, h4, h5, h6, h7⟩ := hte; exact h5
  obtain ⟨d, inf, z', hu, hsd, hinf, h1, h2, h3, h4, h5, h6, h7⟩ := ht
  have hd' : d = .slice e := by rw [hd] at hsd; cases d <;> simp [sdOf] at hsd ⊢; exact hsd
  subst hd'
  have hfl : (List.replicate len (j.zero.map AV.ofV)).flatten.length = len * j.size := by
    rw [flat_len (sz := j.size) _ (fun r hr => by rw [List.eq_of_mem_replicate hr]; simp [hlen]), List.length_replicate]
  have hcr : CR w F ρ ((Array.range (len * j.size)).map (fun q => j.zero.toArray[q % j.zero.toArray.size]!)) (List.replicate len (j.zero.map AV.ofV)).flatten :=
    ⟨by simp [hfl], fun k x hx => zeros_ok hte len _ (Nat.le_refl _) k x hx⟩
  obtain ⟨cells', g1, g2⟩ := fill_ok (TT := TT) (pc := fun k => some (k * j.size, j.size)) (fun _ _ h => h) parts.toList _ _ cs hcr hR.aval hg
  have hcl := fillA_len _ _ _ hg
  rw [hfl] at hcl
  refine Post.alloc hR hfr cells' e j.size (chunk j.size len cs) (chunk_width _ _ _ (by omega)) (by rw [chunk_len, g2.1]; omega) (fun k x hx => ?_) (v := .slice (some ⟨w.heap.size, 0, none⟩) len len) ?_ ?_
  · rw [chunk_flat _ _ _ hcl.symm] at hx; exact g2.2 k x hx
  · have hpt : (parts.map fun p => (p.1, a.eval p.2)).toList = parts.toList.map fun p => (p.1, a.eval p.2) := by simp
    have hn : ¬ (len * j.size > 2 ^ 24) := by omega
    simp only [execOp, ho, Instr.buildSlice, Sem.run_bind, Result.andThen_ok, run_underlying hu, hsz, hn, if_false, hpt, Sem.run_pure]
    by_cases hl : len * j.size = 0
    · have hl0 : len = 0 := by
        rcases Nat.mul_eq_zero.1 hl with h | h
        · exact h
        · exact absurd h h0
      subst hl0
      have e0 : ∀ f : Nat → Value, (Array.range 0).map f = #[] := fun f => by simp
      simp only [Nat.zero_mul, e0] at g1 ⊢
      simp only [if_true, Sem.run_pure, Sem.run_bind, Result.andThen_ok, e0, g1]
      simp [newRow]
    · rw [if_neg hl]
      simp only [Sem.run_bind, hz, Result.andThen_ok, Sem.run_pure, hzc]
      rw [g1]
      simp [newRow]
  · refine .own _ b 0 len len ⟨w.heap.size, 0, j.size, cells'.size⟩ (by simp [putρ]) (Nat.le_refl _) (fun _ => ⟨by simp, ?_⟩)
    simp [g2.1, hcl]

theorem op_buildSliceP {ys : List (Nat × AV)} {o : Oper} {t len e : Nat} {parts : Array (Nat × Operand)} {i j : TI} {cs : List AV} (hT : TTok P TT) (hR : Rel gh w0 F0 F ρ fr s a w) (hfr : ∀ k, k < 8 → fr (b + k)) (ho : o.op = .buildSlice t len parts) (hi : TT t = some i) (hd : i.d = .slice e) (hj : TT e = some j)
    (hle : len * j.size ≤ 16777216) (h0 : j.size ≠ 0)
    (hg : fillA TT (fun k => some (k * j.size, j.size)) (List.replicate len (j.zero.map AV.ofV)).flatten ys = some cs) (hys : PV (fun x y => VR w F ρ (a.eval x) y) parts.toList ys) :
    Post P o a w gh w0 F0 fr b { s with h := updH s.h b (some (.cells j.size (chunk j.size len cs))) } (.own b 0 len) := by
  have ht := hT t i hi
  have hte := hT e j hj
  obtain ⟨z, hz, hzc⟩ := run_zero hte w
  have hsz := run_sizeOf hte w
  have hlen : j.zero.length = j.size := by obtain ⟨d, inf, z, hu, hd, hi, h1, h2, h3, h4, h5, h6, h7⟩ := hte; exact h5
  obtain ⟨d, inf, z', hu, hsd, hinf, h1, h2, h3, h4, h5, h6, h7⟩ := ht
  have hd' : d = .slice e := by rw [hd] at hsd; cases d <;> simp [sdOf] at hsd ⊢; exact hsd
  subst hd'
  have hfl : (List.replicate len (j.zero.map AV.ofV)).flatten.length = len * j.size := by
    rw [flat_len (sz := j.size) _ (fun r hr => by rw [List.eq_of_mem_replicate hr]; simp [hlen]), List.length_replicate]
  have hcr : CR w F ρ ((Array.range (len * j.size)).map (fun q => j.zero.toArray[q % j.zero.toArray.size]!)) (List.replicate len (j.zero.map AV.ofV)).flatten :=
    ⟨by simp [hfl], fun k x hx => zeros_ok hte len _ (Nat.le_refl _) k x hx⟩
  obtain ⟨cells', g1, g2⟩ := fill_okP (TT := TT) (pc := fun k => some (k * j.size, j.size)) (fun _ _ h => h) parts.toList ys _ _ cs hcr hys hg
  have hcl := fillA_len _ _ _ hg
  rw [hfl] at hcl
  refine Post.alloc hR hfr cells' e j.size (chunk j.size len cs) (chunk_width _ _ _ (by omega)) (by rw [chunk_len, g2.1]; omega) (fun k x hx => ?_) (v := .slice (some ⟨w.heap.size, 0, none⟩) len len) ?_ ?_
  · rw [chunk_flat _ _ _ hcl.symm] at hx; exact g2.2 k x hx
  · have hpt : (parts.map fun p => (p.1, a.eval p.2)).toList = parts.toList.map fun p => (p.1, a.eval p.2) := by simp
    have hn : ¬ (len * j.size > 2 ^ 24) := by omega
    simp only [execOp, ho, Instr.buildSlice, Sem.run_bind, Result.andThen_ok, run_underlying hu, hsz, hn, if_false, hpt, Sem.run_pure]
    by_cases hl : len * j.size = 0
    · have hl0 : len = 0 := by
        rcases Nat.mul_eq_zero.1 hl with h | h
        · exact h
        · exact absurd h h0
      subst hl0
      have e0 : ∀ f : Nat → Value, (Array.range 0).map f = #[] := fun f => by simp
      simp only [Nat.zero_mul, e0] at g1 ⊢
      simp only [if_true, Sem.run_pure, Sem.run_bind, Result.andThen_ok, e0, g1]
      simp [newRow]
    · rw [if_neg hl]
      simp only [Sem.run_bind, hz, Result.andThen_ok, Sem.run_pure, hzc]
      rw [g1]
      simp [newRow]
  · refine .own _ b 0 len len ⟨w.heap.size, 0, j.size, cells'.size⟩ (by simp [putρ]) (Nat.le_refl _) (fun _ => ⟨by simp, ?_⟩)
    simp [g2.1, hcl]

theorem op_makeSlice {o : Oper} {t e : Nat} {l c : Operand} {i j : TI} {n m : Int} (hT : TTok P TT) (hR : Rel gh w0 F0 F ρ fr s a w) (hfr : ∀ k, k < 8 → fr (b + k)) (ho : o.op = .makeSlice t l c) (hi : TT t = some i) (hd : i.d = .slice e) (hj : TT e = some j)
    (hl : aval s.t l = .val (.int .i64 n)) (hc : aval s.t c = .val (.int .i64 m)) (h0 : 0 ≤ n) (h1 : n ≤ m) (h2 : m * j.bytes ≤ 140737488355328) (hb : 0 < j.bytes) :
    Post P o a w gh w0 F0 fr b { s with h := updH s.h b (some (.cells j.size (List.replicate n.toNat (j.zero.map AV.ofV)))) } (.own b 0 n.toNat) := by
  have ht := hT t i hi
  have hte := hT e j hj
  obtain ⟨z, hz, hzc⟩ := run_zero hte w
  have hsz := run_sizeOf hte w
  have hlen : j.zero.length = j.size := by obtain ⟨d, inf, z, hu, hd, hi, h1, h2, h3, h4, h5, h6, h7⟩ := hte; exact h5
  obtain ⟨d, inf, z', hu, hsd, hinf, g1, g2, g3, g4, g5, g6⟩ := ht
  have hd' : d = .slice e := by rw [hd] at hsd; cases d <;> simp [sdOf] at hsd ⊢; exact hsd
  subst hd'
  have hel : a.eval l = .int .i64 n := by have := hR.aval l; rw [hl] at this; generalize hv : a.eval l = v at this; cases this; rfl
  have hec : a.eval c = .int .i64 m := by have := hR.aval c; rw [hc] at this; generalize hv : a.eval c = v at this; cases this; rfl
  have hm47 : m ≤ 140737488355328 := by
    have : m * 1 ≤ m * (j.bytes : Int) := Int.mul_le_mul_of_nonneg_left (by omega) (by omega)
    omega
  have wn : IntKind.i64.wrap n = n := IntWalk.i64_in _ (by omega)
  have wm : IntKind.i64.wrap m = m := IntWalk.i64_in _ (by omega)
  have hbytes : (typeInfo e).run P w = .ok ((P.info? e).getD default) w ∧ ((P.info? e).getD default).bytes = j.bytes := by
    obtain ⟨d, inf, z', hu, hsd, hinf, g1, g2, g3, g4, g5, g6⟩ := hte
    simp [typeInfo, hinf, g2]
  have tm : ((j.bytes : Int) * m > 2 ^ 48) = False := by
    rw [Int.mul_comm]; simp; omega
  have hmt : m.toNat * j.size = (m.toNat * j.size) := rfl
  refine Post.alloc hR hfr ((Array.range (m.toNat * j.size)).map (fun q => j.zero.toArray[q % j.zero.toArray.size]!)) e j.size _ (fun r hr => by rw [List.eq_of_mem_replicate hr]; simp [hlen]) (by simp; exact Nat.mul_le_mul_right _ (by omega))
    (fun k x hx => zeros_ok hte n.toNat _ (Nat.mul_le_mul_right _ (by omega)) k x hx) (v := .slice (some ⟨w.heap.size, 0, none⟩) n.toNat m.toNat) ?_ ?_
  · have hneg : ¬ (m < 0) := by omega
    have hneg2 : ¬ (n < 0) := by omega
    have hgt : ¬ (n > m) := by omega
    have hbm : (j.bytes : Int) * m ≤ 140737488355328 := by rw [Int.mul_comm]; exact h2
    simp only [execOp, ho, Instr.makeSlice, Sem.run_bind, Result.andThen_ok, run_underlying hu, hel, hec, asInt, asIntOf, Sem.run_pure, hbytes.1, hbytes.2, wn, wm]
    have hc1 : (decide (m < 0) || decide ((j.bytes : Int) * m > 2 ^ 48)) = false := by simp [hneg]; omega
    simp only [hc1, Bool.false_eq_true, false_or]
    rw [if_neg (by simp; omega)]
    simp only [Sem.run_bind, run_askRoom, Result.andThen_ok, hsz]
    by_cases hz0 : m.toNat * j.size = 0
    · have e0 : ∀ f : Nat → Value, (Array.range 0).map f = #[] := fun f => by simp
      rw [if_pos hz0]
      simp only [hz0, e0, Sem.run_pure, Result.andThen_ok, Sem.run_bind]
      simp [newRow]
    · rw [if_neg hz0]
      simp [hz, hzc, newRow]
  · refine .own _ b 0 n.toNat m.toNat ⟨w.heap.size, 0, j.size, ((Array.range (m.toNat * j.size)).map (fun q => j.zero.toArray[q % j.zero.toArray.size]!)).size⟩ (by simp [putρ]) (by omega) (fun _ => ⟨by simp, ?_⟩)
    simp

end
end Go.AL

set_option linter.unusedSimpArgs false
namespace Go.AL
open Go Go.RowKit

section
variable {P : Program} {TT : Nat → Option TI} {gh : Array Value} {w0 w : World} {F0 F : Nat → Prop} {ρ : Nat → Option BI} {fr : Nat → Prop} {s : St} {a : Act} {b : Nat}

theorem under_of {t : Nat} {i : TI} (h : TIok P t i) : ∃ d, P.underlying t = some d ∧ sdOf d = i.d := by
  obtain ⟨d, inf, z', hu, hsd, _⟩ := h
  exact ⟨d, hu, hsd⟩
theorem under_slice {t e : Nat} {i : TI} (h : TIok P t i) (hd : i.d = .slice e) : P.underlying t = some (.slice e) := by
  obtain ⟨d, hu, hsd⟩ := under_of h
  rw [hd] at hsd
  cases d <;> simp [sdOf] at hsd
  rw [hu, hsd]
theorem under_str {t : Nat} {i : TI} (h : TIok P t i) (hd : i.d = .str) : P.underlying t = some .string := by
  obtain ⟨d, hu, hsd⟩ := under_of h
  rw [hd] at hsd
  cases d <;> simp [sdOf] at hsd
  exact hu
theorem under_int {t : Nat} {i : TI} {k : IntKind} (h : TIok P t i) (hd : i.d = .int k) : P.underlying t = some (.int k) := by
  obtain ⟨d, hu, hsd⟩ := under_of h
  rw [hd] at hsd
  cases d <;> simp [sdOf] at hsd
  rw [hu, hsd]
theorem under_struct {t : Nat} {i : TI} {fs : List (Nat × Nat)} (h : TIok P t i) (hd : i.d = .struct fs) : ∃ fields, P.underlying t = some (.struct fields) ∧ fs = fields.toList.map fun f => (f.offset, f.type) := by
  obtain ⟨d, hu, hsd⟩ := under_of h
  rw [hd] at hsd
  cases d <;> simp [sdOf] at hsd
  rename_i fields
  exact ⟨fields, hu, hsd.symm⟩

theorem VR.int_inv {v : Value} {k : IntKind} {n : Int} (h : VR w F ρ v (.val (.int k n))) : v = .int k n := by cases h; rfl
theorem VR.val_inv {v v' : Value} (h : VR w F ρ v (.val v')) : v = v' := by cases h; rfl

theorem bnd_l {len : Nat} {y : AV} {q : Prop × Nat × Nat × Bool} (h : bnd len (some y) none none = some q) : ∃ k l, y = .val (.int k l) ∧ q = (0 ≤ l ∧ l ≤ (len : Int), l.toNat, len, false) := by
  cases y <;> try (cases h; done)
  rename_i v
  cases v <;> try (cases h; done)
  exact ⟨_, _, rfl, (Option.some.inj h).symm⟩
theorem bnd_h {len : Nat} {y : AV} {q : Prop × Nat × Nat × Bool} (h : bnd len none (some y) none = some q) : ∃ k l, y = .val (.int k l) ∧ q = (0 ≤ l ∧ l ≤ (len : Int), 0, l.toNat, false) := by
  cases y <;> try (cases h; done)
  rename_i v
  cases v <;> try (cases h; done)
  exact ⟨_, _, rfl, (Option.some.inj h).symm⟩
theorem bnd_lh {len : Nat} {y z : AV} {q : Prop × Nat × Nat × Bool} (h : bnd len (some y) (some z) none = some q) : ∃ k l k' u, y = .val (.int k l) ∧ z = .val (.int k' u) ∧ q = (0 ≤ l ∧ l ≤ u ∧ u ≤ (len : Int), l.toNat, u.toNat, false) := by
  cases y <;> try (cases h; done)
  rename_i v
  cases v <;> try (cases h; done)
  cases z <;> try (cases h; done)
  rename_i v
  cases v <;> try (cases h; done)
  exact ⟨_, _, _, _, rfl, rfl, (Option.some.inj h).symm⟩
theorem bnd_hm {len : Nat} {y z : AV} {q : Prop × Nat × Nat × Bool} (h : bnd len none (some y) (some z) = some q) : ∃ k l k' u, y = .val (.int k l) ∧ z = .val (.int k' u) ∧ q = (0 ≤ l ∧ l = u ∧ l ≤ (len : Int), 0, l.toNat, true) := by
  cases y <;> try (cases h; done)
  rename_i v
  cases v <;> try (cases h; done)
  cases z <;> try (cases h; done)
  rename_i v
  cases v <;> try (cases h; done)
  exact ⟨_, _, _, _, rfl, rfl, (Option.some.inj h).symm⟩
theorem bnd_lhm {len : Nat} {x y z : AV} {q : Prop × Nat × Nat × Bool} (h : bnd len (some x) (some y) (some z) = some q) : ∃ k l k' u k2 m, x = .val (.int k l) ∧ y = .val (.int k' u) ∧ z = .val (.int k2 m) ∧ q = (0 ≤ l ∧ l ≤ u ∧ u = m ∧ u ≤ (len : Int), l.toNat, u.toNat, true) := by
  cases x <;> try (cases h; done)
  rename_i v
  cases v <;> try (cases h; done)
  cases y <;> try (cases h; done)
  rename_i v
  cases v <;> try (cases h; done)
  cases z <;> try (cases h; done)
  rename_i v
  cases v <;> try (cases h; done)
  exact ⟨_, _, _, _, _, _, rfl, rfl, rfl, (Option.some.inj h).symm⟩

/-- The machine's bounds are the abstract ones. -/
theorem run_bnd {len cap : Nat} {isS : Bool} {lo hi mx : Option Operand} {c : Prop} {l u : Nat} {f : Bool} (hR : Rel gh w0 F0 F ρ fr s a w) (hlc : len ≤ cap)
    (hg : bnd len (lo.map (aval s.t)) (hi.map (aval s.t)) (mx.map (aval s.t)) = some (c, l, u, f)) (hc : c) :
    l ≤ u ∧ u ≤ len ∧ ∃ m, (Instr.sliceBounds isS len cap (lo.map a.eval) (hi.map a.eval) (mx.map a.eval)).run P w = .ok (l, u, m) w ∧ u ≤ m ∧ m ≤ cap ∧ (f = true → m = u) ∧ (f = false → m = cap) := by
  have ev : ∀ (x : Operand) (k : IntKind) (n : Int), aval s.t x = .val (.int k n) → a.eval x = .int k n := fun x k n h => by
    have := hR.aval x; rw [h] at this; exact this.int_inv
  cases lo with
  | none =>
    cases hi with
    | none =>
      cases mx with
      | none =>
        simp only [Option.map_none, bnd, Option.some.injEq, Prod.mk.injEq] at hg
        obtain ⟨rfl, rfl, rfl, rfl⟩ := hg
        exact ⟨by omega, by omega, cap, by simp [Instr.sliceBounds], hlc, by omega, by simp, by simp⟩
      | some x => cases hg
    | some y =>
      cases mx with
      | none =>
        obtain ⟨k, n, hy, hq⟩ := bnd_h hg
        simp only [Prod.mk.injEq] at hq
        obtain ⟨rfl, rfl, rfl, rfl⟩ := hq
        have e := ev y k n hy
        refine ⟨by omega, by omega, cap, ?_, by omega, by omega, by simp, by simp⟩
        have hb : 0 ≤ n ∧ n ≤ (cap : Int) := by omega
        simp [Instr.sliceBounds, Instr.sliceBound, asIntOf, e, hb]
      | some z =>
        obtain ⟨k, n, k2, n2, hy, hz, hq⟩ := bnd_hm hg
        simp only [Prod.mk.injEq] at hq
        obtain ⟨rfl, rfl, rfl, rfl⟩ := hq
        have e := ev y k n hy
        have e2 := ev z k2 n2 hz
        obtain ⟨h1, rfl, h3⟩ := hc
        refine ⟨by omega, by omega, n.toNat, ?_, by omega, by omega, by simp, by simp⟩
        have hb : 0 ≤ n ∧ n ≤ (cap : Int) := by omega
        have hb2 : n ≤ ((n.toNat : Nat) : Int) := by omega
        have hmx : max n 0 = n := by omega
        simp [Instr.sliceBounds, Instr.sliceBound, asIntOf, e, e2, hb, hmx, h1]
  | some x =>
    cases hi with
    | none =>
      cases mx with
      | none =>
        obtain ⟨k, n, hy, hq⟩ := bnd_l hg
        simp only [Prod.mk.injEq] at hq
        obtain ⟨rfl, rfl, rfl, rfl⟩ := hq
        have e := ev x k n hy
        refine ⟨by omega, by omega, cap, ?_, by omega, by omega, by simp, by simp⟩
        simp [Instr.sliceBounds, Instr.sliceBound, asIntOf, e, hc]
      | some z =>
        simp only [Option.map_none, Option.map_some] at hg
        unfold bnd at hg
        split at hg <;> first | (cases hg; done) | simp_all
    | some y =>
      cases mx with
      | none =>
        obtain ⟨k, n, k2, n2, hy, hz, hq⟩ := bnd_lh hg
        simp only [Prod.mk.injEq] at hq
        obtain ⟨rfl, rfl, rfl, rfl⟩ := hq
        have e := ev x k n hy
        have e2 := ev y k2 n2 hz
        obtain ⟨h1, h2, h3⟩ := hc
        refine ⟨by omega, by omega, cap, ?_, by omega, by omega, by simp, by simp⟩
        have hb : 0 ≤ n2 ∧ n2 ≤ (cap : Int) := by omega
        have hb2 : 0 ≤ n ∧ n ≤ ((n2.toNat : Nat) : Int) := by omega
        have hmx : max n2 0 = n2 := by omega
        simp [Instr.sliceBounds, Instr.sliceBound, asIntOf, e, e2, hb, hmx, h1, h2]
      | some z =>
        obtain ⟨k, n, k2, n2, k3, n3, hy, hz, hz3, hq⟩ := bnd_lhm hg
        simp only [Prod.mk.injEq] at hq
        obtain ⟨rfl, rfl, rfl, rfl⟩ := hq
        have e := ev x k n hy
        have e2 := ev y k2 n2 hz
        have e3 := ev z k3 n3 hz3
        obtain ⟨h1, h2, rfl, h4⟩ := hc
        refine ⟨by omega, by omega, n2.toNat, ?_, by omega, by omega, by simp, by simp⟩
        have hb : 0 ≤ n2 ∧ n2 ≤ (cap : Int) := by omega
        have hb1 : 0 ≤ n2 ∧ n2 ≤ ((n2.toNat : Nat) : Int) := by omega
        have hb2 : 0 ≤ n ∧ n ≤ ((n2.toNat : Nat) : Int) := by omega
        have hmx : max n2 0 = n2 := by omega
        simp [Instr.sliceBounds, Instr.sliceBound, asIntOf, e, e2, e3, hb, hmx, h1, h2]

theorem flat_sub {α : Type} {sz : Nat} {rows : List (List α)} (hw : ∀ r ∈ rows, r.length = sz) (l u j : Nat) (x : α) (hx : ((rows.take u).drop l).flatten[j]? = some x) : rows.flatten[l * sz + j]? = some x := by
  have hw' : ∀ r ∈ (rows.take u).drop l, r.length = sz := fun r hr => hw r (List.mem_of_mem_take (List.mem_of_mem_drop hr))
  have hs : 0 < sz := by
    apply Nat.pos_of_ne_zero
    intro e
    have := (List.getElem?_eq_some_iff.1 hx).1
    rw [flat_len _ hw', e] at this
    omega
  rw [flat_get hs _ hw'] at hx
  rw [flat_get hs _ hw]
  have h1 : (l * sz + j) / sz = l + j / sz := by rw [Nat.mul_comm, Nat.mul_add_div hs]
  have h2 : (l * sz + j) % sz = j % sz := by rw [Nat.mul_comm, Nat.mul_add_mod]
  rw [h1, h2]
  rw [List.getElem?_drop, List.getElem?_take] at hx
  split at hx
  · exact hx
  · simp at hx

theorem op_slice {o : Oper} {t : Nat} {x : Operand} {lo hi mx : Option Operand} {i : TI} {v : AV} {u : Ups} {acc : Accs} (hT : TTok P TT) (hR : Rel gh w0 F0 F ρ fr s a w) (ho : o.op = .slice t x lo hi mx) (hi' : TT t = some i)
    (hg : (rslice i TT s.h (aval s.t x) (lo.map (aval s.t)) (hi.map (aval s.t)) (mx.map (aval s.t))).gives v u acc) :
    Post P o a w gh w0 F0 fr b { s with h := updsH s.h u } v := by
  have ht := hT t i hi'
  have hx := hR.aval x
  unfold rslice at hg
  split at hg
  · rename_i sv hid hsv
    have hu := under_str ht hid
    have hxe : a.eval x = .string sv := by rw [hsv] at hx; exact hx.val_inv
    cases hm : mx.map (aval s.t) with
    | some z => rw [hm] at hg; exact hg.elim
    | none =>
      rw [hm] at hg
      have hmx : mx = none := by cases mx <;> simp at hm ⊢
      subst hmx
      cases hb : bnd sv.size (lo.map (aval s.t)) (hi.map (aval s.t)) none with
      | none => rw [hb] at hg; exact hg.elim
      | some q =>
        obtain ⟨c, l, q, f⟩ := q
        rw [hb] at hg
        obtain ⟨hc, rfl, rfl, rfl⟩ := hg
        obtain ⟨h1, h2, m, h3, h4, h5, h6, h7⟩ := run_bnd (P := P) (isS := false) (mx := none) hR (Nat.le_refl sv.size) hb hc
        refine Post.val hR (v := .string (sv.extract l q)) ?_ (.val _)
        simp only [Option.map_none] at h3
        simp [execOp, ho, Instr.sliceAt, run_underlying hu, hxe, Instr.slice, h3]
  · rename_i e sz rows tg hid hsl
    have hu := under_slice ht hid
    cases hj : TT e with
    | none => simp only [hj] at hg; exact hg.elim
    | some j =>
      simp only [hj] at hg
      cases hcond : (Nat.beq j.size sz || Nat.beq rows.length 0) with
      | false => simp [hcond] at hg; exact hg.elim
      | true =>
        simp only [hcond, cond_true] at hg
        have hsz := run_sizeOf (hT e j hj) w
        rw [hsl] at hx
        generalize hve : a.eval x = ve at hx
        cases hx with
        | sl A n cp _ _ _ bl of vals hn hcp htt hw hA g0 g1 g2 g3 =>
          cases hb : bnd rows.length (lo.map (aval s.t)) (hi.map (aval s.t)) (mx.map (aval s.t)) with
          | none => rw [hb] at hg; exact hg.elim
          | some q =>
            obtain ⟨c, l, q, f⟩ := q
            rw [hb] at hg
            obtain ⟨hc, rfl, rfl, rfl⟩ := hg
            obtain ⟨h1, h2, m, h3, h4, h5, h6, h7⟩ := run_bnd (P := P) (isS := true) (len := rows.length) (cap := cp) hR (by omega) hb hc
            have hrl : ((rows.take q).drop l).length = q - l := by simp; omega
            subst hn
            refine Post.val hR (v := .slice (if m = l then A else A.map (·.add (l * j.size))) (q - l) (m - l)) ?_ ?_
            · simp [execOp, ho, Instr.sliceAt, run_underlying hu, hve, Instr.slice, h3, hsz]
            · have hne : (rows.take q).drop l ≠ [] → rows ≠ [] := fun h e => h (by simp [e])
              have hsz' : (rows.take q).drop l ≠ [] → j.size = sz := by
                intro h
                have hne' := hne h
                simp only [Bool.or_eq_true, Nat.beq_eq] at hcond
                rcases hcond with h' | h'
                · simpa using h'
                · exfalso; apply hne'; apply List.eq_nil_of_length_eq_zero; simpa using h'
              refine .sl _ _ _ sz _ _ bl (of + l * sz) (fun k => vals (l * sz + k)) hrl.symm (by omega) (fun hf => by
                cases tg with
                | false => have := h6 hf; omega
                | true =>
                  have hcp0 := htt rfl
                  have hf : (Nat.beq rows.length 0 || f) = true := hf
                  rcases Bool.or_eq_true_iff.1 hf with h | h
                  · have := Nat.eq_of_beq_eq_true h; omega
                  · have := h6 h; omega) (fun r hr => hw r (List.mem_of_mem_take (List.mem_of_mem_drop hr))) (fun hr => ?_)
                (fun k y hy => ?_) (fun k y hy => ?_) (fun k y hy => ?_) (fun k y hy => g3 _ y (flat_sub hw l q k y hy))
              · obtain ⟨e1, e2⟩ := hA (hne hr)
                have hlt : l < q := by
                  apply Nat.lt_of_not_le
                  intro hle
                  apply hr
                  apply List.eq_nil_of_length_eq_zero
                  omega
                rw [if_neg (by omega), e1]
                simp [addr_add, hsz' hr, e2]
              · have := g0 _ y (flat_sub hw l q k y hy)
                rwa [← Nat.add_assoc] at this
              · exact g1 _ y (flat_sub hw l q k y hy)
              · exact g2 _ y (flat_sub hw l q k y hy)
  · rename_i e id off len hid hown
    have hu := under_slice ht hid
    cases hj : TT e with
    | none => simp only [hj] at hg; exact hg.elim
    | some j =>
      cases hlb : s.h id with
      | none => simp only [hj, hlb] at hg; exact hg.elim
      | some lb =>
        cases lb with
        | iter _ _ => simp only [hj, hlb] at hg; exact hg.elim
        | cells sz rows =>
          simp only [hj, hlb] at hg
          cases hcond : (Nat.beq j.size sz) with
          | false => simp [hcond] at hg; exact hg.elim
          | true =>
            simp only [hcond, cond_true] at hg
            have hjs : j.size = sz := by simpa using hcond
            have hsz := run_sizeOf (hT e j hj) w
            obtain ⟨bi, q1, q2, _⟩ := hR.block hlb
            rw [hown] at hx
            generalize hve : a.eval x = ve at hx
            cases hx with
            | own A _ _ _ cp bi' hr hl hA =>
              rw [q1] at hr; injection hr with hr; subst hr
              cases hb : bnd len (lo.map (aval s.t)) (hi.map (aval s.t)) (mx.map (aval s.t)) with
              | none => rw [hb] at hg; exact hg.elim
              | some q =>
                obtain ⟨c, l, q, f⟩ := q
                rw [hb] at hg
                cases f with
                | true => exact hg.elim
                | false =>
                  obtain ⟨hc, rfl, rfl, rfl⟩ := hg
                  obtain ⟨h1, h2, m, h3, h4, h5, h6, h7⟩ := run_bnd (P := P) (isS := true) (len := len) (cap := cp) hR hl hb hc
                  refine Post.val hR (v := .slice (if m = l then A else A.map (·.add (l * j.size))) (q - l) (m - l)) ?_ ?_
                  · simp [execOp, ho, Instr.sliceAt, run_underlying hu, hve, Instr.slice, h3, hsz]
                  · refine .own _ id (off + l) (q - l) (m - l) bi q1 (by omega) (fun hp => ?_)
                    obtain ⟨e1, e2⟩ := hA (by omega)
                    rw [if_neg (by omega), e1]
                    refine ⟨by simp [addr_add, hjs, q2, Nat.add_mul, Nat.add_assoc], ?_⟩
                    have : off + l + (m - l) ≤ off + cp := by omega
                    have := Nat.mul_le_mul_right bi.sz this
                    omega
  · exact hg.elim

theorem op_fieldAddr {o : Oper} {t f : Nat} {x : Operand} {i q : TI} {fs : List (Nat × Nat)} {off ft : Nat} {v : AV} (hT : TTok P TT) (hR : Rel gh w0 F0 F ρ fr s a w) (ho : o.op = .fieldAddr t x f) (hi : TT t = some i) (hd : i.d = .struct fs)
    (hf : fs[f]? = some (off, ft)) (hq : TT ft = some q) (h0 : q.size ≠ 0)
    (hg : (∃ id c, aval s.t x = .lp id c ∧ v = .lp id (c + off)) ∨ (∃ id r c, aval s.t x = .li id r c ∧ v = .li id r (c + off)) ∨ (∃ row c, aval s.t x = .fp row c ∧ v = .fp row (c + off))) :
    Post P o a w gh w0 F0 fr b s v := by
  have ht := hT t i hi
  obtain ⟨fields, hu, hfs⟩ := under_struct ht hd
  have hsz := run_sizeOf (hT ft q hq) w
  have hfld : ∃ fd, fields[f]? = some fd ∧ fd.offset = off ∧ fd.type = ft := by
    rw [hfs] at hf
    simp only [List.getElem?_map, Array.getElem?_toList] at hf
    cases hfd : fields[f]? with
    | none => simp [hfd] at hf
    | some fd => simp [hfd] at hf; exact ⟨fd, rfl, hf.1, hf.2⟩
  obtain ⟨fd, hfd, hfo, hft⟩ := hfld
  have hx := hR.aval x
  have fin : ∀ bl k, a.eval x = .pointer (some ⟨bl, k, none⟩) → (execOp a.eval o).run P w = .ok (.value (.pointer (some ⟨bl, k + off, none⟩))) w := by
    intro bl k he
    simp [execOp, ho, Instr.fieldAt, run_underlying hu, hfd, he, Instr.sureAddr, fieldPlace, hft, hsz, h0, addr_add, hfo]
  rcases hg with ⟨id, c, h1, rfl⟩ | ⟨id, r, c, h1, rfl⟩ | ⟨row, c, h1, rfl⟩
  · rw [h1] at hx
    generalize hv : a.eval x = vx at hx
    cases hx with | lp _ _ bi hr =>
      have := fin _ _ hv
      rw [Nat.add_assoc] at this
      exact Post.val hR this (.lp id _ bi hr)
  · rw [h1] at hx
    generalize hv : a.eval x = vx at hx
    cases hx with | li _ _ _ bi hr =>
      have := fin _ _ hv
      rw [Nat.add_assoc] at this
      exact Post.val hR this (.li id r _ bi hr)
  · rw [h1] at hx
    generalize hv : a.eval x = vx at hx
    cases hx with | fp _ _ bl o' vals hF g0 g1 g2 g3 =>
      have := fin _ _ hv
      rw [Nat.add_assoc] at this
      exact Post.val hR this (.fp row _ bl o' vals hF g0 g1 g2 g3)

theorem run_part {t : Nat} {q : TI} (h : TIok P t q) (hk : okd q = true) (cells : Array Value) (cs : List AV) (off : Nat) (hc : CR w F ρ cells cs) (hle : off + q.size ≤ cs.length) :
    ∃ v, (Go.part t cells off).run P w = .ok v w ∧ VR w F ρ v (part q cs off) := by
  have hsz := run_sizeOf h w
  obtain ⟨d, hu, hsd⟩ := under_of h
  have hcs := hc.1
  unfold okd at hk
  unfold AL.part
  cases hd : q.d <;> simp only [hd] at hk hsd ⊢
  case struct fs =>
    have : ∃ fields, d = .struct fields := by cases d <;> simp [sdOf] at hsd; exact ⟨_, rfl⟩
    obtain ⟨fields, rfl⟩ := this
    refine ⟨.agg (cells.extract off (off + q.size)), by simp [Go.part, isAgg, run_underlying hu, hsz], ?_⟩
    refine .agg _ _ (by simp; omega) (fun j x hx => ?_) (fun j x hx => ?_)
    all_goals
      rw [List.getElem?_take] at hx
      split at hx
      · rename_i hj
        rw [List.getElem?_drop] at hx
        have e : (cells.extract off (off + q.size)).getD j undef = cells.getD (off + j) undef := by
          simp only [Array.getD_eq_getD_getElem?, Array.getElem?_extract]
          rw [if_pos (by omega)]
        rw [e]
        first | exact (hc.2 _ x hx).1 | exact (hc.2 _ x hx).2
      · cases hx
  case other => cases hk
  all_goals
    have h1 : q.size = 1 := by simpa using hk
    simp only [hk, cond_true]
    have hx : cs[off]? = some (cs[off]'(by omega)) := List.getElem?_eq_getElem (by omega)
    have e : cs.getD off .any = cs[off]'(by omega) := by simp [List.getD, hx]
    rw [e]
    refine ⟨cells.getD off undef, ?_, (hc.2 off _ hx).2⟩
    have hlt : off < cells.size := by omega
    cases d <;> simp [sdOf] at hsd <;> simp [Go.part, isAgg, run_underlying hu, hlt]

theorem run_eqFields (hT : TTok P TT) {va vb : Array Value} {xs ys : List AV} (hx : CR w F ρ va xs) (hy : CR w F ρ vb ys) : ∀ (fs : List Field) (b : Bool), (∀ f ∈ fs, f.name ≠ "_") →
    eqCells TT xs ys (fs.map fun f => (f.offset, f.type)) = some b → ∀ d, (Op.eqFields (d + 1) va vb fs).run P w = .ok b w
  | [], b, _, h, d => by
    simp only [List.map_nil, eqCells, Option.some.injEq] at h
    subst h
    simp [Op.eqFields]
  | f :: fs, b, hn, h, d => by
    simp only [List.map_cons, eqCells] at h
    split at h
    · rename_i q a b' hq ha hb
      split at h
      · rename_i r hk hr
        have ih := run_eqFields hT hx hy fs r (fun g hg => hn g (by simp [hg])) hr d
        have ht := hT _ _ hq
        have hlx := (List.getElem?_eq_some_iff.1 ha).1
        have hly := (List.getElem?_eq_some_iff.1 hb).1
        have hsz : ∀ (hd : ∀ fs', q.d ≠ .struct fs'), q.size = 1 := fun hd => by
          unfold okd at hk
          cases hdd : q.d <;> simp only [hdd] at hk
          case struct fs' => exact absurd hdd (hd fs')
          case other => cases hk
          all_goals exact Nat.eq_of_beq_eq_true hk
        have px : q.size = 1 → (∀ fs', q.d ≠ .struct fs') → q.d ≠ .other → (Go.part f.type va f.offset).run P w = .ok a w := fun h1 h2 h3 => by
          obtain ⟨v, g1, g2⟩ := run_part (w := w) (F := F) (ρ := ρ) ht hk va xs f.offset hx (by omega)
          have : AL.part q xs f.offset = .val a := by
            unfold AL.part
            have e : xs.getD f.offset .any = .val a := by rw [List.getD, ha]; rfl
            cases hdd : q.d <;> simp only [hdd]
            case struct fs' => exact absurd hdd (h2 fs')
            case other => exact absurd hdd h3
            all_goals rw [h1, e]; rfl
          rw [this] at g2
          rw [g1, g2.val_inv]
        have py : q.size = 1 → (∀ fs', q.d ≠ .struct fs') → q.d ≠ .other → (Go.part f.type vb f.offset).run P w = .ok b' w := fun h1 h2 h3 => by
          obtain ⟨v, g1, g2⟩ := run_part (w := w) (F := F) (ρ := ρ) ht hk vb ys f.offset hy (by omega)
          have : AL.part q ys f.offset = .val b' := by
            unfold AL.part
            have e : ys.getD f.offset .any = .val b' := by rw [List.getD, hb]; rfl
            cases hdd : q.d <;> simp only [hdd]
            case struct fs' => exact absurd hdd (h2 fs')
            case other => exact absurd hdd h3
            all_goals rw [h1, e]; rfl
          rw [this] at g2
          rw [g1, g2.val_inv]
        have fin : ∀ c : Bool, q.size = 1 → (∀ fs', q.d ≠ .struct fs') → q.d ≠ .other → (Op.equalIn (d + 1) f.type a b').run P w = .ok c w → (c && r) = b → (Op.eqFields (d + 1) va vb (f :: fs)).run P w = .ok b w := fun c h1 h2 h3 hc he => by
          simp only [Op.eqFields]
          rw [if_pos (hn f (by simp))]
          simp only [Sem.run_bind, px h1 h2 h3, py h1 h2 h3, hc, Result.andThen_ok]
          cases c
          · simp at he ⊢
            exact he
          · simp at he ⊢
            rw [← he]; exact ih
        obtain ⟨dd, hu, hsd⟩ := under_of ht
        split at h
        · rename_i hd
          have hu' : P.underlying f.type = some .bool := by rw [hd] at hsd; cases dd <;> simp [sdOf] at hsd; exact hu
          exact fin _ (hsz (fun fs' e => by rw [hd] at e; cases e)) (fun fs' e => by rw [hd] at e; cases e) (fun e => by rw [hd] at e; cases e) (run_equalIn_bool w d f.type _ _ hu') (Option.some.inj h)
        · rename_i hd
          rename_i ki k m k' m'
          cases hkk : ikeq k k' with
          | false => rw [hkk] at h; cases h
          | true =>
            rw [hkk] at h
            have hke := ikeq_eq hkk
            subst hke
            have hu' := under_int ht hd
            exact fin _ (hsz (fun fs' e => by rw [hd] at e; cases e)) (fun fs' e => by rw [hd] at e; cases e) (fun e => by rw [hd] at e; cases e) (run_equalIn_int w d f.type _ _ _ _ hu') (Option.some.inj h)
        · rename_i hd
          have hu' := under_str ht hd
          exact fin _ (hsz (fun fs' e => by rw [hd] at e; cases e)) (fun fs' e => by rw [hd] at e; cases e) (fun e => by rw [hd] at e; cases e) (run_equalIn_string w d f.type _ _ hu') (Option.some.inj h)
        · cases h
      · cases h
    · cases h

theorem run_reqs {op : BinOp} {xt : Nat} {i : TI} {x y : Operand} {va vb : Array Value} {xs ys : List AV} {v : AV} {u : Ups} {acc : Accs} (hT : TTok P TT) (ht : TIok P xt i) (hx : CR w F ρ va xs) (hy : CR w F ρ vb ys)
    (hg : (reqs TT op i xs ys).gives v u acc) : u = [] ∧ ∃ r, v = .val r ∧ (do eqGuard op xt x y (.agg va) (.agg vb); binOp op xt (.agg va) (.agg vb) : Sem Value).run P w = .ok r w := by
  unfold reqs at hg
  split at hg
  · rename_i fs hd he
    split at hg
    · rename_i b hb
      obtain ⟨d, inf, z, hu, hsd, hi, h1, h2, h3, h4, h5, h6, h7⟩ := ht
      have hq := h7 he
      have hd' : ∃ fields, d = .struct fields := by rw [hd] at hsd; cases d <;> simp [sdOf] at hsd; exact ⟨_, rfl⟩
      obtain ⟨fields, rfl⟩ := hd'
      unfold eqOKb at hq
      rw [hu] at hq
      simp only [Bool.and_eq_true, Bool.not_eq_true', List.all_eq_true] at hq
      obtain ⟨⟨q1, q2⟩, q3⟩ := hq
      have hfs : fs = fields.toList.map fun f => (f.offset, f.type) := by rw [hd] at hsd; simp only [sdOf, SD.struct.injEq] at hsd; exact hsd.symm
      have hfo : P.fieldsOf xt = fields := by unfold Program.fieldsOf; rw [hu]
      have hrun : (Op.equalIn 10000 xt (.agg va) (.agg vb)).run P w = .ok b w := by
        rw [run_equalIn_agg w 9999 xt va vb (by rw [hfo]; exact hu) q1, hfo]
        exact run_eqFields hT hx hy fields.toList b (fun f hf => by have := q3 f hf; simpa using this) (by rw [← hfs]; exact hb) 9998
      have hgd := run_eqGuard_agg (P := P) w op xt x y va vb q2
      cases op
      case eql =>
        obtain ⟨rfl, rfl, rfl⟩ := hg
        refine ⟨rfl, _, rfl, ?_⟩
        rw [Sem.run_bind, hgd, Result.andThen_ok, run_eql_struct, hrun]
        rfl
      case neq =>
        obtain ⟨rfl, rfl, rfl⟩ := hg
        refine ⟨rfl, _, rfl, ?_⟩
        rw [Sem.run_bind, hgd, Result.andThen_ok, run_neq_struct, hrun]
        rfl
      all_goals exact hg.elim
    · exact hg.elim
  · exact hg.elim

theorem op_field {o : Oper} {t f : Nat} {x : Operand} {i q : TI} {fs : List (Nat × Nat)} {off ft : Nat} {cs : List AV} (hT : TTok P TT) (hR : Rel gh w0 F0 F ρ fr s a w) (ho : o.op = .field t x f) (hi : TT t = some i) (hd : i.d = .struct fs)
    (hf : fs[f]? = some (off, ft)) (hq : TT ft = some q) (hx : aval s.t x = .agg cs) (hk : okd q = true) (hle : off + q.size ≤ cs.length) :
    Post P o a w gh w0 F0 fr b s (part q cs off) := by
  have ht := hT t i hi
  obtain ⟨fields, hu, hfs⟩ := under_struct ht hd
  have hfld : ∃ fd, fields[f]? = some fd ∧ fd.offset = off ∧ fd.type = ft := by
    rw [hfs] at hf
    simp only [List.getElem?_map, Array.getElem?_toList] at hf
    cases hfd : fields[f]? with
    | none => simp [hfd] at hf
    | some fd => simp [hfd] at hf; exact ⟨fd, rfl, hf.1, hf.2⟩
  obtain ⟨fd, hfd, hfo, hft⟩ := hfld
  have hv := hR.aval x
  rw [hx] at hv
  generalize hve : a.eval x = ve at hv
  cases hv with
  | agg vs _ h h1 h2 =>
    obtain ⟨v, g1, g2⟩ := run_part (w := w) (F := F) (ρ := ρ) (hT ft q hq) hk vs cs off ⟨h, fun j y hy => ⟨h1 j y hy, h2 j y hy⟩⟩ hle
    refine Post.val hR (v := v) ?_ g2
    simp [execOp, ho, Instr.field, run_underlying hu, hfd, hve, asAgg, hfo, hft, g1]

theorem op_indexAddr {o : Oper} {t e : Nat} {x ix : Operand} {i j : TI} {k : IntKind} {n : Int} {v : AV} {u : Ups} {acc : Accs} (hT : TTok P TT) (hR : Rel gh w0 F0 F ρ fr s a w) (ho : o.op = .indexAddr t x ix) (hi : TT t = some i) (hd : i.d = .slice e) (hj : TT e = some j)
    (hix : aval s.t ix = .val (.int k n)) (hg : (rindexAddr j s.h n (aval s.t x)).gives v u acc) :
    Post P o a w gh w0 F0 fr b { s with h := updsH s.h u } v := by
  have ht := hT t i hi
  have hu := under_slice ht hd
  have hsz := run_sizeOf (hT e j hj) w
  have hie : a.eval ix = .int k n := by have := hR.aval ix; rw [hix] at this; exact this.int_inv
  have hx := hR.aval x
  unfold rindexAddr at hg
  split at hg
  · rename_i sz rows tg hsl
    cases hcond : (Nat.beq j.size sz) with
    | false => simp [hcond] at hg; exact hg.elim
    | true =>
      have hjs : j.size = sz := by simpa using hcond
      simp only [hcond, cond_true] at hg
      obtain ⟨row, ⟨hn, hrow⟩, rfl, rfl, rfl⟩ := hg
      rw [hsl] at hx
      generalize hve : a.eval x = ve at hx
      cases hx with
      | sl A m cp _ _ _ bl of vals hm hcp htt hw hA g0 g1 g2 g3 =>
        have hlt : n.toNat < rows.length := (List.getElem?_eq_some_iff.1 hrow).1
        obtain ⟨e1, e2⟩ := hA (fun e => by simp [e] at hlt)
        have hb : 0 ≤ n ∧ n < (m : Int) := by omega
        refine Post.val hR (v := .pointer (some ⟨bl, of + n.toNat * j.size + 0, none⟩)) ?_ ?_
        · simp [execOp, ho, Instr.indexAt, run_underlying hu, hie, asIntOf, hve, e1, hb, hsz, addr_add]
        · refine .fp row 0 bl (of + n.toNat * j.size) (fun q => vals (n.toNat * sz + q)) e2 (fun q y hy => ?_) (fun q y hy => ?_) (fun q y hy => ?_) (fun q y hy => g3 _ y (flat_row hw hrow hy))
          · have := g0 _ y (flat_row hw hrow hy)
            rw [hjs]
            rwa [← Nat.add_assoc] at this
          · exact g1 _ y (flat_row hw hrow hy)
          · exact g2 _ y (flat_row hw hrow hy)
  · rename_i id off len hown
    cases hlb : s.h id with
    | none => simp only [hlb] at hg; exact hg.elim
    | some lb =>
      cases lb with
      | iter _ _ => simp only [hlb] at hg; exact hg.elim
      | cells sz rows =>
        simp only [hlb] at hg
        cases hcond : (Nat.beq j.size sz) with
        | false => simp [hcond] at hg; exact hg.elim
        | true =>
          have hjs : j.size = sz := by simpa using hcond
          simp only [hcond, cond_true] at hg
          obtain ⟨hb, rfl, rfl, rfl⟩ := hg
          obtain ⟨bi, q1, q2, _⟩ := hR.block hlb
          rw [hown] at hx
          generalize hve : a.eval x = ve at hx
          cases hx with
          | own A _ _ _ cp bi' hr hl hA =>
            rw [q1] at hr; injection hr with hr; subst hr
            obtain ⟨e1, e2⟩ := hA (by omega)
            refine Post.val hR (v := .pointer (some ⟨bi.blk, bi.base + (off + n.toNat) * bi.sz + 0, none⟩)) ?_ (.li id (off + n.toNat) 0 bi q1)
            simp [execOp, ho, Instr.indexAt, run_underlying hu, hie, asIntOf, hve, e1, hb, hsz, addr_add, hjs, q2, Nat.add_mul, Nat.add_assoc]
  · exact hg.elim

theorem op_index {o : Oper} {t : Nat} {x ix : Operand} {i : TI} {sv : ByteArray} {k : IntKind} {n : Int} (hT : TTok P TT) (hR : Rel gh w0 F0 F ρ fr s a w) (ho : o.op = .index t x ix) (hi : TT t = some i) (hd : i.d = .str)
    (hx : aval s.t x = .val (.string sv)) (hix : aval s.t ix = .val (.int k n)) (h0 : 0 ≤ n) (h1 : n < (sv.size : Int)) :
    Post P o a w gh w0 F0 fr b s (.val (.int .u8 (byteAt sv n))) := by
  have hu := under_str (hT t i hi) hd
  have hie : a.eval ix = .int k n := by have := hR.aval ix; rw [hix] at this; exact this.int_inv
  have hxe : a.eval x = .string sv := by have := hR.aval x; rw [hx] at this; exact this.val_inv
  refine Post.val hR (v := .int .u8 (byteAt sv n)) ?_ (.val _)
  have hlt : n.toNat < sv.size := by omega
  have hlt' : n.toNat < sv.data.size := hlt
  have hb : sv[n.toNat]? = some sv[n.toNat] := by simp [hlt]
  have hb2 : sv.data.toList.getD n.toNat 0 = sv[n.toNat] := by
    have : sv.data.toList[n.toNat]? = some sv[n.toNat] := by rw [Array.getElem?_toList, Array.getElem?_eq_getElem hlt']; rfl
    simp only [List.getD, this, Option.getD_some]
  simp only [execOp, ho, Instr.index, hie, asIntOf, Sem.run_bind, run_underlying hu, hxe, h0, hb, byteAt, hb2, Sem.run_pure, Result.andThen_ok, if_true]

theorem op_range {o : Oper} {t : Nat} {x : Operand} {i : TI} {sv : ByteArray} (hT : TTok P TT) (hR : Rel gh w0 F0 F ρ fr s a w) (hfr : ∀ k, k < 8 → fr (b + k)) (ho : o.op = .range t x) (hi : TT t = some i) (hd : i.d = .str)
    (hx : aval s.t x = .val (.string sv)) : Post P o a w gh w0 F0 fr b { s with h := updH s.h b (some (.iter sv 0)) } (.it b) := by
  have hu := under_str (hT t i hi) hd
  have hxe : a.eval x = .string sv := by have := hR.aval x; rw [hx] at this; exact this.val_inv
  have h' : Rel gh w0 F0 F ρ fr s a (w.alloc (.stringIter sv 0)) := hR.world (by simp) (fun k hk => Below.heap_alloc w _ k hk) rfl rfl rfl
  have h2 := h'.name b (hfr 0 (by omega)) ⟨w.heap.size, 0, 1, 1⟩ (.iter sv 0) ⟨by show 0 < 1; omega, heap_alloc_new w _⟩ (fun _ => ⟨fun hF => by have := hR.Fb _ hF; simp at this, hR.below.size⟩) (by
    intro hp id' bi' hi hr hp' he
    have h1 : bi'.blk < w.heap.size := hR.blk_lt hi hr hp'
    rw [he] at h1
    exact Nat.lt_irrefl _ h1)
  refine ⟨.value (.pointer (some ⟨w.heap.size, 0, none⟩)), _, _, ?_, .inl rfl, F, _, h2.mono_fr (fun j hj => ⟨hj.1, fun e => hj.2 ⟨by omega, by omega⟩⟩), .it b ⟨w.heap.size, 0, 1, 1⟩ (by simp [putρ])⟩
  simp [execOp, ho, Instr.range, run_underlying hu, hxe]

theorem op_next {o : Oper} {x : Operand} {id pos : Nat} {sv : ByteArray} (hR : Rel gh w0 F0 F ρ fr s a w) (ho : o.op = .next x true) (hx : aval s.t x = .it id) (hl : s.h id = some (.iter sv pos)) :
    (pos < sv.size → Post P o a w gh w0 F0 fr b { s with h := updH s.h id (some (.iter sv (pos + (Utf8.decode sv pos).2))) } (.tup [.val (.bool true), .val (.int .i64 pos), .val (.int .i32 (Utf8.decode sv pos).1)])) ∧
    (¬ pos < sv.size → Post P o a w gh w0 F0 fr b s (.tup [.val (.bool false)])) := by
  obtain ⟨bi, q1, q2, q3⟩ := hR.blks id _ hl
  obtain ⟨hp, hg⟩ := q2
  have hv := hR.aval x
  rw [hx] at hv
  generalize hve : a.eval x = ve at hv
  cases hv with
  | it _ bi' hr =>
    rw [q1] at hr; injection hr with hr; subst hr
    constructor
    · intro hlt
      have hlt2 : bi.blk < w.heap.size := (Array.getElem?_eq_some_iff.1 hg).1
      let w' : World := { w with heap := w.heap.setIfInBounds bi.blk (.stringIter sv (pos + (Utf8.decode sv pos).2)) }
      have hoth : ∀ k, k ≠ bi.blk → w'.heap[k]? = w.heap[k]? := fun k hk => by simp [w', Array.getElem?_setIfInBounds_ne (Ne.symm hk)]
      have hnF := (q3 hp).1
      have hge := (q3 hp).2
      have hF : ∀ b, F b → w'.heap[b]? = w.heap[b]? := fun b hb => hoth b (fun e => hnF (e ▸ hb))
      have hrun : (execOp a.eval o).run P w = .ok (.value (.tuple #[.bool true, .int .i64 pos, .int .i32 (Utf8.decode sv pos).1])) w' := by
        have hgo : (getObj bi.blk).run P w = .ok (.stringIter sv pos) w := by simp [getObj, Sem.run, hg]
        have hso : (setObj bi.blk (.stringIter sv (pos + (Utf8.decode sv pos).2))).run P w = .ok () w' := by simp [setObj, Sem.run, hg, w']
        simp [execOp, ho, Instr.next, hve, hgo, hlt, hso, goInt]
      refine ⟨_, w', _, hrun, .inl rfl, F, ρ, ?_, ?_⟩
      · refine Rel.mono_fr (fr := fr) { hR with below := ?_, Fb := fun b hb => by simpa [w'] using hR.Fb b hb, vals := fun t => (hR.vals t).mono (fun _ h => h) hF (fun _ _ h => h), blks := fun j lb hj => ?_, inj := fun i j b1 b2 h1 h2 => ?_ } (fun _ h => h.1)
        · exact hR.below.trans ⟨rfl, rfl, rfl, by simp [w'], fun k hk => hoth k (by omega)⟩
        · by_cases e : j = id
          · subst e
            have hj' : updH s.h j _ j = some lb := hj
            rw [updH_same] at hj'; injection hj' with hj'; subst hj'
            exact ⟨bi, q1, ⟨hp, by simp [w', hlt2]⟩, q3⟩
          · have hj' : updH s.h id _ j = some lb := hj
            rw [updH_ne _ _ e] at hj'
            obtain ⟨b', p1, p2, p3⟩ := hR.blks j lb hj'
            exact ⟨b', p1, p2.mono (fun _ h => h) hF (fun _ _ h => h) (fun hp' => hoth _ (hR.inj j id b' bi (by rw [hj']; rfl) (by rw [hl]; rfl) p1 q1 hp' hp e)), p3⟩
        · have g : ∀ k, ((updH s.h id (some (.iter sv (pos + (Utf8.decode sv pos).2)))) k).isSome = true → (s.h k).isSome = true := by
            intro k hk
            by_cases e : k = id
            · subst e; rw [hl]; rfl
            · rwa [updH_ne _ _ e] at hk
          exact hR.inj i j b1 b2 (g i h1) (g j h2)
      · refine .tup _ _ rfl (fun i y hy => ?_)
        rcases i with _ | _ | _ | i <;> simp at hy <;> subst hy <;> exact .val _
    · intro hlt
      refine Post.val hR (v := .tuple #[.bool false]) ?_ (.tup _ _ rfl (fun i y hy => ?_))
      · have hgo : (getObj bi.blk).run P w = .ok (.stringIter sv pos) w := by simp [getObj, Sem.run, hg]
        simp [execOp, ho, Instr.next, hve, hgo, hlt]
      · rcases i with _ | i <;> simp at hy
        subst hy; exact .val _

end
end Go.AL

set_option linter.unusedSimpArgs false
namespace Go.AL
open Go Go.RowKit

section
variable {P : Program} {TT : Nat → Option TI} {gh : Array Value} {w0 w : World} {F0 F : Nat → Prop} {ρ : Nat → Option BI} {fr : Nat → Prop} {s : St} {a : Act} {b : Nat}

/-- Rows that stand in cells, loaded. -/
theorem cells_src {bl o size : Nat} {ys : List (List AV)} (hw : ∀ r ∈ ys, r.length = size) (hc : ∀ (j : Nat) (x : AV), ys.flatten[j]? = some x → ∃ v, w.cell? ⟨bl, o + j, none⟩ = some v ∧ v.oneCell' = true ∧ VR w F ρ v x) :
    ∃ news : List Value, news.length = ys.length * size ∧ CR w F ρ news.toArray ys.flatten ∧ ∀ m, m ≤ ys.length → ∀ w' : World, w'.heap = w.heap → (loadCells ⟨bl, o, none⟩ (m * size)).run P w' = .ok (news.take (m * size)).toArray w' := by
  have hfl := flat_len ys hw
  have hcell : ∀ j, j < ys.length * size → ∃ v, w.cell? ⟨bl, o + j, none⟩ = some v := fun j hj => by
    have hx : ys.flatten[j]? = some (ys.flatten[j]'(by omega)) := List.getElem?_eq_getElem (by omega)
    obtain ⟨v, h1, _⟩ := hc j _ hx
    exact ⟨v, h1⟩
  refine ⟨(List.range (ys.length * size)).map fun j => (w.cell? ⟨bl, o + j, none⟩).getD undef, by simp, ⟨by simp [hfl], fun j x hx => ?_⟩, fun m hm w' hw' => ?_⟩
  · have hj : j < ys.length * size := by have := (List.getElem?_eq_some_iff.1 hx).1; omega
    obtain ⟨v, h1, h2, h3⟩ := hc j x hx
    have e : (((List.range (ys.length * size)).map fun j => (w.cell? ⟨bl, o + j, none⟩).getD undef).toArray.getD j undef) = v := by simp [hj, h1]
    rw [e]
    exact ⟨h2, h3⟩
  · have hle : m * size ≤ ys.length * size := Nat.mul_le_mul_right _ hm
    rw [run_loadCells w' ⟨bl, o, none⟩ (m * size) (fun j => (w.cell? ⟨bl, o + j, none⟩).getD undef) (fun j hj => by
      obtain ⟨v, h1⟩ := hcell j (by omega)
      rw [addr_add, World.cell?_of_block (w := w) (w' := w') (by rw [hw']), h1]
      rfl)]
    congr 2
    rw [← List.map_take, List.take_range, Nat.min_eq_left hle]

/-- What is appended or copied. -/
theorem src_ok {y : Operand} {sz' size : Nat} {ys : List (List AV)} {ps : List Prop} {acc : Accs} (hR : Rel gh w0 F0 F ρ fr s a w) (hy : rsrc s.h (aval s.t y) = some (sz', ys, ps, acc)) (hps : allP ps) (hs : size = sz' ∨ ys = []) :
    (∀ w' : World, (Builtin.lenOf (a.eval y)).run P w' = .ok ys.length w') ∧ (∀ r ∈ ys, r.length = size) ∧
    ∃ news : List Value, news.length = ys.length * size ∧ CR w F ρ news.toArray ys.flatten ∧ ∀ m, m ≤ ys.length → ∀ w' : World, w'.heap = w.heap → (Builtin.firstCells size m (a.eval y)).run P w' = .ok (news.take (m * size)).toArray w' := by
  have hv := hR.aval y
  unfold rsrc at hy
  split at hy
  · rename_i sz rows tg hsl
    simp only [Option.some.injEq, Prod.mk.injEq] at hy
    obtain ⟨rfl, rfl, rfl, rfl⟩ := hy
    rw [hsl] at hv
    generalize hve : a.eval y = ve at hv
    cases hv with
    | sl A n cp _ _ _ bl of vals hn hcp htt hw hA g0 g1 g2 g3 =>
      subst hn
      have hw' : ∀ r ∈ rows, r.length = size := fun r hr => by
        rcases hs with h | h
        · rw [h]; exact hw r hr
        · rw [h] at hr; cases hr
      refine ⟨fun w' => by simp [Builtin.lenOf], hw', ?_⟩
      by_cases hne : rows = []
      · subst hne
        refine ⟨[], by simp, ⟨rfl, fun j x hx => by simp at hx⟩, fun m hm w' _ => ?_⟩
        have : m = 0 := by simpa using hm
        subst this
        cases A with
        | none => simp [Builtin.firstCells]
        | some ad => simp [Builtin.firstCells, loadCells, loadCellsFrom]
      · obtain ⟨e1, e2⟩ := hA hne
        obtain ⟨news, h1, h2, h3⟩ := cells_src (P := P) (w := w) (F := F) (ρ := ρ) (bl := bl) (o := of) hw' (fun j x hx => ⟨vals j, g0 j x hx, g1 j x hx, g2 j x hx⟩)
        refine ⟨news, h1, h2, fun m hm w' hw' => ?_⟩
        rw [e1]
        simp only [Builtin.firstCells]
        exact h3 m hm w' hw'
  · rename_i id off len hown
    split at hy
    · rename_i sz rows hlb
      simp only [Option.some.injEq, Prod.mk.injEq] at hy
      obtain ⟨rfl, rfl, rfl, rfl⟩ := hy
      simp only [allP] at hps
      obtain ⟨bi, q1, q2, q3, q4, q5, q6⟩ := hR.block hlb
      obtain ⟨bi', r1, r2, r3⟩ := hR.cell hlb
      rw [q1] at r1; injection r1 with r1; subst r1
      rw [hown] at hv
      generalize hve : a.eval y = ve at hv
      have hlen : ((rows.drop off).take len).length = len := by simp; omega
      cases hv with
      | own A _ _ _ cp bi' hr hl hA =>
        rw [q1] at hr; injection hr with hr; subst hr
        have hw' : ∀ r ∈ (rows.drop off).take len, r.length = size := fun r hr => by
          rcases hs with h | h
          · rw [h]; exact q3 r (List.mem_of_mem_drop (List.mem_of_mem_take hr))
          · rw [h] at hr; cases hr
        refine ⟨fun w' => by simp only [Builtin.lenOf, hlen]; rfl, hw', ?_⟩
        by_cases hl0 : len = 0
        · subst hl0
          refine ⟨[], by simp, ⟨by simp, fun j x hx => by simp at hx⟩, fun m hm w' _ => ?_⟩
          have : m = 0 := by simpa using hm
          subst this
          cases A with
          | none => simp [Builtin.firstCells]
          | some ad => simp [Builtin.firstCells, loadCells, loadCellsFrom]
        · obtain ⟨e1, e2⟩ := hA (by omega)
          obtain ⟨news, h1, h2, h3⟩ := cells_src (P := P) (w := w) (F := F) (ρ := ρ) (bl := bi.blk) (o := bi.base + off * bi.sz) hw' (fun j x hx => by
            have hsub : ((rows.drop off).take len) = (rows.take (off + len)).drop off := by rw [List.drop_take]; congr 1; omega
            rw [hsub] at hx
            have := r3 _ x (flat_sub q3 off (off + len) j x hx)
            rwa [← Nat.add_assoc, ← q2] at this)
          refine ⟨news, h1, h2, fun m hm w' hw' => ?_⟩
          rw [e1]
          simp only [Builtin.firstCells]
          exact h3 m hm w' hw'
    · cases hy
  · rename_i sv hsv
    simp only [Option.some.injEq, Prod.mk.injEq] at hy
    obtain ⟨rfl, rfl, rfl, rfl⟩ := hy
    rw [hsv] at hv
    have hve := hv.val_inv
    rw [hve]
    have hyl : (irows .u8 (bytesL sv)).length = sv.size := by simp [irows, bytesL]
    refine ⟨fun w' => by simp [Builtin.lenOf, hyl], fun r hr => ?_, ?_⟩
    · obtain ⟨n, hn, rfl⟩ := List.mem_map.1 hr
      rcases hs with h | h
      · rw [h]; rfl
      · exfalso
        have : (bytesL sv).length = 0 := by
          have := congrArg List.length h
          simpa [irows] using this
        rw [List.eq_nil_of_length_eq_zero this] at hn
        cases hn
    · have hfl : (irows .u8 (bytesL sv)).flatten = (bytesL sv).map fun n => AV.val (.int .u8 n) := by
        unfold irows
        induction bytesL sv with
        | nil => rfl
        | cons x l ih => simp [ih]
      rcases hs with h | h
      · subst h
        refine ⟨(bytesL sv).map fun n => Value.int .u8 n, by simp [irows], ⟨by rw [hfl]; simp, fun j x hx => ?_⟩, fun m hm w' _ => ?_⟩
        · rw [hfl, List.getElem?_map] at hx
          cases hj : (bytesL sv)[j]? with
          | none => simp [hj] at hx
          | some n =>
            simp [hj] at hx
            subst hx
            have e : ((bytesL sv).map fun n => Value.int .u8 n).toArray.getD j undef = .int .u8 n := by
              have hjl := (List.getElem?_eq_some_iff.1 hj).1
              simp [hjl, (List.getElem?_eq_some_iff.1 hj).2]
            rw [e]
            exact ⟨rfl, .val _⟩
        · simp only [Builtin.firstCells, Nat.mul_one, Sem.run_pure]
          congr 1
          apply Array.ext'
          have : (sv.extract 0 m).data.toList = sv.data.toList.take m := by simp
          simp only [Array.toList_map, this, bytesL, List.map_map, ← List.map_take]
          rfl
      · have hl0 : sv.size = 0 := by rw [← hyl, h]; rfl
        refine ⟨[], by simp [h], ⟨by rw [h]; rfl, fun j x hx => by rw [h] at hx; simp at hx⟩, fun m hm w' _ => ?_⟩
        have hm0 : m = 0 := by rw [h] at hm; simpa using hm
        subst hm0
        have he : (sv.extract 0 0) = ByteArray.empty := by
          apply ByteArray.ext; simp
        simp [Builtin.firstCells]
  · cases hy

set_option maxHeartbeats 1000000 in
theorem run_append_room' {t u ty e : TypeId} {i : TypeInfo} (ht : P.underlying t = some (.slice e)) (hu : (∃ e', P.underlying u = some (.slice e')) ∨ P.underlying u = some .string) (hi : P.info? e = some i)
    (base : Option Addr) (sLen sCap n : Nat) (x : Value) (news : List Value) (hlen : (Builtin.lenOf x).run P w = .ok n w) (hnews : (Builtin.firstCells i.size n x).run P w = .ok news.toArray w) (hroom : sLen + n ≤ sCap)
    (w2 : World) (hst : ∀ ad, base = some ad → (storeCells (ad.add (sLen * i.size)) news).run P w = .ok () w2) (hnone : base = none → w2 = w) :
    (Builtin.append_ #[t, u] ty #[.slice base sLen sCap, x]).run P w = .ok (.slice base (sLen + n) sCap) w2 := by
  have hsz : (sizeOf e).run P w = .ok i.size w := by simp [sizeOf, typeInfo, hi]
  have hfin : (do
      if let some a := base then storeCells (a.add (sLen * i.size)) news.toArray.toList
      pure (Value.slice base (sLen + n) sCap) : Sem Value).run P w = .ok (.slice base (sLen + n) sCap) w2 := by
    cases base with
    | none => rw [hnone rfl]; simp
    | some ad => simp [hst ad rfl]
  rcases hu with ⟨e', hu⟩ | hu
  · simp only [Builtin.append_, Sem.run_bind, run_underlying ht, run_underlying hu, Result.andThen_ok, hsz, Sem.run_pure, hlen, hroom, if_true, hnews, List.getElem?_toArray, List.getElem?_cons_zero, List.getElem?_cons_succ, Bool.false_eq_true, if_false, Bool.not_false] at hfin ⊢
    exact hfin
  · simp only [Builtin.append_, Sem.run_bind, run_underlying ht, run_underlying hu, Result.andThen_ok, hsz, Sem.run_pure, hlen, hroom, if_true, hnews, List.getElem?_toArray, List.getElem?_cons_zero, List.getElem?_cons_succ, Bool.false_eq_true, if_false, Bool.not_false] at hfin ⊢
    exact hfin

set_option maxHeartbeats 1000000 in
theorem run_append_grow' {t u ty e : TypeId} {i : TypeInfo} {z : Value} (ht : P.underlying t = some (.slice e)) (hu : (∃ e', P.underlying u = some (.slice e')) ∨ P.underlying u = some .string) (hi : P.info? e = some i) (hz : i.zero = some z)
    (base : Option Addr) (sLen sCap n : Nat) (x : Value) (olds news : List Value) (hlen : (Builtin.lenOf x).run P w = .ok n w) (holds : (Builtin.firstCells i.size sLen (.slice base sLen sCap)).run P w.drew = .ok olds.toArray w.drew)
    (hnews : (Builtin.firstCells i.size n x).run P w.drew = .ok news.toArray w.drew) (hg : sCap < sLen + n) (hb : (sLen + n) * i.bytes ≤ 140737488355328) (h63 : ((sLen + n : Nat) : Int) ≤ 9223372036854775807) :
    (Builtin.append_ #[t, u] ty #[.slice base sLen sCap, x]).run P w =
      .ok (.slice (some ⟨w.heap.size, 0, none⟩) (sLen + n) (grownCap w (sLen + n) sCap e))
        (w.drew.alloc (.cells (olds.toArray ++ news.toArray ++ Builtin.zeroCells z.cells (grownCap w (sLen + n) sCap e - (sLen + n))) e)) := by
  have hn : ¬ (sLen + n ≤ sCap) := by omega
  have hmax : IntKind.i64.max = 9223372036854775807 := by decide
  have h48 := growslice_fits hg hb
  have h48' : ¬ (Builtin.nextslicecap (sLen + n) sCap * i.bytes > 2 ^ 48) := by omega
  have hti : ∀ w, (typeInfo e).run P w = .ok i w := fun w => by simp [typeInfo, hi]
  have hsz : ∀ w, (sizeOf e).run P w = .ok i.size w := fun w => by simp [sizeOf, typeInfo, hi]
  have hzv : ∀ w, (zeroValue e).run P w = .ok z w := fun w => by simp [zeroValue, typeInfo, hi, hz]
  have h63' : ¬ (((sLen + n : Nat) : Int) > IntKind.i64.max ∧ (false = true ∨ i.bytes = 0)) := by rw [hmax]; omega
  have h63'' : ¬ (9223372036854775807 < (sLen : Int) + (n : Int) ∧ i.bytes = 0) := by omega
  have h48'' : ¬ (281474976710656 < Builtin.nextslicecap (sLen + n) sCap * i.bytes) := by omega
  have hch : (choose (.appendCap (sLen + n) sCap e)).run P w = .ok (grownCap w (sLen + n) sCap e) w.drew := by
    simp [run_choose, Question.forced, grownCap]
  rcases hu with ⟨e', hu⟩ | hu
  · simp only [Builtin.append_, Sem.run_bind, run_underlying ht, run_underlying hu, Result.andThen_ok, hsz, Sem.run_pure, hlen, hn, if_false, List.getElem?_toArray, List.getElem?_cons_zero, List.getElem?_cons_succ, h63', hti, h48', hch, run_askRoom, holds, hnews, Bool.false_eq_true, hzv, Bool.not_false, if_true]
    simp [newRow, h63'', hti, h48'', hsz, hzv, holds, hnews, Question.forced, grownCap]
    congr 2
    apply Array.ext'
    simp [List.append_assoc]
  · simp only [Builtin.append_, Sem.run_bind, run_underlying ht, run_underlying hu, Result.andThen_ok, hsz, Sem.run_pure, hlen, hn, if_false, List.getElem?_toArray, List.getElem?_cons_zero, List.getElem?_cons_succ, h63', hti, h48', hch, run_askRoom, holds, hnews, Bool.false_eq_true, hzv, Bool.not_false, if_true]
    simp [newRow, h63'', hti, h48'', hsz, hzv, holds, hnews, Question.forced, grownCap]
    congr 2
    apply Array.ext'
    simp [List.append_assoc]

theorem CR_append {c1 c2 : Array Value} {x1 x2 : List AV} (h1 : CR w F ρ c1 x1) (h2 : CR w F ρ c2 x2) (rest : Array Value) (j : Nat) (x : AV) (hx : (x1 ++ x2)[j]? = some x) :
    ((c1 ++ c2 ++ rest).getD j undef).oneCell' = true ∧ VR w F ρ ((c1 ++ c2 ++ rest).getD j undef) x := by
  have s1 := h1.1
  have s2 := h2.1
  rw [List.getElem?_append] at hx
  by_cases h : j < x1.length
  · rw [if_pos h] at hx
    have e : (c1 ++ c2 ++ rest).getD j undef = c1.getD j undef := by
      simp only [Array.getD_eq_getD_getElem?, Array.append_assoc, Array.getElem?_append]
      rw [if_pos (by omega)]
    rw [e]; exact h1.2 j x hx
  · rw [if_neg h] at hx
    have hj : j - x1.length < x2.length := (List.getElem?_eq_some_iff.1 hx).1
    have e : (c1 ++ c2 ++ rest).getD j undef = c2.getD (j - x1.length) undef := by
      simp only [Array.getD_eq_getD_getElem?, Array.append_assoc, Array.getElem?_append]
      rw [if_neg (by omega), if_pos (by omega), s1]
    rw [e]; exact h2.2 _ x hx

end
end Go.AL

set_option linter.unusedSimpArgs false
namespace Go.AL
open Go Go.RowKit

section
variable {P : Program} {TT : Nat → Option TI} {gh : Array Value} {w0 w : World} {F0 F : Nat → Prop} {ρ : Nat → Option BI} {fr : Nat → Prop} {s : St} {a : Act} {b : Nat}

theorem allP_cons {p : Prop} {l : List Prop} (h : allP (p :: l)) : p ∧ allP l := by
  cases l with
  | nil => exact ⟨h, trivial⟩
  | cons q l => exact h

/-- A live block goes on under another number, from another place on. -/
theorem Rel.rename (h : Rel gh w0 F0 F ρ fr s a w) (id id' : Nat) (hid' : fr id') (bi : BI) (sz off : Nat) (rows : List (List AV)) (hl : s.h id = some (.cells sz rows)) (hr : ρ id = some bi) (ho : off ≤ rows.length) :
    Rel gh w0 F0 F (putρ ρ id' ⟨bi.blk, bi.base + off * sz, sz, bi.csz⟩) (fun j => fr j ∧ j ≠ id') { s with h := updH (updH s.h id none) id' (some (.cells sz (rows.drop off))) } a w := by
  obtain ⟨bi0, q1, q2, q3, q4, q5, q6⟩ := h.block hl
  rw [hr] at q1; injection q1 with q1; subst q1
  have h' := h.forget id
  refine h'.name id' hid' ⟨bi.blk, bi.base + off * sz, sz, bi.csz⟩ (.cells sz (rows.drop off)) ⟨rfl, fun r hr => q3 r (List.mem_of_mem_drop hr), fun h0 => ?_, fun hp => ?_⟩ q4 (fun hp id2 bi2 hi2 hr2 hp2 => ?_)
  · have := q5 h0
    have hfl := flat_len rows q3
    rw [this] at hfl
    have : (rows.drop off).flatten.length = 0 := by
      rw [flat_len _ (fun r hr => q3 r (List.mem_of_mem_drop hr)), List.length_drop]
      have hfl' : rows.length * sz = 0 := by simpa using hfl.symm
      rcases Nat.mul_eq_zero.1 hfl' with h | h
      · simp [h]
      · simp [h]
    exact List.eq_nil_of_length_eq_zero this
  · obtain ⟨cs, ty, g1, g2, g3, g4⟩ := q6 hp
    refine ⟨cs, ty, g1, g2, ?_, fun j x hx => ?_⟩
    · simp only [List.length_drop]
      have : (off + (rows.length - off)) * sz = rows.length * sz := by congr 1; omega
      rw [Nat.add_mul] at this
      omega
    · have hsub : rows.drop off = (rows.take rows.length).drop off := by rw [List.take_length]
      rw [hsub] at hx
      have := g4 _ x (flat_sub q3 off rows.length j x hx)
      rwa [← Nat.add_assoc] at this
  · have hne : id2 ≠ id := fun e => by
      have hi2' : (updH s.h id none id2).isSome = true := hi2
      rw [e, updH_same] at hi2'
      cases hi2'
    have hi2' : (s.h id2).isSome = true := by
      have hh : (updH s.h id none id2).isSome = true := hi2
      rwa [updH_ne _ _ hne] at hh
    exact h.inj id2 id bi2 bi hi2' (by rw [hl]; rfl) hr2 hr hp2 hp hne

theorem op_append_own {o : Oper} {c : Call} {x y : Operand} {t u e : Nat} {i j k : TI} {id off len sz sz' : Nat} {rows ys : List (List AV)} {ps : List Prop} {acc : Accs} (hT : TTok P TT) (hR : Rel gh w0 F0 F ρ fr s a w) (hfr : ∀ k, k < 8 → fr (b + k))
    (ho : o.op = .call c) (hc : c.callee = .builtin .append) (hargs : c.args = #[x, y]) (htys : c.argTypes = #[t, u]) (hi : TT t = some i) (hd : i.d = .slice e) (hj : TT e = some j) (hk : TT u = some k) (hkd : (∃ q, k.d = .slice q) ∨ k.d = .str)
    (hsrc : rsrc s.h (aval s.t y) = some (sz', ys, ps, acc)) (hps : allP ps) (hs : j.size = sz' ∨ ys = []) (hx : aval s.t x = .own id off len) (hlb : s.h id = some (.cells sz rows)) (hsz : j.size = sz)
    (hle : off + len ≤ rows.length) (hb : (len + ys.length) * j.bytes ≤ 140737488355328) (hb0 : 0 < j.bytes) :
    Post P o a w gh w0 F0 fr b { s with h := updH (updH s.h id none) b (some (.cells j.size ((rows.drop off).take len ++ ys))) } (.own b 0 (len + ys.length)) := by
  subst hsz
  have hu := under_slice (hT t i hi) hd
  have hudu : (∃ e', P.underlying u = some (.slice e')) ∨ P.underlying u = some .string := by
    rcases hkd with ⟨q, h⟩ | h
    · exact .inl ⟨q, under_slice (hT u k hk) h⟩
    · exact .inr (under_str (hT u k hk) h)
  obtain ⟨hlen, hwy, news, hnl, hncr, hnf⟩ := src_ok (P := P) hR hsrc hps hs
  have hte := hT e j hj
  obtain ⟨d, inf, z, hud, hsd', hinf, h1, h2, h3, h4, h5, h6, h7⟩ := hte
  obtain ⟨bi, q1, q2, q3, q4, q5, q6⟩ := hR.block hlb
  obtain ⟨bi', r1, r2, r3⟩ := hR.cell hlb
  rw [q1] at r1; injection r1 with r1; subst r1
  have hv := hR.aval x
  rw [hx] at hv
  generalize hve : a.eval x = ve at hv
  have hexec : ∀ v0, a.eval x = v0 → ∀ v w', (Builtin.append_ #[t, u] o.type #[v0, a.eval y]).run P w = .ok v w' → (execOp a.eval o).run P w = .ok (.value v) w' := by
    intro v0 hv0 v w' hr
    subst hv0
    simp only [execOp, ho, resolve, hc, hargs, htys, invoke, builtin, Sem.run_bind, Sem.run_pure, Result.andThen_ok, List.map_toArray, List.map_cons, List.map_nil, hr]
  have hold : ∀ r ∈ (rows.drop off).take len, r.length = j.size := fun r hr => q3 r (List.mem_of_mem_drop (List.mem_of_mem_take hr))
  have holdl : ((rows.drop off).take len).length = len := by simp; omega
  have hnall : (news.take (ys.length * j.size)) = news := List.take_of_length_le (by omega)
  have hneq := hnf ys.length (Nat.le_refl _)
  rw [hnall] at hneq
  cases hv with
  | own A _ _ _ cp bi' hr hl hA =>
    rw [q1] at hr; injection hr with hr; subst hr
    by_cases hroom : len + ys.length ≤ cp
    · by_cases hcp : cp = 0
      · -- nothing at all
        have hl0 : len = 0 := by omega
        have hy0 : ys.length = 0 := by omega
        have hye : ys = [] := List.eq_nil_of_length_eq_zero hy0
        subst hye
        have hnn : news = [] := List.eq_nil_of_length_eq_zero (by simpa using hnl)
        subst hnn hl0
        have hst : ∀ ad, A = some ad → (storeCells (ad.add (0 * inf.size)) ([] : List Value)).run P w = .ok () w := fun ad _ => by simp [storeCells]
        have hrun := run_append_room' (P := P) (ty := o.type) (w := w) hu hudu hinf A 0 cp 0 (a.eval y) [] (hlen w) (by rw [h1]; simpa using hneq w rfl) (by omega) w hst (fun _ => rfl)
        have h' := hR.forget id
        have h2' := h'.name b (hfr 0 (by omega)) ⟨0, 0, j.size, 0⟩ (.cells j.size []) ⟨rfl, fun r hr => (List.not_mem_nil hr).elim, fun _ => rfl, fun hp => by simp at hp⟩ (fun hp => by simp at hp) (fun hp => by simp at hp)
        refine ⟨.value (.slice A (0 + 0) cp), w, _, ?_, .inl rfl, F, _, by simpa using h2'.mono_fr (fr' := fun q => fr q ∧ ¬ (b ≤ q ∧ q < b + 8)) (fun q hq => ⟨hq.1, fun e => hq.2 ⟨by omega, by omega⟩⟩), ?_⟩
        · exact hexec _ hve _ _ hrun
        · exact .own _ b 0 (0 + 0) cp ⟨0, 0, j.size, 0⟩ (by simp [putρ]) (by omega) (fun hp => by omega)
      · -- in place
        obtain ⟨e1, e2⟩ := hA (by omega)
        have hjs : inf.size = j.size := h1
        by_cases hp : 0 < bi.csz
        · obtain ⟨cs, ty, g1, g2, g3, g4⟩ := q6 hp
          have hcap : bi.base + (off + len + ys.length) * j.size ≤ cs.size := by
            have : (off + len + ys.length) * bi.sz ≤ (off + cp) * bi.sz := Nat.mul_le_mul_right _ (by omega)
            rw [q2] at this e2
            omega
          have hone : ∀ v ∈ news, v.oneCell' = true := fun v hvm => by
            obtain ⟨q, hq⟩ := List.mem_iff_getElem?.1 hvm
            have hql := (List.getElem?_eq_some_iff.1 hq).1
            have hcl : news.length = ys.flatten.length := hncr.1
            obtain ⟨xx, hxx⟩ : ∃ xx, ys.flatten[q]? = some xx := ⟨ys.flatten[q]'(by omega), List.getElem?_eq_getElem (by omega)⟩
            have := (hncr.2 q xx hxx).1
            simpa [hql, (List.getElem?_eq_some_iff.1 hq).2] using this
          have hst := run_storeCells_at P bi.blk (bi.base + (off + len) * j.size) ty news 0 cs w g1 (by rw [hnl]; simp only [Nat.add_mul] at hcap ⊢; omega) hone
          simp only [Nat.add_zero] at hst
          have hst' : ∀ ad, A = some ad → (storeCells (ad.add (len * inf.size)) news).run P w = .ok () (w.setRow bi.blk (cs.toList.take (bi.base + (off + len) * j.size) ++ news ++ cs.toList.drop (bi.base + (off + len) * j.size + news.length)).toArray) := fun ad had => by
            rw [e1] at had
            injection had with had
            subst had
            rw [addr_add, hjs, q2]
            have : bi.base + off * j.size + len * j.size = bi.base + (off + len) * j.size := by rw [Nat.add_mul]; omega
            rw [this]
            exact hst
          have hrun := run_append_room' (P := P) (ty := o.type) (w := w) hu hudu hinf A len cp ys.length (a.eval y) news (hlen w) (by rw [hjs]; exact hneq w rfl) hroom _ hst' (fun hn => by rw [e1] at hn; cases hn)
          have hfit : bi.base + (off + len) * j.size + news.toArray.size ≤ cs.size := by simp only [List.size_toArray, hnl]; simp only [Nat.add_mul] at hcap ⊢; omega
          have hwr := hR.write id bi j.size rows (rows.take (off + len) ++ ys) hlb q1 hp (cs.toList.take (bi.base + (off + len) * j.size) ++ news.toArray.toList ++ cs.toList.drop (bi.base + (off + len) * j.size + news.toArray.size)).toArray ty cs g1
            (by simp at hfit ⊢; omega) (fun r hr => by
              rcases List.mem_append.1 hr with h | h
              · exact q3 r (List.mem_of_mem_take h)
              · exact hwy r h) (by
              simp only [List.length_append, List.length_take, Nat.min_eq_left hle]
              simp at hfit ⊢
              simp only [Nat.add_mul] at hcap ⊢
              omega) (fun q xx hxx => by
              rw [splice_getD _ _ _ _ hfit]
              rw [List.flatten_append, List.getElem?_append] at hxx
              have htl : (rows.take (off + len)).flatten.length = (off + len) * j.size := by
                rw [flat_len _ (fun r hr => q3 r (List.mem_of_mem_take hr)), List.length_take, Nat.min_eq_left hle]
              rw [htl] at hxx
              by_cases hq : q < (off + len) * j.size
              · rw [if_pos hq] at hxx
                rw [if_pos (by omega)]
                have hx2 := flat_sub q3 0 (off + len) q xx (by simpa using hxx)
                simp only [Nat.zero_mul, Nat.zero_add] at hx2
                exact g4 q xx hx2
              · rw [if_neg hq] at hxx
                have hql := (List.getElem?_eq_some_iff.1 hxx).1
                have hcl : news.length = ys.flatten.length := hncr.1
                rw [if_neg (by omega), if_pos (by show _ < _ + news.length; omega)]
                have e : bi.base + q - (bi.base + (off + len) * j.size) = q - (off + len) * j.size := by omega
                rw [e]
                exact hncr.2 _ xx hxx)
          have hren := hwr.rename id b (hfr 0 (by omega)) bi j.size off (rows.take (off + len) ++ ys) (updH_same _ _ _) q1 (by simp; omega)
          have hrows : (rows.take (off + len) ++ ys).drop off = (rows.drop off).take len ++ ys := by
            rw [List.drop_append]
            have e0 : off - (rows.take (off + len)).length = 0 := by simp; omega
            rw [e0, List.drop_zero, List.drop_take]
            congr 2
            omega
          rw [hrows] at hren
          have hh : updH (updH (updH s.h id (some (LB.cells j.size (rows.take (off + len) ++ ys)))) id none) b (some (.cells j.size ((rows.drop off).take len ++ ys))) = updH (updH s.h id none) b (some (.cells j.size ((rows.drop off).take len ++ ys))) := by
            funext q
            unfold updH
            cases Nat.beq q b <;> cases Nat.beq q id <;> rfl
          have hrel := hren.mono_fr (fr' := fun q => fr q ∧ ¬ (b ≤ q ∧ q < b + 8)) (fun q hq => ⟨hq.1, fun e => hq.2 ⟨by omega, by omega⟩⟩)
          simp only [hh] at hrel
          refine ⟨_, _, _, hexec _ hve _ _ hrun, .inl rfl, F, _, hrel, ?_⟩
          · refine .own A b 0 (len + ys.length) cp ⟨bi.blk, bi.base + off * j.size, j.size, bi.csz⟩ (by simp [putρ]) hroom (fun _ => ⟨by rw [e1, q2]; simp, ?_⟩)
            rw [q2] at e2
            simp only [Nat.zero_add]
            rw [Nat.add_mul] at e2
            omega
        · -- a block without cells: elements without cells
          have hp0 : bi.csz = 0 := by omega
          have hjz : j.size = 0 := by
            rw [q2, hp0] at e2
            have : (off + cp) * j.size = 0 := by omega
            rcases Nat.mul_eq_zero.1 this with h | h
            · omega
            · exact h
          have hnn : news = [] := List.eq_nil_of_length_eq_zero (by rw [hnl, hjz]; simp)
          subst hnn
          have hst : ∀ ad, A = some ad → (storeCells (ad.add (len * inf.size)) ([] : List Value)).run P w = .ok () w := fun ad _ => by simp [storeCells]
          have hrun := run_append_room' (P := P) (ty := o.type) (w := w) hu hudu hinf A len cp ys.length (a.eval y) [] (hlen w) (by rw [hjs]; exact hneq w rfl) hroom w hst (fun hn => nomatch (e1.symm.trans hn))
          have h' := hR.forget id
          have hfz : ((rows.drop off).take len ++ ys).flatten = [] := by
            apply List.eq_nil_of_length_eq_zero
            rw [flat_len (sz := j.size) _ (fun r hr => by
              rcases List.mem_append.1 hr with h | h
              · exact hold r h
              · exact hwy r h), hjz]
            simp
          have h2' := h'.name b (hfr 0 (by omega)) ⟨bi.blk, bi.base + off * j.size, j.size, 0⟩ (.cells j.size ((rows.drop off).take len ++ ys)) ⟨rfl, fun r hr => by
              rcases List.mem_append.1 hr with h | h
              · exact hold r h
              · exact hwy r h, fun _ => hfz, fun hp => by simp at hp⟩ (fun hp => by simp at hp) (fun hp => by simp at hp)
          refine ⟨.value (.slice A (len + ys.length) cp), w, _, ?_, .inl rfl, F, _, by simpa using h2'.mono_fr (fr' := fun q => fr q ∧ ¬ (b ≤ q ∧ q < b + 8)) (fun q hq => ⟨hq.1, fun e => hq.2 ⟨by omega, by omega⟩⟩), ?_⟩
          · exact hexec _ hve _ _ hrun
          · refine .own A b 0 (len + ys.length) cp ⟨bi.blk, bi.base + off * j.size, j.size, 0⟩ (by simp [putρ]) hroom (fun _ => ⟨by rw [e1, q2]; simp, ?_⟩)
            rw [q2, hp0] at e2
            simp [hjz] at e2 ⊢
            exact e2
    · -- grown
      have hjs : inf.size = j.size := h1
      have hjb : inf.bytes = j.bytes := h2
      have hbl : len + ys.length ≤ 140737488355328 := by
        have : (len + ys.length) * 1 ≤ (len + ys.length) * j.bytes := Nat.mul_le_mul_left _ hb0
        omega
      obtain ⟨olds, hol, hocr, hof⟩ : ∃ olds : List Value, olds.length = len * j.size ∧ CR w F ρ olds.toArray ((rows.drop off).take len).flatten ∧ (Builtin.firstCells j.size len (.slice A len cp)).run P w.drew = .ok olds.toArray w.drew := by
        by_cases hl0 : len = 0
        · subst hl0
          refine ⟨[], by simp, ⟨by simp, fun q xx hxx => by simp at hxx⟩, ?_⟩
          cases A with
          | none => simp [Builtin.firstCells]
          | some ad => simp [Builtin.firstCells, loadCells, loadCellsFrom]
        · obtain ⟨e1, e2⟩ := hA (by omega)
          obtain ⟨olds, g1, g2, g3⟩ := cells_src (P := P) (w := w) (F := F) (ρ := ρ) (bl := bi.blk) (o := bi.base + off * bi.sz) hold (fun q xx hxx => by
            have hsub : ((rows.drop off).take len) = (rows.take (off + len)).drop off := by rw [List.drop_take]; congr 1; omega
            rw [hsub] at hxx
            have := r3 _ xx (flat_sub q3 off (off + len) q xx hxx)
            rwa [← Nat.add_assoc, ← q2] at this)
          rw [holdl] at g1 g3
          refine ⟨olds, g1, g2, ?_⟩
          rw [e1]
          simp only [Builtin.firstCells]
          have := g3 len (Nat.le_refl _) w.drew rfl
          rwa [List.take_of_length_le (by omega)] at this
      have hrun := run_append_grow' (P := P) (ty := o.type) (w := w) hu hudu hinf h3 A len cp ys.length (a.eval y) olds news (hlen w) (by rw [hjs]; exact hof) (by rw [hjs]; exact hneq w.drew rfl) (by omega) (by rw [hjb]; exact hb) (by omega)
      have hge := grownCap_ge w (len + ys.length) cp e
      have h' := (hR.forget id).drew
      let cells := olds.toArray ++ news.toArray ++ Builtin.zeroCells z.cells (grownCap w (len + ys.length) cp e - (len + ys.length))
      have hzl : z.cells.size = j.size := by rw [← h5, ← h4]; simp
      have hcsz : cells.size = grownCap w (len + ys.length) cp e * j.size := by
        simp only [cells, Array.size_append, List.size_toArray, hol, hnl, size_zeroCells, hzl]
        rw [← Nat.add_mul, ← Nat.add_mul]
        congr 1
        omega
      have h2' := h'.alloc b (hfr 0 (by omega)) cells e j.size ((rows.drop off).take len ++ ys) (fun r hr => by
          rcases List.mem_append.1 hr with h | h
          · exact hold r h
          · exact hwy r h) (by
          rw [hcsz]
          apply Nat.mul_le_mul_right
          simp only [List.length_append, holdl]
          exact hge) (fun q xx hxx => by
          rw [List.flatten_append] at hxx
          have := CR_append hocr hncr (Builtin.zeroCells z.cells (grownCap w (len + ys.length) cp e - (len + ys.length))) q xx hxx
          exact ⟨this.1, VR.mono (w := w) (w' := w.drew) (fun _ h => h) (fun _ _ => rfl) (fun _ _ h => h) this.2⟩)
      refine ⟨.value (.slice (some ⟨w.heap.size, 0, none⟩) (len + ys.length) (grownCap w (len + ys.length) cp e)), _, _, ?_, .inl rfl, F, _, h2'.mono_fr (fun q hq => ⟨hq.1, fun e => hq.2 ⟨by omega, by omega⟩⟩), ?_⟩
      · exact hexec _ hve _ _ hrun
      · refine .own _ b 0 _ _ ⟨w.heap.size, 0, j.size, cells.size⟩ (by simp [putρ]) hge (fun _ => ⟨by simp, ?_⟩)
        simp only [Nat.zero_add, hcsz]
        omega

theorem op_append_tight {o : Oper} {c : Call} {x y : Operand} {t u e : Nat} {i j k : TI} {sz sz' : Nat} {rows ys : List (List AV)} {ps : List Prop} {acc : Accs} (hT : TTok P TT) (hR : Rel gh w0 F0 F ρ fr s a w) (hfr : ∀ k, k < 8 → fr (b + k))
    (ho : o.op = .call c) (hc : c.callee = .builtin .append) (hargs : c.args = #[x, y]) (htys : c.argTypes = #[t, u]) (hi : TT t = some i) (hd : i.d = .slice e) (hj : TT e = some j) (hk : TT u = some k) (hkd : (∃ q, k.d = .slice q) ∨ k.d = .str)
    (hsrc : rsrc s.h (aval s.t y) = some (sz', ys, ps, acc)) (hps : allP ps) (hs : j.size = sz' ∨ ys = []) (hx : aval s.t x = .sl sz rows true) (hsz : j.size = sz ∨ rows = [])
    (hne : rows = [] ∨ ys ≠ []) (hb : (rows.length + ys.length) * j.bytes ≤ 140737488355328) (hb0 : 0 < j.bytes) :
    Post P o a w gh w0 F0 fr b { s with h := updH s.h b (some (.cells j.size (rows ++ ys))) } (.own b 0 (rows.length + ys.length)) := by
  have hu := under_slice (hT t i hi) hd
  have hudu : (∃ e', P.underlying u = some (.slice e')) ∨ P.underlying u = some .string := by
    rcases hkd with ⟨q, h⟩ | h
    · exact .inl ⟨q, under_slice (hT u k hk) h⟩
    · exact .inr (under_str (hT u k hk) h)
  obtain ⟨hlen, hwy, news, hnl, hncr, hnf⟩ := src_ok (P := P) hR hsrc hps hs
  have hte := hT e j hj
  obtain ⟨d, inf, z, hud, hsd', hinf, h1, h2, h3, h4, h5, h6, h7⟩ := hte
  have hv := hR.aval x
  rw [hx] at hv
  generalize hve : a.eval x = ve at hv
  have hexec : ∀ v0, a.eval x = v0 → ∀ v w', (Builtin.append_ #[t, u] o.type #[v0, a.eval y]).run P w = .ok v w' → (execOp a.eval o).run P w = .ok (.value v) w' := by
    intro v0 hv0 v w' hr
    subst hv0
    simp only [execOp, ho, resolve, hc, hargs, htys, invoke, builtin, Sem.run_bind, Sem.run_pure, Result.andThen_ok, List.map_toArray, List.map_cons, List.map_nil, hr]
  have hnall : (news.take (ys.length * j.size)) = news := List.take_of_length_le (by omega)
  have hneq := hnf ys.length (Nat.le_refl _)
  rw [hnall] at hneq
  have hjs : inf.size = j.size := h1
  have hjb : inf.bytes = j.bytes := h2
  cases hv with
  | sl A n cp _ _ _ bl of vals hn hcp htt hw hA g0 g1 g2 g3 =>
    subst hn
    have hcap := htt rfl
    subst hcap
    have hold : ∀ r ∈ rows, r.length = j.size := fun r hr => by
      rcases hsz with h | h
      · rw [h]; exact hw r hr
      · rw [h] at hr; cases hr
    by_cases hy0 : ys.length = 0
    · have hye : ys = [] := List.eq_nil_of_length_eq_zero hy0
      have hre : rows = [] := by
        rcases hne with h | h
        · exact h
        · exact absurd hye h
      subst hye hre
      have hnn : news = [] := List.eq_nil_of_length_eq_zero (by simpa using hnl)
      subst hnn
      have hst : ∀ ad, A = some ad → (storeCells (ad.add (0 * inf.size)) ([] : List Value)).run P w = .ok () w := fun ad _ => by simp [storeCells]
      have hrun := run_append_room' (P := P) (ty := o.type) (w := w) hu hudu hinf A 0 0 0 (a.eval y) [] (hlen w) (by rw [h1]; simpa using hneq w rfl) (by omega) w hst (fun _ => rfl)
      have h2' := hR.name b (hfr 0 (by omega)) ⟨0, 0, j.size, 0⟩ (.cells j.size []) ⟨rfl, fun r hr => (List.not_mem_nil hr).elim, fun _ => rfl, fun hp => by simp at hp⟩ (fun hp => by simp at hp) (fun hp => by simp at hp)
      refine ⟨.value (.slice A (0 + 0) 0), w, _, ?_, .inl rfl, F, _, by simpa using h2'.mono_fr (fr' := fun q => fr q ∧ ¬ (b ≤ q ∧ q < b + 8)) (fun q hq => ⟨hq.1, fun e => hq.2 ⟨by omega, by omega⟩⟩), ?_⟩
      · exact hexec _ hve _ _ hrun
      · exact .own _ b 0 (0 + 0) 0 ⟨0, 0, j.size, 0⟩ (by simp [putρ]) (by omega) (fun hp => by omega)
    · have hbl : rows.length + ys.length ≤ 140737488355328 := by
        have : (rows.length + ys.length) * 1 ≤ (rows.length + ys.length) * j.bytes := Nat.mul_le_mul_left _ hb0
        omega
      obtain ⟨olds, hol, hocr, hof⟩ : ∃ olds : List Value, olds.length = rows.length * j.size ∧ CR w F ρ olds.toArray rows.flatten ∧ (Builtin.firstCells j.size rows.length (.slice A rows.length rows.length)).run P w.drew = .ok olds.toArray w.drew := by
        by_cases hl0 : rows = []
        · subst hl0
          refine ⟨[], by simp, ⟨by simp, fun q xx hxx => by simp at hxx⟩, ?_⟩
          cases A with
          | none => simp [Builtin.firstCells]
          | some ad => simp [Builtin.firstCells, loadCells, loadCellsFrom]
        · obtain ⟨e1, e2⟩ := hA hl0
          obtain ⟨olds, q1, q2, q3⟩ := cells_src (P := P) (w := w) (F := F) (ρ := ρ) (bl := bl) (o := of) hold (fun q xx hxx => ⟨vals q, g0 q xx hxx, g1 q xx hxx, g2 q xx hxx⟩)
          refine ⟨olds, q1, q2, ?_⟩
          rw [e1]
          simp only [Builtin.firstCells]
          have := q3 rows.length (Nat.le_refl _) w.drew rfl
          rwa [List.take_of_length_le (by omega)] at this
      have hrun := run_append_grow' (P := P) (ty := o.type) (w := w) hu hudu hinf h3 A rows.length rows.length ys.length (a.eval y) olds news (hlen w) (by rw [hjs]; exact hof) (by rw [hjs]; exact hneq w.drew rfl) (by omega) (by rw [hjb]; exact hb) (by omega)
      have hge := grownCap_ge w (rows.length + ys.length) rows.length e
      have h' := hR.drew
      let cells := olds.toArray ++ news.toArray ++ Builtin.zeroCells z.cells (grownCap w (rows.length + ys.length) rows.length e - (rows.length + ys.length))
      have hzl : z.cells.size = j.size := by rw [← h5, ← h4]; simp
      have hcsz : cells.size = grownCap w (rows.length + ys.length) rows.length e * j.size := by
        simp only [cells, Array.size_append, List.size_toArray, hol, hnl, size_zeroCells, hzl]
        rw [← Nat.add_mul, ← Nat.add_mul]
        congr 1
        omega
      have h2' := h'.alloc b (hfr 0 (by omega)) cells e j.size (rows ++ ys) (fun r hr => by
          rcases List.mem_append.1 hr with h | h
          · exact hold r h
          · exact hwy r h) (by
          rw [hcsz]
          apply Nat.mul_le_mul_right
          simp only [List.length_append]
          exact hge) (fun q xx hxx => by
          rw [List.flatten_append] at hxx
          have := CR_append hocr hncr (Builtin.zeroCells z.cells (grownCap w (rows.length + ys.length) rows.length e - (rows.length + ys.length))) q xx hxx
          exact ⟨this.1, VR.mono (w := w) (w' := w.drew) (fun _ h => h) (fun _ _ => rfl) (fun _ _ h => h) this.2⟩)
      refine ⟨.value (.slice (some ⟨w.heap.size, 0, none⟩) (rows.length + ys.length) (grownCap w (rows.length + ys.length) rows.length e)), _, _, ?_, .inl rfl, F, _, h2'.mono_fr (fun q hq => ⟨hq.1, fun e => hq.2 ⟨by omega, by omega⟩⟩), ?_⟩
      · exact hexec _ hve _ _ hrun
      · refine .own _ b 0 _ _ ⟨w.heap.size, 0, j.size, cells.size⟩ (by simp [putρ]) hge (fun _ => ⟨by simp, ?_⟩)
        simp only [Nat.zero_add, hcsz]
        omega


/-- An append of zero values. -/
theorem run_append_zeros {t u ty e : TypeId} {kd kv : IntKind} {i : TypeInfo} {z : Value} (ht : P.underlying t = some (.slice e)) (hu : P.underlying u = some (.int kd)) (hi : P.info? e = some i) (hz : i.zero = some z) (hzs : z.cells.size = i.size)
    (base : Option Addr) (n : Nat) (hn : 0 < n) (hb : n * i.bytes ≤ 140737488355328) (h47 : n ≤ 140737488355328) :
    (Builtin.append_ #[t, u] ty #[.slice base 0 0, .int kv (n : Int)]).run P w =
      .ok (.slice (some ⟨w.heap.size, 0, none⟩) n (grownCap w n 0 e))
        (w.drew.alloc (.cells (Builtin.zeroCells z.cells n ++ Builtin.zeroCells z.cells (grownCap w n 0 e - n)) e)) := by
  have hn' : ¬ (0 + n ≤ 0) := by omega
  have hmax : IntKind.i64.max = 9223372036854775807 := by decide
  have h48 := growslice_fits (need := 0 + n) (old := 0) (by omega) (by rw [Nat.zero_add]; exact hb)
  have h48' : ¬ (Builtin.nextslicecap (0 + n) 0 * i.bytes > 2 ^ 48) := by omega
  have hti : ∀ w, (typeInfo e).run P w = .ok i w := fun w => by simp [typeInfo, hi]
  have hsz : ∀ w, (sizeOf e).run P w = .ok i.size w := fun w => by simp [sizeOf, typeInfo, hi]
  have hzv : ∀ w, (zeroValue e).run P w = .ok z w := fun w => by simp [zeroValue, typeInfo, hi, hz]
  have wn : IntKind.i64.wrap (n : Int) = (n : Int) := IntWalk.i64_in _ (by omega)
  have b1 : ¬ ((n : Int) * (i.bytes : Int) > 2 ^ 48) := by
    have : ((n * i.bytes : Nat) : Int) ≤ 140737488355328 := by omega
    rw [Int.natCast_mul] at this
    omega
  have hch : (choose (.appendCap (0 + n) 0 e)).run P w = .ok (grownCap w n 0 e) w.drew := by
    simp [run_choose, Question.forced, grownCap]
  have h63 : ¬ (((0 + n : Nat) : Int) > IntKind.i64.max ∧ (true = true ∨ i.bytes = 0)) := by rw [hmax]; omega
  have hold : (Builtin.firstCells i.size 0 (.slice base 0 0)).run P w.drew = .ok #[] w.drew := by
    cases base with
    | none => simp [Builtin.firstCells]
    | some ad => simp [Builtin.firstCells, loadCells, loadCellsFrom]
  have hneg : ¬ ((n : Int) < 0) := by omega
  simp only [Builtin.append_, Sem.run_bind, run_underlying ht, run_underlying hu, Result.andThen_ok, hsz, Sem.run_pure, List.getElem?_toArray, List.getElem?_cons_zero, List.getElem?_cons_succ, asInt, asIntOf, wn, if_true, hneg, if_false, hti, b1]
  have h63' : ¬ (((0 + n : Nat) : Int) > IntKind.i64.max ∧ (True ∨ i.bytes = 0)) := by rw [hmax]; omega
  have hall : ∀ w, (do
      if n * i.size = 0 then pure #[]
      else do
        let z ← zeroValue e
        pure (Builtin.zeroCells z.cells n) : Sem (Array Value)).run P w = .ok (Builtin.zeroCells z.cells n) w := fun w => by
    by_cases h0 : n * i.size = 0
    · rw [if_pos h0]
      have : Builtin.zeroCells z.cells n = #[] := by unfold Builtin.zeroCells; rw [hzs, h0]; simp
      rw [this]; rfl
    · rw [if_neg h0]
      simp [hzv]
  simp only [Int.toNat_natCast, hn', if_false, Sem.run_bind, hti, Result.andThen_ok, h63', h48', hch, run_askRoom, hold, Bool.not_true, Bool.false_eq_true, Sem.run_pure]
  simp only [hall]
  simp [hzv, newRow]

/-- An append of zero values to an empty slice without room. -/
theorem op_grow {o : Oper} {c : Call} {x y : Operand} {t u e : Nat} {i j k : TI} {kd : IntKind} {sz : Nat} {n : Int} (hT : TTok P TT) (hR : Rel gh w0 F0 F ρ fr s a w) (hfr : ∀ k, k < 8 → fr (b + k))
    (ho : o.op = .call c) (hc : c.callee = .builtin .append) (hargs : c.args = #[x, y]) (htys : c.argTypes = #[t, u]) (hi : TT t = some i) (hd : i.d = .slice e) (hj : TT e = some j) (hk : TT u = some k) (hkd : k.d = .int kd)
    (hx : aval s.t x = .sl sz [] true) (hy : aval s.t y = .val (.int .i64 n)) (h0 : 0 ≤ n) (hb : n * j.bytes ≤ 140737488355328) (hb0 : 0 < j.bytes) :
    Post P o a w gh w0 F0 fr b { s with h := updH s.h b (some (.cells j.size (List.replicate n.toNat (j.zero.map AV.ofV)))) } (.own b 0 n.toNat) := by
  obtain ⟨n, rfl⟩ := Int.eq_ofNat_of_zero_le h0
  have hu := under_slice (hT t i hi) hd
  have hku : P.underlying u = some (.int kd) := under_int (hT u k hk) hkd
  have hte := hT e j hj
  have hte' := hte
  obtain ⟨d, inf, z, hud, hsd', hinf, h1, h2, h3, h4, h5, h6, h7⟩ := hte
  have hey : a.eval y = .int .i64 (n : Int) := by have := hR.aval y; rw [hy] at this; generalize hv : a.eval y = v at this; cases this; rfl
  have hv := hR.aval x
  rw [hx] at hv
  generalize hve : a.eval x = ve at hv
  have hexec : ∀ v0, a.eval x = v0 → ∀ v w', (Builtin.append_ #[t, u] o.type #[v0, a.eval y]).run P w = .ok v w' → (execOp a.eval o).run P w = .ok (.value v) w' := by
    intro v0 hv0 v w' hr
    subst hv0
    simp only [execOp, ho, resolve, hc, hargs, htys, invoke, builtin, Sem.run_bind, Sem.run_pure, Result.andThen_ok, List.map_toArray, List.map_cons, List.map_nil, hr]
  have hzl : z.cells.size = j.size := by rw [← h5, ← h4]; simp
  have hb' : n * j.bytes ≤ 140737488355328 := by
    have : ((n * j.bytes : Nat) : Int) ≤ 140737488355328 := by rw [Int.natCast_mul]; exact hb
    omega
  have h47 : n ≤ 140737488355328 := by
    have : n * 1 ≤ n * j.bytes := Nat.mul_le_mul_left _ hb0
    omega
  rw [Int.toNat_natCast]
  cases hv with
  | sl A n' cp _ _ _ bl of vals hn hcp htt hw hA g0 g1 g2 g3 =>
    have hn : n' = 0 := hn
    subst hn
    have hcap := htt rfl
    subst hcap
    rcases Nat.eq_zero_or_pos n with hn0 | hn0
    · subst hn0
      have h2' := hR.name b (hfr 0 (by omega)) ⟨0, 0, j.size, 0⟩ (.cells j.size []) ⟨rfl, fun r hr => (List.not_mem_nil hr).elim, fun _ => rfl, fun hp => by simp at hp⟩ (fun hp => by simp at hp) (fun hp => by simp at hp)
      have hrun : (Builtin.append_ #[t, u] o.type #[.slice A 0 0, a.eval y]).run P w = .ok (.slice A 0 0) w := by
        rw [hey]
        have hti : ∀ w, (typeInfo e).run P w = .ok inf w := fun w => by simp [typeInfo, hinf]
        have hsz : ∀ w, (sizeOf e).run P w = .ok inf.size w := fun w => by simp [sizeOf, typeInfo, hinf]
        have wn : IntKind.i64.wrap ((0 : Nat) : Int) = 0 := by decide
        simp only [Builtin.append_, Sem.run_bind, run_underlying hu, run_underlying hku, Result.andThen_ok, hsz, Sem.run_pure, List.getElem?_toArray, List.getElem?_cons_zero, List.getElem?_cons_succ, asInt, asIntOf, wn, if_true, hti]
        cases A with
        | none => simp [hti]
        | some ad => simp [hti, storeCells]
      refine ⟨.value (.slice A 0 0), w, _, ?_, .inl rfl, F, _, by simpa using h2'.mono_fr (fr' := fun q => fr q ∧ ¬ (b ≤ q ∧ q < b + 8)) (fun q hq => ⟨hq.1, fun e => hq.2 ⟨by omega, by omega⟩⟩), ?_⟩
      · exact hexec _ hve _ _ hrun
      · exact .own _ b 0 0 0 ⟨0, 0, j.size, 0⟩ (by simp [putρ]) (by omega) (fun hp => by omega)
    · have hrun := run_append_zeros (P := P) (ty := o.type) (w := w) (kv := .i64) hu hku hinf h3 (by rw [hzl, h1]) A n hn0 (by rw [h2]; exact hb') h47
      rw [← hey] at hrun
      have hge := grownCap_ge w n 0 e
      have h' := hR.drew
      have hcsz : (Builtin.zeroCells z.cells n ++ Builtin.zeroCells z.cells (grownCap w n 0 e - n)).size = grownCap w n 0 e * j.size := by
        rw [Array.size_append, size_zeroCells, size_zeroCells, hzl, ← Nat.add_mul]
        congr 1
        omega
      have hlen : j.zero.length = j.size := h5
      have hzc : z.cells = j.zero.toArray := by rw [← h4]
      have hze : Builtin.zeroCells z.cells n = (Array.range (n * j.size)).map (fun q => j.zero.toArray[q % j.zero.toArray.size]!) := by
        unfold Builtin.zeroCells
        rw [hzc, show j.zero.toArray.size = j.size by simp [hlen]]
      have h2' := h'.alloc b (hfr 0 (by omega)) (Builtin.zeroCells z.cells n ++ Builtin.zeroCells z.cells (grownCap w n 0 e - n)) e j.size (List.replicate n (j.zero.map AV.ofV)) (fun r hr => by rw [List.eq_of_mem_replicate hr]; simp [hlen]) (by
          rw [hcsz, List.length_replicate]
          exact Nat.mul_le_mul_right _ hge) (fun q xx hxx => by
          have hw' : ∀ r ∈ List.replicate n (j.zero.map AV.ofV), r.length = j.size := fun r hr => by rw [List.eq_of_mem_replicate hr]; simp [hlen]
          have hql : q < n * j.size := by
            have := (List.getElem?_eq_some_iff.1 hxx).1
            rwa [flat_len _ hw', List.length_replicate] at this
          have := zeros_ok (P := P) (w := w.drew) (F := F) (ρ := ρ) hte' n (n * j.size) (Nat.le_refl _) q xx hxx
          rw [← hze] at this
          have e1 : (Builtin.zeroCells z.cells n ++ Builtin.zeroCells z.cells (grownCap w n 0 e - n)).getD q undef = (Builtin.zeroCells z.cells n).getD q undef := by
            simp only [Array.getD_eq_getD_getElem?, Array.getElem?_append]
            rw [if_pos (by rw [size_zeroCells, hzl]; exact hql)]
          rw [e1]
          exact this)
      refine ⟨.value (.slice (some ⟨w.heap.size, 0, none⟩) n (grownCap w n 0 e)), _, _, ?_, .inl rfl, F, _, h2'.mono_fr (fun q hq => ⟨hq.1, fun e => hq.2 ⟨by omega, by omega⟩⟩), ?_⟩
      · exact hexec _ hve _ _ hrun
      · refine .own _ b 0 _ _ ⟨w.heap.size, 0, j.size, (Builtin.zeroCells z.cells n ++ Builtin.zeroCells z.cells (grownCap w n 0 e - n)).size⟩ (by simp [putρ]) hge (fun _ => ⟨by simp, ?_⟩)
        simp only [Nat.zero_add, hcsz]
        omega

end
end Go.AL

set_option linter.unusedSimpArgs false
namespace Go.AL
open Go Go.RowKit

section
variable {P : Program} {TT : Nat → Option TI} {gh : Array Value} {w0 w : World} {F0 F : Nat → Prop} {ρ : Nat → Option BI} {fr : Nat → Prop} {s : St} {a : Act} {b : Nat}

theorem exec_builtin {o : Oper} {c : Call} {bi : Builtin} (ho : o.op = .call c) (hc : c.callee = .builtin bi) (args : Array Value) (ha : c.args.map a.eval = args) (f : Sem Value)
    (hf : ∀ cs, builtin bi c.argTypes o.type cs args = (do pure (.value (← f)) : Sem Next)) {v : Value} {w' : World} (hr : f.run P w = .ok v w') : (execOp a.eval o).run P w = .ok (.value v) w' := by
  simp only [execOp, ho, resolve, hc, invoke, Sem.run_bind, Sem.run_pure, Result.andThen_ok, ha, hf, hr]

theorem op_copy {o : Oper} {c : Call} {x y : Operand} {t e : Nat} {i j : TI} {id off len sz sz' : Nat} {rows ys : List (List AV)} {ps : List Prop} {acc : Accs} (hT : TTok P TT) (hR : Rel gh w0 F0 F ρ fr s a w)
    (ho : o.op = .call c) (hc : c.callee = .builtin .copy) (hargs : c.args = #[x, y]) (htys : c.argTypes[0]? = some t) (hi : TT t = some i) (hd : i.d = .slice e) (hj : TT e = some j)
    (hsrc : rsrc s.h (aval s.t y) = some (sz', ys, ps, acc)) (hps : allP ps) (hs : j.size = sz') (hx : aval s.t x = .own id off len) (hlb : s.h id = some (.cells sz rows)) (hsz : j.size = sz)
    (hle : off + len ≤ rows.length) :
    Post P o a w gh w0 F0 fr b { s with h := updH s.h id (some (.cells sz (rows.take off ++ ys.take (Nat.min ys.length len) ++ rows.drop (off + Nat.min ys.length len)))) } (.val (.int .i64 (Nat.min ys.length len))) := by
  subst hsz
  have hu := under_slice (hT t i hi) hd
  obtain ⟨hlen, hwy, news, hnl, hncr, hnf⟩ := src_ok (P := P) hR hsrc hps (.inl hs)
  have hszr := run_sizeOf (hT e j hj) w
  obtain ⟨bi, q1, q2, q3, q4, q5, q6⟩ := hR.block hlb
  have hv := hR.aval x
  rw [hx] at hv
  generalize hve : a.eval x = ve at hv
  have hn : ∃ n, n = Nat.min ys.length len := ⟨_, rfl⟩
  obtain ⟨n, hn⟩ := hn
  rw [← hn]
  have hn1 : n ≤ ys.length := by rw [hn]; exact Nat.min_le_left _ _
  have hn2 : n ≤ len := by rw [hn]; exact Nat.min_le_right _ _
  have hneq := hnf n hn1 w rfl
  have hty : ∃ l, c.argTypes = l ∧ l[0]? = some t := ⟨_, rfl, htys⟩
  cases hv with
  | own A _ _ _ cp bi' hr hl hA =>
    rw [q1] at hr; injection hr with hr; subst hr
    have hexec : ∀ w', (∀ ad, A = some ad → (storeCells ad (news.take (n * j.size))).run P w = .ok () w') → (A = none → w' = w) → (execOp a.eval o).run P w = .ok (.value (.int .i64 n)) w' := by
      intro w' h1 h2
      refine exec_builtin (P := P) ho hc #[.slice A len cp, a.eval y] (by simp [hargs, hve]) (Builtin.copy_ c.argTypes o.type #[.slice A len cp, a.eval y]) (fun _ => rfl) ?_
      cases A with
      | none =>
        have := h2 rfl
        subst this
        simp [Builtin.copy_, htys, run_underlying hu, hlen, ← hn, hszr, hneq, goInt]
      | some ad =>
        simp [Builtin.copy_, htys, run_underlying hu, hlen, ← hn, hszr, hneq, h1 ad rfl, goInt]
    by_cases hn0 : n * j.size = 0
    · have hnn : news.take (n * j.size) = [] := by rw [hn0]; rfl
      have hrun := hexec w (fun ad _ => by rw [hnn]; simp [storeCells]) (fun _ => rfl)
      refine ⟨_, w, _, hrun, .inl rfl, F, ρ, ?_, .val _⟩
      -- nothing is written: the rows are as long as before, and have no cells or stay
      by_cases hnz : n = 0
      · have e1 : rows.take off ++ ys.take n ++ rows.drop (off + n) = rows := by rw [hnz]; simp
        rw [e1]
        have e2 : updH s.h id (some (.cells j.size rows)) = s.h := by
          funext q
          by_cases e : q = id
          · subst e; rw [updH_same, hlb]
          · rw [updH_ne _ _ e]
        rw [e2]
        exact hR.mono_fr (fun _ h => h.1)
      · have hjz : j.size = 0 := by
          rcases Nat.mul_eq_zero.1 hn0 with h | h
          · exact absurd h hnz
          · exact h
        have hrz : ∀ l : List (List AV), (∀ r ∈ l, r.length = j.size) → l.flatten = [] := fun l hl => List.eq_nil_of_length_eq_zero (by rw [flat_len _ hl, hjz]; simp)
        have hall : ∀ r ∈ rows.take off ++ ys.take n ++ rows.drop (off + n), r.length = j.size := fun r hr => by
          rcases List.mem_append.1 hr with h | h
          · rcases List.mem_append.1 h with h | h
            · exact q3 r (List.mem_of_mem_take h)
            · exact hwy r (List.mem_of_mem_take h)
          · exact q3 r (List.mem_of_mem_drop h)
        have hbase := hR
        refine Rel.mono_fr (fr := fr) { hR with blks := fun k lb hk => ?_, inj := fun k k' b1 b2 h1 h2 => ?_ } (fun _ h => h.1)
        · by_cases e : k = id
          · subst e
            have hk' : updH s.h k _ k = some lb := hk
            rw [updH_same] at hk'; injection hk' with hk'; subst hk'
            refine ⟨bi, q1, ⟨q2, hall, fun _ => hrz _ hall, fun hp => ?_⟩, q4⟩
            obtain ⟨cs, ty, g1, g2, g3, g4⟩ := q6 hp
            refine ⟨cs, ty, g1, g2, ?_, fun q xx hxx => ?_⟩
            · rw [hjz] at g3 ⊢; simpa using g3
            · rw [hrz _ hall] at hxx; simp at hxx
          · have hk' : updH s.h id _ k = some lb := hk
            rw [updH_ne _ _ e] at hk'
            exact hbase.blks k lb hk'
        · have g : ∀ k, ((updH s.h id (some (LB.cells j.size (rows.take off ++ ys.take n ++ rows.drop (off + n))))) k).isSome = true → (s.h k).isSome = true := by
            intro k hk
            by_cases e : k = id
            · subst e; rw [hlb]; rfl
            · rwa [updH_ne _ _ e] at hk
          exact hbase.inj k k' b1 b2 (g k h1) (g k' h2)
    · have hnp : 0 < n := Nat.pos_of_ne_zero fun e => hn0 (by rw [e]; simp)
      have hjp : 0 < j.size := Nat.pos_of_ne_zero fun e => hn0 (by rw [e]; simp)
      obtain ⟨e1, e2⟩ := hA (by omega)
      have hp : 0 < bi.csz := by
        apply Nat.pos_of_ne_zero
        intro e
        have := q5 e
        have h2 := flat_len rows q3
        rw [this] at h2
        have h2' : rows.length * j.size = 0 := by simpa using h2.symm
        rcases Nat.mul_eq_zero.1 h2' with h | h
        · omega
        · omega
      obtain ⟨cs, ty, g1, g2, g3, g4⟩ := q6 hp
      have hlt : (news.take (n * j.size)).length = n * j.size := by
        rw [List.length_take, hnl]
        exact Nat.min_eq_left (Nat.mul_le_mul_right _ hn1)
      have hfit : bi.base + off * j.size + n * j.size ≤ cs.size := by
        have h1 : (off + n) * j.size ≤ rows.length * j.size := Nat.mul_le_mul_right _ (by omega)
        rw [Nat.add_mul] at h1
        omega
      have hcl : news.length = ys.flatten.length := hncr.1
      have hone : ∀ v ∈ news.take (n * j.size), v.oneCell' = true := fun v hvm => by
        obtain ⟨q, hq⟩ := List.mem_iff_getElem?.1 (List.mem_of_mem_take hvm)
        have hql := (List.getElem?_eq_some_iff.1 hq).1
        obtain ⟨xx, hxx⟩ : ∃ xx, ys.flatten[q]? = some xx := ⟨ys.flatten[q]'(by omega), List.getElem?_eq_getElem (by omega)⟩
        have := (hncr.2 q xx hxx).1
        simpa [hql, (List.getElem?_eq_some_iff.1 hq).2] using this
      have hst := run_storeCells_at P bi.blk (bi.base + off * j.size) ty (news.take (n * j.size)) 0 cs w g1 (by rw [hlt]; omega) hone
      simp only [Nat.add_zero] at hst
      have hrun := hexec _ (fun ad had => by
        rw [e1] at had
        injection had with had
        subst had
        rw [q2]
        exact hst) (fun hnn => by rw [e1] at hnn; cases hnn)
      have hrl : (rows.take off ++ ys.take n ++ rows.drop (off + n)).length = rows.length := by
        simp only [List.length_append, List.length_take, List.length_drop]; omega
      have hwall : ∀ r ∈ rows.take off ++ ys.take n ++ rows.drop (off + n), r.length = j.size := fun r hr => by
        rcases List.mem_append.1 hr with h | h
        · rcases List.mem_append.1 h with h | h
          · exact q3 r (List.mem_of_mem_take h)
          · exact hwy r (List.mem_of_mem_take h)
        · exact q3 r (List.mem_of_mem_drop h)
      have hfit' : bi.base + off * j.size + (news.take (n * j.size)).toArray.size ≤ cs.size := by simp only [List.size_toArray, hlt]; omega
      have hwr := hR.write id bi j.size rows (rows.take off ++ ys.take n ++ rows.drop (off + n)) hlb q1 hp (cs.toList.take (bi.base + off * j.size) ++ (news.take (n * j.size)).toArray.toList ++ cs.toList.drop (bi.base + off * j.size + (news.take (n * j.size)).toArray.size)).toArray ty cs g1
        (by simp only [List.size_toArray, List.length_append, List.length_take, List.length_drop, Array.length_toList]; simp only [List.size_toArray, List.length_take] at hfit' hlt; omega) hwall (by
          rw [hrl]
          simp only [List.size_toArray, List.length_append, List.length_take, List.length_drop, Array.length_toList]; simp only [List.size_toArray, List.length_take] at hfit' hlt; omega) (fun q xx hxx => by
          rw [splice_getD _ _ _ _ hfit']
          simp only [List.size_toArray, hlt]
          have hxx' := hxx
          rw [flat_get hjp _ hwall] at hxx
          have hqd : q = (q / j.size) * j.size + q % j.size := by rw [Nat.mul_comm]; exact (Nat.div_add_mod q j.size).symm
          have hmod : q % j.size < j.size := Nat.mod_lt _ hjp
          have mulle : ∀ {x y : Nat}, x ≤ y → x * j.size ≤ y * j.size := fun h => Nat.mul_le_mul_right _ h
          rw [List.append_assoc, List.getElem?_append] at hxx
          simp only [List.length_take, Nat.min_eq_left (show off ≤ rows.length by omega)] at hxx
          have old : ∀ r, q / j.size = r → (rows[r]?).bind (fun r => r[q % j.size]?) = some xx → rows.flatten[q]? = some xx := fun r hr h => by
            rw [flat_get hjp _ q3, hr]; exact h
          by_cases h1 : q / j.size < off
          · rw [if_pos h1, List.getElem?_take, if_pos h1] at hxx
            have := mulle (show q / j.size + 1 ≤ off by omega)
            rw [Nat.add_mul, Nat.one_mul] at this
            rw [if_pos (by omega)]
            exact g4 q xx (old _ rfl hxx)
          · rw [if_neg h1, List.getElem?_append] at hxx
            simp only [List.length_take, Nat.min_eq_left hn1] at hxx
            have hge := mulle (show off ≤ q / j.size by omega)
            rw [if_neg (by omega)]
            by_cases h2 : q / j.size - off < n
            · rw [if_pos h2, List.getElem?_take, if_pos h2] at hxx
              have := mulle (show q / j.size + 1 ≤ off + n by omega)
              rw [Nat.add_mul, Nat.one_mul, Nat.add_mul] at this
              rw [if_pos (by omega)]
              have hys : ys.flatten[q - off * j.size]? = some xx := by
                rw [flat_get hjp _ hwy]
                have e3 : (q - off * j.size) / j.size = q / j.size - off := by
                  have h3 : q - off * j.size = j.size * (q / j.size - off) + q % j.size := by
                    have : j.size * (q / j.size - off) = q / j.size * j.size - off * j.size := by rw [Nat.mul_comm, Nat.sub_mul]
                    omega
                  rw [h3, Nat.mul_add_div hjp, Nat.div_eq_of_lt hmod]
                  rfl
                have e4 : (q - off * j.size) % j.size = q % j.size := by
                  have : q = off * j.size + (q - off * j.size) := by omega
                  conv => rhs; rw [this]
                  rw [Nat.mul_comm, Nat.mul_add_mod]
                rw [e3, e4]
                exact hxx
              have e5 : bi.base + q - (bi.base + off * j.size) = q - off * j.size := by omega
              rw [e5]
              have hh := hncr.2 _ xx hys
              have e6 : (news.take (n * j.size)).toArray.getD (q - off * j.size) undef = news.toArray.getD (q - off * j.size) undef := by
                simp only [Array.getD_eq_getD_getElem?, List.getElem?_toArray, List.getElem?_take]
                rw [if_pos (by omega)]
              rw [e6]
              exact hh
            · rw [if_neg h2, List.getElem?_drop] at hxx
              have := mulle (show off + n ≤ q / j.size by omega)
              rw [Nat.add_mul] at this
              rw [if_neg (by omega)]
              have e3 : off + n + (q / j.size - off - n) = q / j.size := by omega
              rw [e3] at hxx
              exact g4 q xx (old _ rfl hxx))
      exact ⟨_, _, _, hrun, .inl rfl, F, ρ, by simpa using hwr.mono_fr (fun _ h => h.1), .val _⟩

theorem op_cap {o : Oper} {c : Call} {x : Operand} {t : Nat} {i : TI} {v : AV} {u : Ups} {acc : Accs} (hT : TTok P TT) (hR : Rel gh w0 F0 F ρ fr s a w)
    (ho : o.op = .call c) (hc : c.callee = .builtin .cap) (hargs : c.args = #[x]) (htys : c.argTypes[0]? = some t) (hi : TT t = some i) (hg : (rcap i (aval s.t x)).gives v u acc) :
    Post P o a w gh w0 F0 fr b { s with h := updsH s.h u } v := by
  have hv := hR.aval x
  unfold rcap at hg
  split at hg
  · rename_i e sz rows hd hsl
    have hu := under_slice (hT t i hi) hd
    obtain ⟨rfl, rfl, rfl⟩ := hg
    rw [hsl] at hv
    generalize hve : a.eval x = ve at hv
    cases hv with
    | sl A n cp _ _ _ bl of vals hn hcp htt hw hA g0 g1 g2 g3 =>
      subst hn
      have hcap := htt rfl
      subst hcap
      exact Post.val hR (exec_builtin (P := P) ho hc #[.slice A rows.length rows.length] (by simp [hargs, hve]) _ (fun _ => rfl) (by simp [Builtin.cap_, htys, run_underlying hu, goInt])) (.val _)
  · exact hg.elim

theorem op_len {o : Oper} {c : Call} {x : Operand} {t : Nat} {i : TI} {v : AV} {u : Ups} {acc : Accs} (hT : TTok P TT) (hR : Rel gh w0 F0 F ρ fr s a w)
    (ho : o.op = .call c) (hc : c.callee = .builtin .len) (hargs : c.args = #[x]) (htys : c.argTypes[0]? = some t) (hi : TT t = some i) (hg : (rlen i (aval s.t x)).gives v u acc) :
    Post P o a w gh w0 F0 fr b { s with h := updsH s.h u } v := by
  have hv := hR.aval x
  unfold rlen at hg
  split at hg
  · rename_i e sz rows tg hd hsl
    have hu := under_slice (hT t i hi) hd
    obtain ⟨rfl, rfl, rfl⟩ := hg
    rw [hsl] at hv
    generalize hve : a.eval x = ve at hv
    cases hv with
    | sl A n cp _ _ _ bl of vals hn hcp htt hw hA g0 g1 g2 g3 =>
      subst hn
      exact Post.val hR (exec_builtin (P := P) ho hc #[.slice A rows.length cp] (by simp [hargs, hve]) _ (fun _ => rfl) (by simp [Builtin.len_, htys, run_underlying hu, goInt])) (.val _)
  · rename_i e id off len hd hown
    have hu := under_slice (hT t i hi) hd
    obtain ⟨rfl, rfl, rfl⟩ := hg
    rw [hown] at hv
    generalize hve : a.eval x = ve at hv
    cases hv with
    | own A _ _ _ cp bi hr hl hA =>
      exact Post.val hR (exec_builtin (P := P) ho hc #[.slice A len cp] (by simp [hargs, hve]) _ (fun _ => rfl) (by simp [Builtin.len_, htys, run_underlying hu, goInt])) (.val _)
  · rename_i sv hd hsv
    have hu := under_str (hT t i hi) hd
    obtain ⟨rfl, rfl, rfl⟩ := hg
    rw [hsv] at hv
    have hve := hv.val_inv
    exact Post.val hR (exec_builtin (P := P) ho hc #[.string sv] (by simp [hargs, hve]) _ (fun _ => rfl) (by simp [Builtin.len_, htys, run_underlying hu, goInt])) (.val _)
  · exact hg.elim

theorem op_min {o : Oper} {c : Call} {v : AV} {u : Ups} {acc : Accs} (hR : Rel gh w0 F0 F ρ fr s a w) (ho : o.op = .call c) (hc : c.callee = .builtin .min) (hg : (rmin (c.args.toList.map (aval s.t))).gives v u acc) :
    Post P o a w gh w0 F0 fr b { s with h := updsH s.h u } v := by
  unfold rmin at hg
  split at hg
  · rename_i k m k' n hl
    cases hk : ikeq k k' with
    | false => simp [hk] at hg; exact hg.elim
    | true =>
      have e := ikeq_eq hk
      subst e
      simp only [hk, cond_true] at hg
      obtain ⟨rfl, rfl, rfl⟩ := hg
      obtain ⟨x, y, hxy, h1, h2⟩ : ∃ x y, c.args = #[x, y] ∧ aval s.t x = .val (.int k m) ∧ aval s.t y = .val (.int k n) := by
        rcases hcl : c.args with ⟨l⟩
        rw [hcl] at hl
        rcases l with _ | ⟨x, _ | ⟨y, _ | ⟨z, l⟩⟩⟩ <;> simp at hl
        exact ⟨x, y, rfl, hl.1, hl.2⟩
      have e1 : a.eval x = .int k m := by have := hR.aval x; rw [h1] at this; exact this.int_inv
      have e2 : a.eval y = .int k n := by have := hR.aval y; rw [h2] at this; exact this.int_inv
      exact Post.val hR (exec_builtin (P := P) ho hc #[.int k m, .int k n] (by simp [hxy, e1, e2]) _ (fun _ => rfl) (by simp [Builtin.min_, Builtin.min2])) (.val _)
  · exact hg.elim

theorem op_max {o : Oper} {c : Call} {v : AV} {u : Ups} {acc : Accs} (hR : Rel gh w0 F0 F ρ fr s a w) (ho : o.op = .call c) (hc : c.callee = .builtin .max) (hg : (rmax (c.args.toList.map (aval s.t))).gives v u acc) :
    Post P o a w gh w0 F0 fr b { s with h := updsH s.h u } v := by
  unfold rmax at hg
  split at hg
  · rename_i k m k' n hl
    cases hk : ikeq k k' with
    | false => simp [hk] at hg; exact hg.elim
    | true =>
      have e := ikeq_eq hk
      subst e
      simp only [hk, cond_true] at hg
      obtain ⟨rfl, rfl, rfl⟩ := hg
      obtain ⟨x, y, hxy, h1, h2⟩ : ∃ x y, c.args = #[x, y] ∧ aval s.t x = .val (.int k m) ∧ aval s.t y = .val (.int k n) := by
        rcases hcl : c.args with ⟨l⟩
        rw [hcl] at hl
        rcases l with _ | ⟨x, _ | ⟨y, _ | ⟨z, l⟩⟩⟩ <;> simp at hl
        exact ⟨x, y, rfl, hl.1, hl.2⟩
      have e1 : a.eval x = .int k m := by have := hR.aval x; rw [h1] at this; exact this.int_inv
      have e2 : a.eval y = .int k n := by have := hR.aval y; rw [h2] at this; exact this.int_inv
      exact Post.val hR (exec_builtin (P := P) ho hc #[.int k m, .int k n] (by simp [hxy, e1, e2]) _ (fun _ => rfl) (by simp [Builtin.max_, Builtin.max2])) (.val _)
  · exact hg.elim

end
end Go.AL

set_option linter.unusedSimpArgs false
namespace Go.AL
open Go Go.RowKit

section
variable {P : Program} {TT : Nat → Option TI} {gh : Array Value} {w0 w : World} {F0 F : Nat → Prop} {ρ : Nat → Option BI} {fr : Nat → Prop} {s : St} {a : Act} {b : Nat}

/-- What is frozen grows by blocks that are new. -/
theorem Rel.growF (h : Rel gh w0 F0 F ρ fr s a w) (F' : Nat → Prop) (hF : ∀ b, F b → F' b) (hb : ∀ b, F' b → b < w.heap.size) (hn : ∀ b, F' b → F b ∨ w0.heap.size ≤ b) (hl : ∀ id bi, (s.h id).isSome = true → ρ id = some bi → 0 < bi.csz → ¬ F' bi.blk) :
    Rel gh w0 F0 F' ρ fr s a w := by
  refine { h with Fb := hb, F0F := fun b hb => hF b (h.F0F b hb), Fnew := fun b hb => ?_, vals := fun t => (h.vals t).mono hF (fun _ _ => rfl) (fun _ _ h => h), blks := fun id lb hlb => ?_ }
  · rcases hn b hb with h1 | h1
    · exact h.Fnew b h1
    · exact .inr h1
  · obtain ⟨bi, h1, h2, h3⟩ := h.blks id lb hlb
    exact ⟨bi, h1, h2.mono hF (fun _ _ => rfl) (fun _ _ h => h) (fun _ => rfl), fun hp => ⟨hl id bi (by rw [hlb]; rfl) h1 hp, (h3 hp).2⟩⟩

theorem foldl_push : ∀ (ns : List Int) (s : ByteArray), (ns.foldl (fun r n => r.push (UInt8.ofNat n.toNat)) s) = ⟨s.data ++ (ns.map fun n => UInt8.ofNat n.toNat).toArray⟩
  | [], s => by simp
  | n :: ns, s => by
    rw [List.foldl_cons, foldl_push ns]
    apply ByteArray.ext
    apply Array.ext'
    simp

theorem strL_fold (ns : List Int) : ns.foldl (fun r n => r.push (UInt8.ofNat n.toNat)) ByteArray.empty = strL ns := by
  rw [foldl_push]
  apply ByteArray.ext
  apply Array.ext'
  simp [strL]

theorem run_forIn_runes (f : Value → ByteArray → Sem (ForInStep ByteArray)) (hf : ∀ (n : Int) (r : ByteArray), (f (.int .i32 n) r).run P w = .ok (.yield (r ++ Utf8.encode n)) w) :
    ∀ (ns : List Int) (s : ByteArray), (forIn (ns.map (Value.int .i32)) s f).run P w = .ok (ns.foldl (fun r n => r ++ Utf8.encode n) s) w := by
  intro ns
  induction ns with
  | nil => intro s; simp [Sem.run_pure]
  | cons n ns ih =>
    intro s
    simp only [List.map_cons, List.forIn_cons, Sem.run_bind, hf, Result.andThen, List.foldl_cons]
    exact ih _

theorem run_runesToString (ad : Addr) (len cap : Nat) (ns : List Int) (h : (loadCells ad len).run P w = .ok (ns.map (Value.int .i32)).toArray w) :
    (Conv.runesToString (.slice (some ad) len cap)).run P w = .ok (.string (runesStr ns)) w := by
  unfold Conv.runesToString
  simp only [Sem.run_bind, h, Result.andThen, List.forIn_toArray]
  rw [run_forIn_runes _ (by intro n r; simp [Sem.run_pure])]
  simp [Sem.run_pure, runesStr]

theorem irows_flat (k : IntKind) (ns : List Int) : (irows k ns).flatten = ns.map fun n => AV.val (.int k n) := by
  unfold irows
  induction ns with
  | nil => rfl
  | cons x l ih => simp [ih]

theorem runesFrom_eq (sv : ByteArray) : ∀ (n i : Nat) (acc : Array Value), Conv.runesFrom sv n i acc = acc ++ ((runesL sv n i).map fun r => Value.int .i32 r).toArray
  | 0, i, acc => by simp [Conv.runesFrom, runesL]
  | n + 1, i, acc => by
    unfold Conv.runesFrom runesL
    by_cases h : i < sv.size
    · rw [if_pos h, if_pos h]
      simp only
      rw [runesFrom_eq sv n]
      apply Array.ext'
      simp
    · rw [if_neg h, if_neg h]; simp

theorem op_conv {o : Oper} {t d : Nat} {x : Operand} {p q : TI} {v : AV} {u : Ups} {acc : Accs} (hT : TTok P TT) (hR : Rel gh w0 F0 F ρ fr s a w) (hfr : ∀ k, k < 8 → fr (b + k)) (ho : o.op = .convert t d x) (hp : TT t = some p) (hq : TT d = some q)
    (hg : (rconv TT b s.h p q (aval s.t x)).gives v u acc) : Post P o a w gh w0 F0 fr b { s with h := updsH s.h u } v := by
  have hv := hR.aval x
  obtain ⟨dt, hut, hst⟩ := under_of (hT t p hp)
  have fin : ∀ {r : Value} {w' : World}, (convert t d (a.eval x)).run P w = .ok r w' → (execOp a.eval o).run P w = .ok (.value r) w' := fun {r w'} h => by simp [execOp, ho, h]
  unfold rconv at hg
  split at hg
  · rename_i k k' n hd hx
    have hu := under_int (hT d q hq) hd
    obtain ⟨rfl, rfl, rfl⟩ := hg
    have e : a.eval x = .int k' n := by rw [hx] at hv; exact hv.val_inv
    exact Post.val hR (fin (by rw [e]; simp [convert, run_underlying hut, run_underlying hu, Conv.intToInt])) (.val _)
  · rename_i k' n hd hx
    have hu := under_str (hT d q hq) hd
    obtain ⟨rfl, rfl, rfl⟩ := hg
    have e : a.eval x = .int k' n := by rw [hx] at hv; exact hv.val_inv
    exact Post.val hR (fin (by rw [e]; simp [convert, run_underlying hut, run_underlying hu, Conv.intToString])) (.val _)
  · rename_i sv hd hx
    have hu := under_str (hT d q hq) hd
    obtain ⟨rfl, rfl, rfl⟩ := hg
    have e : a.eval x = .string sv := by rw [hx] at hv; exact hv.val_inv
    exact Post.val hR (fin (by rw [e]; simp [convert, run_underlying hut, run_underlying hu])) (.val _)
  · rename_i e sv hd hx
    have hu := under_slice (hT d q hq) hd
    have he : a.eval x = .string sv := by rw [hx] at hv; exact hv.val_inv
    split at hg
    · rename_i j hsd hj
      split at hg
      · rename_i hjd
        have hue := under_int (hT e j hj) hjd
        obtain ⟨rfl, rfl, rfl⟩ := hg
        let cap := (Question.appendCap sv.size 0 e).cut (w.tape w.drawn (.appendCap sv.size 0 e))
        let cells : Array Value := (sv.data.map fun b => Value.int .u8 b.toNat) ++ Array.replicate (cap - sv.size) (.int .u8 0)
        have hcap : sv.size ≤ cap := by simp only [cap, Question.cut]; omega
        have hcs : cells.size = cap := by
          have : sv.data.size = sv.size := rfl
          simp [cells, this]; omega
        let w1 := w.drew.alloc (.cells cells e)
        have hsh : w1.shape? w.heap.size = some (e, cells.size) := by
          have : w1.heap[w.heap.size]? = some (.cells cells e) := heap_alloc_new w.drew _
          simp [World.shape?, this]
        let w2 := w1.freeze ⟨w.heap.size, cells.size, none⟩ 1
        have hrun : (convert t d (.string sv)).run P w = .ok (.slice (some ⟨w.heap.size, 0, none⟩) sv.size cap) w2 := by
          simp only [convert, Sem.run_bind, run_underlying hut, run_underlying hu, Result.andThen_ok]
          cases dt <;> simp [sdOf, hsd] at hst
          simp [run_underlying hue, Conv.stringToBytes, Question.forced, newRow, markStringish, w2, w1, cells, cap] at hsh ⊢
          simp [hsh]
        have h2s : w2.heap.size = w.heap.size + 1 := by simp [w2, w1, World.freeze]
        have hold : ∀ k, k < w.heap.size → w2.heap[k]? = w.heap[k]? := fun k hk => by
          have h1 : w1.heap[k]? = w.heap[k]? := Below.heap_alloc w.drew _ k hk
          simp only [w2, World.freeze]
          rw [if_neg (by omega)]
          simp only [Array.getElem?_modify]
          rw [if_neg (by omega)]
          exact h1
        have hnew : ∃ fz, w2.heap[w.heap.size]? = some (.cells cells e fz) := by
          have h1 : w1.heap[w.heap.size]? = some (.cells cells e) := heap_alloc_new w.drew _
          simp only [w2, World.freeze]
          rw [if_neg (by omega)]
          simp only [Array.getElem?_modify, if_true, h1, Option.map_some]
          exact ⟨_, rfl⟩
        obtain ⟨fz, hnew⟩ := hnew
        have hR2 := hR.world (w' := w2) (by omega) hold rfl rfl rfl
        have hR3 := hR2.growF (fun b => F b ∨ b = w.heap.size) (fun b h => .inl h) (fun b h => by
          rcases h with h | h
          · have := hR.Fb b h; omega
          · omega) (fun b h => by
          rcases h with h | h
          · exact .inl h
          · exact .inr (by rw [h]; exact hR.below.size)) (fun id bi hi hr hp hc => by
          obtain ⟨lb, hlb⟩ := Option.isSome_iff_exists.1 hi
          rcases hc with hc | hc
          · obtain ⟨bi', g1, g2, g3⟩ := hR.blks id lb hlb
            rw [hr] at g1; injection g1 with g1; subst g1
            exact (g3 hp).1 hc
          · have := hR.blk_lt hi hr hp; omega)
        refine ⟨_, w2, _, fin (by rw [he]; exact hrun), .inl rfl, _, ρ, hR3.mono_fr (fun _ h => h.1), ?_⟩
        have hrl : (irows .u8 (bytesL sv)).length = sv.size := by simp [irows, bytesL]
        have hgc : ∀ (k : Nat) (y : AV), (irows .u8 (bytesL sv)).flatten[k]? = some y → ∃ n : Int, y = .val (.int .u8 n) ∧ cells[k]? = some (.int .u8 n) := by
          intro k y hy
          rw [irows_flat, List.getElem?_map] at hy
          cases hk : (bytesL sv)[k]? with
          | none => simp [hk] at hy
          | some n =>
            simp [hk] at hy
            refine ⟨n, hy.symm, ?_⟩
            simp only [bytesL, List.getElem?_map, Array.getElem?_toList] at hk
            cases hb : sv.data[k]? with
            | none => simp [hb] at hk
            | some bb =>
              simp [hb] at hk
              have hlt := (Array.getElem?_eq_some_iff.1 hb).1
              simp only [cells, Array.getElem?_append, Array.size_map, hlt, if_true, Array.getElem?_map, hb, Option.map_some, hk]
        refine .sl _ _ _ 1 _ false w.heap.size 0 (fun k => cells.getD k undef) hrl.symm hcap (by simp) (fun r hr => by obtain ⟨n, _, rfl⟩ := List.mem_map.1 hr; rfl) (fun _ => ⟨rfl, .inr rfl⟩) (fun k y hy => ?_) (fun k y hy => ?_) (fun k y hy => ?_) (fun k y hy => by obtain ⟨n, rfl, hc⟩ := hgc k y hy; exact .val _)
        · obtain ⟨n, rfl, hc⟩ := hgc k y hy
          rw [cell_of_row w2 w.heap.size (0 + k) cells e fz hnew]
          simp [hc, Array.getD_eq_getD_getElem?]
        · obtain ⟨n, rfl, hc⟩ := hgc k y hy
          simp [Array.getD_eq_getD_getElem?, hc, Value.oneCell']
        · obtain ⟨n, rfl, hc⟩ := hgc k y hy
          simp only [Array.getD_eq_getD_getElem?, hc, Option.getD_some]
          exact .val _
      · rename_i hjd
        have hue := under_int (hT e j hj) hjd
        obtain ⟨rfl, rfl, rfl⟩ := hg
        have hel : Conv.runesFrom sv sv.size 0 #[] = ((runes sv).map fun r => Value.int .i32 r).toArray := by rw [runesFrom_eq]; simp [runes]
        let cap := (Question.appendCap (runes sv).length 0 e).cut (w.tape w.drawn (.appendCap (runes sv).length 0 e))
        let cells : Array Value := ((runes sv).map fun r => Value.int .i32 r).toArray ++ Array.replicate (cap - (runes sv).length) (.int .i32 0)
        have hcap : (runes sv).length ≤ cap := by simp only [cap, Question.cut]; omega
        have hcs : cells.size = cap := by simp [cells]; omega
        have hrun : (convert t d (.string sv)).run P w = .ok (.slice (some ⟨w.heap.size, 0, none⟩) (runes sv).length cap) (w.drew.alloc (.cells cells e)) := by
          simp only [convert, Sem.run_bind, run_underlying hut, run_underlying hu, Result.andThen_ok]
          cases dt <;> simp [sdOf, hsd] at hst
          simp [run_underlying hue, Conv.stringToRunes, hel, Question.forced, newRow, cells, cap]
        have h2' := hR.drew.alloc b (hfr 0 (by omega)) cells e 1 (irows .i32 (runes sv)) (fun r hr => by obtain ⟨n, _, rfl⟩ := List.mem_map.1 hr; rfl) (by simp [irows, hcs]; exact hcap) (fun k y hy => by
          rw [irows_flat, List.getElem?_map] at hy
          cases hk : (runes sv)[k]? with
          | none => simp [hk] at hy
          | some n =>
            simp [hk] at hy
            subst hy
            have hlt := (List.getElem?_eq_some_iff.1 hk).1
            have hc : cells[k]? = some (.int .i32 n) := by
              simp only [cells, Array.getElem?_append, List.size_toArray, List.length_map, hlt, if_true, List.getElem?_toArray, List.getElem?_map, hk, Option.map_some]
            simp only [Array.getD_eq_getD_getElem?, hc, Option.getD_some]
            exact ⟨rfl, .val _⟩)
        refine ⟨_, _, _, fin (by rw [he]; exact hrun), .inl rfl, F, _, h2'.mono_fr (fun q hq => ⟨hq.1, fun e => hq.2 ⟨by omega, by omega⟩⟩), ?_⟩
        refine .own _ b 0 _ cap ⟨w.heap.size, 0, 1, cells.size⟩ (by simp [putρ]) hcap (fun _ => ⟨by simp, by simp [hcs]⟩)
      · exact hg.elim
    · exact hg.elim
  · rename_i sz rows tg hd hx
    have hu := under_str (hT d q hq) hd
    split at hg
    · rename_i e hsd
      split at hg
      · rename_i j hj
        have hus : P.underlying t = some (.slice e) := under_slice (hT t p hp) hsd
        rw [hx] at hv
        generalize hve : a.eval x = ve at hv fin
        cases hv with
        | sl A n cp _ _ _ bl of vals hn hcp htt hw hA g0 g1 g2 g3 =>
          have main : ∀ (k : IntKind) (ns : List Int), rows = irows k ns → A = none ∧ ns = [] ∨ ∃ ad, A = some ad ∧ (loadCells ad n).run P w = .ok (ns.map (Value.int k)).toArray w := by
            intro k ns hns
            cases A with
            | none =>
              left
              refine ⟨rfl, ?_⟩
              by_cases hr : rows = []
              · have := congrArg List.length hns
                rw [hr] at this
                simp [irows] at this
                exact List.eq_nil_of_length_eq_zero this.symm
              · have := (hA hr).1; cases this
            | some ad =>
              right
              refine ⟨ad, rfl, ?_⟩
              have hnl : n = ns.length := by rw [hn, hns]; simp [irows]
              have : ns.length = (ns.map (Value.int k)).length := by simp
              rw [hnl, this]
              refine run_loadCells_list w ad _ (fun j v hj => ?_)
              have hr : rows ≠ [] := fun e => by
                rw [e] at hns
                have := congrArg List.length hns
                simp [irows] at this
                rw [List.eq_nil_of_length_eq_zero this.symm] at hj
                simp at hj
              obtain ⟨e1, e2⟩ := hA hr
              injection e1 with e1
              subst e1
              rw [List.getElem?_map] at hj
              cases hk : ns[j]? with
              | none => simp [hk] at hj
              | some m =>
                simp [hk] at hj
                have hf : rows.flatten[j]? = some (.val (.int k m)) := by rw [hns, irows_flat, List.getElem?_map, hk]; rfl
                rw [addr_add, g0 j _ hf]
                have := (g2 j _ hf).val_inv
                rw [this, hj]
          split at hg
          · rename_i hjd
            have hue := under_int (hT e j hj) hjd
            obtain ⟨ns, hns, rfl, rfl, rfl⟩ := hg
            refine Post.val hR (fin ?_) (.val _)
            rw [run_convert_bytes_string w t d e A n cp hus hue hu]
            rcases main _ ns hns with ⟨rfl, rfl⟩ | ⟨ad, rfl, hl⟩
            · simp [Conv.bytesToString, strL]; rfl
            · rw [run_bytesToString w ad n cp ns hl, strL_fold]
          · rename_i hjd
            have hue := under_int (hT e j hj) hjd
            obtain ⟨ns, hns, rfl, rfl, rfl⟩ := hg
            refine Post.val hR (fin ?_) (.val _)
            have hc : (convert t d (.slice A n cp)).run P w = (Conv.runesToString (.slice A n cp)).run P w := by simp [convert, run_underlying hus, run_underlying hu, run_underlying hue]
            rw [hc]
            rcases main _ ns hns with ⟨rfl, rfl⟩ | ⟨ad, rfl, hl⟩
            · simp [Conv.runesToString, runesStr]
            · exact run_runesToString ad n cp ns hl
          · exact hg.elim
      · exact hg.elim
    · exact hg.elim
  · rename_i id off len hd hx
    have hu := under_str (hT d q hq) hd
    split at hg
    · rename_i e sz rows hsd hlb
      split at hg
      · rename_i j hj
        have hus : P.underlying t = some (.slice e) := under_slice (hT t p hp) hsd
        obtain ⟨bi, q1, q2, q3, _⟩ := hR.block hlb
        obtain ⟨bi', r1, r2, r3⟩ := hR.cell hlb
        rw [q1] at r1; injection r1 with r1; subst r1
        rw [hx] at hv
        generalize hve : a.eval x = ve at hv fin
        cases hv with
        | own A _ _ _ cp bi' hr hl hA =>
          rw [q1] at hr; injection hr with hr; subst hr
          have main : ∀ (k : IntKind) (ns : List Int), off + len ≤ rows.length → (rows.drop off).take len = irows k ns → A = none ∧ ns = [] ∨ ∃ ad, A = some ad ∧ (loadCells ad len).run P w = .ok (ns.map (Value.int k)).toArray w := by
            intro k ns hle hns
            have hnl : len = ns.length := by
              have := congrArg List.length hns
              simp [irows] at this
              omega
            by_cases hl0 : len = 0
            · have hn0 : ns = [] := List.eq_nil_of_length_eq_zero (by omega)
              cases A with
              | none => exact .inl ⟨rfl, hn0⟩
              | some ad => exact .inr ⟨ad, rfl, by rw [hl0, hn0]; simp [loadCells, loadCellsFrom]⟩
            · obtain ⟨e1, e2⟩ := hA (by omega)
              right
              refine ⟨_, e1, ?_⟩
              have : ns.length = (ns.map (Value.int k)).length := by simp
              rw [hnl, this]
              refine run_loadCells_list w _ _ (fun j v hj => ?_)
              rw [List.getElem?_map] at hj
              cases hk : ns[j]? with
              | none => simp [hk] at hj
              | some m =>
                simp [hk] at hj
                have hf : ((rows.drop off).take len).flatten[j]? = some (.val (.int k m)) := by rw [hns, irows_flat, List.getElem?_map, hk]; rfl
                have hsub : ((rows.drop off).take len) = (rows.take (off + len)).drop off := by rw [List.drop_take]; congr 1; omega
                rw [hsub] at hf
                obtain ⟨vv, c1, c2, c3⟩ := r3 _ _ (flat_sub q3 off (off + len) j _ hf)
                rw [addr_add, q2, Nat.add_assoc, c1]
                have := c3.val_inv
                rw [this, hj]
          split at hg
          · rename_i hjd
            have hue := under_int (hT e j hj) hjd
            obtain ⟨ns, ⟨hle, hns⟩, rfl, rfl, rfl⟩ := hg
            refine Post.val hR (fin ?_) (.val _)
            rw [run_convert_bytes_string w t d e A len cp hus hue hu]
            rcases main _ ns hle hns with ⟨rfl, rfl⟩ | ⟨ad, rfl, hl⟩
            · simp [Conv.bytesToString, strL]; rfl
            · rw [run_bytesToString w ad len cp ns hl, strL_fold]
          · rename_i hjd
            have hue := under_int (hT e j hj) hjd
            obtain ⟨ns, ⟨hle, hns⟩, rfl, rfl, rfl⟩ := hg
            refine Post.val hR (fin ?_) (.val _)
            have hc : (convert t d (.slice A len cp)).run P w = (Conv.runesToString (.slice A len cp)).run P w := by simp [convert, run_underlying hus, run_underlying hu, run_underlying hue]
            rw [hc]
            rcases main _ ns hle hns with ⟨rfl, rfl⟩ | ⟨ad, rfl, hl⟩
            · simp [Conv.runesToString, runesStr]
            · exact run_runesToString ad len cp ns hl
          · exact hg.elim
      · exact hg.elim
    · exact hg.elim
  · exact hg.elim

end
end Go.AL

set_option linter.unusedSimpArgs false
namespace Go.AL
open Go Go.RowKit

section
variable {P : Program} {TT : Nat → Option TI} {gh : Array Value} {w0 w : World} {F0 F : Nat → Prop} {ρ : Nat → Option BI} {fr : Nat → Prop} {s : St} {a : Act} {b : Nat}

theorem updsH_append (h : Nat → Option LB) : ∀ (u u' : Ups), updsH h (u ++ u') = updsH (updsH h u) u'
  | [], _ => rfl
  | (d, v) :: u, u' => by simp only [List.cons_append, updsH]; exact updsH_append _ u u'

theorem frz_ok (hR : Rel gh w0 F0 F ρ fr s a w) {v : Value} {x x' : AV} {ps : List Prop} {u : Ups} {acc : Accs} (hv : VR w F ρ v x) (hf : frz s.h x = some (x', ps, u, acc)) (hp : allP ps) (hno : NoId x') :
    ∃ F', (∀ b, F b → F' b) ∧ Rel gh w0 F0 F' ρ fr { s with h := updsH s.h u } a w ∧ VR w F' ρ v x' := by
  unfold frz at hf
  split at hf
  · rename_i id off len
    split at hf
    · rename_i sz rows hlb
      cases hz : Nat.beq sz 0 with
      | true => simp [hz] at hf
      | false =>
        simp only [hz, cond_false, Option.some.injEq, Prod.mk.injEq] at hf
        obtain ⟨rfl, rfl, rfl, rfl⟩ := hf
        simp only [allP] at hp
        have hsz : 0 < sz := Nat.pos_of_ne_zero fun e => by rw [e] at hz; simp at hz
        obtain ⟨bi, q1, q2, q3, q4, q5, q6⟩ := hR.block hlb
        obtain ⟨bi', r1, r2, r3⟩ := hR.cell hlb
        rw [q1] at r1; injection r1 with r1; subst r1
        cases hv with
        | own A _ _ _ cp bi' hr hl hA =>
          rw [q1] at hr; injection hr with hr; subst hr
          have hlen : ((rows.drop off).take len).length = len := by simp; omega
          have hw' : ∀ r ∈ (rows.drop off).take len, r.length = sz := fun r hr => q3 r (List.mem_of_mem_drop (List.mem_of_mem_take hr))
          have hsub : ((rows.drop off).take len) = (rows.take (off + len)).drop off := by rw [List.drop_take]; congr 1; omega
          have hnof : ∀ (j : Nat) (y : AV), ((rows.drop off).take len).flatten[j]? = some y → NoId y := by
            cases hno with
            | sl _ _ _ hh => exact fun j y hy => mem_flat hh hy
          let vals : Nat → Value := fun j => (w.cell? ⟨bi.blk, bi.base + off * sz + j, none⟩).getD undef
          have hc : ∀ (j : Nat) (y : AV), ((rows.drop off).take len).flatten[j]? = some y → w.cell? ⟨bi.blk, bi.base + off * sz + j, none⟩ = some (vals j) ∧ (vals j).oneCell' = true ∧ VR w F ρ (vals j) y := by
            intro j y hy
            rw [hsub] at hy
            obtain ⟨vv, c1, c2, c3⟩ := r3 _ y (flat_sub q3 off (off + len) j y hy)
            rw [← Nat.add_assoc] at c1
            have e : vals j = vv := by simp [vals, c1]
            rw [e]
            exact ⟨c1, c2, c3⟩
          by_cases hp0 : 0 < bi.csz
          · have h' := hR.freeze id bi (by rw [hlb]; rfl) q1 hp0
            have hFF : ∀ b, F b → (F b ∨ b = bi.blk) := fun b h => .inl h
            refine ⟨_, hFF, h', ?_⟩
            refine .sl A len cp sz _ false bi.blk (bi.base + off * sz) vals hlen.symm hl (by simp) hw' (fun hne => ?_) (fun j y hy => (hc j y hy).1) (fun j y hy => (hc j y hy).2.1) (fun j y hy => (hc j y hy).2.2.mono hFF (fun _ _ => rfl) (fun _ _ h => h)) hnof
            have hl0 : 0 < len := by
              apply Nat.pos_of_ne_zero
              intro e
              apply hne
              apply List.eq_nil_of_length_eq_zero
              omega
            obtain ⟨e1, e2⟩ := hA (by omega)
            rw [e1, q2]
            exact ⟨rfl, .inr rfl⟩
          · have h' := hR.forget id
            have hfl := q5 (by omega)
            have hrows : rows = [] := by
              have := flat_len rows q3
              rw [hfl] at this
              have h2 : rows.length * sz = 0 := by simpa using this.symm
              rcases Nat.mul_eq_zero.1 h2 with h | h
              · exact List.eq_nil_of_length_eq_zero h
              · omega
            subst hrows
            refine ⟨F, fun _ h => h, h', ?_⟩
            refine .sl A len cp sz _ false bi.blk (bi.base + off * sz) vals hlen.symm hl (by simp) hw' (fun hne => absurd (by simp) hne) (fun j y hy => (hc j y hy).1) (fun j y hy => (hc j y hy).2.1) (fun j y hy => (hc j y hy).2.2) hnof
    · cases hf
  · cases hf
  · cases hf
  · cases hf
  · cases hf
  · simp only [Option.some.injEq, Prod.mk.injEq] at hf
    obtain ⟨rfl, rfl, rfl, rfl⟩ := hf
    exact ⟨F, fun _ h => h, hR, hv⟩

theorem allP_append {l l' : List Prop} (h : allP (l ++ l')) : allP l ∧ allP l' := by
  induction l with
  | nil => exact ⟨trivial, h⟩
  | cons p l ih =>
    obtain ⟨h1, h2⟩ := allP_cons (p := p) h
    obtain ⟨h3, h4⟩ := ih h2
    refine ⟨?_, h4⟩
    cases l with
    | nil => exact h1
    | cons q l => exact ⟨h1, h3⟩

theorem frzL_ok : ∀ (xs xs' : List AV) (vs : List Value) (s : St) (F : Nat → Prop) (ps : List Prop) (u : Ups) (acc : Accs), Rel gh w0 F0 F ρ fr s a w → vs.length = xs.length → (∀ (i : Nat) (x : AV), xs[i]? = some x → VR w F ρ (vs.getD i undef) x) →
    frzL s.h xs = some (xs', ps, u, acc) → allP ps → (∀ x ∈ xs', NoId x) →
    ∃ F', (∀ b, F b → F' b) ∧ Rel gh w0 F0 F' ρ fr { s with h := updsH s.h u } a w ∧ xs'.length = xs.length ∧ ∀ (i : Nat) (x : AV), xs'[i]? = some x → VR w F' ρ (vs.getD i undef) x
  | [], xs', vs, s, F, ps, u, acc, hR, hl, hv, hf, hp, hno => by
    simp only [frzL, Option.some.injEq, Prod.mk.injEq] at hf
    obtain ⟨rfl, rfl, rfl, rfl⟩ := hf
    exact ⟨F, fun _ h => h, hR, rfl, fun i x hx => by simp at hx⟩
  | x :: xs, xs', vs, s, F, ps, u, acc, hR, hl, hv, hf, hp, hno => by
    cases vs with
    | nil => simp at hl
    | cons v vs =>
      simp only [frzL] at hf
      cases h1 : frz s.h x with
      | none => simp [h1] at hf
      | some q =>
        obtain ⟨x1, p1, u1, a1⟩ := q
        simp only [h1] at hf
        cases h2 : frzL (updsH s.h u1) xs with
        | none => simp [h2] at hf
        | some q =>
          obtain ⟨xs2, p2, u2, a2⟩ := q
          simp only [h2, Option.some.injEq, Prod.mk.injEq] at hf
          obtain ⟨rfl, rfl, rfl, rfl⟩ := hf
          obtain ⟨hp1, hp2⟩ := allP_append hp
          obtain ⟨F1, g1, g2, g3⟩ := frz_ok hR (hv 0 x rfl) h1 hp1 (hno _ (by simp))
          obtain ⟨F2, k1, k2, k3, k4⟩ := frzL_ok xs xs2 vs { s with h := updsH s.h u1 } F1 p2 u2 a2 g2 (by simpa using hl) (fun i y hy => (hv (i + 1) y hy).mono g1 (fun _ _ => rfl) (fun _ _ h => h)) h2 hp2 (fun x hx => hno x (by simp [hx]))
          refine ⟨F2, fun b hb => k1 b (g1 b hb), by simpa [updsH_append] using k2, by simp [k3], fun i y hy => ?_⟩
          cases i with
          | zero => simp at hy; subst hy; exact g3.mono k1 (fun _ _ => rfl) (fun _ _ h => h)
          | succ i => exact k4 i y (by simpa using hy)

theorem frzA_ok : ∀ (xs xs' : List AV) (vs : List Value) (s : St) (F : Nat → Prop) (ps : List Prop) (u : Ups) (acc : Accs), Rel gh w0 F0 F ρ fr s a w → vs.length = xs.length → (∀ (i : Nat) (x : AV), xs[i]? = some x → VR w F ρ (vs.getD i undef) x) →
    frzA s.h xs = some (xs', ps, u, acc) → allP ps → (∀ x ∈ xs', NoId x) →
    ∃ F', (∀ b, F b → F' b) ∧ Rel gh w0 F0 F' ρ fr { s with h := updsH s.h u } a w ∧ xs'.length = xs.length ∧ ∀ (i : Nat) (x : AV), xs'[i]? = some x → VR w F' ρ (vs.getD i undef) x
  | [], xs', vs, s, F, ps, u, acc, hR, hl, hv, hf, hp, hno => by
    simp only [frzA, Option.some.injEq, Prod.mk.injEq] at hf
    obtain ⟨rfl, rfl, rfl, rfl⟩ := hf
    exact ⟨F, fun _ h => h, hR, rfl, fun i x hx => by simp at hx⟩
  | x :: xs, xs', vs, s, F, ps, u, acc, hR, hl, hv, hf, hp, hno => by
    cases vs with
    | nil => simp at hl
    | cons v vs =>
      have step : ∀ (x1 : AV) (p1 : List Prop) (u1 : Ups) (a1 : Accs), (allP p1 → NoId x1 → ∃ F1, (∀ b, F b → F1 b) ∧ Rel gh w0 F0 F1 ρ fr { s with h := updsH s.h u1 } a w ∧ VR w F1 ρ v x1) →
          (match frzA (updsH s.h u1) xs with
            | some (xs2, p2, u2, a2) => some (x1 :: xs2, p1 ++ p2, u1 ++ u2, a1 ++ a2)
            | none => none) = some (xs', ps, u, acc) →
          ∃ F', (∀ b, F b → F' b) ∧ Rel gh w0 F0 F' ρ fr { s with h := updsH s.h u } a w ∧ xs'.length = (x :: xs).length ∧ ∀ (i : Nat) (y : AV), xs'[i]? = some y → VR w F' ρ ((v :: vs).getD i undef) y := by
        intro x1 p1 u1 a1 hone hf
        cases h2 : frzA (updsH s.h u1) xs with
        | none => simp [h2] at hf
        | some q =>
          obtain ⟨xs2, p2, u2, a2⟩ := q
          simp only [h2, Option.some.injEq, Prod.mk.injEq] at hf
          obtain ⟨rfl, rfl, rfl, rfl⟩ := hf
          obtain ⟨hp1, hp2⟩ := allP_append hp
          obtain ⟨F1, g1, g2, g3⟩ := hone hp1 (hno _ (by simp))
          obtain ⟨F2, k1, k2, k3, k4⟩ := frzA_ok xs xs2 vs { s with h := updsH s.h u1 } F1 p2 u2 a2 g2 (by simpa using hl) (fun i y hy => (hv (i + 1) y hy).mono g1 (fun _ _ => rfl) (fun _ _ h => h)) h2 hp2 (fun x hx => hno x (by simp [hx]))
          refine ⟨F2, fun b hb => k1 b (g1 b hb), by simpa [updsH_append] using k2, by simp [k3], fun i y hy => ?_⟩
          cases i with
          | zero => simp at hy; subst hy; exact g3.mono k1 (fun _ _ => rfl) (fun _ _ h => h)
          | succ i => exact k4 i y (by simpa using hy)
      have hv0 := hv 0 x rfl
      unfold frzA at hf
      split at hf
      · rename_i he; cases he
      · rename_i cs xs2 he
        injection he with e1 e2
        subst e1 e2
        cases h1 : frzL s.h cs with
        | none => simp [h1] at hf
        | some q =>
          obtain ⟨cs1, p1, u1, a1⟩ := q
          simp only [h1] at hf
          refine step (.agg cs1) p1 u1 a1 (fun hp1 hno1 => ?_) hf
          have hv0' : VR w F ρ v (.agg cs) := hv0
          cases hv0' with
          | agg vs0 _ h h1' h2' =>
            obtain ⟨F1, g1, g2, g3, g4⟩ := frzL_ok cs cs1 vs0.toList s F p1 u1 a1 hR (by simpa using h) (fun i y hy => by have := h2' i y hy; simpa [Array.getD_eq_getD_getElem?, List.getD] using this) h1 hp1 (by cases hno1 with | agg _ hh => exact hh)
            refine ⟨F1, g1, g2, .agg vs0 cs1 (by omega) (fun i y hy => ?_) (fun i y hy => by have := g4 i y hy; simpa [Array.getD_eq_getD_getElem?, List.getD] using this)⟩
            have hi : i < cs.length := by have := (List.getElem?_eq_some_iff.1 hy).1; omega
            exact h1' i _ (List.getElem?_eq_getElem hi)
      · rename_i x2 xs2 hna he
        injection he with e1 e2
        subst e1 e2
        cases h1 : frz s.h x with
        | none => simp [h1] at hf
        | some q =>
          obtain ⟨x1, p1, u1, a1⟩ := q
          simp only [h1] at hf
          exact step x1 p1 u1 a1 (fun hp1 hno1 => frz_ok hR hv0 h1 hp1 hno1) hf

theorem PV_of {R : Operand → AV → Prop} : ∀ (ps : List (Nat × Operand)) (xs : List AV), xs.length = ps.length → (∀ (i : Nat) (p : Nat × Operand) (y : AV), ps[i]? = some p → xs[i]? = some y → R p.2 y) → PV R ps ((ps.map (·.1)).zip xs)
  | [], xs, h, _ => by
    have : xs = [] := List.length_eq_zero_iff.1 h
    subst this
    exact .nil
  | (k, x) :: ps, xs, h, hr => by
    cases xs with
    | nil => cases h
    | cons y ys => exact .cons k x y ps _ (hr 0 (k, x) y rfl rfl) (PV_of ps ys (by simpa using h) (fun i p z hp hz => hr (i + 1) p z (by simpa using hp) (by simpa using hz)))

theorem rload_inv {i : TI} {h : Nat → Option LB} {x v : AV} {u : Ups} {acc : Accs} (hg : (rload i h x).gives v u acc) :
    ∃ row c, (v = part i row c ∧ u = []) ∧ okd i = true ∧ ((∃ id sz, x = .lp id c ∧ h id = some (.cells sz [row]) ∧ c + i.size ≤ row.length) ∨
      (∃ id sz rows r, x = .li id r c ∧ h id = some (.cells sz rows) ∧ c + i.size ≤ sz ∧ rows[r]? = some row) ∨ (x = .fp row c ∧ c + i.size ≤ row.length)) := by
  unfold rload at hg
  split at hg
  · rename_i id c
    split at hg
    · rename_i sz row hl
      cases hc : (okd i && Nat.ble (c + i.size) row.length) with
      | false => simp [hc] at hg; exact hg.elim
      | true =>
        simp only [hc, cond_true] at hg
        obtain ⟨rfl, rfl, rfl⟩ := hg
        simp only [Bool.and_eq_true, Nat.ble_eq] at hc
        exact ⟨row, c, ⟨rfl, rfl⟩, hc.1, .inl ⟨id, sz, rfl, hl, hc.2⟩⟩
    · exact hg.elim
  · rename_i id r c
    split at hg
    · rename_i sz rows hl
      cases hc : (okd i && Nat.ble (c + i.size) sz) with
      | false => simp [hc] at hg; exact hg.elim
      | true =>
        simp only [hc, cond_true] at hg
        obtain ⟨row, hr, rfl, rfl, rfl⟩ := hg
        simp only [Bool.and_eq_true, Nat.ble_eq] at hc
        exact ⟨row, c, ⟨rfl, rfl⟩, hc.1, .inr (.inl ⟨id, sz, rows, r, rfl, hl, hc.2, hr⟩)⟩
    · exact hg.elim
  · rename_i row c
    cases hc : (okd i && Nat.ble (c + i.size) row.length) with
    | false => simp [hc] at hg; exact hg.elim
    | true =>
      simp only [hc, cond_true] at hg
      obtain ⟨rfl, rfl, rfl⟩ := hg
      simp only [Bool.and_eq_true, Nat.ble_eq] at hc
      exact ⟨row, c, ⟨rfl, rfl⟩, hc.1, .inr (.inr ⟨rfl, hc.2⟩)⟩
  · exact hg.elim

theorem rstore_inv (hR : Rel gh w0 F0 F ρ fr s a w) {i : TI} {xs : List AV} {x v : AV} {u : Ups} {acc : Accs} (hsz : xs.length = i.size) (h0 : 0 < i.size) (hg : (rstore i s.h xs x).gives v u acc) :
    v = .any ∧ ∃ id sz rows r row c, u = [(id, some (.cells sz (rows.set r (spl row c xs))))] ∧ s.h id = some (.cells sz rows) ∧ rows[r]? = some row ∧ c + i.size ≤ sz ∧
      (x = .li id r c ∨ (x = .lp id c ∧ r = 0)) := by
  unfold rstore at hg
  split at hg
  · rename_i id c
    split at hg
    · rename_i sz row hl
      cases hc : (Nat.ble (c + i.size) row.length) with
      | false => simp [hc] at hg; exact hg.elim
      | true =>
        simp only [hc, cond_true] at hg
        obtain ⟨rfl, rfl, rfl⟩ := hg
        simp only [Nat.ble_eq] at hc
        obtain ⟨bi, q1, q2, q3, _⟩ := hR.block hl
        have := q3 row (by simp)
        exact ⟨rfl, id, sz, [row], 0, row, c, rfl, hl, rfl, by omega, .inr ⟨rfl, rfl⟩⟩
    · exact hg.elim
  · rename_i id r c
    split at hg
    · rename_i sz rows hl
      cases hc : (Nat.beq i.size sz && Nat.beq c 0) with
      | true =>
        simp only [hc, cond_true] at hg
        obtain ⟨hr, rfl, rfl, rfl⟩ := hg
        simp only [Bool.and_eq_true, Nat.beq_eq] at hc
        have h1 : i.size = sz := by simpa using hc.1
        have h2 : c = 0 := by simpa using hc.2
        subst h2
        obtain ⟨bi, q1, q2, q3, _⟩ := hR.block hl
        have hrow : rows[r]? = some rows[r] := List.getElem?_eq_getElem hr
        have hrl : rows[r].length = sz := q3 _ (List.getElem_mem hr)
        have e : spl rows[r] 0 xs = xs := by
          unfold spl
          simp
          omega
        exact ⟨rfl, id, sz, rows, r, rows[r], 0, by rw [e], hl, hrow, by omega, .inl rfl⟩
      | false =>
        simp only [hc, cond_false] at hg
        cases hc2 : (Nat.ble (c + i.size) sz) with
        | false => simp [hc2] at hg; exact hg.elim
        | true =>
          simp only [hc2, cond_true] at hg
          obtain ⟨row, hr, rfl, rfl, rfl⟩ := hg
          simp only [Nat.ble_eq] at hc2
          exact ⟨rfl, id, sz, rows, r, row, c, rfl, hl, hr, hc2, .inl rfl⟩
    · exact hg.elim
  · exact hg.elim

theorem args_one {c : Call} {ev : Operand → AV} {x : AV} (h : c.args.toList.map ev = [x]) : ∃ y, c.args = #[y] ∧ ev y = x := by
  rcases hcl : c.args with ⟨l⟩
  rw [hcl] at h
  rcases l with _ | ⟨y, _ | ⟨z, l⟩⟩ <;> simp at h
  exact ⟨y, rfl, h⟩
theorem args_two {c : Call} {ev : Operand → AV} {x y : AV} (h : c.args.toList.map ev = [x, y]) : ∃ p q, c.args = #[p, q] ∧ ev p = x ∧ ev q = y := by
  rcases hcl : c.args with ⟨l⟩
  rw [hcl] at h
  rcases l with _ | ⟨p, _ | ⟨q, _ | ⟨z, l⟩⟩⟩ <;> simp at h
  exact ⟨p, q, rfl, h.1, h.2⟩

theorem append_sound {o : Oper} {c : Call} {x y : Operand} {t u' e : Nat} {i j k : TI} {v : AV} {u : Ups} {acc : Accs} (hT : TTok P TT) (hR : Rel gh w0 F0 F ρ fr s a w) (hfr : ∀ k, k < 8 → fr (b + k))
    (ho : o.op = .call c) (hc : c.callee = .builtin .append) (hpq : c.args = #[x, y]) (hty : c.argTypes = #[t, u']) (hi : TT t = some i) (hd : i.d = .slice e) (hj : TT e = some j) (hk : TT u' = some k) (hkd : (∃ q, k.d = .slice q) ∨ k.d = .str)
    (hg : (rappend j b s.h (aval s.t x) (aval s.t y)).gives v u acc) : Post P o a w gh w0 F0 fr b { s with h := updsH s.h u } v := by
  unfold rappend at hg
  split at hg
  · rename_i sz' ys ps acc' hsrc
    cases hc1 : ((Nat.beq j.size sz' || Nat.beq ys.length 0) && !Nat.beq j.bytes 0) with
    | false => simp [hc1] at hg; exact hg.elim
    | true =>
      simp only [hc1, cond_true] at hg
      simp only [Bool.and_eq_true, Bool.or_eq_true, Bool.not_eq_true'] at hc1
      have hs : j.size = sz' ∨ ys = [] := by
        rcases hc1.1 with h | h
        · exact .inl (Nat.eq_of_beq_eq_true h)
        · exact .inr (List.eq_nil_of_length_eq_zero (Nat.eq_of_beq_eq_true h))
      have hb0 : 0 < j.bytes := by
        apply Nat.pos_of_ne_zero
        intro e
        have := hc1.2
        rw [e] at this
        exact absurd this (by decide)
      split at hg
      · rename_i sz rows hx
        cases hc2 : (Nat.beq j.size sz || Nat.beq rows.length 0) with
        | false => simp [hc2] at hg; exact hg.elim
        | true =>
          simp only [hc2, cond_true] at hg
          obtain ⟨hp, rfl, rfl, rfl⟩ := hg
          obtain ⟨h1, hp⟩ := allP_cons hp
          obtain ⟨h2, hp⟩ := allP_cons hp
          simp only [Bool.or_eq_true] at hc2
          exact op_append_tight hT hR hfr ho hc hpq hty hi hd hj hk hkd hsrc hp hs hx (by
            rcases hc2 with h | h
            · exact .inl (Nat.eq_of_beq_eq_true h)
            · exact .inr (List.eq_nil_of_length_eq_zero (Nat.eq_of_beq_eq_true h))) h1 h2 hb0
      · rename_i id off len hx
        split at hg
        · rename_i sz rows hlb
          cases hc2 : (Nat.beq j.size sz) with
          | false => simp [hc2] at hg; exact hg.elim
          | true =>
            simp only [hc2, cond_true] at hg
            obtain ⟨hp, rfl, rfl, rfl⟩ := hg
            obtain ⟨h1, hp⟩ := allP_cons hp
            obtain ⟨h2, hp⟩ := allP_cons hp
            exact op_append_own hT hR hfr ho hc hpq hty hi hd hj hk hkd hsrc hp hs hx hlb (Nat.eq_of_beq_eq_true hc2) h1 h2 hb0
        · exact hg.elim
      · exact hg.elim
  · exact hg.elim

theorem grow_sound {o : Oper} {c : Call} {x y : Operand} {t u' e : Nat} {i j k : TI} {kd : IntKind} {v : AV} {u : Ups} {acc : Accs} (hT : TTok P TT) (hR : Rel gh w0 F0 F ρ fr s a w) (hfr : ∀ k, k < 8 → fr (b + k))
    (ho : o.op = .call c) (hc : c.callee = .builtin .append) (hpq : c.args = #[x, y]) (hty : c.argTypes = #[t, u']) (hi : TT t = some i) (hd : i.d = .slice e) (hj : TT e = some j) (hk : TT u' = some k) (hkd : k.d = .int kd)
    (hg : (rgrow j b (aval s.t x) (aval s.t y)).gives v u acc) : Post P o a w gh w0 F0 fr b { s with h := updsH s.h u } v := by
  unfold rgrow at hg
  split at hg
  · rename_i sz rows n hx hy
    cases hc1 : (Nat.beq rows.length 0 && !Nat.beq j.bytes 0) with
    | false => simp [hc1] at hg; exact hg.elim
    | true =>
      simp only [hc1, cond_true] at hg
      simp only [Bool.and_eq_true, Bool.not_eq_true'] at hc1
      obtain ⟨⟨h0, h1⟩, rfl, rfl, rfl⟩ := hg
      have hr : rows = [] := List.eq_nil_of_length_eq_zero (Nat.eq_of_beq_eq_true hc1.1)
      subst hr
      exact op_grow hT hR hfr ho hc hpq hty hi hd hj hk hkd hx hy h0 h1 (Nat.pos_of_ne_zero fun e => by
        have := hc1.2
        rw [e] at this
        exact absurd this (by decide))
  · exact hg.elim

theorem rcall_sound (hT : TTok P TT) (hR : Rel gh w0 F0 F ρ fr s a w) (hfr : ∀ k, k < 8 → fr (b + k)) {o : Oper} {c : Call} (ho : o.op = .call c) {v : AV} {u : Ups} {acc : Accs} (hg : (rcall TT (aval s.t) s.h b c).gives v u acc) :
    Post P o a w gh w0 F0 fr b { s with h := updsH s.h u } v := by
  unfold rcall at hg
  split at hg
  · rename_i bb hc
    split at hg
    · rename_i x t _ hargs htys
      obtain ⟨y, hy1, hy2⟩ := args_one hargs
      subst hy2
      split at hg
      · rename_i i hi
        exact op_len hT hR ho hc hy1 (by rw [← Array.getElem?_toList, htys]; rfl) hi hg
      · exact hg.elim
    · rename_i x t _ hargs htys
      obtain ⟨y, hy1, hy2⟩ := args_one hargs
      subst hy2
      split at hg
      · rename_i i hi
        exact op_cap hT hR ho hc hy1 (by rw [← Array.getElem?_toList, htys]; rfl) hi hg
      · exact hg.elim
    · rename_i x y t u' hargs htys
      obtain ⟨p, q, hpq, rfl, rfl⟩ := args_two hargs
      have hty : c.argTypes = #[t, u'] := by apply Array.ext'; rw [htys]
      split at hg
      · rename_i i hi
        split at hg
        · rename_i e hd
          split at hg
          · rename_i j k hj hk
            split at hg
            · rename_i q' hkq; exact append_sound hT hR hfr ho hc hpq hty hi hd hj hk (.inl ⟨q', hkq⟩) hg
            · rename_i hkq; exact append_sound hT hR hfr ho hc hpq hty hi hd hj hk (.inr hkq) hg
            · rename_i kd hkq; exact grow_sound hT hR hfr ho hc hpq hty hi hd hj hk hkq hg
            · exact hg.elim
          · exact hg.elim
        · exact hg.elim
      · exact hg.elim
    · rename_i x y t _ hargs htys
      obtain ⟨p, q, hpq, rfl, rfl⟩ := args_two hargs
      split at hg
      · rename_i i hi
        split at hg
        · rename_i e hd
          split at hg
          · rename_i j hj
            unfold rcopy at hg
            split at hg
            · rename_i sz' ys ps acc' id off len hsrc hx
              split at hg
              · rename_i sz rows hlb
                cases hc1 : (Nat.beq j.size sz' && Nat.beq j.size sz) with
                | false => simp [hc1] at hg; exact hg.elim
                | true =>
                  simp only [hc1, cond_true] at hg
                  obtain ⟨hp, rfl, rfl, rfl⟩ := hg
                  obtain ⟨h1, hp⟩ := allP_cons hp
                  simp only [Bool.and_eq_true, Nat.beq_eq] at hc1
                  exact op_copy hT hR ho hc hpq (by rw [← Array.getElem?_toList, htys]; rfl) hi hd hj hsrc hp (by simpa using hc1.1) hx hlb (by simpa using hc1.2) h1
              · exact hg.elim
            · exact hg.elim
          · exact hg.elim
        · exact hg.elim
      · exact hg.elim
    · exact op_min hR ho hc hg
    · exact op_max hR ho hc hg
    · exact hg.elim
  · split at hg
    · split at hg
      · exact hg.elim
      · exact hg.elim
    · exact hg.elim
  · exact hg.elim

/-- Every operation that calls nothing. -/
theorem aop_sound (hT : TTok P TT) (hR : Rel gh w0 F0 F ρ fr s a w) (hfr : ∀ k, k < 8 → fr (b + k)) {o : Oper} {v : AV} {u : Ups} {acc : Accs} (hg : (aop TT o (aval s.t) s.h b).gives v u acc) :
    Post P o a w gh w0 F0 fr b { s with h := updsH s.h u } v := by
  unfold aop at hg
  split at hg
  · rename_i x ho
    obtain ⟨rfl, rfl, rfl⟩ := hg
    exact Post.val hR (by simp [execOp, ho]) (hR.aval x)
  · rename_i x ho
    obtain ⟨rfl, rfl, rfl⟩ := hg
    exact Post.val hR (by simp [execOp, ho]) (hR.aval x)
  · rename_i c x y ho
    split at hg
    · rename_i p hc
      have hce : a.eval c = .bool p := by have := hR.aval c; rw [hc] at this; exact this.val_inv
      rcases hg with ⟨hp, rfl, rfl, rfl⟩ | ⟨hp, rfl, rfl, rfl⟩
      · exact Post.val hR (by simp [execOp, ho, hce, asBool, hp]) (hR.aval x)
      · exact Post.val hR (by simp [execOp, ho, hce, asBool, hp]) (hR.aval y)
    · exact hg.elim
  · rename_i e ho
    split at hg
    · rename_i i hi
      obtain ⟨rfl, rfl, rfl⟩ := hg
      exact op_alloc hT hR hfr ho hi
    · exact hg.elim
  · rename_i e x ho
    split at hg
    · rename_i cs hc
      obtain ⟨rfl, rfl, rfl⟩ := hg
      exact op_box hR hfr ho hc
    · exact hg.elim
  · rename_i t parts ho
    split at hg
    · rename_i i hi
      split at hg
      · rename_i fs hd
        cases hc : (fs.all fun p => (TT p.2).isSome) with
        | false => simp [hc] at hg; exact hg.elim
        | true =>
          simp only [hc, cond_true] at hg
          split at hg
          · rename_i cs hf
            obtain ⟨rfl, rfl, rfl⟩ := hg
            exact op_build hT hR ho hi hd hc hf
          · exact hg.elim
      · exact hg.elim
    · exact hg.elim
  · rename_i t len parts ho
    split at hg
    · rename_i i hi
      split at hg
      · rename_i e hd
        split at hg
        · rename_i j hj
          cases hc : (Nat.ble (len * j.size) 16777216 && !Nat.beq j.size 0) with
          | false => simp [hc] at hg; exact hg.elim
          | true =>
            simp only [hc, cond_true] at hg
            simp only [Bool.and_eq_true, Nat.ble_eq, Bool.not_eq_true'] at hc
            have hj0 : j.size ≠ 0 := fun e => by have := hc.2; rw [e] at this; simp at this
            split at hg
            · rename_i xs p ps u1 a1 hfz
              split at hg
              · rename_i cs hf
                obtain ⟨⟨hp, hno⟩, rfl, rfl, rfl⟩ := hg
                obtain ⟨F1, g1, g2, g3, g4⟩ := frzA_ok (parts.toList.map fun p => aval s.t p.2) xs (parts.toList.map fun p => a.eval p.2) s F _ u1 _ hR (by simp) (fun i x hx => by
                  rw [List.getElem?_map] at hx
                  cases hi' : parts.toList[i]? with
                  | none => simp [hi'] at hx
                  | some y =>
                    simp [hi'] at hx
                    subst hx
                    have : (parts.toList.map fun p => a.eval p.2).getD i undef = a.eval y.2 := by simp only [List.getD, List.getElem?_map, hi', Option.map_some, Option.getD_some]
                    rw [this]
                    exact hR.aval y.2) hfz hp hno
                have hb := op_buildSliceP (s := { s with h := updsH s.h u1 }) hT g2 hfr ho hi hd hj hc.1 hj0 hf (PV_of _ _ (by rw [g3]; simp) (fun i p y hp' hy => by
                  have h1 := g4 i y hy
                  have : (parts.toList.map fun p => a.eval p.2).getD i undef = a.eval p.2 := by simp only [List.getD, List.getElem?_map, hp', Option.map_some, Option.getD_some]
                  rw [this] at h1
                  exact h1))
                rw [updsH_append]
                exact hb
              · exact hg.elim
            · split at hg
              · rename_i cs hf
                obtain ⟨rfl, rfl, rfl⟩ := hg
                exact op_buildSlice hT hR hfr ho hi hd hj hc.1 hj0 hf
              · exact hg.elim
        · exact hg.elim
      · exact hg.elim
    · exact hg.elim
  · rename_i t x ho
    split at hg
    · rename_i i hi
      exact op_load hT hR ho hi (rload_inv hg)
    · exact hg.elim
  · rename_i t x y ho
    split at hg
    · rename_i i xs hi hy
      cases hc : (Nat.beq xs.length i.size && !Nat.beq i.size 0) with
      | false => simp [hc] at hg; exact hg.elim
      | true =>
        simp only [hc, cond_true] at hg
        simp only [Bool.and_eq_true, Nat.beq_eq, Bool.not_eq_true'] at hc
        have h1 : xs.length = i.size := by simpa using hc.1
        have h0 : 0 < i.size := Nat.pos_of_ne_zero fun e => by have := hc.2; rw [e] at this; simp at this
        obtain ⟨rfl, hg'⟩ := rstore_inv hR h1 h0 hg
        exact op_store hT hR ho hi hy h1 h0 hg'
    · exact hg.elim
  · rename_i x ho
    have hv := hR.aval x
    split at hg
    · rename_i hx
      obtain ⟨rfl, rfl, rfl⟩ := hg
      rw [hx] at hv
      generalize hve : a.eval x = ve at hv
      cases hv with | lp _ _ bi hr => exact Post.val hR (by simp [execOp, ho, hve]) (.lp _ _ bi hr)
    · rename_i hx
      obtain ⟨rfl, rfl, rfl⟩ := hg
      rw [hx] at hv
      generalize hve : a.eval x = ve at hv
      cases hv with | li _ _ _ bi hr => exact Post.val hR (by simp [execOp, ho, hve]) (.li _ _ _ bi hr)
    · rename_i hx
      obtain ⟨rfl, rfl, rfl⟩ := hg
      rw [hx] at hv
      generalize hve : a.eval x = ve at hv
      cases hv with | fp _ _ bl o' vals hF g0 g1 g2 g3 => exact Post.val hR (by simp [execOp, ho, hve]) (.fp _ _ bl o' vals hF g0 g1 g2 g3)
    · rename_i hx
      obtain ⟨rfl, rfl, rfl⟩ := hg
      rw [hx] at hv
      have hve := hv.val_inv
      exact Post.val hR (by simp [execOp, ho, hve]) (.val _)
    · exact hg.elim
  · rename_i op xt x y _ ho
    split at hg
    · rename_i i va vb hi hx hy
      have e1 : a.eval x = va := by have := hR.aval x; rw [hx] at this; exact this.val_inv
      have e2 : a.eval y = vb := by have := hR.aval y; rw [hy] at this; exact this.val_inv
      obtain ⟨rfl, r, rfl, hr⟩ := run_rbin (P := P) (x := x) (y := y) (hT xt i hi) hg w
      refine Post.val hR (v := r) ?_ (.val _)
      simp only [execOp, ho, e1, e2, Sem.run_bind] at hr ⊢
      rw [hr]
      rfl
    · rename_i i xs ys hi hx hy
      have hvx := hR.aval x
      have hvy := hR.aval y
      rw [hx] at hvx
      rw [hy] at hvy
      generalize hex : a.eval x = vx at hvx
      generalize hey : a.eval y = vy at hvy
      cases hvx with
      | agg va _ g1 g2 g3 =>
        cases hvy with
        | agg vb _ g4 g5 g6 =>
          obtain ⟨rfl, r, rfl, hr⟩ := run_reqs (P := P) (x := x) (y := y) hT (hT xt i hi) ⟨g1, fun j z hz => ⟨g2 j z hz, g3 j z hz⟩⟩ ⟨g4, fun j z hz => ⟨g5 j z hz, g6 j z hz⟩⟩ hg
          refine Post.val hR (v := r) ?_ (.val _)
          simp only [execOp, ho, hex, hey, Sem.run_bind] at hr ⊢
          rw [hr]
          rfl
    · exact hg.elim
  · rename_i op _ x ho
    split at hg
    · rename_i va hx
      have e1 : a.eval x = va := by have := hR.aval x; rw [hx] at this; exact this.val_inv
      obtain ⟨rfl, r, rfl, hr⟩ := run_runop (P := P) hg w
      exact Post.val hR (v := r) (by simp [execOp, ho, e1, hr]) (.val _)
    · exact hg.elim
  · rename_i t d x ho
    split at hg
    · rename_i p q hp hq
      exact op_conv hT hR hfr ho hp hq hg
    · exact hg.elim
  · rename_i t l c ho
    split at hg
    · rename_i i hi
      split at hg
      · rename_i e hd
        split at hg
        · rename_i j kl n kc m hj hl hc
          cases hb : (ikeq kl .i64 && ikeq kc .i64 && !Nat.beq j.bytes 0) with
          | false => simp [hb] at hg; exact hg.elim
          | true =>
            simp only [hb, cond_true] at hg
            simp only [Bool.and_eq_true, Bool.not_eq_true'] at hb
            obtain ⟨⟨b1, b2⟩, b3⟩ := hb
            have := ikeq_eq b1
            subst this
            have := ikeq_eq b2
            subst this
            obtain ⟨⟨h0, h1, h2⟩, rfl, rfl, rfl⟩ := hg
            exact op_makeSlice hT hR hfr ho hi hd hj hl hc h0 h1 h2 (Nat.pos_of_ne_zero fun e => by rw [e] at b3; simp at b3)
        · exact hg.elim
      · exact hg.elim
    · exact hg.elim
  · rename_i t x lo hi mx ho
    split at hg
    · rename_i i hi'
      exact op_slice hT hR ho hi' hg
    · exact hg.elim
  · rename_i t x f ho
    split at hg
    · rename_i i hi
      split at hg
      · rename_i fs hd
        split at hg
        · rename_i off ft hf
          split at hg
          · rename_i q hq
            cases hc : (Nat.beq q.size 0) with
            | true => simp [hc] at hg; exact hg.elim
            | false =>
              simp only [hc, cond_false] at hg
              have h0 : q.size ≠ 0 := fun e => by rw [e] at hc; simp at hc
              split at hg
              · rename_i hx
                obtain ⟨rfl, rfl, rfl⟩ := hg
                exact op_fieldAddr hT hR ho hi hd hf hq h0 (.inl ⟨_, _, hx, rfl⟩)
              · rename_i hx
                obtain ⟨rfl, rfl, rfl⟩ := hg
                exact op_fieldAddr hT hR ho hi hd hf hq h0 (.inr (.inl ⟨_, _, _, hx, rfl⟩))
              · rename_i hx
                obtain ⟨rfl, rfl, rfl⟩ := hg
                exact op_fieldAddr hT hR ho hi hd hf hq h0 (.inr (.inr ⟨_, _, hx, rfl⟩))
              · exact hg.elim
          · exact hg.elim
        · exact hg.elim
      · exact hg.elim
    · exact hg.elim
  · rename_i t x f ho
    split at hg
    · rename_i i hi
      split at hg
      · rename_i fs hd
        split at hg
        · rename_i off ft cs hf hx
          split at hg
          · rename_i q hq
            cases hc : (okd q && Nat.ble (off + q.size) cs.length) with
            | false => simp [hc] at hg; exact hg.elim
            | true =>
              simp only [hc, cond_true] at hg
              simp only [Bool.and_eq_true, Nat.ble_eq] at hc
              obtain ⟨rfl, rfl, rfl⟩ := hg
              exact op_field hT hR ho hi hd hf hq hx hc.1 hc.2
          · exact hg.elim
        · exact hg.elim
      · exact hg.elim
    · exact hg.elim
  · rename_i t x ix ho
    split at hg
    · rename_i i hi
      split at hg
      · rename_i e hd
        split at hg
        · rename_i j k n hj hix
          exact op_indexAddr hT hR ho hi hd hj hix hg
        · exact hg.elim
      · exact hg.elim
    · exact hg.elim
  · rename_i t x ix ho
    split at hg
    · rename_i i sv k n hi hx hix
      split at hg
      · rename_i hd
        obtain ⟨⟨h0, h1⟩, rfl, rfl, rfl⟩ := hg
        exact op_index hT hR ho hi hd hx hix h0 h1
      · exact hg.elim
    · exact hg.elim
  · rename_i t x ho
    split at hg
    · rename_i i sv hi hx
      split at hg
      · rename_i hd
        obtain ⟨rfl, rfl, rfl⟩ := hg
        exact op_range hT hR hfr ho hi hd hx
      · exact hg.elim
    · exact hg.elim
  · rename_i x ho
    split at hg
    · rename_i id hx
      split at hg
      · rename_i sv pos hl
        obtain ⟨h1, h2⟩ := op_next (P := P) (b := b) hR ho hx hl
        rcases hg with ⟨hp, rfl, rfl, rfl⟩ | ⟨hp, rfl, rfl, rfl⟩
        · exact h1 (by simpa using hp)
        · exact h2 (by simpa using hp)
      · exact hg.elim
    · exact hg.elim
  · rename_i x k ho
    split at hg
    · rename_i cs hx
      split at hg
      · rename_i v' hk
        obtain ⟨rfl, rfl, rfl⟩ := hg
        have hv := hR.aval x
        rw [hx] at hv
        generalize hve : a.eval x = ve at hv
        cases hv with
        | tup vs _ h h2 =>
          have hlt : k < vs.size := by have := (List.getElem?_eq_some_iff.1 hk).1; omega
          refine Post.val hR (v := vs.getD k undef) ?_ (h2 k _ hk)
          simp [execOp, ho, hve, Instr.extract, hlt]
      · exact hg.elim
    · exact hg.elim
  · rename_i c ho
    exact rcall_sound hT hR hfr ho hg
  · rename_i f caps ho
    obtain ⟨rfl, rfl, rfl⟩ := hg
    refine Post.val hR (v := .func (.func f) #[] (caps.map a.eval)) (by simp [execOp, ho, Instr.makeFunc]) (.clo f _ _ (by simp) fun i x hx => ?_)
    rw [List.getElem?_map] at hx
    cases hc : caps.toList[i]? with
    | none => rw [hc] at hx; cases hx
    | some y =>
      rw [hc] at hx
      have hx : aval s.t y = x := Option.some.inj hx
      have hy : caps[i]? = some y := by rw [← Array.getElem?_toList]; exact hc
      have e : (caps.map a.eval).getD i undef = a.eval y := by simp [Array.getD_eq_getD_getElem?, hy]
      rw [e, ← hx]
      exact hR.aval y
  · exact hg.elim

end
end Go.AL

set_option linter.unusedSimpArgs false
namespace Go.AL
open Go Go.RowKit

/-- What a call hands back: a value that names no live block, or a row that is the caller's own. -/
def RetOK (w : World) (F : Nat → Prop) (w' : World) (v : Value) : AR → Prop
  | .pure r => NoId r ∧ ∃ F', (∀ b, F b → F' b) ∧ (∀ b, F' b → b < w'.heap.size) ∧ (∀ b, F' b → F b ∨ w.heap.size ≤ b) ∧ VR w' F' (fun _ => none) v r
  | .fresh sz rows => (∀ r ∈ rows, ∀ x ∈ r, NoId x) ∧ ∃ F' bi, (∀ b, F b → F' b) ∧ (∀ b, F' b → b < w'.heap.size) ∧ (∀ b, F' b → F b ∨ w.heap.size ≤ b) ∧
      VR w' F' (putρ (fun _ => none) 0 bi) v (.own 0 0 rows.length) ∧ BR w' F' (fun _ => none) bi (.cells sz rows) ∧ (0 < bi.csz → ¬ F' bi.blk ∧ w.heap.size ≤ bi.blk)

/-- A function's contract: of such arguments it makes this. -/
structure AC (P : Program) (f : FuncId) (args : List AV) (r : AR) : Prop where
  noid : ∀ x ∈ args, NoId x
  enter : ∀ (vals : Array Value) (w : World), (callFunc f vals).run P w = .ok (.enter f vals) w
  calls : ∀ (w : World) (F : Nat → Prop) (vals : Array Value), (∀ b, F b → b < w.heap.size) → vals.size = args.length →
    (∀ (i : Nat) (x : AV), args[i]? = some x → VR w F (fun _ => none) (vals.getD i undef) x) →
    Calls P f vals w (fun e w' => ∃ v, e = .returned v ∧ Below w.heap.size w w' ∧ RetOK w F w' v r)

def AR.v (base : Nat) : AR → AV
  | .pure v => v
  | .fresh _ rows => .own base 0 rows.length
def AR.u (base : Nat) : AR → Ups
  | .pure _ => []
  | .fresh sz rows => [(base, some (.cells sz rows))]

section
variable {P : Program} {TT : Nat → Option TI} {gh : Array Value} {w0 w : World} {F0 F : Nat → Prop} {ρ : Nat → Option BI} {fr : Nat → Prop} {s : St} {a : Act} {b : Nat}

/-- No call. -/
def Res.nc : Res → Prop
  | .call _ _ _ _ _ => False
  | _ => True
theorem rlen_nc (i : TI) (x : AV) : (rlen i x).nc := by unfold rlen; repeat' (first | trivial | split)
theorem rcap_nc (i : TI) (x : AV) : (rcap i x).nc := by unfold rcap; repeat' (first | trivial | split)
theorem rgrow_nc (j : TI) (b : Nat) (x y : AV) : (rgrow j b x y).nc := by unfold rgrow; simp only [cond_eq_ite]; repeat' (first | trivial | split)
theorem rmin_nc (l : List AV) : (rmin l).nc := by unfold rmin; simp only [cond_eq_ite]; repeat' (first | trivial | split)
theorem rmax_nc (l : List AV) : (rmax l).nc := by unfold rmax; simp only [cond_eq_ite]; repeat' (first | trivial | split)
theorem rappend_nc (j : TI) (b : Nat) (h : Nat → Option LB) (x y : AV) : (rappend j b h x y).nc := by unfold rappend; simp only [cond_eq_ite]; repeat' (first | trivial | split)
theorem rcopy_nc (j : TI) (h : Nat → Option LB) (x y : AV) : (rcopy j h x y).nc := by unfold rcopy; simp only [cond_eq_ite]; repeat' (first | trivial | split)
theorem rbin_nc (op : BinOp) (i : TI) (x y : Value) : (rbin op i x y).nc := by unfold rbin; simp only [cond_eq_ite]; repeat' (first | trivial | split)
theorem reqs_nc (TT : Nat → Option TI) (op : BinOp) (i : TI) (x y : List AV) : (reqs TT op i x y).nc := by unfold reqs; repeat' (first | trivial | split)
theorem runop_nc (op : UnOp) (x : Value) : (runop op x).nc := by unfold runop; repeat' (first | trivial | split)
theorem rload_nc (i : TI) (h : Nat → Option LB) (x : AV) : (rload i h x).nc := by unfold rload; simp only [cond_eq_ite]; repeat' (first | trivial | split)
theorem rstore_nc (i : TI) (h : Nat → Option LB) (xs : List AV) (x : AV) : (rstore i h xs x).nc := by unfold rstore; simp only [cond_eq_ite]; repeat' (first | trivial | split)
theorem rslice_nc (i : TI) (TT : Nat → Option TI) (h : Nat → Option LB) (x : AV) (lo hi mx : Option AV) : (rslice i TT h x lo hi mx).nc := by unfold rslice; simp only [cond_eq_ite]; repeat' (first | trivial | split)
theorem rindexAddr_nc (j : TI) (h : Nat → Option LB) (i : Int) (x : AV) : (rindexAddr j h i x).nc := by unfold rindexAddr; simp only [cond_eq_ite]; repeat' (first | trivial | split)
theorem rconv_nc (TT : Nat → Option TI) (b : Nat) (h : Nat → Option LB) (p q : TI) (x : AV) : (rconv TT b h p q x).nc := by unfold rconv; repeat' (first | trivial | split)
theorem not_nc {r : Res} (h : r.nc) {f : Nat} {args : List AV} {ps : List Prop} {u : Ups} {acc : Accs} (e : r = .call f args ps u acc) : False := by rw [e] at h; exact h

theorem rcall_inv {ev : Operand → AV} {h : Nat → Option LB} {c : Call} {f : Nat} {args : List AV} {ps : List Prop} {u : Ups} {acc : Accs} (hg : rcall TT ev h b c = .call f args ps u acc) :
    ∃ g, c.callee = .value g ∧ ev g = .val (.func (.func f) #[] #[]) ∧ frzA h (c.args.toList.map ev) = some (args, ps, u, acc) := by
  unfold rcall at hg
  split at hg
  · exfalso
    split at hg
    · split at hg
      · exact not_nc (rlen_nc _ _) hg
      · cases hg
    · split at hg
      · exact not_nc (rcap_nc _ _) hg
      · cases hg
    · split at hg
      · split at hg
        · split at hg
          · split at hg
            · exact not_nc (rappend_nc _ _ _ _ _) hg
            · exact not_nc (rappend_nc _ _ _ _ _) hg
            · exact not_nc (rgrow_nc _ _ _ _) hg
            · cases hg
          · cases hg
        · cases hg
      · cases hg
    · split at hg
      · split at hg
        · split at hg
          · exact not_nc (rcopy_nc _ _ _ _) hg
          · cases hg
        · cases hg
      · cases hg
    · exact not_nc (rmin_nc _) hg
    · exact not_nc (rmax_nc _) hg
    · cases hg
  · rename_i g hc
    split at hg
    · rename_i f' hev
      split at hg
      · rename_i args' ps' u' a' hfz
        injection hg with e1 e2 e3 e4 e5
        subst e1 e2 e3 e4 e5
        exact ⟨g, hc, hev, hfz⟩
      · cases hg
    · cases hg
  · cases hg

end
end Go.AL
