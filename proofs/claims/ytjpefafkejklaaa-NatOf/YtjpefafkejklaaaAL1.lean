/- An abstract program logic over tree values (part 1): abstract values, how they stand to the machine's values, and what new blocks, stores and freezing do to that. -/
import Derived.WalkKit
import Derived.Below
import Derived.Orders
import Derived.Laws.CopyRow
import Derived.Laws.Append
import Derived.Laws.Rows
import Derived.Laws.RangeString
set_option linter.unusedVariables false
set_option linter.unusedSimpArgs false
namespace Go.AL
open Go Go.RowKit

/-- Abstract values. -/
inductive AV where
  | any
  | val (v : Value)
  | agg (cs : List AV)
  | tup (cs : List AV)
  | sl (sz : Nat) (rows : List (List AV)) (tight : Bool)
  | fp (row : List AV) (c : Nat)
  | own (id off len : Nat)
  | lp (id c : Nat)
  | li (id r c : Nat)
  | it (id : Nat)

instance : Inhabited AV := ⟨.any⟩

/-- Where a live block lies. -/
structure BI where
  blk : Nat
  base : Nat
  sz : Nat
  csz : Nat

/-- A live block's content. -/
inductive LB where
  | cells (sz : Nat) (rows : List (List AV))
  | iter (s : ByteArray) (pos : Nat)

/-- Values that name no live block. -/
inductive NoId : AV → Prop
  | any : NoId .any
  | val (v : Value) : NoId (.val v)
  | agg (cs : List AV) (h : ∀ x ∈ cs, NoId x) : NoId (.agg cs)
  | tup (cs : List AV) (h : ∀ x ∈ cs, NoId x) : NoId (.tup cs)
  | sl (sz : Nat) (rows : List (List AV)) (t : Bool) (h : ∀ r ∈ rows, ∀ x ∈ r, NoId x) : NoId (.sl sz rows t)
  | fp (row : List AV) (c : Nat) (h : ∀ x ∈ row, NoId x) : NoId (.fp row c)

inductive VR (w : World) (F : Nat → Prop) (ρ : Nat → Option BI) : Value → AV → Prop
  | any (v : Value) : VR w F ρ v .any
  | val (v : Value) : VR w F ρ v (.val v)
  | agg (vs : Array Value) (cs : List AV) (h : vs.size = cs.length)
      (h1 : ∀ (i : Nat) (x : AV), cs[i]? = some x → (vs.getD i undef).oneCell' = true)
      (h2 : ∀ (i : Nat) (x : AV), cs[i]? = some x → VR w F ρ (vs.getD i undef) x) : VR w F ρ (.agg vs) (.agg cs)
  | tup (vs : Array Value) (cs : List AV) (h : vs.size = cs.length)
      (h2 : ∀ (i : Nat) (x : AV), cs[i]? = some x → VR w F ρ (vs.getD i undef) x) : VR w F ρ (.tuple vs) (.tup cs)
  | sl (A : Option Addr) (n c sz : Nat) (rows : List (List AV)) (tight : Bool) (b o : Nat) (vals : Nat → Value)
      (hn : n = rows.length) (hc : n ≤ c) (ht : tight = true → c = n) (hw : ∀ r ∈ rows, r.length = sz)
      (hA : rows ≠ [] → A = some ⟨b, o, none⟩ ∧ F b)
      (h0 : ∀ (j : Nat) (x : AV), rows.flatten[j]? = some x → w.cell? ⟨b, o + j, none⟩ = some (vals j))
      (h1 : ∀ (j : Nat) (x : AV), rows.flatten[j]? = some x → (vals j).oneCell' = true)
      (h2 : ∀ (j : Nat) (x : AV), rows.flatten[j]? = some x → VR w F ρ (vals j) x)
      (hno : ∀ (j : Nat) (x : AV), rows.flatten[j]? = some x → NoId x) : VR w F ρ (.slice A n c) (.sl sz rows tight)
  | fp (row : List AV) (c b o : Nat) (vals : Nat → Value) (hF : F b)
      (h0 : ∀ (j : Nat) (x : AV), row[j]? = some x → w.cell? ⟨b, o + j, none⟩ = some (vals j))
      (h1 : ∀ (j : Nat) (x : AV), row[j]? = some x → (vals j).oneCell' = true)
      (h2 : ∀ (j : Nat) (x : AV), row[j]? = some x → VR w F ρ (vals j) x)
      (hno : ∀ (j : Nat) (x : AV), row[j]? = some x → NoId x) : VR w F ρ (.pointer (some ⟨b, o + c, none⟩)) (.fp row c)
  | own (A : Option Addr) (id off len cap : Nat) (bi : BI) (hρ : ρ id = some bi) (hl : len ≤ cap)
      (hA : 0 < cap → A = some ⟨bi.blk, bi.base + off * bi.sz, none⟩ ∧ bi.base + (off + cap) * bi.sz ≤ bi.csz) : VR w F ρ (.slice A len cap) (.own id off len)
  | lp (id c : Nat) (bi : BI) (hρ : ρ id = some bi) : VR w F ρ (.pointer (some ⟨bi.blk, bi.base + c, none⟩)) (.lp id c)
  | li (id r c : Nat) (bi : BI) (hρ : ρ id = some bi) : VR w F ρ (.pointer (some ⟨bi.blk, bi.base + r * bi.sz + c, none⟩)) (.li id r c)
  | it (id : Nat) (bi : BI) (hρ : ρ id = some bi) : VR w F ρ (.pointer (some ⟨bi.blk, 0, none⟩)) (.it id)

theorem VR.mono {w w' : World} {F F' : Nat → Prop} {ρ ρ' : Nat → Option BI} (hF : ∀ b, F b → F' b) (hw : ∀ b, F b → w'.heap[b]? = w.heap[b]?)
    (hρ : ∀ id bi, ρ id = some bi → ρ' id = some bi) {v : Value} {x : AV} (h : VR w F ρ v x) : VR w' F' ρ' v x := by
  induction h with
  | any v => exact .any v
  | val v => exact .val v
  | agg vs cs h h1 h2 ih => exact .agg vs cs h h1 ih
  | tup vs cs h h2 ih => exact .tup vs cs h ih
  | sl A n c sz rows tight b o vals hn hc ht hwd hA h0 h1 h2 hno ih =>
    refine .sl A n c sz rows tight b o vals hn hc ht hwd (fun hr => ⟨(hA hr).1, hF _ (hA hr).2⟩) (fun j x hx => ?_) h1 ih hno
    have hr : rows ≠ [] := fun e => by simp [e] at hx
    rw [← h0 j x hx]
    exact World.cell?_of_block (hw b (hA hr).2)
  | fp row c b o vals hFb h0 h1 h2 hno ih =>
    refine .fp row c b o vals (hF _ hFb) (fun j x hx => ?_) h1 ih hno
    rw [← h0 j x hx]
    exact World.cell?_of_block (hw b hFb)
  | own A id off len cap bi hr hl hA => exact .own A id off len cap bi (hρ _ _ hr) hl hA
  | lp id c bi hr => exact .lp id c bi (hρ _ _ hr)
  | li id r c bi hr => exact .li id r c bi (hρ _ _ hr)
  | it id bi hr => exact .it id bi (hρ _ _ hr)

theorem mem_flat {rows : List (List AV)} {p : AV → Prop} (h : ∀ r ∈ rows, ∀ x ∈ r, p x) {j : Nat} {x : AV} (hx : rows.flatten[j]? = some x) : p x := by
  have hm : x ∈ rows.flatten := List.mem_of_getElem? hx
  obtain ⟨r, hr, hxr⟩ := List.mem_flatten.1 hm
  exact h r hr x hxr

theorem VR.noid {w : World} {F : Nat → Prop} {ρ ρ' : Nat → Option BI} {v : Value} {x : AV} (h : VR w F ρ v x) : NoId x → VR w F ρ' v x := by
  induction h with
  | any v => exact fun _ => .any v
  | val v => exact fun _ => .val v
  | agg vs cs h h1 h2 ih => intro hn; cases hn with | agg _ hh => exact .agg vs cs h h1 fun i x hx => ih i x hx (hh x (List.mem_of_getElem? hx))
  | tup vs cs h h2 ih => intro hn; cases hn with | tup _ hh => exact .tup vs cs h fun i x hx => ih i x hx (hh x (List.mem_of_getElem? hx))
  | sl A n c sz rows tight b o vals hn hc ht hwd hA h0 h1 h2 hno ih =>
    intro hn'
    cases hn' with
    | sl _ _ _ hh => exact .sl A n c sz rows tight b o vals hn hc ht hwd hA h0 h1 (fun j x hx => ih j x hx (hno j x hx)) hno
  | fp row c b o vals hFb h0 h1 h2 hno ih =>
    intro hn'
    cases hn' with
    | fp _ _ hh => exact .fp row c b o vals hFb h0 h1 (fun j x hx => ih j x hx (hno j x hx)) hno
  | own => intro hn; cases hn
  | lp => intro hn; cases hn
  | li => intro hn; cases hn
  | it => intro hn; cases hn

/-- A live block's content stands in the machine's block. -/
def BR (w : World) (F : Nat → Prop) (ρ : Nat → Option BI) (bi : BI) : LB → Prop
  | .cells sz rows => bi.sz = sz ∧ (∀ r ∈ rows, r.length = sz) ∧ (bi.csz = 0 → rows.flatten = []) ∧
      (0 < bi.csz → ∃ cs ty, w.heap[bi.blk]? = some (.cells cs ty (0, 0)) ∧ cs.size = bi.csz ∧ bi.base + rows.length * sz ≤ cs.size ∧
        ∀ (j : Nat) (x : AV), rows.flatten[j]? = some x → (cs.getD (bi.base + j) undef).oneCell' = true ∧ VR w F ρ (cs.getD (bi.base + j) undef) x)
  | .iter s pos => 0 < bi.csz ∧ w.heap[bi.blk]? = some (.stringIter s pos)

theorem BR.mono {w w' : World} {F F' : Nat → Prop} {ρ ρ' : Nat → Option BI} (hF : ∀ b, F b → F' b) (hw : ∀ b, F b → w'.heap[b]? = w.heap[b]?)
    (hρ : ∀ id bi, ρ id = some bi → ρ' id = some bi) {bi : BI} {lb : LB} (hb : 0 < bi.csz → w'.heap[bi.blk]? = w.heap[bi.blk]?) (h : BR w F ρ bi lb) : BR w' F' ρ' bi lb := by
  cases lb with
  | cells sz rows =>
    obtain ⟨h1, h2, h3, h4⟩ := h
    refine ⟨h1, h2, h3, fun hp => ?_⟩
    obtain ⟨cs, ty, g1, g2, g3, g4⟩ := h4 hp
    exact ⟨cs, ty, by rw [hb hp]; exact g1, g2, g3, fun j x hx => ⟨(g4 j x hx).1, (g4 j x hx).2.mono hF hw hρ⟩⟩
  | iter s pos => exact ⟨h.1, by rw [hb h.1]; exact h.2⟩

/-- The abstract state: slots, live blocks, the next block's number, how many slots. -/
structure St where
  t : Nat → AV
  h : Nat → Option LB
  n : Nat
  m : Nat

def upd (t : Nat → AV) (d : Nat) (v : AV) : Nat → AV := fun j => bif Nat.beq j d then v else t j
def updH (h : Nat → Option LB) (d : Nat) (v : Option LB) : Nat → Option LB := fun j => bif Nat.beq j d then v else h j
theorem upd_same (t : Nat → AV) (d : Nat) (v : AV) : upd t d v d = v := by simp [upd]
theorem beq_ne {j d : Nat} (h : j ≠ d) : Nat.beq j d = false := by
  cases hb : Nat.beq j d with
  | false => rfl
  | true => exact absurd (Nat.eq_of_beq_eq_true hb) h
theorem upd_ne (t : Nat → AV) {d j : Nat} (v : AV) (h : j ≠ d) : upd t d v j = t j := by simp [upd, beq_ne h]
theorem updH_same (t : Nat → Option LB) (d : Nat) (v : Option LB) : updH t d v d = v := by simp [updH]
theorem updH_ne (t : Nat → Option LB) {d j : Nat} (v : Option LB) (h : j ≠ d) : updH t d v j = t j := by simp [updH, beq_ne h]
def updsH (h : Nat → Option LB) : List (Nat × Option LB) → Nat → Option LB
  | [] => h
  | (d, v) :: l => updsH (updH h d v) l

/-- The abstract state stands to the machine's: w0 is the world when the function began, F0 what was frozen then; F what is frozen, ρ where the live blocks lie; fr: the numbers that no block has yet. -/
structure Rel (w0 : World) (F0 F : Nat → Prop) (ρ : Nat → Option BI) (fr : Nat → Prop) (s : St) (a : Act) (w : World) : Prop where
  defers : a.defers = []
  size : a.tmps.size = s.m
  below : Below w0.heap.size w0 w
  Fb : ∀ b, F b → b < w.heap.size
  F0F : ∀ b, F0 b → F b
  Fnew : ∀ b, F b → F0 b ∨ w0.heap.size ≤ b
  vals : ∀ t, VR w F ρ (a.tmps.getD t undef) (s.t t)
  blks : ∀ id lb, s.h id = some lb → ∃ bi, ρ id = some bi ∧ BR w F ρ bi lb ∧ (0 < bi.csz → ¬ F bi.blk ∧ w0.heap.size ≤ bi.blk)
  inj : ∀ id id' bi bi', (s.h id).isSome = true → (s.h id').isSome = true → ρ id = some bi → ρ id' = some bi' → 0 < bi.csz → 0 < bi'.csz → id ≠ id' → bi.blk ≠ bi'.blk
  fresh : ∀ id, fr id → ρ id = none

section
variable {w0 w w' : World} {F0 F : Nat → Prop} {ρ : Nat → Option BI} {fr fr' : Nat → Prop} {s : St} {a : Act}

theorem Rel.mono_fr (h : Rel w0 F0 F ρ fr s a w) (hf : ∀ id, fr' id → fr id) : Rel w0 F0 F ρ fr' s a w :=
  { h with fresh := fun id hid => h.fresh id (hf id hid) }

theorem Rel.put (h : Rel w0 F0 F ρ fr s a w) {v' : Value} {v : AV} (hv : VR w F ρ v' v) (d : Nat) (hd : d < s.m) :
    Rel w0 F0 F ρ fr { s with t := upd s.t d v } (a.put (some d) v') w :=
  { h with
    defers := h.defers
    size := by simp [Act.put, h.size]
    vals := fun t => by
      by_cases e : t = d
      · subst e
        have hlt : t < a.tmps.size := by rw [h.size]; exact hd
        have : (a.put (some t) v').tmps.getD t undef = v' := by simp [Act.put, hlt]
        rw [this]
        show VR w F ρ v' (upd s.t t v t)
        rw [upd_same]
        exact hv
      · have : (a.put (some d) v').tmps.getD t undef = a.tmps.getD t undef := by simp [Act.put, Array.getElem?_setIfInBounds_ne (Ne.symm e)]
        rw [this]
        show VR w F ρ _ (upd s.t d v t)
        rw [upd_ne _ _ e]
        exact h.vals t }

/-- The world goes on: only draws, or blocks that are new. -/
theorem Rel.world (h : Rel w0 F0 F ρ fr s a w) (hs : w.heap.size ≤ w'.heap.size) (hb : ∀ k, k < w.heap.size → w'.heap[k]? = w.heap[k]?) (ho : w'.os = w.os) (ht : w'.tape = w.tape) (hu : w'.output = w.output) :
    Rel w0 F0 F ρ fr s a w' := by
  have hF : ∀ b, F b → w'.heap[b]? = w.heap[b]? := fun b hb' => hb b (h.Fb b hb')
  refine { h with below := ?_, Fb := fun b hb' => Nat.lt_of_lt_of_le (h.Fb b hb') hs, vals := fun t => (h.vals t).mono (fun _ h => h) hF (fun _ _ h => h), blks := fun id lb hl => ?_ }
  · have hb0 := h.below
    exact ⟨ho.trans hb0.os, ht.trans hb0.tape, hu.trans hb0.output, Nat.le_trans hb0.size hs, fun k hk => (hb k (Nat.lt_of_lt_of_le hk hb0.size)).trans (hb0.block k hk)⟩
  · obtain ⟨bi, h1, h2, h3⟩ := h.blks id lb hl
    refine ⟨bi, h1, h2.mono (fun _ h => h) hF (fun _ _ h => h) (fun hp => hb _ ?_), h3⟩
    cases lb with
    | cells sz rows => obtain ⟨cs, ty, g1, _⟩ := h2.2.2.2 hp; exact (Array.getElem?_eq_some_iff.1 g1).1
    | iter s pos => exact (Array.getElem?_eq_some_iff.1 h2.2).1

theorem Rel.drew (h : Rel w0 F0 F ρ fr s a w) : Rel w0 F0 F ρ fr s a w.drew := h.world (Nat.le_refl _) (fun _ _ => rfl) rfl rfl rfl

def putρ (ρ : Nat → Option BI) (id : Nat) (bi : BI) : Nat → Option BI := fun j => if j = id then some bi else ρ j

theorem putρ_ext {ρ : Nat → Option BI} {id : Nat} (hid : ρ id = none) (bi : BI) : ∀ j b, ρ j = some b → putρ ρ id bi j = some b := by
  intro j b hj
  unfold putρ
  split
  · rename_i e; subst e; rw [hid] at hj; cases hj
  · exact hj

/-- A number is given to a block that stands in the world and that nothing else names. -/
theorem Rel.name (h : Rel w0 F0 F ρ fr s a w) (id : Nat) (hid : fr id) (bi : BI) (lb : LB) (hbr : BR w F ρ bi lb) (hF : 0 < bi.csz → ¬ F bi.blk ∧ w0.heap.size ≤ bi.blk)
    (hnew : 0 < bi.csz → ∀ id' bi', (s.h id').isSome = true → ρ id' = some bi' → 0 < bi'.csz → bi'.blk ≠ bi.blk) :
    Rel w0 F0 F (putρ ρ id bi) (fun j => fr j ∧ j ≠ id) { s with h := updH s.h id (some lb) } a w := by
  have hn := h.fresh id hid
  have he := putρ_ext hn bi
  refine { h with vals := fun t => (h.vals t).mono (fun _ h => h) (fun _ _ => rfl) he, blks := fun j lb' hl => ?_, inj := fun i j b1 b2 h1 h2 r1 r2 p1 p2 hne => ?_, fresh := fun j hj => ?_ }
  · by_cases e : j = id
    · subst e
      have hl' : updH s.h j (some lb) j = some lb' := hl
      rw [updH_same] at hl'
      injection hl' with hl'
      subst hl'
      exact ⟨bi, by simp [putρ], hbr.mono (fun _ h => h) (fun _ _ => rfl) he (fun _ => rfl), hF⟩
    · have hl' : updH s.h id (some lb) j = some lb' := hl
      rw [updH_ne _ _ e] at hl'
      obtain ⟨b, g1, g2, g3⟩ := h.blks j lb' hl'
      exact ⟨b, he _ _ g1, g2.mono (fun _ h => h) (fun _ _ => rfl) he (fun _ => rfl), g3⟩
  · have g : ∀ k b, ((updH s.h id (some lb)) k).isSome = true → putρ ρ id bi k = some b → (k = id ∧ b = bi) ∨ (k ≠ id ∧ (s.h k).isSome = true ∧ ρ k = some b) := by
      intro k b hk hr
      by_cases e : k = id
      · subst e; simp [putρ] at hr; exact .inl ⟨rfl, hr.symm⟩
      · rw [updH_ne _ _ e] at hk; simp [putρ, e] at hr; exact .inr ⟨e, hk, hr⟩
    rcases g i b1 h1 r1 with ⟨e1, f1⟩ | ⟨e1, g1, f1⟩ <;> rcases g j b2 h2 r2 with ⟨e2, f2⟩ | ⟨e2, g2, f2⟩
    · exact absurd (e1.trans e2.symm) hne
    · subst f1; exact (hnew p1 j b2 g2 f2 p2).symm
    · subst f2; exact hnew p2 i b1 g1 f1 p1
    · exact h.inj i j b1 b2 g1 g2 f1 f2 p1 p2 hne
  · show putρ ρ id bi j = none
    simp [putρ, hj.2, h.fresh j hj.1]

theorem Rel.blk_lt (h : Rel w0 F0 F ρ fr s a w) {id : Nat} {bi : BI} (hi : (s.h id).isSome = true) (hr : ρ id = some bi) (hp : 0 < bi.csz) : bi.blk < w.heap.size := by
  obtain ⟨lb, hl⟩ := Option.isSome_iff_exists.1 hi
  obtain ⟨b, g1, g2, g3⟩ := h.blks id lb hl
  rw [hr] at g1
  injection g1 with g1
  subst g1
  cases lb with
  | cells sz rows => obtain ⟨cs, ty, q1, _⟩ := g2.2.2.2 hp; exact (Array.getElem?_eq_some_iff.1 q1).1
  | iter s pos => exact (Array.getElem?_eq_some_iff.1 g2.2).1

/-- A new row of cells. -/
theorem Rel.alloc (h : Rel w0 F0 F ρ fr s a w) (id : Nat) (hid : fr id) (cs : Array Value) (ty : TypeId) (sz : Nat) (rows : List (List AV)) (hw : ∀ r ∈ rows, r.length = sz) (hl : rows.length * sz ≤ cs.size)
    (hc : ∀ (j : Nat) (x : AV), rows.flatten[j]? = some x → (cs.getD j undef).oneCell' = true ∧ VR w F ρ (cs.getD j undef) x) :
    Rel w0 F0 F (putρ ρ id ⟨w.heap.size, 0, sz, cs.size⟩) (fun j => fr j ∧ j ≠ id) { s with h := updH s.h id (some (.cells sz rows)) } a (w.alloc (.cells cs ty)) := by
  have h' : Rel w0 F0 F ρ fr s a (w.alloc (.cells cs ty)) := h.world (by simp) (fun k hk => Below.heap_alloc w _ k hk) rfl rfl rfl
  have hm : ∀ {v x}, VR w F ρ v x → VR (w.alloc (.cells cs ty)) F ρ v x := fun hv => hv.mono (fun _ h => h) (fun b hb => Below.heap_alloc w _ b (h.Fb b hb)) (fun _ _ h => h)
  refine h'.name id hid _ _ ⟨rfl, hw, fun h0 => ?_, fun hp => ⟨cs, ty, heap_alloc_new w _, rfl, by simpa using hl, fun j x hx => ?_⟩⟩ (fun hp => ⟨fun hF => ?_, ?_⟩) ?_
  · have h0' : cs.size = 0 := h0
    by_cases hz : rows.flatten = []
    · exact hz
    · exfalso
      obtain ⟨x, hx⟩ : ∃ x, rows.flatten[0]? = some x := by
        cases hf : rows.flatten with
        | nil => exact absurd hf hz
        | cons x l => exact ⟨x, rfl⟩
      have := (hc 0 x hx).1
      simp [Array.getD, h0', undef, Value.oneCell'] at this
  · have := hc j x hx
    simp only [Nat.zero_add]
    exact ⟨this.1, hm this.2⟩
  · have := h.Fb _ hF; simp at this
  · exact h.below.size
  · intro hp id' bi' hi hr hp' he
    have h1 : bi'.blk < w.heap.size := h.blk_lt hi hr hp'
    rw [he] at h1
    exact Nat.lt_irrefl _ h1

/-- A live block is left alone from here on: what stands in it is frozen. -/
theorem Rel.forget (h : Rel w0 F0 F ρ fr s a w) (id : Nat) : Rel w0 F0 F ρ fr { s with h := updH s.h id none } a w := by
  have g : ∀ j lb, updH s.h id none j = some lb → s.h j = some lb := by
    intro j lb hj
    by_cases e : j = id
    · subst e; rw [updH_same] at hj; cases hj
    · rwa [updH_ne _ _ e] at hj
  refine { h with blks := fun j lb hl => h.blks j lb (g j lb hl), inj := fun i j b1 b2 h1 h2 => ?_ }
  obtain ⟨l1, g1⟩ := Option.isSome_iff_exists.1 h1
  obtain ⟨l2, g2⟩ := Option.isSome_iff_exists.1 h2
  exact h.inj i j b1 b2 (by rw [g i l1 g1]; rfl) (by rw [g j l2 g2]; rfl)

theorem Rel.freeze (h : Rel w0 F0 F ρ fr s a w) (id : Nat) (bi : BI) (hi : (s.h id).isSome = true) (hr : ρ id = some bi) (hp : 0 < bi.csz) :
    Rel w0 F0 (fun b => F b ∨ b = bi.blk) ρ fr { s with h := updH s.h id none } a w := by
  have h' := h.forget id
  have hF : ∀ b, F b → (F b ∨ b = bi.blk) := fun b hb => .inl hb
  have hge : w0.heap.size ≤ bi.blk := by
    obtain ⟨lb, hl⟩ := Option.isSome_iff_exists.1 hi
    obtain ⟨b, g1, g2, g3⟩ := h.blks id lb hl
    rw [hr] at g1; injection g1 with g1; subst g1
    exact (g3 hp).2
  refine { h' with Fb := fun b hb => ?_, F0F := fun b hb => .inl (h.F0F b hb), Fnew := fun b hb => ?_, vals := fun t => (h'.vals t).mono hF (fun _ _ => rfl) (fun _ _ h => h), blks := fun j lb hl => ?_ }
  · rcases hb with hb | rfl
    · exact h.Fb b hb
    · exact h.blk_lt hi hr hp
  · rcases hb with hb | rfl
    · exact h.Fnew b hb
    · exact .inr hge
  · obtain ⟨b, g1, g2, g3⟩ := h'.blks j lb hl
    refine ⟨b, g1, g2.mono hF (fun _ _ => rfl) (fun _ _ h => h) (fun _ => rfl), fun hp' => ⟨fun hc => ?_, (g3 hp').2⟩⟩
    rcases hc with hc | hc
    · exact (g3 hp').1 hc
    · have e : j ≠ id := fun e => by
        have hl' : updH s.h id none j = some lb := hl
        rw [e, updH_same] at hl'; cases hl'
      have hl' : s.h j = some lb := by
        have hl'' : updH s.h id none j = some lb := hl
        rwa [updH_ne _ _ e] at hl''
      exact h.inj j id b bi (by rw [hl']; rfl) hi g1 hr hp' hp e hc

/-- A live block's cells are written. -/
theorem Rel.write (h : Rel w0 F0 F ρ fr s a w) (id : Nat) (bi : BI) (sz : Nat) (rows rows' : List (List AV)) (hl : s.h id = some (.cells sz rows)) (hr : ρ id = some bi) (hp : 0 < bi.csz)
    (cs' : Array Value) (ty : TypeId) (cs : Array Value) (hg : w.heap[bi.blk]? = some (.cells cs ty (0, 0))) (hsz : cs'.size = bi.csz)
    (hw : ∀ r ∈ rows', r.length = sz) (hl' : bi.base + rows'.length * sz ≤ cs'.size)
    (hc : ∀ (j : Nat) (x : AV), rows'.flatten[j]? = some x → (cs'.getD (bi.base + j) undef).oneCell' = true ∧ VR w F ρ (cs'.getD (bi.base + j) undef) x) :
    Rel w0 F0 F ρ fr { s with h := updH s.h id (some (.cells sz rows')) } a (w.setRow bi.blk cs') := by
  obtain ⟨b0, g1, g2, g3⟩ := h.blks id _ hl
  rw [hr] at g1; injection g1 with g1; subst g1
  have hnF := (g3 hp).1
  have hge := (g3 hp).2
  have hoth : ∀ k, k ≠ bi.blk → (w.setRow bi.blk cs').heap[k]? = w.heap[k]? := by
    intro k hk
    simp only [World.setRow, Array.getElem?_modify]
    rw [if_neg (by omega)]
  have hF : ∀ b, F b → (w.setRow bi.blk cs').heap[b]? = w.heap[b]? := fun b hb => hoth b (fun e => hnF (e ▸ hb))
  have hm : ∀ {v x}, VR w F ρ v x → VR (w.setRow bi.blk cs') F ρ v x := fun hv => hv.mono (fun _ h => h) hF (fun _ _ h => h)
  refine { h with below := ?_, Fb := fun b hb => by simpa using h.Fb b hb, vals := fun t => hm (h.vals t), blks := fun j lb hj => ?_, inj := fun i j b1 b2 h1 h2 => ?_ }
  · have hb := h.below
    refine hb.trans ⟨rfl, rfl, rfl, by simp, fun k hk => hoth k (by omega)⟩
  · by_cases e : j = id
    · subst e
      have hj' : updH s.h j (some (.cells sz rows')) j = some lb := hj
      rw [updH_same] at hj'; injection hj' with hj'; subst hj'
      refine ⟨bi, hr, ⟨g2.1, hw, fun h0 => by omega, fun _ => ⟨cs', ty, setRow_heap w bi.blk cs cs' ty _ hg, hsz, hl', fun j x hx => ⟨(hc j x hx).1, hm (hc j x hx).2⟩⟩⟩, g3⟩
    · have hj' : updH s.h id (some (.cells sz rows')) j = some lb := hj
      rw [updH_ne _ _ e] at hj'
      obtain ⟨b, q1, q2, q3⟩ := h.blks j lb hj'
      refine ⟨b, q1, q2.mono (fun _ h => h) hF (fun _ _ h => h) (fun hp' => hoth _ ?_), q3⟩
      exact h.inj j id b bi (by rw [hj']; rfl) (by rw [hl]; rfl) q1 hr hp' hp e
  · have g : ∀ k, ((updH s.h id (some (.cells sz rows'))) k).isSome = true → (s.h k).isSome = true := by
      intro k hk
      by_cases e : k = id
      · subst e; rw [hl]; rfl
      · rwa [updH_ne _ _ e] at hk
    exact h.inj i j b1 b2 (g i h1) (g j h2)

end
end Go.AL
