/- An abstract program logic over tree values (part 19b): what an operation looks at: nothing of the live blocks, their shapes, their content. -/
import Derived.Test.YtjpefafkejklaaaAL19
set_option linter.unusedVariables false
set_option linter.unusedSimpArgs false
namespace Go.AL
open Go Go.RowKit

/-- 0: no live block; 1: whether there is one, and how wide its rows are; 2: all. -/
def dep : Op → Nat
  | .move _ | .assign _ | .pick .. | .alloc _ | .box .. | .build .. | .buildSlice .. | .nilCheck _ | .binOp .. | .unOp .. | .makeSlice .. | .fieldAddr .. | .field .. | .index .. | .range .. | .extract .. => 0
  | .indexAddr .. | .slice .. => 1
  | _ => 2
def isStore : Op → Bool
  | .store .. => true
  | _ => false

/-- A block's shape. -/
def shp : Option LB → Option (Option Nat)
  | none => none
  | some (.cells sz _) => some (some sz)
  | some (.iter _ _) => some none

section
variable {P : Program} {TT : Nat → Option TI} {ev : Operand → AV} {h h' : Nat → Option LB} {b : Nat}

theorem aop_dep0 {o : Oper} (hd : dep o.op = 0) : aop TT o ev h b = aop TT o ev h' b := by
  obtain ⟨dst, op, ty, pos, after, guard⟩ := o
  cases op <;> first | rfl | (simp [dep] at hd)

theorem rslice_shape {i : TI} {x : AV} {lo hi mx : Option AV} (hh : ∀ id ∈ idsOf x, shp (h id) = shp (h' id)) : rslice i TT h x lo hi mx = rslice i TT h' x lo hi mx := by
  unfold rslice
  cases x with
  | own id o l =>
    have e := hh id (by simp [idsOf, ids1])
    cases i.d <;> try rfl
    rename_i el
    simp only
    cases TT el with
    | none => rfl
    | some j =>
      cases h1 : h id with
      | none => cases h2 : h' id with
        | none => rfl
        | some lb => rw [h1, h2] at e; cases lb <;> simp [shp] at e
      | some lb => cases h2 : h' id with
        | none => rw [h1, h2] at e; cases lb <;> simp [shp] at e
        | some lb' =>
          rw [h1, h2] at e
          cases lb <;> cases lb' <;> simp [shp] at e
          · subst e; rfl
          · rfl
  | val v => cases i.d <;> cases v <;> rfl
  | _ => cases i.d <;> rfl

theorem rindexAddr_shape {j : TI} {i : Int} {x : AV} (hh : ∀ id ∈ idsOf x, shp (h id) = shp (h' id)) : rindexAddr j h i x = rindexAddr j h' i x := by
  cases x with
  | own id o l =>
    have e := hh id (by simp [idsOf, ids1])
    simp only [rindexAddr]
    cases h1 : h id with
    | none => cases h2 : h' id with
      | none => rfl
      | some lb => rw [h1, h2] at e; cases lb <;> simp [shp] at e
    | some lb => cases h2 : h' id with
      | none => rw [h1, h2] at e; cases lb <;> simp [shp] at e
      | some lb' =>
        rw [h1, h2] at e
        cases lb <;> cases lb' <;> simp [shp] at e
        · subst e; rfl
        · rfl
  | _ => rfl

theorem aop_dep1 {o : Oper} (hd : dep o.op = 1) (hh : ∀ id ∈ opIds o ev, shp (h id) = shp (h' id)) : aop TT o ev h b = aop TT o ev h' b := by
  have at_ : ∀ x ∈ o.op.operands, ∀ id ∈ idsOf (ev x), shp (h id) = shp (h' id) := fun x hx id hid => hh id (mem_opIds hx hid)
  obtain ⟨dst, op, ty, pos, after, guard⟩ := o
  cases op <;> try (simp [dep] at hd)
  case slice t x lo hi mx =>
    have e : ∀ i l u m, rslice i TT h (ev x) l u m = rslice i TT h' (ev x) l u m := fun i l u m => rslice_shape (at_ x (by simp [Op.operands]))
    simp only [aop, e]
  case indexAddr t x ix =>
    have e : ∀ j i, rindexAddr j h i (ev x) = rindexAddr j h' i (ev x) := fun j i => rindexAddr_shape (at_ x (by simp [Op.operands]))
    simp only [aop, e]

theorem rstore_shape {i : TI} {xs : List AV} {x : AV} {v : AV} {u : Ups} {acc : Accs} (hg : (rstore i h xs x).gives v u acc) : ∀ p ∈ u, shp p.2 = shp (h p.1) := by
  unfold rstore at hg
  split at hg
  · rename_i id c
    split at hg
    · rename_i sz row hl
      cases hc : (Nat.ble (c + i.size) row.length) with
      | false => simp [hc] at hg; exact hg.elim
      | true =>
        simp only [hc, cond_true] at hg
        obtain ⟨_, rfl, _⟩ := hg
        intro p hp; simp at hp; subst hp; simp [hl, shp]
    · exact hg.elim
  · rename_i id r c
    split at hg
    · rename_i sz rows hl
      cases hc : (Nat.beq i.size sz && Nat.beq c 0) with
      | true =>
        simp only [hc, cond_true] at hg
        obtain ⟨_, _, rfl, _⟩ := hg
        intro p hp; simp at hp; subst hp; simp [hl, shp]
      | false =>
        simp only [hc, cond_false] at hg
        cases hc2 : (Nat.ble (c + i.size) sz) with
        | false => simp [hc2] at hg; exact hg.elim
        | true =>
          simp only [hc2, cond_true] at hg
          obtain ⟨row, _, _, rfl, _⟩ := hg
          intro p hp; simp at hp; subst hp; simp [hl, shp]
    · exact hg.elim
  · exact hg.elim

theorem AStep_store {o : Oper} {t : Nat → AV} {v : AV} {u : Ups} {acc : Accs} (hw : isStore o.op = true) (hs : AStep P TT o t h b v u acc) : ∀ p ∈ u, shp p.2 = shp (h p.1) := by
  obtain ⟨dst, op, ty, pos, after, guard⟩ := o
  cases op <;> try (simp [isStore] at hw)
  case store t' x y =>
    rcases hs with hg | ⟨f, args, ps, u0, r, hg, _⟩
    · simp only [aop] at hg
      split at hg
      · rename_i i xs hi hy
        cases hc : (Nat.beq xs.length i.size && !Nat.beq i.size 0) with
        | false => simp [hc] at hg; exact hg.elim
        | true =>
          simp only [hc, cond_true] at hg
          exact rstore_shape hg
      · exact hg.elim
    · obtain ⟨c, ho, _⟩ := aop_call hg
      cases ho

theorem updsH_shape : ∀ (u : Ups) (h : Nat → Option LB), (∀ p ∈ u, shp p.2 = shp (h p.1)) → ∀ id, shp (updsH h u id) = shp (h id)
  | [], h, _, id => rfl
  | (d, v) :: u, h, hh, id => by
    have hd : shp v = shp (h d) := hh (d, v) (by simp)
    have one : ∀ k, shp (updH h d v k) = shp (h k) := by
      intro k
      by_cases e : k = d
      · subst e; rw [updH_same]; exact hd
      · rw [updH_ne _ _ e]
    simp only [updsH]
    rw [updsH_shape u (updH h d v) (fun p hp => by rw [one]; exact hh p (by simp [hp])) id, one]

/-- What an operation looks at stands the same in both. -/
def DepOk (o : Op) (ids : List Nat) (h h' : Nat → Option LB) : Prop := dep o = 0 ∨ (dep o = 1 ∧ ∀ id ∈ ids, shp (h id) = shp (h' id)) ∨ ∀ id ∈ ids, h id = h' id

theorem aop_dep {o : Oper} {ids : List Nat} (hi : opIds o ev = ids) (hd : DepOk o.op ids h h') : aop TT o ev h b = aop TT o ev h' b := by
  subst hi
  rcases hd with hd | ⟨hd, hh⟩ | hh
  · exact aop_dep0 hd
  · exact aop_dep1 hd hh
  · exact aop_local hh

end
end Go.AL
