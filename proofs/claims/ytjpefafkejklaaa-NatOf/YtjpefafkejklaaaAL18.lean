/- An abstract program logic over tree values (part 18): regions that draw their order: what an operation looks at. -/
import Derived.Test.YtjpefafkejklaaaAL17
set_option linter.unusedVariables false
set_option linter.unusedSimpArgs false
namespace Go.AL
open Go Go.RowKit

/-- The live blocks that a value names. -/
def ids1 : AV → List Nat
  | .own id _ _ => [id]
  | .lp id _ => [id]
  | .li id _ _ => [id]
  | .it id => [id]
  | _ => []
def idsOf : AV → List Nat
  | .agg cs => cs.flatMap ids1
  | .tup _ => []
  | x => ids1 x
def opIds (o : Oper) (ev : Operand → AV) : List Nat := o.op.operands.toList.flatMap fun x => idsOf (ev x)
/-- May it change a live block? -/
def isW : Op → Bool
  | .store .. | .next .. | .call _ => true
  | _ => false

section
variable {TT : Nat → Option TI} {ev ev' : Operand → AV} {h h' : Nat → Option LB} {b : Nat}

theorem mem_opIds {o : Oper} {x : Operand} {id : Nat} (hx : x ∈ o.op.operands) (hid : id ∈ idsOf (ev x)) : id ∈ opIds o ev :=
  List.mem_flatMap.2 ⟨x, by simpa using hx, hid⟩

theorem rload_local {i : TI} {x : AV} (hh : ∀ id ∈ idsOf x, h id = h' id) : rload i h x = rload i h' x := by
  cases x with
  | lp id c => simp only [rload, hh id (by simp [idsOf, ids1])]
  | li id r c => simp only [rload, hh id (by simp [idsOf, ids1])]
  | _ => rfl
theorem rstore_local {i : TI} {xs : List AV} {x : AV} (hh : ∀ id ∈ idsOf x, h id = h' id) : rstore i h xs x = rstore i h' xs x := by
  cases x with
  | lp id c => simp only [rstore, hh id (by simp [idsOf, ids1])]
  | li id r c => simp only [rstore, hh id (by simp [idsOf, ids1])]
  | _ => rfl
theorem rslice_local {i : TI} {x : AV} {lo hi mx : Option AV} (hh : ∀ id ∈ idsOf x, h id = h' id) : rslice i TT h x lo hi mx = rslice i TT h' x lo hi mx := by
  unfold rslice
  cases x with
  | own id o l =>
    have e := hh id (by simp [idsOf, ids1])
    cases i.d <;> simp only [e]
  | val v => cases i.d <;> cases v <;> rfl
  | _ => cases i.d <;> rfl
theorem rindexAddr_local {j : TI} {i : Int} {x : AV} (hh : ∀ id ∈ idsOf x, h id = h' id) : rindexAddr j h i x = rindexAddr j h' i x := by
  cases x with
  | own id o l => simp only [rindexAddr, hh id (by simp [idsOf, ids1])]
  | _ => rfl
theorem rconv_local {p q : TI} {x : AV} (hh : ∀ id ∈ idsOf x, h id = h' id) : rconv TT b h p q x = rconv TT b h' p q x := by
  unfold rconv
  cases x with
  | own id o l =>
    have e := hh id (by simp [idsOf, ids1])
    cases q.d <;> simp only [e]
  | val v => cases q.d <;> cases v <;> rfl
  | _ => cases q.d <;> rfl
theorem rsrc_local {x : AV} (hh : ∀ id ∈ idsOf x, h id = h' id) : rsrc h x = rsrc h' x := by
  cases x with
  | own id o l => simp only [rsrc, hh id (by simp [idsOf, ids1])]
  | val v => cases v <;> rfl
  | _ => rfl
theorem rappend_local {j : TI} {x y : AV} (hx : ∀ id ∈ idsOf x, h id = h' id) (hy : ∀ id ∈ idsOf y, h id = h' id) : rappend j b h x y = rappend j b h' x y := by
  unfold rappend
  rw [rsrc_local hy]
  cases x with
  | own id o l => simp only [hx id (by simp [idsOf, ids1])]
  | sl a b t => cases t <;> rfl
  | _ => rfl
theorem rcopy_local {j : TI} {x y : AV} (hx : ∀ id ∈ idsOf x, h id = h' id) (hy : ∀ id ∈ idsOf y, h id = h' id) : rcopy j h x y = rcopy j h' x y := by
  unfold rcopy
  rw [rsrc_local hy]
  generalize rsrc h' y = z
  cases z with
  | none => cases x <;> rfl
  | some z =>
    obtain ⟨sz', ys, ps, acc⟩ := z
    cases x with
    | own id o l => simp only [hx id (by simp [idsOf, ids1])]
    | _ => rfl

theorem updsH_agree : ∀ (u : Ups) (h h' : Nat → Option LB) (id : Nat), h id = h' id → updsH h u id = updsH h' u id
  | [], h, h', id, he => he
  | (d, v) :: u, h, h', id, he => by
    refine updsH_agree u _ _ id ?_
    unfold updH
    rw [he]

theorem frz_local {x : AV} (hh : ∀ id ∈ ids1 x, h id = h' id) : frz h x = frz h' x := by
  cases x with
  | own id o l => simp only [frz, hh id (by simp [ids1])]
  | _ => rfl
theorem frzL_local : ∀ (xs : List AV) (h h' : Nat → Option LB), (∀ id ∈ xs.flatMap ids1, h id = h' id) → frzL h xs = frzL h' xs
  | [], _, _, _ => rfl
  | x :: xs, h, h', hh => by
    simp only [frzL]
    rw [frz_local (h := h) (h' := h') (fun id hid => hh id (by simp [hid]))]
    cases hf : frz h' x with
    | none => rfl
    | some q =>
      obtain ⟨x', p, u, a⟩ := q
      simp only
      rw [frzL_local xs (updsH h u) (updsH h' u) (fun id hid => updsH_agree u h h' id (hh id (by simp only [List.flatMap_cons, List.mem_append]; exact .inr hid)))]
theorem frzA_local : ∀ (xs : List AV) (h h' : Nat → Option LB), (∀ id ∈ xs.flatMap idsOf, h id = h' id) → frzA h xs = frzA h' xs
  | [], _, _, _ => rfl
  | x :: xs, h, h', hh => by
    have hx : ∀ id ∈ idsOf x, h id = h' id := fun id hid => hh id (by simp only [List.flatMap_cons, List.mem_append]; exact .inl hid)
    have hxs : ∀ u : Ups, frzA (updsH h u) xs = frzA (updsH h' u) xs := fun u =>
      frzA_local xs (updsH h u) (updsH h' u) (fun id hid => updsH_agree u h h' id (hh id (by simp only [List.flatMap_cons, List.mem_append]; exact .inr hid)))
    cases x with
    | agg cs =>
      simp only [frzA]
      rw [frzL_local cs h h' hx]
      cases frzL h' cs with
      | none => rfl
      | some q => obtain ⟨x', p, u, a⟩ := q; simp only; rw [hxs u]
    | tup cs =>
      simp only [frzA, frz]
      rw [hxs []]
    | any => simp only [frzA, frz]; rw [hxs []]
    | val v => simp only [frzA, frz]; rw [hxs []]
    | sl a b c => simp only [frzA, frz]; rw [hxs []]
    | fp a b => simp only [frzA, frz]; rw [hxs []]
    | own id o l =>
      simp only [frzA]
      rw [frz_local (h := h) (h' := h') (x := .own id o l) hx]
      cases frz h' (.own id o l) with
      | none => rfl
      | some q => obtain ⟨x', p, u, a⟩ := q; simp only; rw [hxs u]
    | lp id c => rfl
    | li id r c => rfl
    | it id => rfl

theorem rcall_local {c : Call} (hh : ∀ x ∈ c.args.toList, ∀ id ∈ idsOf (ev x), h id = h' id) : rcall TT ev h b c = rcall TT ev h' b c := by
  unfold rcall
  cases c.callee with
  | builtin bb =>
    have two : ∀ {x y : AV}, c.args.toList.map ev = [x, y] → (∀ id ∈ idsOf x, h id = h' id) ∧ (∀ id ∈ idsOf y, h id = h' id) := by
      intro x y he
      obtain ⟨p, q, hpq, rfl, rfl⟩ := args_two he
      have e : c.args.toList = [p, q] := by rw [hpq]
      exact ⟨hh p (by simp [e]), hh q (by simp [e])⟩
    cases bb <;> try rfl
    · -- append
      rcases hl : c.args.toList.map ev with _ | ⟨x, _ | ⟨y, _ | ⟨z, l⟩⟩⟩ <;> try rfl
      obtain ⟨h1, h2⟩ := two hl
      have e : ∀ j, rappend j b h x y = rappend j b h' x y := fun j => rappend_local h1 h2
      rcases c.argTypes.toList with _ | ⟨t, _ | ⟨u, _ | ⟨z, l⟩⟩⟩ <;> first | rfl | simp only [e]
    · -- copy
      rcases hl : c.args.toList.map ev with _ | ⟨x, _ | ⟨y, _ | ⟨z, l⟩⟩⟩ <;> try rfl
      obtain ⟨h1, h2⟩ := two hl
      have e : ∀ j, rcopy j h x y = rcopy j h' x y := fun j => rcopy_local h1 h2
      rcases c.argTypes.toList with _ | ⟨t, l⟩ <;> first | rfl | simp only [e]
    · rcases hl : c.args.toList.map ev with _ | ⟨x, _ | ⟨y, l⟩⟩ <;> rcases c.argTypes.toList with _ | ⟨t, l⟩ <;> rfl
  | value f =>
    simp only
    rw [frzA_local _ h h' (fun id hid => by
      obtain ⟨y, hy, hid⟩ := List.mem_flatMap.1 hid
      obtain ⟨x, hx, rfl⟩ := List.mem_map.1 hy
      exact hh x hx id hid)]
  | invoke _ _ => rfl

theorem aop_local {o : Oper} (hh : ∀ id ∈ opIds o ev, h id = h' id) : aop TT o ev h b = aop TT o ev h' b := by
  have at_ : ∀ x ∈ o.op.operands, ∀ id ∈ idsOf (ev x), h id = h' id := fun x hx id hid => hh id (mem_opIds hx hid)
  obtain ⟨dst, op, ty, pos, after, guard⟩ := o
  cases op <;> try rfl
  case load t x =>
    have e : ∀ i, rload i h (ev x) = rload i h' (ev x) := fun i => rload_local (at_ x (by simp [Op.operands]))
    simp only [aop, e]
  case store t x y =>
    have e : ∀ i xs, rstore i h xs (ev x) = rstore i h' xs (ev x) := fun i xs => rstore_local (at_ x (by simp [Op.operands]))
    simp only [aop, e]
  case convert s d x =>
    have e : ∀ p q, rconv TT b h p q (ev x) = rconv TT b h' p q (ev x) := fun p q => rconv_local (at_ x (by simp [Op.operands]))
    simp only [aop, e]
  case slice t x lo hi mx =>
    have e : ∀ i l u m, rslice i TT h (ev x) l u m = rslice i TT h' (ev x) l u m := fun i l u m => rslice_local (at_ x (by simp [Op.operands]))
    simp only [aop, e]
  case indexAddr t x ix =>
    have e : ∀ j i, rindexAddr j h i (ev x) = rindexAddr j h' i (ev x) := fun j i => rindexAddr_local (at_ x (by simp [Op.operands]))
    simp only [aop, e]
  case next x k =>
    cases k with
    | false => rfl
    | true =>
      simp only [aop]
      have hx := at_ x (by simp [Op.operands])
      cases he : ev x with
      | it id => rw [he] at hx; simp only; rw [hx id (by simp [idsOf, ids1])]
      | _ => rfl
  case call c =>
    simp only [aop]
    exact rcall_local (fun x hx => at_ x (by simp only [Op.operands, Call.operands, Array.mem_append]; right; simpa using hx))

theorem aop_congr {o : Oper} (he : ∀ x ∈ o.op.operands, ev x = ev' x) : aop TT o ev h b = aop TT o ev' h b := by
  obtain ⟨dst, op, ty, pos, after, guard⟩ := o
  have pairs : ∀ ps : Array (Nat × Operand), (∀ x ∈ (ps.toList.map (·.2)).toArray, ev x = ev' x) → (ps.toList.map fun p => (p.1, ev p.2)) = (ps.toList.map fun p => (p.1, ev' p.2)) := fun ps hp =>
    List.map_congr_left fun p hm => by rw [hp p.2 (by simpa using ⟨p.1, by simpa using hm⟩)]
  cases op <;> try rfl
  all_goals simp only [Op.operands] at he
  case build t ps => simp only [aop]; rw [pairs ps he]
  case buildSlice t n ps => simp only [aop]; rw [pairs ps he]
  case call c =>
    simp only [aop]
    have hargs : c.args.toList.map ev = c.args.toList.map ev' := List.map_congr_left fun x hx => he x (by simp only [Call.operands, Array.mem_append]; right; simpa using hx)
    unfold rcall
    rw [hargs]
    cases hc : c.callee with
    | value f => simp only [he f (by simp [Call.operands, hc])]
    | _ => rfl
  case slice t x lo hi mx =>
    simp only [aop]
    have hx := he x (by simp)
    have hl : lo.map ev = lo.map ev' := by cases lo with | none => rfl | some y => simp [he y (by simp)]
    have hh : hi.map ev = hi.map ev' := by cases hi with | none => rfl | some y => simp [he y (by simp)]
    have hm : mx.map ev = mx.map ev' := by cases mx with | none => rfl | some y => simp [he y (by simp)]
    rw [hx, hl, hh, hm]
  case pick c a b => simp only [aop]; rw [he c (by simp), he a (by simp), he b (by simp)]
  case store t x y => simp only [aop]; rw [he x (by simp), he y (by simp)]
  case binOp p t x y u => simp only [aop]; rw [he x (by simp), he y (by simp)]
  case makeSlice t x y => simp only [aop]; rw [he x (by simp), he y (by simp)]
  case indexAddr t x y => simp only [aop]; rw [he x (by simp), he y (by simp)]
  case index t x y => simp only [aop]; rw [he x (by simp), he y (by simp)]
  case next x k =>
    cases k with
    | false => rfl
    | true => simp only [aop]; rw [he x (by simp)]
  case move x => simp only [aop, he x (by simp)]
  case assign x => simp only [aop, he x (by simp)]
  case box e x => simp only [aop, he x (by simp)]
  case load t x => simp only [aop, he x (by simp)]
  case nilCheck x => simp only [aop, he x (by simp)]
  case unOp p t x => simp only [aop, he x (by simp)]
  case convert s d x => simp only [aop, he x (by simp)]
  case fieldAddr s x f => simp only [aop, he x (by simp)]
  case field s x f => simp only [aop, he x (by simp)]
  case range t x => simp only [aop, he x (by simp)]
  case extract x i => simp only [aop, he x (by simp)]
end

end Go.AL
