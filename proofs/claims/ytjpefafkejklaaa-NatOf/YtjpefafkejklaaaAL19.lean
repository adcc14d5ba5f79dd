/- An abstract program logic over tree values (part 19): regions that draw their order. -/
import Derived.Test.YtjpefafkejklaaaAL18
set_option linter.unusedVariables false
set_option linter.unusedSimpArgs false
namespace Go.AL
open Go Go.RowKit

theorem frz_ups {h : Nat → Option LB} {x x' : AV} {ps : List Prop} {u : Ups} {acc : Accs} (hf : frz h x = some (x', ps, u, acc)) : ∀ p ∈ u, p.1 ∈ ids1 x := by
  cases x with
  | own id o l =>
    simp only [frz] at hf
    split at hf
    · rename_i sz rows _
      cases hz : Nat.beq sz 0 with
      | true => simp [hz] at hf
      | false =>
        simp only [hz, cond_false, Option.some.injEq, Prod.mk.injEq] at hf
        obtain ⟨_, _, rfl, _⟩ := hf
        intro p hp
        simp at hp
        simp [hp, ids1]
    · cases hf
  | lp _ _ => cases hf
  | li _ _ _ => cases hf
  | it _ => cases hf
  | _ =>
    simp only [frz, Option.some.injEq, Prod.mk.injEq] at hf
    obtain ⟨_, _, rfl, _⟩ := hf
    intro p hp; cases hp

theorem frzL_ups : ∀ (xs : List AV) (h : Nat → Option LB) (xs' : List AV) (ps : List Prop) (u : Ups) (acc : Accs), frzL h xs = some (xs', ps, u, acc) → ∀ p ∈ u, p.1 ∈ xs.flatMap ids1
  | [], h, xs', ps, u, acc, hf => by
    simp only [frzL, Option.some.injEq, Prod.mk.injEq] at hf
    obtain ⟨_, _, rfl, _⟩ := hf
    intro p hp; cases hp
  | x :: xs, h, xs', ps, u, acc, hf => by
    simp only [frzL] at hf
    cases h1 : frz h x with
    | none => simp [h1] at hf
    | some q =>
      obtain ⟨x1, p1, u1, a1⟩ := q
      simp only [h1] at hf
      cases h2 : frzL (updsH h u1) xs with
      | none => simp [h2] at hf
      | some q =>
        obtain ⟨xs2, p2, u2, a2⟩ := q
        simp only [h2, Option.some.injEq, Prod.mk.injEq] at hf
        obtain ⟨_, _, rfl, _⟩ := hf
        intro p hp
        rw [List.flatMap_cons, List.mem_append]
        rcases List.mem_append.1 hp with hp | hp
        · exact .inl (frz_ups h1 p hp)
        · exact .inr (frzL_ups xs _ _ _ _ _ h2 p hp)

theorem frzA_ups : ∀ (xs : List AV) (h : Nat → Option LB) (xs' : List AV) (ps : List Prop) (u : Ups) (acc : Accs), frzA h xs = some (xs', ps, u, acc) → ∀ p ∈ u, p.1 ∈ xs.flatMap idsOf
  | [], h, xs', ps, u, acc, hf => by
    simp only [frzA, Option.some.injEq, Prod.mk.injEq] at hf
    obtain ⟨_, _, rfl, _⟩ := hf
    intro p hp; cases hp
  | x :: xs, h, xs', ps, u, acc, hf => by
    have step : ∀ (x1 : AV) (p1 : List Prop) (u1 : Ups) (a1 : Accs), (∀ p ∈ u1, p.1 ∈ idsOf x) →
        (match frzA (updsH h u1) xs with
          | some (xs2, p2, u2, a2) => some (x1 :: xs2, p1 ++ p2, u1 ++ u2, a1 ++ a2)
          | none => none) = some (xs', ps, u, acc) → ∀ p ∈ u, p.1 ∈ (x :: xs).flatMap idsOf := by
      intro x1 p1 u1 a1 hone hf
      cases h2 : frzA (updsH h u1) xs with
      | none => simp [h2] at hf
      | some q =>
        obtain ⟨xs2, p2, u2, a2⟩ := q
        simp only [h2, Option.some.injEq, Prod.mk.injEq] at hf
        obtain ⟨_, _, rfl, _⟩ := hf
        intro p hp
        rw [List.flatMap_cons, List.mem_append]
        rcases List.mem_append.1 hp with hp | hp
        · exact .inl (hone p hp)
        · exact .inr (frzA_ups xs _ _ _ _ _ h2 p hp)
    have two : ∀ (hne : ∀ cs, x ≠ .agg cs), (match frz h x with
        | some (x', p, u, a) => match frzA (updsH h u) xs with
          | some (xs', p', u', a') => some (x' :: xs', p ++ p', u ++ u', a ++ a')
          | none => none
        | none => none) = some (xs', ps, u, acc) → ∀ p ∈ u, p.1 ∈ (x :: xs).flatMap idsOf := by
      intro hne hf
      cases h1 : frz h x with
      | none => simp [h1] at hf
      | some q =>
        obtain ⟨x1, p1, u1, a1⟩ := q
        simp only [h1] at hf
        refine step x1 p1 u1 a1 (fun p hp => ?_) hf
        have hm := frz_ups h1 p hp
        cases x with
        | agg cs => exact absurd rfl (hne cs)
        | tup cs => exact absurd hm (by simp [ids1])
        | _ => exact hm
    cases x with
    | agg cs =>
      simp only [frzA] at hf
      cases h1 : frzL h cs with
      | none => simp [h1] at hf
      | some q =>
        obtain ⟨x1, p1, u1, a1⟩ := q
        simp only [h1] at hf
        exact step (.agg x1) p1 u1 a1 (fun p hp => frzL_ups cs h _ _ _ _ h1 p hp) hf
    | _ => exact two (fun cs e => by cases e) hf

/-- What an operation changes: live blocks that its operands name, if it may; or new ones. -/
def UpsOk (o : Oper) (ev : Operand → AV) (b : Nat) (u : Ups) : Prop := ∀ p ∈ u, (p.1 ∈ opIds o ev ∧ isW o.op = true) ∨ (b ≤ p.1 ∧ p.1 < b + 8)

theorem AStep_ups {P : Program} {TT : Nat → Option TI} {o : Oper} {t : Nat → AV} {h : Nat → Option LB} {b : Nat} {v : AV} {u : Ups} {acc : Accs} (hs : AStep P TT o t h b v u acc) : UpsOk o (aval t) b u := by
  rcases hs with hg | ⟨f, args, ps, u0, r, hg, hp, hA, rfl, rfl⟩
  · have new : ∀ {x : Option LB}, UpsOk o (aval t) b [(b, x)] := fun {x} p hp => by simp at hp; subst hp; exact .inr ⟨Nat.le_refl _, by show b < b + 8; omega⟩
    have nil : UpsOk o (aval t) b [] := fun p hp => by cases hp
    unfold aop at hg
    split at hg
    case h_9 t' x y ho =>
      split at hg
      · rename_i i xs hi hy
        cases hc : (Nat.beq xs.length i.size && !Nat.beq i.size 0) with
        | false => simp [hc] at hg; exact hg.elim
        | true =>
          simp only [hc, cond_true] at hg
          have hw : isW o.op = true := by rw [ho]; rfl
          have main : ∀ p ∈ u, p.1 ∈ idsOf (aval t x) := by
            cases hx : aval t x with
            | lp id c =>
              rw [hx] at hg
              simp only [rstore] at hg
              split at hg
              · rename_i sz row hl
                cases hc2 : (Nat.ble (c + i.size) row.length) with
                | false => simp [hc2] at hg; exact hg.elim
                | true =>
                  simp only [hc2, cond_true] at hg
                  obtain ⟨_, rfl, _⟩ := hg
                  intro p hp; simp at hp; simp [hp, idsOf, ids1]
              · exact hg.elim
            | li id r c =>
              rw [hx] at hg
              simp only [rstore] at hg
              split at hg
              · rename_i sz rows hl
                cases hc2 : (Nat.beq i.size sz && Nat.beq c 0) with
                | true =>
                  simp only [hc2, cond_true] at hg
                  obtain ⟨_, _, rfl, _⟩ := hg
                  intro p hp; simp at hp; simp [hp, idsOf, ids1]
                | false =>
                  simp only [hc2, cond_false] at hg
                  cases hc3 : (Nat.ble (c + i.size) sz) with
                  | false => simp [hc3] at hg; exact hg.elim
                  | true =>
                    simp only [hc3, cond_true] at hg
                    obtain ⟨row, _, _, rfl, _⟩ := hg
                    intro p hp; simp at hp; simp [hp, idsOf, ids1]
              · exact hg.elim
            | _ => rw [hx] at hg; exact hg.elim
          exact fun p hp => .inl ⟨mem_opIds (by rw [ho]; simp [Op.operands]) (main p hp), hw⟩
      · exact hg.elim
    case h_21 x ho =>
      split at hg
      · rename_i id hx
        split at hg
        · rename_i sv pos hl
          have hid : id ∈ opIds o (aval t) := mem_opIds (x := x) (by rw [ho]; simp [Op.operands]) (by rw [hx]; simp [idsOf, ids1])
          rcases hg with ⟨_, _, rfl, _⟩ | ⟨_, _, rfl, _⟩
          · intro p hp; simp at hp; subst hp; exact .inl ⟨hid, by rw [ho]; rfl⟩
          · exact nil
        · exact hg.elim
      · exact hg.elim
    case h_23 c ho =>
      have hw : isW o.op = true := by rw [ho]; rfl
      unfold rcall at hg
      split at hg
      · rename_i bb hc
        split at hg
        · split at hg
          · unfold rlen at hg
            split at hg <;> first | exact hg.elim | (obtain ⟨_, rfl, _⟩ := hg; exact nil)
          · exact hg.elim
        · rename_i x y t0 u' hargs htys
          obtain ⟨p, q, hpq, rfl, rfl⟩ := args_two hargs
          have hmem : ∀ id ∈ idsOf (aval t p), id ∈ opIds o (aval t) := fun id hid => mem_opIds (x := p) (by rw [ho]; simp [Op.operands, Call.operands, hpq]) hid
          have main : ∀ j, (rappend j b h (aval t p) (aval t q)).gives v u acc → UpsOk o (aval t) b u := by
            intro j hg
            unfold rappend at hg
            split at hg
            · rename_i sz' ys ps acc' hsrc
              cases hc1 : ((Nat.beq j.size sz' || Nat.beq ys.length 0) && !Nat.beq j.bytes 0) with
              | false => simp [hc1] at hg; exact hg.elim
              | true =>
                simp only [hc1, cond_true] at hg
                split at hg
                · rename_i sz rows hx
                  cases hc2 : (Nat.beq j.size sz || Nat.beq rows.length 0) with
                  | false => simp [hc2] at hg; exact hg.elim
                  | true =>
                    simp only [hc2, cond_true] at hg
                    obtain ⟨_, _, rfl, _⟩ := hg
                    exact new
                · rename_i id off len hx
                  split at hg
                  · rename_i sz rows hlb
                    cases hc2 : (Nat.beq j.size sz) with
                    | false => simp [hc2] at hg; exact hg.elim
                    | true =>
                      simp only [hc2, cond_true] at hg
                      obtain ⟨_, _, rfl, _⟩ := hg
                      intro pp hpp
                      rcases List.mem_cons.1 hpp with rfl | hpp
                      · exact .inl ⟨hmem id (by rw [hx]; simp [idsOf, ids1]), hw⟩
                      · simp at hpp; subst hpp; exact .inr ⟨Nat.le_refl _, by show b < b + 8; omega⟩
                  · exact hg.elim
                · exact hg.elim
            · exact hg.elim
          split at hg
          · split at hg
            · split at hg
              · split at hg
                · exact main _ hg
                · exact main _ hg
                · exact hg.elim
              · exact hg.elim
            · exact hg.elim
          · exact hg.elim
        · rename_i x y t0 _ hargs htys
          obtain ⟨p, q, hpq, rfl, rfl⟩ := args_two hargs
          have hmem : ∀ id ∈ idsOf (aval t p), id ∈ opIds o (aval t) := fun id hid => mem_opIds (x := p) (by rw [ho]; simp [Op.operands, Call.operands, hpq]) hid
          split at hg
          · split at hg
            · split at hg
              · rename_i j hj
                unfold rcopy at hg
                split at hg
                · rename_i sz' ys ps acc' id off len hsrc hx
                  split at hg
                  · rename_i sz rows hlb
                    cases hc1 : (Nat.beq j.size sz' && Nat.beq j.size sz) with
                    | false => simp [hc1] at hg; exact hg.elim
                    | true =>
                      simp only [hc1, cond_true] at hg
                      obtain ⟨_, _, rfl, _⟩ := hg
                      intro pp hpp; simp at hpp; subst hpp
                      exact .inl ⟨hmem id (by rw [hx]; simp [idsOf, ids1]), hw⟩
                  · exact hg.elim
                · exact hg.elim
              · exact hg.elim
            · exact hg.elim
          · exact hg.elim
        · unfold rmin at hg
          split at hg
          · rename_i k m k' n hl
            cases hk : ikeq k k' with
            | false => simp [hk] at hg; exact hg.elim
            | true => simp only [hk, cond_true] at hg; obtain ⟨_, rfl, _⟩ := hg; exact nil
          · exact hg.elim
        · unfold rmax at hg
          split at hg
          · rename_i k m k' n hl
            cases hk : ikeq k k' with
            | false => simp [hk] at hg; exact hg.elim
            | true => simp only [hk, cond_true] at hg; obtain ⟨_, rfl, _⟩ := hg; exact nil
          · exact hg.elim
        · exact hg.elim
      · split at hg
        · split at hg
          · exact hg.elim
          · exact hg.elim
        · exact hg.elim
      · exact hg.elim
    case h_3 c x y ho =>
      split at hg
      · rcases hg with ⟨_, _, rfl, _⟩ | ⟨_, _, rfl, _⟩ <;> exact nil
      · exact hg.elim
    case h_8 t' x ho =>
      split at hg
      · obtain ⟨row, c, ⟨_, rfl⟩, _⟩ := rload_inv hg
        exact nil
      · exact hg.elim
    all_goals
      revert hg
      (try unfold rbin)
      (try unfold runop)
      (try unfold rslice)
      (try unfold rindexAddr)
      (try unfold rconv)
      (try simp only [cond_eq_ite])
      repeat' split
      all_goals
        intro hg
        first
          | exact hg.elim
          | (obtain ⟨_, rfl, _⟩ := hg; first | exact nil | exact new)
          | (obtain ⟨_, _, rfl, _⟩ := hg; first | exact nil | exact new)
          | (obtain ⟨_, _, _, rfl, _⟩ := hg; first | exact nil | exact new)
          | (rcases hg with ⟨_, _, rfl, _⟩ | ⟨_, _, rfl, _⟩ <;> first | exact nil | exact new)
  · obtain ⟨c, ho, hc⟩ := aop_call hg
    obtain ⟨g, hcal, hev, hfz⟩ := rcall_inv hc
    intro p hp
    rcases List.mem_append.1 hp with hp | hp
    · left
      refine ⟨?_, by rw [ho]; rfl⟩
      have := frzA_ups _ _ _ _ _ _ hfz p hp
      obtain ⟨y, hy, hid⟩ := List.mem_flatMap.1 this
      obtain ⟨x, hx, rfl⟩ := List.mem_map.1 hy
      exact mem_opIds (x := x) (by rw [ho]; simp only [Op.operands, Call.operands, Array.mem_append]; right; simpa using hx) hid
    · right
      cases r with
      | pure v => cases hp
      | fresh sz rows => simp [AR.u] at hp; subst hp; exact ⟨Nat.le_refl _, by show b < b + 8; omega⟩

end Go.AL
