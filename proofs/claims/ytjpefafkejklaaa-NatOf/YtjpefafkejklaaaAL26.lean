/- An abstract program logic over tree values (part 26): an empty slice is an empty slice of any width. -/
import Derived.Test.YtjpefafkejklaaaAL25
set_option linter.unusedVariables false
set_option linter.unusedSimpArgs false
namespace Go.AL
open Go Go.RowKit

/-- What is known of a value may be less. -/
inductive AVle : AV → AV → Prop
  | refl (x : AV) : AVle x x
  | sl (a b : Nat) (t : Bool) : AVle (.sl a [] t) (.sl b [] false)
  | agg (xs ys : List AV) (hl : xs.length = ys.length) (h : ∀ (i : Nat) (x y : AV), xs[i]? = some x → ys[i]? = some y → AVle x y) : AVle (.agg xs) (.agg ys)
  | tup (xs ys : List AV) (hl : xs.length = ys.length) (h : ∀ (i : Nat) (x y : AV), xs[i]? = some x → ys[i]? = some y → AVle x y) : AVle (.tup xs) (.tup ys)

section
variable {w : World} {F : Nat → Prop} {ρ : Nat → Option BI}

theorem VR.le {x y : AV} (hle : AVle x y) : ∀ {v : Value}, VR w F ρ v x → VR w F ρ v y := by
  induction hle with
  | refl x => exact fun h => h
  | sl a b t =>
    intro v h
    cases h with
    | sl A n c _ _ _ bl o vals hn hc ht hw hA h0 h1 h2 hno =>
      exact .sl A n c b [] false bl o vals hn hc (fun h => by cases h) (fun r hr => (nomatch hr)) (fun h => absurd rfl h) (fun j x hx => by simp at hx) (fun j x hx => by simp at hx) (fun j x hx => by simp at hx) (fun j x hx => by simp at hx)
  | agg xs ys hl h ih =>
    intro v hv
    cases hv with
    | agg vs _ hs h1 h2 =>
      have get : ∀ (i : Nat) (y : AV), ys[i]? = some y → ∃ x, xs[i]? = some x := fun i y hy => by
        have := (List.getElem?_eq_some_iff.1 hy).1
        exact ⟨xs[i], List.getElem?_eq_getElem (by omega)⟩
      exact .agg vs ys (by omega) (fun i y hy => by obtain ⟨x, hx⟩ := get i y hy; exact h1 i x hx) (fun i y hy => by obtain ⟨x, hx⟩ := get i y hy; exact ih i x y hx hy (h2 i x hx))
  | tup xs ys hl h ih =>
    intro v hv
    cases hv with
    | tup vs _ hs h2 =>
      have get : ∀ (i : Nat) (y : AV), ys[i]? = some y → ∃ x, xs[i]? = some x := fun i y hy => by
        have := (List.getElem?_eq_some_iff.1 hy).1
        exact ⟨xs[i], List.getElem?_eq_getElem (by omega)⟩
      exact .tup vs ys (by omega) (fun i y hy => by obtain ⟨x, hx⟩ := get i y hy; exact ih i x y hx hy (h2 i x hx))

end

theorem AVle.agg1 {x y : AV} (h : AVle x y) : AVle (.agg [x]) (.agg [y]) := .agg _ _ rfl (fun i a b ha hb => by
  rcases i with _ | i
  · simp at ha hb; subst ha; subst hb; exact h
  · simp at ha)
theorem AVle.tup2 {x y x' y' : AV} (h : AVle x y) (h' : AVle x' y') : AVle (.tup [x, x']) (.tup [y, y']) := .tup _ _ rfl (fun i a b ha hb => by
  rcases i with _ | _ | i
  · simp at ha hb; subst ha; subst hb; exact h
  · simp at ha hb; subst ha; subst hb; exact h'
  · simp at ha)
theorem AVle.tup3 {x y x' y' x'' y'' : AV} (h : AVle x y) (h' : AVle x' y') (h'' : AVle x'' y'') : AVle (.tup [x, x', x'']) (.tup [y, y', y'']) := .tup _ _ rfl (fun i a b ha hb => by
  rcases i with _ | _ | _ | i
  · simp at ha hb; subst ha; subst hb; exact h
  · simp at ha hb; subst ha; subst hb; exact h'
  · simp at ha hb; subst ha; subst hb; exact h''
  · simp at ha)

section
variable {P : Program} {f : FuncId}

/-- A contract for arguments of which more is known. -/
theorem AC.le_args {args args' : List AV} {r : AR} (h : AC P f args r) (hl : args'.length = args.length) (hle : ∀ (i : Nat) (x y : AV), args'[i]? = some x → args[i]? = some y → AVle x y) (hno : ∀ x ∈ args', NoId x) : AC P f args' r where
  noid := hno
  enter := h.enter
  calls := fun w F vals hF hs hv => h.calls w F vals hF (by omega) (fun i y hy => by
    have hlt := (List.getElem?_eq_some_iff.1 hy).1
    have hx : args'[i]? = some (args'[i]'(by omega)) := List.getElem?_eq_getElem (by omega)
    exact (hv i _ hx).le (hle i _ y hx hy))

/-- A contract that tells less of its result. -/
theorem AC.le_res {args : List AV} {v v' : AV} (h : AC P f args (.pure v)) (hle : AVle v v') (hno : NoId v') : AC P f args (.pure v') where
  noid := h.noid
  enter := h.enter
  calls := fun w F vals hF hs hv => (h.calls w F vals hF hs hv).mono (fun e w' ⟨x, h1, h2, h3, F', g1, g2, g3, g4⟩ => ⟨x, h1, h2, hno, F', g1, g2, g3, g4.le hle⟩)

end

/-- Less is known of a slot. -/
theorem Wk.le {s : St} (d : Nat) {x y : AV} (h : s.t d = x) (hle : AVle x y) : Wk s ⟨upd s.t d y, s.h, s.n, s.m⟩ := by
  intro w0 F0 a w ⟨F, ρ, hR⟩
  refine ⟨F, ρ, { hR with vals := fun t => ?_ }⟩
  show VR w F ρ _ (upd s.t d y t)
  by_cases e : t = d
  · subst e
    rw [upd_same]
    have := hR.vals t
    rw [h] at this
    exact this.le hle
  · rw [upd_ne _ _ e]; exact hR.vals t

/-- Less is known of a block of one cell. -/
theorem Wk.leB {s : St} (id : Nat) {x y : AV} (h : s.h id = some (.cells 1 [[x]])) (hle : AVle x y) : Wk s ⟨s.t, updH s.h id (some (.cells 1 [[y]])), s.n, s.m⟩ := by
  intro w0 F0 a w ⟨F, ρ, hR⟩
  have hsome : ∀ k, ((updH s.h id (some (.cells 1 [[y]]))) k).isSome = (s.h k).isSome := by
    intro k
    by_cases e : k = id
    · subst e; rw [updH_same, h]; rfl
    · rw [updH_ne _ _ e]
  refine ⟨F, ρ, { hR with blks := fun k lb hl => ?_, inj := fun i j b1 b2 h1 h2 => hR.inj i j b1 b2 (by rw [← hsome]; exact h1) (by rw [← hsome]; exact h2) }⟩
  have hl' : updH s.h id (some (.cells 1 [[y]])) k = some lb := hl
  by_cases e : k = id
  · subst e
    rw [updH_same] at hl'
    injection hl' with hl'
    subst hl'
    obtain ⟨bi, g1, ⟨q1, q2, q3, q4⟩, g3⟩ := hR.blks k _ h
    refine ⟨bi, g1, ⟨q1, fun r hr => by simp at hr; subst hr; rfl, fun hz => ?_, fun hp => ?_⟩, g3⟩
    · have := q3 hz; simp at this
    · obtain ⟨cs, ty, p1, p2, p3, p4⟩ := q4 hp
      refine ⟨cs, ty, p1, p2, p3, fun j z hz => ?_⟩
      rcases j with _ | j
      · simp at hz
        subst hz
        have := p4 0 x (by simp)
        exact ⟨this.1, this.2.le hle⟩
      · simp at hz
  · rw [updH_ne _ _ e] at hl'
    exact hR.blks k lb hl'

end Go.AL
