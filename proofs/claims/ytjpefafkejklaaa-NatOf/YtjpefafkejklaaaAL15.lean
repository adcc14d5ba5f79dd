/- An abstract program logic over tree values (part 15): symbolic execution; functions. -/
import Derived.Test.YtjpefafkejklaaaAL14
set_option linter.unusedVariables false
set_option linter.unusedSimpArgs false
namespace Go.AL
open Go Go.RowKit

/-- Symbolic execution: what does not loop is gone through at once. -/
def awp (P : Program) (TT : Nat → Option TI) : Code → (Exit → St → Prop) → St → Prop
  | .skip, Q, s => Q .normal s
  | .label _, Q, s => Q .normal s
  | .region id ops draw, Q, s => match draw with
    | false => aops P TT ops.toList ops.toList 0 (fun s' => Q .normal { s' with n := s'.n + 8 * ops.toList.length }) s
    | true => SW P (.region id ops true) Q s
  | .seq a b, Q, s => awp P TT a (fun e s' => match e with | .normal => awp P TT b Q s' | e => Q e s') s
  | .cond c x y, Q, s => match aval s.t c with
    | .val (.bool b) => match b with
      | true => awp P TT x Q s
      | false => awp P TT y Q s
    | _ => False
  | .block id c, Q, s => awp P TT c (fun e s' => match e with | .exit id' => bif Nat.beq id' id then Q .normal s' else Q (.exit id') s' | e => Q e s') s
  | .exit id, Q, s => Q (.exit id) s
  | .ret, Q, s => Q .ret s
  | c, Q, s => SW P c Q s

theorem awp_sound {P : Program} {TT : Nat → Option TI} (hT : TTok P TT) (c : Code) : ∀ (Q : Exit → St → Prop) (s : St), awp P TT c Q s → SW P c Q s := by
  induction c with
  | skip => exact fun Q s h => SW.skip h
  | label l => exact fun Q s h => SW.label h
  | region id ops draw =>
    intro Q s h
    cases draw with
    | false => exact SW.region hT h
    | true => exact h
  | seq a b iha ihb =>
    intro Q s h
    refine SW.seq ((iha _ s h).mono fun e s' hq => ?_)
    cases e with
    | normal => exact ihb Q s' hq
    | _ => exact hq
  | cond c x y ihx ihy =>
    intro Q s h
    unfold awp at h
    split at h
    · rename_i b hc
      exact SW.cond hc (fun hb => ihx Q s (by subst hb; exact h)) (fun hb => ihy Q s (by subst hb; exact h))
    · exact h.elim
  | block id c ih =>
    intro Q s h
    refine SW.block ((ih _ s h).mono fun e s' hq => ?_)
    cases e with
    | exit id' => exact hq
    | _ => exact hq
  | exit id => exact fun Q s h => SW.exit h
  | ret => exact fun Q s h => SW.ret h
  | loop c ih => exact fun Q s h => h
  | rangeFunc f ps a b _ _ => exact fun Q s h => h
  | scope c _ => exact fun Q s h => h
  | goto l => exact fun Q s h => h
  | refuse w => exact fun Q s h => h

def ares (TT : Nat → Option TI) (t : Nat → AV) (h : Nat → Option LB) : List ResultVar → Option (List AV)
  | [] => some []
  | .tmp d :: l => match ares TT t h l with
    | some vs => some (t d :: vs)
    | none => none
  | .cell d ty :: l => match TT ty, t d with
    | some i, .lp id c => match h id with
      | some (.cells _ [row]) => bif okd i && Nat.ble (c + i.size) row.length then (match ares TT t h l with
        | some vs => some (part i row c :: vs)
        | none => none) else none
      | _ => none
    | _, _ => none

def oneV : List AV → AV
  | [x] => x
  | l => .tup l

/-- What a function's end must bring. -/
def retOK (TT : Nat → Option TI) (rs : List ResultVar) (r : AR) (s : St) : Prop :=
  match ares TT s.t s.h rs with
  | some vs => match r with
    | .pure v => match frzA s.h vs with
      | some (vs', [], _, _) => oneV vs' = v
      | some (vs', ps, _, _) => allP ps ∧ oneV vs' = v
      | none => False
    | .fresh sz rows => match vs with
      | [.own id off len] => match s.h id with
        | some (.cells sz' rs) => sz' = sz ∧ off + len ≤ rs.length ∧ (rs.drop off).take len = rows
        | _ => False
      | _ => False
  | none => False

def retQ (TT : Nat → Option TI) (rs : List ResultVar) (r : AR) (e : Exit) (s : St) : Prop :=
  match e with
  | .normal => retOK TT rs r s
  | .ret => retOK TT rs r s
  | _ => False

def getA : List AV → Nat → AV
  | [], _ => .any
  | x :: _, 0 => x
  | _ :: l, n + 1 => getA l n

theorem getA_eq : ∀ (l : List AV) (n : Nat), getA l n = l.getD n .any
  | [], n => by cases n <;> rfl
  | x :: l, 0 => rfl
  | x :: l, n + 1 => by simp [getA, getA_eq l n, List.getD]

def resF (tmps : Array Value) : ResultVar → Sem Value
  | .tmp t => pure (tmps.getD t undef)
  | .cell a t => do loadVar t (← asAddr (tmps.getD a undef))

section
variable {P : Program} {TT : Nat → Option TI} {w0 w : World} {F0 F : Nat → Prop} {ρ : Nat → Option BI} {fr : Nat → Prop} {s : St} {a : Act} {b : Nat}

theorem ares_ok (hT : TTok P TT) (hR : Rel w0 F0 F ρ fr s a w) : ∀ (l : List ResultVar) (vs : List AV), ares TT s.t s.h l = some vs →
    ∃ vals : List Value, (l.mapM (resF a.tmps)).run P w = .ok vals w ∧ vals.length = vs.length ∧ ∀ (i : Nat) (x : AV), vs[i]? = some x → VR w F ρ (vals.getD i undef) x
  | [], vs, h => by
    simp only [ares, Option.some.injEq] at h
    subst h
    exact ⟨[], by simp, rfl, fun i x hx => by simp at hx⟩
  | .tmp d :: l, vs, h => by
    simp only [ares] at h
    split at h
    · rename_i vs' hvs
      injection h with h
      subst h
      obtain ⟨vals, h1, h2, h3⟩ := ares_ok hT hR l vs' hvs
      refine ⟨a.tmps.getD d undef :: vals, by simp [List.mapM_cons, resF, h1], by simp [h2], fun i x hx => ?_⟩
      cases i with
      | zero => simp at hx; subst hx; exact hR.vals d
      | succ i => exact h3 i x (by simpa using hx)
    · cases h
  | .cell d ty :: l, vs, h => by
    simp only [ares] at h
    split at h
    · rename_i i id c hi hd
      split at h
      · rename_i sz row hl
        cases hc : (okd i && Nat.ble (c + i.size) row.length) with
        | false => simp [hc] at h
        | true =>
          simp only [hc, cond_true] at h
          simp only [Bool.and_eq_true, Nat.ble_eq] at hc
          split at h
          · rename_i vs' hvs
            injection h with h
            subst h
            obtain ⟨vals, h1, h2, h3⟩ := ares_ok hT hR l vs' hvs
            obtain ⟨bi, q1, q2, q3⟩ := hR.cell hl
            have hv := hR.vals d
            rw [hd] at hv
            generalize hve : a.tmps.getD d undef = ve at hv
            cases hv with
            | lp _ _ bi' hr =>
              rw [q1] at hr; injection hr with hr; subst hr
              obtain ⟨v, g1, g2⟩ := load_part (hT ty i hi) hc.1 bi.blk bi.base c row hc.2 (fun j y hy => q3 j y (by simpa using hy))
              refine ⟨v :: vals, ?_, by simp [h2], fun i x hx => ?_⟩
              · have : (resF a.tmps (.cell d ty)).run P w = .ok v w := by
                  simp only [resF, hve, asAddr, Sem.run_bind, Sem.run_pure, Result.andThen_ok, g1]
                simp [List.mapM_cons, this, h1]
              · cases i with
                | zero => simp at hx; subst hx; exact g2
                | succ i => exact h3 i x (by simpa using hx)
          · cases h
      · cases h
    · cases h

theorem run_results (hT : TTok P TT) (hR : Rel w0 F0 F ρ fr s a w) (fn : Func) (vs : List AV) (h : ares TT s.t s.h fn.results.toList = some vs) :
    ∃ vals : List Value, (results fn a.tmps).run P w = .ok (if h : vals.toArray.size = 1 then vals.toArray[0] else .tuple vals.toArray) w ∧ vals.length = vs.length ∧ ∀ (i : Nat) (x : AV), vs[i]? = some x → VR w F ρ (vals.getD i undef) x := by
  obtain ⟨vals, h1, h2, h3⟩ := ares_ok hT hR _ _ h
  refine ⟨vals, ?_, h2, h3⟩
  have hm : (fn.results.mapM (resF a.tmps)).run P w = .ok vals.toArray w := by
    rcases hfr : fn.results with ⟨l⟩
    rw [hfr] at h1
    have h1' : (l.mapM (resF a.tmps)).run P w = .ok vals w := h1
    simp [h1']
  have he : results fn a.tmps = (do let vs ← fn.results.mapM (resF a.tmps); pure (if h : vs.size = 1 then vs[0] else .tuple vs)) := rfl
  rw [he]
  simp only [Sem.run_bind, hm, Result.andThen_ok, Sem.run_pure]

theorem one_ok {vals : List Value} {vs : List AV} (hl : vals.length = vs.length) (hv : ∀ (i : Nat) (x : AV), vs[i]? = some x → VR w F ρ (vals.getD i undef) x) :
    VR w F ρ (if h : vals.toArray.size = 1 then vals.toArray[0] else .tuple vals.toArray) (oneV vs) := by
  by_cases h1 : vals.toArray.size = 1
  · rw [dif_pos h1]
    have h1' : vals.length = 1 := h1
    rcases vs with _ | ⟨x, _ | ⟨y, l⟩⟩
    · exact absurd (h1'.symm.trans hl) (by decide)
    · rcases vals with _ | ⟨v, l⟩
      · simp at h1'
      · exact hv 0 x rfl
    · simp at hl; omega
  · rw [dif_neg h1]
    have h1' : vs.length ≠ 1 := fun e => h1 (show vals.length = 1 from hl.trans e)
    have : oneV vs = .tup vs := by
      rcases vs with _ | ⟨x, _ | ⟨y, l⟩⟩
      · rfl
      · simp at h1'
      · rfl
    rw [this]
    refine .tup _ _ hl (fun i x hx => ?_)
    have := hv i x hx
    simpa [Array.getD_eq_getD_getElem?, List.getD] using this

end

/-- A function's contract out of its body's symbolic execution. -/
theorem AC.of_sw {P : Program} {TT : Nat → Option TI} {f : FuncId} {fn : Func} {c : Code} {args : List AV} {r : AR} (hT : TTok P TT) (hf : P.funcs[f]? = some fn) (hb : fn.body = some c)
    (henter : ∀ (vals : Array Value) (w : World), (callFunc f vals).run P w = .ok (.enter f vals) w) (hA : ∀ x ∈ args, NoId x)
    (hr : match r with | .pure v => NoId v | .fresh _ rows => ∀ r ∈ rows, ∀ x ∈ r, NoId x) (hm : args.length ≤ fn.ntmps)
    (hsw : SW P c (retQ TT fn.results.toList r) ⟨getA args, fun _ => none, 0, fn.ntmps⟩) : AC P f args r := by
  refine ⟨hA, henter, fun w F vals hF hsz hv => calls_of_wp hf hb ?_⟩
  unfold SW at hsw
  have hR0 : Rel w F F (fun _ => none) (fun id => (0 : Nat) ≤ id) ⟨getA args, fun _ => none, 0, fn.ntmps⟩ { tmps := vals ++ Array.replicate (fn.ntmps - vals.size) undef, defers := [] } w := by
    refine ⟨rfl, by simp; omega, Below.refl _ _, hF, fun _ h => h, fun _ h => .inl h, fun t => ?_, (fun id lb h => nomatch h), (fun id id' bi bi' h => nomatch h), fun _ _ => rfl⟩
    show VR w F _ _ (getA args t)
    rw [getA_eq]
    by_cases ht : t < args.length
    · have hx : args[t]? = some (args[t]) := List.getElem?_eq_getElem ht
      have e1 : args.getD t .any = args[t] := by simp [List.getD, hx]
      have e2 : (vals ++ Array.replicate (fn.ntmps - vals.size) undef).getD t undef = vals.getD t undef := by
        simp only [Array.getD_eq_getD_getElem?, Array.getElem?_append]
        rw [if_pos (by omega)]
      rw [e1, e2]
      exact hv t _ hx
    · have e1 : args.getD t .any = .any := by simp [List.getD, List.getElem?_eq_none (Nat.le_of_not_lt ht)]
      rw [e1]
      exact .any _
  refine wp_mono (hsw w F _ w ⟨F, _, hR0⟩) ?_
  rintro e a' w' ⟨s', hq, hm', F', ρ', hR⟩
  have main : retOK TT fn.results.toList r s' → a'.defers = [] ∧ ∃ v, (results fn a'.tmps).run P w' = .ok v w' ∧ ∃ v', Ending.returned v = .returned v' ∧ Below w.heap.size w w' ∧ RetOK w F w' v' r := by
    intro hq
    unfold retOK at hq
    split at hq
    · rename_i vs hvs
      obtain ⟨vals, h1, h2, h3⟩ := run_results hT hR fn vs hvs
      refine ⟨hR.defers, _, h1, _, rfl, hR.below, ?_⟩
      cases r with
      | pure v =>
        simp only at hq
        have hfz : ∃ vs' ps u acc, frzA s'.h vs = some (vs', ps, u, acc) ∧ allP ps ∧ oneV vs' = v := by
          split at hq
          · rename_i vs' u acc hf; exact ⟨_, _, _, _, hf, trivial, hq⟩
          · rename_i vs' ps u acc _ hf; exact ⟨_, _, _, _, hf, hq.1, hq.2⟩
          · exact hq.elim
        obtain ⟨vs', ps, u, acc, hfz, hps, rfl⟩ := hfz
        obtain ⟨F2, g1, g2, g3, g4⟩ := frzA_ok vs vs' vals s' F' ps u acc hR h2 h3 hfz hps (by
          intro x hx
          rcases vs' with _ | ⟨y, _ | ⟨z, l⟩⟩
          · cases hx
          · simp at hx; subst hx; exact hr
          · have hr' : NoId (.tup (y :: z :: l)) := hr
            cases hr' with | tup _ hh => exact hh x hx)
        exact ⟨hr, F2, fun b hb => g1 b (hR.F0F b hb), g2.Fb, g2.Fnew, (one_ok (by omega) g4).noid hr⟩
      | fresh sz rows =>
        simp only at hq
        split at hq
        · rename_i id off len
          split at hq
          · rename_i sz' rs hl
            obtain ⟨rfl, hle, rfl⟩ := hq
            obtain ⟨bi, q1, q2, q3, q4, q5, q6⟩ := hR.block hl
            have hlen : ((rs.drop off).take len).length = len := by simp; omega
            have hv0 := h3 0 _ rfl
            have h1' : vals.toArray.size = 1 := h2
            rw [dif_pos h1']
            have e0 : vals.toArray[0] = vals.getD 0 undef := by
              rcases vals with _ | ⟨v, l⟩
              · simp at h2
              · rfl
            rw [e0]
            generalize vals.getD 0 undef = v0 at hv0
            have hsub : ((rs.drop off).take len) = (rs.take (off + len)).drop off := by rw [List.drop_take]; congr 1; omega
            cases hv0 with
            | own A _ _ _ cp bi' hr' hl' hA' =>
              rw [q1] at hr'; injection hr' with hr'; subst hr'
              refine ⟨hr, F', ⟨bi.blk, bi.base + off * sz', sz', bi.csz⟩, hR.F0F, hR.Fb, hR.Fnew, ?_, ⟨rfl, fun q hq => q3 q (List.mem_of_mem_drop (List.mem_of_mem_take hq)), fun h0 => ?_, fun hp => ?_⟩, fun hp => q4 hp⟩
              · rw [hlen]
                refine .own A 0 0 len cp ⟨bi.blk, bi.base + off * sz', sz', bi.csz⟩ (by simp [putρ]) hl' (fun hp => ?_)
                obtain ⟨e1, e2⟩ := hA' hp
                rw [q2] at e1 e2
                refine ⟨by rw [e1]; simp, ?_⟩
                show bi.base + off * sz' + (0 + cp) * sz' ≤ bi.csz
                rw [Nat.zero_add]
                rw [Nat.add_mul] at e2
                omega
              · have hf := q5 h0
                have h1 := flat_len rs q3
                rw [hf] at h1
                apply List.eq_nil_of_length_eq_zero
                rw [flat_len _ (fun q hq => q3 q (List.mem_of_mem_drop (List.mem_of_mem_take hq))), hlen]
                have h2 : rs.length * sz' = 0 := by simpa using h1.symm
                rcases Nat.mul_eq_zero.1 h2 with h | h
                · have : len = 0 := by omega
                  rw [this]; simp
                · rw [h]; simp
              · obtain ⟨cs, ty, g1, g2, g3, g4⟩ := q6 hp
                refine ⟨cs, ty, g1, g2, ?_, fun j x hx => ?_⟩
                · show bi.base + off * sz' + ((rs.drop off).take len).length * sz' ≤ cs.size
                  rw [hlen]
                  have : (off + len) * sz' ≤ rs.length * sz' := Nat.mul_le_mul_right _ hle
                  rw [Nat.add_mul] at this
                  omega
                · have hmem : NoId x := mem_flat hr hx
                  rw [hsub] at hx
                  have := g4 _ x (flat_sub q3 off (off + len) j x hx)
                  rw [← Nat.add_assoc] at this
                  exact ⟨this.1, this.2.noid hmem⟩
          · exact hq.elim
        · exact hq.elim
    · exact hq.elim
  cases e with
  | normal => exact main hq
  | ret => exact main hq
  | exit id => exact hq.elim
  | goto l => exact hq.elim
  | panic ch => exact hq.elim
  | outgrown => exact hq.elim

/-- A law's walk. -/
theorem AC.law {P : Program} {f : FuncId} {args : List AV} (h : AC P f args (.pure (.val (.bool true)))) (w : World) (vals : Array Value) (hs : vals.size = args.length)
    (hv : ∀ (i : Nat) (x : AV), args[i]? = some x → VR w (fun b => b < w.heap.size) (fun _ => none) (vals.getD i undef) x) :
    Calls P f vals w fun e w' => e = .returned (.bool true) ∧ Below w.heap.size w w' := by
  refine (h.calls w (fun b => b < w.heap.size) vals (fun _ h => h) hs hv).mono ?_
  rintro e w' ⟨v, rfl, hb, hno, F', _, _, _, hvr⟩
  exact ⟨by rw [hvr.val_inv], hb⟩

end Go.AL
