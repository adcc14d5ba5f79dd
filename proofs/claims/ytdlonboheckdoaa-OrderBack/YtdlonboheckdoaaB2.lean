/- An abstract program logic over tree values (part 15): symbolic execution; functions. -/
import Derived.Test.YtdlonboheckdoaaB1
import Derived.Laws.Strings
import Derived.ChangeSlices
import Derived.Below
import Derived.Test.YtdlonboheckdoaaProg
import Derived.KernelRfl
set_option linter.unusedVariables false
set_option linter.unusedSimpArgs false
namespace Go.AL
open Go Go.RowKit

/-- Symbolic execution: what does not loop is gone through at once. -/
def awp (P : Program) (TT : Nat → Option TI) : Code → (Exit → St → Prop) → St → Prop
  | .skip, Q, s => Q .normal s
  | .label _, Q, s => Q .normal s
  | .region id ops draw, Q, s => match draw with
    | false => aops P TT ops.toList ops.toList 0 (fun s' => Q .normal { s' with n := s'.n + 8 * ops.toList.length }) s
    | true => SW P (.region id ops true) Q s
  | .seq a b, Q, s => awp P TT a (fun e s' => match e with | .normal => awp P TT b Q s' | e => Q e s') s
  | .cond c x y, Q, s => match aval s.t c with
    | .val (.bool b) => match b with
      | true => awp P TT x Q s
      | false => awp P TT y Q s
    | _ => False
  | .block id c, Q, s => awp P TT c (fun e s' => match e with | .exit id' => bif Nat.beq id' id then Q .normal s' else Q (.exit id') s' | e => Q e s') s
  | .exit id, Q, s => Q (.exit id) s
  | .ret, Q, s => Q .ret s
  | c, Q, s => SW P c Q s

theorem awp_sound {P : Program} {TT : Nat → Option TI} (hT : TTok P TT) (c : Code) : ∀ (Q : Exit → St → Prop) (s : St), awp P TT c Q s → SW P c Q s := by
  induction c with
  | skip => exact fun Q s h => SW.skip h
  | label l => exact fun Q s h => SW.label h
  | region id ops draw =>
    intro Q s h
    cases draw with
    | false => exact SW.region hT h
    | true => exact h
  | seq a b iha ihb =>
    intro Q s h
    refine SW.seq ((iha _ s h).mono fun e s' hq => ?_)
    cases e with
    | normal => exact ihb Q s' hq
    | _ => exact hq
  | cond c x y ihx ihy =>
    intro Q s h
    unfold awp at h
    split at h
    · rename_i b hc
      exact SW.cond hc (fun hb => ihx Q s (by subst hb; exact h)) (fun hb => ihy Q s (by subst hb; exact h))
    · exact h.elim
  | block id c ih =>
    intro Q s h
    refine SW.block ((ih _ s h).mono fun e s' hq => ?_)
    cases e with
    | exit id' => exact hq
    | _ => exact hq
  | exit id => exact fun Q s h => SW.exit h
  | ret => exact fun Q s h => SW.ret h
  | loop c ih => exact fun Q s h => h
  | rangeFunc f ps a b _ _ => exact fun Q s h => h
  | scope c _ => exact fun Q s h => h
  | goto l => exact fun Q s h => h
  | refuse w => exact fun Q s h => h

def ares (TT : Nat → Option TI) (t : Nat → AV) (h : Nat → Option LB) : List ResultVar → Option (List AV)
  | [] => some []
  | .tmp d :: l => match ares TT t h l with
    | some vs => some (aval t (.tmp d) :: vs)
    | none => none
  | .cell d ty :: l => match TT ty, aval t (.tmp d) with
    | some i, .lp id c => match h id with
      | some (.cells _ [row]) => bif okd i && Nat.ble (c + i.size) row.length then (match ares TT t h l with
        | some vs => some (part i row c :: vs)
        | none => none) else none
      | _ => none
    | _, _ => none

def oneV : List AV → AV
  | [x] => x
  | l => .tup l

/-- What a function's end must bring. -/
def retOK (TT : Nat → Option TI) (rs : List ResultVar) (r : AR) (s : St) : Prop :=
  match ares TT s.t s.h rs with
  | some vs => match r with
    | .pure v => match frzA s.h vs with
      | some (vs', [], _, _) => oneV vs' = v
      | some (vs', ps, _, _) => allP ps ∧ oneV vs' = v
      | none => False
    | .fresh sz rows => match vs with
      | [.own id off len] => match s.h id with
        | some (.cells sz' rs) => sz' = sz ∧ off + len ≤ rs.length ∧ (rs.drop off).take len = rows
        | _ => False
      | _ => False
  | none => False

def retQ (TT : Nat → Option TI) (rs : List ResultVar) (r : AR) (e : Exit) (s : St) : Prop :=
  match e with
  | .normal => retOK TT rs r s
  | .ret => retOK TT rs r s
  | _ => False

def getA : List AV → Nat → AV
  | [], _ => .any
  | x :: _, 0 => x
  | _ :: l, n + 1 => getA l n

theorem getA_eq : ∀ (l : List AV) (n : Nat), getA l n = l.getD n .any
  | [], n => by cases n <;> rfl
  | x :: l, 0 => rfl
  | x :: l, n + 1 => by simp [getA, getA_eq l n, List.getD]

def resF (tmps : Array Value) : ResultVar → Sem Value
  | .tmp t => pure (tmps.getD t undef)
  | .cell a t => do loadVar t (← asAddr (tmps.getD a undef))

section
variable {P : Program} {TT : Nat → Option TI} {gh : Array Value} {w0 w : World} {F0 F : Nat → Prop} {ρ : Nat → Option BI} {fr : Nat → Prop} {s : St} {a : Act} {b : Nat}

theorem ares_ok (hT : TTok P TT) (hR : Rel gh w0 F0 F ρ fr s a w) : ∀ (l : List ResultVar) (vs : List AV), ares TT s.t s.h l = some vs →
    ∃ vals : List Value, (l.mapM (resF a.tmps)).run P w = .ok vals w ∧ vals.length = vs.length ∧ ∀ (i : Nat) (x : AV), vs[i]? = some x → VR w F ρ (vals.getD i undef) x
  | [], vs, h => by
    simp only [ares, Option.some.injEq] at h
    subst h
    exact ⟨[], by simp, rfl, fun i x hx => by simp at hx⟩
  | .tmp d :: l, vs, h => by
    simp only [ares] at h
    split at h
    · rename_i vs' hvs
      injection h with h
      subst h
      obtain ⟨vals, h1, h2, h3⟩ := ares_ok hT hR l vs' hvs
      refine ⟨a.tmps.getD d undef :: vals, by simp [List.mapM_cons, resF, h1], by simp [h2], fun i x hx => ?_⟩
      cases i with
      | zero => simp at hx; subst hx; exact hR.aval (.tmp d)
      | succ i => exact h3 i x (by simpa using hx)
    · cases h
  | .cell d ty :: l, vs, h => by
    simp only [ares] at h
    split at h
    · rename_i i id c hi hd
      split at h
      · rename_i sz row hl
        cases hc : (okd i && Nat.ble (c + i.size) row.length) with
        | false => simp [hc] at h
        | true =>
          simp only [hc, cond_true] at h
          simp only [Bool.and_eq_true, Nat.ble_eq] at hc
          split at h
          · rename_i vs' hvs
            injection h with h
            subst h
            obtain ⟨vals, h1, h2, h3⟩ := ares_ok hT hR l vs' hvs
            obtain ⟨bi, q1, q2, q3⟩ := hR.cell hl
            have hv := hR.aval (.tmp d)
            rw [hd] at hv
            generalize hve : a.eval (.tmp d) = ve at hv
            have hve : a.tmps.getD d undef = ve := hve
            cases hv with
            | lp _ _ bi' hr =>
              rw [q1] at hr; injection hr with hr; subst hr
              obtain ⟨v, g1, g2⟩ := load_part (hT ty i hi) hc.1 bi.blk bi.base c row hc.2 (fun j y hy => q3 j y (by simpa using hy))
              refine ⟨v :: vals, ?_, by simp [h2], fun i x hx => ?_⟩
              · have : (resF a.tmps (.cell d ty)).run P w = .ok v w := by
                  simp only [resF, hve, asAddr, Sem.run_bind, Sem.run_pure, Result.andThen_ok, g1]
                simp [List.mapM_cons, this, h1]
              · cases i with
                | zero => simp at hx; subst hx; exact g2
                | succ i => exact h3 i x (by simpa using hx)
          · cases h
      · cases h
    · cases h

theorem run_results (hT : TTok P TT) (hR : Rel gh w0 F0 F ρ fr s a w) (fn : Func) (vs : List AV) (h : ares TT s.t s.h fn.results.toList = some vs) :
    ∃ vals : List Value, (results fn a.tmps).run P w = .ok (if h : vals.toArray.size = 1 then vals.toArray[0] else .tuple vals.toArray) w ∧ vals.length = vs.length ∧ ∀ (i : Nat) (x : AV), vs[i]? = some x → VR w F ρ (vals.getD i undef) x := by
  obtain ⟨vals, h1, h2, h3⟩ := ares_ok hT hR _ _ h
  refine ⟨vals, ?_, h2, h3⟩
  have hm : (fn.results.mapM (resF a.tmps)).run P w = .ok vals.toArray w := by
    rcases hfr : fn.results with ⟨l⟩
    rw [hfr] at h1
    have h1' : (l.mapM (resF a.tmps)).run P w = .ok vals w := h1
    simp [h1']
  have he : results fn a.tmps = (do let vs ← fn.results.mapM (resF a.tmps); pure (if h : vs.size = 1 then vs[0] else .tuple vs)) := rfl
  rw [he]
  simp only [Sem.run_bind, hm, Result.andThen_ok, Sem.run_pure]

theorem one_ok {vals : List Value} {vs : List AV} (hl : vals.length = vs.length) (hv : ∀ (i : Nat) (x : AV), vs[i]? = some x → VR w F ρ (vals.getD i undef) x) :
    VR w F ρ (if h : vals.toArray.size = 1 then vals.toArray[0] else .tuple vals.toArray) (oneV vs) := by
  by_cases h1 : vals.toArray.size = 1
  · rw [dif_pos h1]
    have h1' : vals.length = 1 := h1
    rcases vs with _ | ⟨x, _ | ⟨y, l⟩⟩
    · exact absurd (h1'.symm.trans hl) (by decide)
    · rcases vals with _ | ⟨v, l⟩
      · simp at h1'
      · exact hv 0 x rfl
    · simp at hl; omega
  · rw [dif_neg h1]
    have h1' : vs.length ≠ 1 := fun e => h1 (show vals.length = 1 from hl.trans e)
    have : oneV vs = .tup vs := by
      rcases vs with _ | ⟨x, _ | ⟨y, l⟩⟩
      · rfl
      · simp at h1'
      · rfl
    rw [this]
    refine .tup _ _ hl (fun i x hx => ?_)
    have := hv i x hx
    simpa [Array.getD_eq_getD_getElem?, List.getD] using this

end

/-- A function's contract out of its body's symbolic execution. -/
theorem AC.of_sw {P : Program} {TT : Nat → Option TI} {f : FuncId} {fn : Func} {c : Code} {args : List AV} {r : AR} (hT : TTok P TT) (hf : P.funcs[f]? = some fn) (hb : fn.body = some c)
    (henter : ∀ (vals : Array Value) (w : World), (callFunc f vals).run P w = .ok (.enter f vals) w) (hA : ∀ x ∈ args, NoId x)
    (hr : match r with | .pure v => NoId v | .fresh _ rows => ∀ r ∈ rows, ∀ x ∈ r, NoId x) (hm : (fn.ntmps - 1000000) * 1000000000 + args.length ≤ fn.ntmps)
    (hsw : SW P c (retQ TT fn.results.toList r) ⟨getA args, fun _ => none, 0, fn.ntmps⟩) : AC P f args r := by
  refine ⟨hA, henter, fun w F vals hF hsz hv => calls_of_wp hf hb ?_⟩
  unfold SW at hsw
  have hR0 : Rel #[] w F F (fun _ => none) (fun id => (0 : Nat) ≤ id) ⟨getA args, fun _ => none, 0, fn.ntmps⟩ { tmps := vals ++ Array.replicate (fn.ntmps - vals.size) undef, defers := [] } w := by
    refine ⟨rfl, by simp; omega, by show fn.ntmps ≤ 1000000; omega, Below.refl _ _, hF, fun _ h => h, fun _ h => .inl h, fun t => ?_, (fun id lb h => nomatch h), (fun id id' bi bi' h => nomatch h), fun _ _ => rfl⟩
    show VR w F _ _ (getA args t)
    rw [getA_eq]
    by_cases ht : t < args.length
    · rw [gval_lt (by omega)]
      show VR w F _ ((vals ++ Array.replicate (fn.ntmps - vals.size) undef).getD t undef) _
      have hx : args[t]? = some (args[t]) := List.getElem?_eq_getElem ht
      have e1 : args.getD t .any = args[t] := by simp [List.getD, hx]
      have e2 : (vals ++ Array.replicate (fn.ntmps - vals.size) undef).getD t undef = vals.getD t undef := by
        simp only [Array.getD_eq_getD_getElem?, Array.getElem?_append]
        rw [if_pos (by omega)]
      rw [e1, e2]
      exact hv t _ hx
    · have e1 : args.getD t .any = .any := by simp [List.getD, List.getElem?_eq_none (Nat.le_of_not_lt ht)]
      rw [e1]
      exact .any _
  refine wp_mono (hsw #[] w F _ w ⟨F, _, hR0⟩) ?_
  rintro e a' w' ⟨s', hq, hm', F', ρ', hR⟩
  have main : retOK TT fn.results.toList r s' → a'.defers = [] ∧ ∃ v, (results fn a'.tmps).run P w' = .ok v w' ∧ ∃ v', Ending.returned v = .returned v' ∧ Below w.heap.size w w' ∧ RetOK w F w' v' r := by
    intro hq
    unfold retOK at hq
    split at hq
    · rename_i vs hvs
      obtain ⟨vals, h1, h2, h3⟩ := run_results hT hR fn vs hvs
      refine ⟨hR.defers, _, h1, _, rfl, hR.below, ?_⟩
      cases r with
      | pure v =>
        simp only at hq
        have hfz : ∃ vs' ps u acc, frzA s'.h vs = some (vs', ps, u, acc) ∧ allP ps ∧ oneV vs' = v := by
          split at hq
          · rename_i vs' u acc hf; exact ⟨_, _, _, _, hf, trivial, hq⟩
          · rename_i vs' ps u acc _ hf; exact ⟨_, _, _, _, hf, hq.1, hq.2⟩
          · exact hq.elim
        obtain ⟨vs', ps, u, acc, hfz, hps, rfl⟩ := hfz
        obtain ⟨F2, g1, g2, g3, g4⟩ := frzA_ok vs vs' vals s' F' ps u acc hR h2 h3 hfz hps (by
          intro x hx
          rcases vs' with _ | ⟨y, _ | ⟨z, l⟩⟩
          · cases hx
          · simp at hx; subst hx; exact hr
          · have hr' : NoId (.tup (y :: z :: l)) := hr
            cases hr' with | tup _ hh => exact hh x hx)
        exact ⟨hr, F2, fun b hb => g1 b (hR.F0F b hb), g2.Fb, g2.Fnew, (one_ok (by omega) g4).noid hr⟩
      | fresh sz rows =>
        simp only at hq
        split at hq
        · rename_i id off len
          split at hq
          · rename_i sz' rs hl
            obtain ⟨rfl, hle, rfl⟩ := hq
            obtain ⟨bi, q1, q2, q3, q4, q5, q6⟩ := hR.block hl
            have hlen : ((rs.drop off).take len).length = len := by simp; omega
            have hv0 := h3 0 _ rfl
            have h1' : vals.toArray.size = 1 := h2
            rw [dif_pos h1']
            have e0 : vals.toArray[0] = vals.getD 0 undef := by
              rcases vals with _ | ⟨v, l⟩
              · simp at h2
              · rfl
            rw [e0]
            generalize vals.getD 0 undef = v0 at hv0
            have hsub : ((rs.drop off).take len) = (rs.take (off + len)).drop off := by rw [List.drop_take]; congr 1; omega
            cases hv0 with
            | own A _ _ _ cp bi' hr' hl' hA' =>
              rw [q1] at hr'; injection hr' with hr'; subst hr'
              refine ⟨hr, F', ⟨bi.blk, bi.base + off * sz', sz', bi.csz⟩, hR.F0F, hR.Fb, hR.Fnew, ?_, ⟨rfl, fun q hq => q3 q (List.mem_of_mem_drop (List.mem_of_mem_take hq)), fun h0 => ?_, fun hp => ?_⟩, fun hp => q4 hp⟩
              · rw [hlen]
                refine .own A 0 0 len cp ⟨bi.blk, bi.base + off * sz', sz', bi.csz⟩ (by simp [putρ]) hl' (fun hp => ?_)
                obtain ⟨e1, e2⟩ := hA' hp
                rw [q2] at e1 e2
                refine ⟨by rw [e1]; simp, ?_⟩
                show bi.base + off * sz' + (0 + cp) * sz' ≤ bi.csz
                rw [Nat.zero_add]
                rw [Nat.add_mul] at e2
                omega
              · have hf := q5 h0
                have h1 := flat_len rs q3
                rw [hf] at h1
                apply List.eq_nil_of_length_eq_zero
                rw [flat_len _ (fun q hq => q3 q (List.mem_of_mem_drop (List.mem_of_mem_take hq))), hlen]
                have h2 : rs.length * sz' = 0 := by simpa using h1.symm
                rcases Nat.mul_eq_zero.1 h2 with h | h
                · have : len = 0 := by omega
                  rw [this]; simp
                · rw [h]; simp
              · obtain ⟨cs, ty, g1, g2, g3, g4⟩ := q6 hp
                refine ⟨cs, ty, g1, g2, ?_, fun j x hx => ?_⟩
                · show bi.base + off * sz' + ((rs.drop off).take len).length * sz' ≤ cs.size
                  rw [hlen]
                  have : (off + len) * sz' ≤ rs.length * sz' := Nat.mul_le_mul_right _ hle
                  rw [Nat.add_mul] at this
                  omega
                · have hmem : NoId x := mem_flat hr hx
                  rw [hsub] at hx
                  have := g4 _ x (flat_sub q3 off (off + len) j x hx)
                  rw [← Nat.add_assoc] at this
                  exact ⟨this.1, this.2.noid hmem⟩
          · exact hq.elim
        · exact hq.elim
    · exact hq.elim
  cases e with
  | normal => exact main hq
  | ret => exact main hq
  | exit id => exact hq.elim
  | goto l => exact hq.elim
  | panic ch => exact hq.elim
  | outgrown => exact hq.elim

/-- A law's walk. -/
theorem AC.law {P : Program} {f : FuncId} {args : List AV} (h : AC P f args (.pure (.val (.bool true)))) (w : World) (vals : Array Value) (hs : vals.size = args.length)
    (hv : ∀ (i : Nat) (x : AV), args[i]? = some x → VR w (fun b => b < w.heap.size) (fun _ => none) (vals.getD i undef) x) :
    Calls P f vals w fun e w' => e = .returned (.bool true) ∧ Below w.heap.size w w' := by
  refine (h.calls w (fun b => b < w.heap.size) vals (fun _ h => h) hs hv).mono ?_
  rintro e w' ⟨v, rfl, hb, hno, F', _, _, _, hvr⟩
  exact ⟨by rw [hvr.val_inv], hb⟩

end Go.AL

/- An abstract program logic over tree values (part 16): small words for a seat's own texts. -/
set_option linter.unusedVariables false
namespace Go.AL
open Go Go.RowKit

theorem TIok.mk {P : Program} {t : Nat} {sd : SD} {z : Value} {size bytes : Nat} {e : Bool} (h1 : (P.underlying t).map sdOf = some sd)
    (h2 : (P.info? t).map (fun i => (i.zero, i.size, i.bytes)) = some (some z, size, bytes)) (h3 : z.cells.toList.length = size) (h4 : (z.cells.toList.all Value.oneCell') = true) (h5 : e = true → eqOKb P t = true) : TIok P t ⟨sd, size, bytes, z.cells.toList, e⟩ := by
  cases hu : P.underlying t with
  | none => rw [hu] at h1; cases h1
  | some d =>
    cases hi : P.info? t with
    | none => rw [hi] at h2; cases h2
    | some inf =>
      rw [hu] at h1
      rw [hi] at h2
      simp only [Option.map_some, Option.some.injEq, Prod.mk.injEq] at h1 h2
      exact ⟨d, inf, z, hu, h1, hi, h2.2.1, h2.2.2, h2.1, rfl, h3, h4, h5⟩

theorem enter_of {P : Program} {f : FuncId} {fn : Func} (hf : P.funcs[f]? = some fn) (hn : (fn.name == "runtime.NumGoroutine") = false) (hb : fn.body.isNone = false) (vals : Array Value) (w : World) :
    (callFunc f vals).run P w = .ok (.enter f vals) w := by
  simp only [callFunc, Sem.run_bind, run_program, Result.andThen_ok, hf, hn, Bool.false_eq_true, if_false, hb, Sem.run_pure]

/-- A test that nobody can decide ahead. -/
theorem caseb {b : Bool} {X Y : Prop} (h1 : b = true → X) (h2 : b = false → Y) : (match (generalizing := false) b with | true => X | false => Y) := by
  cases b
  · exact h2 rfl
  · exact h1 rfl

end Go.AL

/- An abstract program logic over tree values (part 17): states as lists; what is known may be forgotten, live blocks may get other numbers. -/
set_option linter.unusedVariables false
set_option linter.unusedSimpArgs false
namespace Go.AL
open Go Go.RowKit

def mkT : List (Nat × AV) → Nat → AV
  | [], _ => .any
  | (k, v) :: l, j => bif Nat.beq j k then v else mkT l j
def mkH : List (Nat × LB) → Nat → Option LB
  | [], _ => none
  | (k, v) :: l, j => bif Nat.beq j k then some v else mkH l j
/-- A state in full. -/
def mkS (ts : List (Nat × AV)) (hs : List (Nat × LB)) (n m : Nat) : St := ⟨mkT ts, mkH hs, n, m⟩

/-- Live blocks under their elder numbers. -/
def AV.rn1 (σ : Nat → Nat) : AV → AV
  | .own id o l => .own (σ id) o l
  | .lp id c => .lp (σ id) c
  | .li id r c => .li (σ id) r c
  | .it id => .it (σ id)
  | x => x
def AV.rn (σ : Nat → Nat) : AV → AV
  | .agg cs => .agg (cs.map (AV.rn1 σ))
  | x => x.rn1 σ
/-- Only block numbers below n. -/
def AV.lt1 (n : Nat) : AV → Bool
  | .own id _ _ => Nat.blt id n
  | .lp id _ => Nat.blt id n
  | .li id _ _ => Nat.blt id n
  | .it id => Nat.blt id n
  | .agg _ => false
  | .tup _ => false
  | _ => true
def AV.lt (n : Nat) : AV → Bool
  | .agg cs => cs.all (AV.lt1 n)
  | x => x.lt1 n

def LB.rn (σ : Nat → Nat) : LB → LB
  | .cells sz rows => .cells sz (rows.map (List.map (AV.rn1 σ)))
  | x => x
def LB.lt (n : Nat) : LB → Bool
  | .cells _ rows => rows.all (List.all · (AV.lt1 n))
  | _ => true
def LB.NoIds : LB → Prop
  | .cells _ rows => ∀ r ∈ rows, ∀ x ∈ r, NoId x
  | _ => True

def σf : List (Nat × Nat) → Nat → Nat
  | [], j => j
  | (k, v) :: l, j => bif Nat.beq j k then v else σf l j

def okT (s : St) (σ : Nat → Nat) (n : Nat) : List (Nat × AV) → Prop
  | [] => True
  | (k, v) :: l => (s.t k = v.rn σ ∧ v.lt n = true) ∧ okT s σ n l
/-- A block is as it was, and names no block; or its cells' block numbers are told. -/
def okB (s : St) (σ : Nat → Nat) (n : Nat) (k : Nat) (lb : LB) : Prop :=
  Nat.blt k n = true ∧ ((s.h (σ k) = some lb ∧ lb.NoIds) ∨ (s.h (σ k) = some (lb.rn σ) ∧ lb.lt n = true))
def okH (s : St) (σ : Nat → Nat) (n : Nat) : List (Nat × LB) → Prop
  | [] => True
  | (k, lb) :: l => okB s σ n k lb ∧ okH s σ n l

def distinct : List Nat → Bool
  | [] => true
  | x :: l => l.all (fun y => !Nat.beq x y) && distinct l

section
variable {gh : Array Value} {w0 w : World} {F0 F : Nat → Prop} {ρ : Nat → Option BI} {s : St} {a : Act}

def rnρ (ρ : Nat → Option BI) (σ : Nat → Nat) (n : Nat) : Nat → Option BI := fun id => if id < n then ρ (σ id) else none

theorem VR.rn1 {σ : Nat → Nat} {n : Nat} {v : Value} {x : AV} (hx : x.lt1 n = true) (h : VR w F ρ v (x.rn1 σ)) : VR w F (rnρ ρ σ n) v x := by
  have key : ∀ {id : Nat} {bi : BI}, Nat.blt id n = true → ρ (σ id) = some bi → rnρ ρ σ n id = some bi := by
    intro id bi hlt hr
    simp only [rnρ, Nat.blt_eq.mp hlt, if_true, hr]
  cases x with
  | any => exact .any v
  | val u => cases h; exact .val _
  | agg cs => cases hx
  | tup cs => cases hx
  | sl sz rows t =>
    cases h with
    | sl A m c _ _ _ b o vals hn hc ht hw hA h0 h1 h2 hno => exact .sl A m c sz rows t b o vals hn hc ht hw hA h0 h1 (fun j y hy => (h2 j y hy).noid (hno j y hy)) hno
  | fp row c =>
    cases h with
    | fp _ _ b o vals hF h0 h1 h2 hno => exact .fp row c b o vals hF h0 h1 (fun j y hy => (h2 j y hy).noid (hno j y hy)) hno
  | own id o l =>
    cases h with
    | own A _ _ _ cap bi hr hl hA => exact .own A id o l cap bi (key hx hr) hl hA
  | lp id c => cases h with | lp _ _ bi hr => exact .lp id c bi (key hx hr)
  | li id r c => cases h with | li _ _ _ bi hr => exact .li id r c bi (key hx hr)
  | it id => cases h with | it _ bi hr => exact .it id bi (key hx hr)

theorem VR.rn {σ : Nat → Nat} {n : Nat} {v : Value} {x : AV} (hx : x.lt n = true) (h : VR w F ρ v (x.rn σ)) : VR w F (rnρ ρ σ n) v x := by
  cases x with
  | agg cs =>
    cases h with
    | agg vs _ hl h1 h2 =>
      have get : ∀ (i : Nat) (y : AV), cs[i]? = some y → (cs.map (AV.rn1 σ))[i]? = some (y.rn1 σ) := fun i y hy => by rw [List.getElem?_map, hy]; rfl
      exact .agg vs cs (by simpa using hl) (fun i y hy => h1 i _ (get i y hy)) (fun i y hy => (h2 i _ (get i y hy)).rn1 (List.all_eq_true.1 hx y (List.mem_of_getElem? hy)))
  | _ => exact VR.rn1 hx h

theorem okT_at {σ : Nat → Nat} {n : Nat} : ∀ (ts : List (Nat × AV)), okT s σ n ts → ∀ k, mkT ts k = .any ∨ (s.t k = (mkT ts k).rn σ ∧ (mkT ts k).lt n = true)
  | [], _, k => .inl rfl
  | (j, v) :: l, h, k => by
    unfold mkT
    cases hb : Nat.beq k j with
    | true =>
      have e := Nat.eq_of_beq_eq_true hb
      subst e
      exact .inr h.1
    | false => exact okT_at l h.2 k

theorem okH_at {σ : Nat → Nat} {n : Nat} : ∀ (hs : List (Nat × LB)), okH s σ n hs → ∀ k lb, mkH hs k = some lb → okB s σ n k lb ∧ k ∈ hs.map (·.1)
  | [], _, k, lb, h => by cases h
  | (j, v) :: l, h, k, lb, hk => by
    unfold mkH at hk
    cases hb : Nat.beq k j with
    | true =>
      have e := Nat.eq_of_beq_eq_true hb
      subst e
      rw [hb] at hk
      injection hk with hk
      subst hk
      exact ⟨h.1, by simp⟩
    | false =>
      rw [hb] at hk
      have := okH_at l h.2 k lb hk
      exact ⟨this.1, by simp [this.2]⟩

theorem distinct_inj : ∀ (l : List Nat) (σ : Nat → Nat), distinct (l.map σ) = true → ∀ i ∈ l, ∀ j ∈ l, i ≠ j → σ i ≠ σ j
  | [], _, _, i, hi => by cases hi
  | x :: l, σ, h, i, hi => by
    intro j hj hne
    simp only [List.map_cons, distinct, Bool.and_eq_true, List.all_eq_true] at h
    have hx : ∀ y ∈ l, σ x ≠ σ y := fun y hy e => by
      have := h.1 (σ y) (List.mem_map.2 ⟨y, hy, rfl⟩)
      rw [e] at this
      simp [Nat.beq_refl] at this
    rcases List.mem_cons.1 hi with rfl | hi'
    · rcases List.mem_cons.1 hj with rfl | hj'
      · exact absurd rfl hne
      · exact hx j hj'
    · rcases List.mem_cons.1 hj with rfl | hj'
      · exact (hx i hi').symm
      · exact distinct_inj l σ h.2 i hi' j hj' hne

/-- A state in full, weaker than another one. -/
theorem Wk.of (σ : Nat → Nat) (ts : List (Nat × AV)) (hs : List (Nat × LB)) (n m : Nat) (hm : s.m = m) (ht : okT s σ n ts) (hh : okH s σ n hs) (hd : distinct ((hs.map (·.1)).map σ) = true) : Wk s (mkS ts hs n m) := by
  intro gh w0 F0 a w ⟨F, ρ, hR⟩
  refine ⟨F, rnρ ρ σ n, hR.defers, by rw [hR.size, hm]; rfl, (by show m ≤ 1000000; rw [← hm]; exact hR.mle), hR.below, hR.Fb, hR.F0F, hR.Fnew, fun t => ?_, fun id lb hl => ?_, fun id id' bi bi' h1 h2 r1 r2 p1 p2 hne => ?_, fun id hid => ?_⟩
  · show VR w F _ _ (mkT ts t)
    rcases okT_at ts ht t with h | ⟨h1, h2⟩
    · rw [h]; exact .any _
    · have := hR.vals t
      rw [h1] at this
      exact this.rn h2
  · obtain ⟨⟨hlt, hb⟩, _⟩ := okH_at hs hh id lb hl
    have hlt' : id < n := Nat.blt_eq.mp hlt
    rcases hb with ⟨hb, hno⟩ | ⟨hb, hltb⟩
    · obtain ⟨bi, q1, q2, q3⟩ := hR.blks _ _ hb
      refine ⟨bi, by simp [rnρ, hlt', q1], ?_, q3⟩
      cases lb with
      | iter sv pos => exact q2
      | cells sz rows =>
        obtain ⟨c1, c2, c3, c4⟩ := q2
        refine ⟨c1, c2, c3, fun hp => ?_⟩
        obtain ⟨cs, ty, d1, d2, d3, d4⟩ := c4 hp
        exact ⟨cs, ty, d1, d2, d3, fun j x hx => ⟨(d4 j x hx).1, (d4 j x hx).2.noid (mem_flat hno hx)⟩⟩
    · obtain ⟨bi, q1, q2, q3⟩ := hR.blks _ _ hb
      refine ⟨bi, by simp [rnρ, hlt', q1], ?_, q3⟩
      cases lb with
      | iter sv pos => exact q2
      | cells sz rows =>
        obtain ⟨c1, c2, c3, c4⟩ := q2
        have hfl : (rows.map (List.map (AV.rn1 σ))).flatten = rows.flatten.map (AV.rn1 σ) := by rw [List.map_flatten]
        have hltr : ∀ x ∈ rows.flatten, x.lt1 n = true := fun x hx => by
          obtain ⟨r, hr, hxr⟩ := List.mem_flatten.1 hx
          exact List.all_eq_true.1 (List.all_eq_true.1 hltb r hr) x hxr
        refine ⟨c1, fun r hr => ?_, fun h0 => ?_, fun hp => ?_⟩
        · have := c2 (r.map (AV.rn1 σ)) (List.mem_map.2 ⟨r, hr, rfl⟩)
          simpa using this
        · have := c3 h0
          rw [hfl] at this
          exact List.map_eq_nil_iff.1 this
        · obtain ⟨cs, ty, d1, d2, d3, d4⟩ := c4 hp
          refine ⟨cs, ty, d1, d2, by simpa using d3, fun j x hx => ?_⟩
          have hx' : (rows.map (List.map (AV.rn1 σ))).flatten[j]? = some (x.rn1 σ) := by rw [hfl, List.getElem?_map, hx]; rfl
          exact ⟨(d4 j _ hx').1, (d4 j _ hx').2.rn1 (hltr x (List.mem_of_getElem? hx))⟩
  · obtain ⟨l1, g1⟩ := Option.isSome_iff_exists.1 h1
    obtain ⟨l2, g2⟩ := Option.isSome_iff_exists.1 h2
    obtain ⟨⟨hlt1, hb1⟩, hm1⟩ := okH_at hs hh id l1 g1
    obtain ⟨⟨hlt2, hb2⟩, hm2⟩ := okH_at hs hh id' l2 g2
    have e1 : id < n := Nat.blt_eq.mp hlt1
    have e2 : id' < n := Nat.blt_eq.mp hlt2
    simp only [rnρ, e1, e2, if_true] at r1 r2
    have hs1 : (s.h (σ id)).isSome = true := by rcases hb1 with h | h <;> rw [h.1] <;> rfl
    have hs2 : (s.h (σ id')).isSome = true := by rcases hb2 with h | h <;> rw [h.1] <;> rfl
    exact hR.inj _ _ bi bi' hs1 hs2 r1 r2 p1 p2 (distinct_inj _ σ hd id hm1 id' hm2 hne)
  · have hid' : n ≤ id := hid
    simp only [rnρ]
    rw [if_neg (by omega)]

end

theorem SW.awp {P : Program} {TT : Nat → Option TI} (hT : TTok P TT) {c : Code} {Q : Exit → St → Prop} {s : St} (h : AL.awp P TT c Q s) : SW P c Q s := awp_sound hT c Q s h

theorem irows_noid (k : IntKind) (ns : List Int) : ∀ r ∈ irows k ns, ∀ x ∈ r, NoId x := by
  intro r hr x hx
  obtain ⟨n, _, rfl⟩ := List.mem_map.1 hr
  simp at hx
  subst hx
  exact .val _
theorem irows_len (k : IntKind) (ns : List Int) : (irows k ns).length = ns.length := by simp [irows]
theorem irows_get (k : IntKind) (ns : List Int) {i : Nat} {n : Int} (h : ns[i]? = some n) : (irows k ns)[i]? = some [.val (.int k n)] := by simp [irows, h]
theorem irows_set (k : IntKind) (ns : List Int) (i : Nat) (n : Int) : (irows k ns).set i [.val (.int k n)] = irows k (ns.set i n) := by simp [irows, List.map_set]
theorem irows_take (k : IntKind) (ns : List Int) (i : Nat) : (irows k ns).take i = irows k (ns.take i) := by simp [irows]
theorem irows_drop (k : IntKind) (ns : List Int) (i : Nat) : (irows k ns).drop i = irows k (ns.drop i) := by simp [irows]
theorem irows_append (k : IntKind) (a b : List Int) : irows k a ++ irows k b = irows k (a ++ b) := by simp [irows]
theorem irows_rep (k : IntKind) (n : Nat) (v : Int) : List.replicate n [AV.val (.int k v)] = irows k (List.replicate n v) := by simp [irows]

end Go.AL

/- An abstract program logic over tree values (part 18): regions that draw their order: what an operation looks at. -/
set_option linter.unusedVariables false
set_option linter.unusedSimpArgs false
namespace Go.AL
open Go Go.RowKit

/-- The live blocks that a value names. -/
def ids1 : AV → List Nat
  | .own id _ _ => [id]
  | .lp id _ => [id]
  | .li id _ _ => [id]
  | .it id => [id]
  | _ => []
def idsOf : AV → List Nat
  | .agg cs => cs.flatMap ids1
  | .tup _ => []
  | x => ids1 x
def opIds (o : Oper) (ev : Operand → AV) : List Nat := o.op.operands.toList.flatMap fun x => idsOf (ev x)
/-- May it change a live block? -/
def isW : Op → Bool
  | .store .. | .next .. | .call _ => true
  | _ => false

section
variable {TT : Nat → Option TI} {ev ev' : Operand → AV} {h h' : Nat → Option LB} {b : Nat}

theorem mem_opIds {o : Oper} {x : Operand} {id : Nat} (hx : x ∈ o.op.operands) (hid : id ∈ idsOf (ev x)) : id ∈ opIds o ev :=
  List.mem_flatMap.2 ⟨x, by simpa using hx, hid⟩

theorem rload_local {i : TI} {x : AV} (hh : ∀ id ∈ idsOf x, h id = h' id) : rload i h x = rload i h' x := by
  cases x with
  | lp id c => simp only [rload, hh id (by simp [idsOf, ids1])]
  | li id r c => simp only [rload, hh id (by simp [idsOf, ids1])]
  | _ => rfl
theorem rstore_local {i : TI} {xs : List AV} {x : AV} (hh : ∀ id ∈ idsOf x, h id = h' id) : rstore i h xs x = rstore i h' xs x := by
  cases x with
  | lp id c => simp only [rstore, hh id (by simp [idsOf, ids1])]
  | li id r c => simp only [rstore, hh id (by simp [idsOf, ids1])]
  | _ => rfl
theorem rslice_local {i : TI} {x : AV} {lo hi mx : Option AV} (hh : ∀ id ∈ idsOf x, h id = h' id) : rslice i TT h x lo hi mx = rslice i TT h' x lo hi mx := by
  unfold rslice
  cases x with
  | own id o l =>
    have e := hh id (by simp [idsOf, ids1])
    cases i.d <;> simp only [e]
  | val v => cases i.d <;> cases v <;> rfl
  | _ => cases i.d <;> rfl
theorem rindexAddr_local {j : TI} {i : Int} {x : AV} (hh : ∀ id ∈ idsOf x, h id = h' id) : rindexAddr j h i x = rindexAddr j h' i x := by
  cases x with
  | own id o l => simp only [rindexAddr, hh id (by simp [idsOf, ids1])]
  | _ => rfl
theorem rconv_local {p q : TI} {x : AV} (hh : ∀ id ∈ idsOf x, h id = h' id) : rconv TT b h p q x = rconv TT b h' p q x := by
  unfold rconv
  cases x with
  | own id o l =>
    have e := hh id (by simp [idsOf, ids1])
    cases q.d <;> simp only [e]
  | val v => cases q.d <;> cases v <;> rfl
  | _ => cases q.d <;> rfl
theorem rsrc_local {x : AV} (hh : ∀ id ∈ idsOf x, h id = h' id) : rsrc h x = rsrc h' x := by
  cases x with
  | own id o l => simp only [rsrc, hh id (by simp [idsOf, ids1])]
  | val v => cases v <;> rfl
  | _ => rfl
theorem rappend_local {j : TI} {x y : AV} (hx : ∀ id ∈ idsOf x, h id = h' id) (hy : ∀ id ∈ idsOf y, h id = h' id) : rappend j b h x y = rappend j b h' x y := by
  unfold rappend
  rw [rsrc_local hy]
  cases x with
  | own id o l => simp only [hx id (by simp [idsOf, ids1])]
  | sl a b t => cases t <;> rfl
  | _ => rfl
theorem rcopy_local {j : TI} {x y : AV} (hx : ∀ id ∈ idsOf x, h id = h' id) (hy : ∀ id ∈ idsOf y, h id = h' id) : rcopy j h x y = rcopy j h' x y := by
  unfold rcopy
  rw [rsrc_local hy]
  generalize rsrc h' y = z
  cases z with
  | none => cases x <;> rfl
  | some z =>
    obtain ⟨sz', ys, ps, acc⟩ := z
    cases x with
    | own id o l => simp only [hx id (by simp [idsOf, ids1])]
    | _ => rfl

theorem updsH_agree : ∀ (u : Ups) (h h' : Nat → Option LB) (id : Nat), h id = h' id → updsH h u id = updsH h' u id
  | [], h, h', id, he => he
  | (d, v) :: u, h, h', id, he => by
    refine updsH_agree u _ _ id ?_
    unfold updH
    rw [he]

theorem frz_local {x : AV} (hh : ∀ id ∈ ids1 x, h id = h' id) : frz h x = frz h' x := by
  cases x with
  | own id o l => simp only [frz, hh id (by simp [ids1])]
  | _ => rfl
theorem frzL_local : ∀ (xs : List AV) (h h' : Nat → Option LB), (∀ id ∈ xs.flatMap ids1, h id = h' id) → frzL h xs = frzL h' xs
  | [], _, _, _ => rfl
  | x :: xs, h, h', hh => by
    simp only [frzL]
    rw [frz_local (h := h) (h' := h') (fun id hid => hh id (by simp [hid]))]
    cases hf : frz h' x with
    | none => rfl
    | some q =>
      obtain ⟨x', p, u, a⟩ := q
      simp only
      rw [frzL_local xs (updsH h u) (updsH h' u) (fun id hid => updsH_agree u h h' id (hh id (by simp only [List.flatMap_cons, List.mem_append]; exact .inr hid)))]
theorem frzA_local : ∀ (xs : List AV) (h h' : Nat → Option LB), (∀ id ∈ xs.flatMap idsOf, h id = h' id) → frzA h xs = frzA h' xs
  | [], _, _, _ => rfl
  | x :: xs, h, h', hh => by
    have hx : ∀ id ∈ idsOf x, h id = h' id := fun id hid => hh id (by simp only [List.flatMap_cons, List.mem_append]; exact .inl hid)
    have hxs : ∀ u : Ups, frzA (updsH h u) xs = frzA (updsH h' u) xs := fun u =>
      frzA_local xs (updsH h u) (updsH h' u) (fun id hid => updsH_agree u h h' id (hh id (by simp only [List.flatMap_cons, List.mem_append]; exact .inr hid)))
    cases x with
    | agg cs =>
      simp only [frzA]
      rw [frzL_local cs h h' hx]
      cases frzL h' cs with
      | none => rfl
      | some q => obtain ⟨x', p, u, a⟩ := q; simp only; rw [hxs u]
    | tup cs =>
      simp only [frzA, frz]
      rw [hxs []]
    | any => simp only [frzA, frz]; rw [hxs []]
    | val v => simp only [frzA, frz]; rw [hxs []]
    | sl a b c => simp only [frzA, frz]; rw [hxs []]
    | fp a b => simp only [frzA, frz]; rw [hxs []]
    | own id o l =>
      simp only [frzA]
      rw [frz_local (h := h) (h' := h') (x := .own id o l) hx]
      cases frz h' (.own id o l) with
      | none => rfl
      | some q => obtain ⟨x', p, u, a⟩ := q; simp only; rw [hxs u]
    | lp id c => rfl
    | li id r c => rfl
    | it id => rfl

theorem rcall_local {c : Call} (hh : ∀ x ∈ c.args.toList, ∀ id ∈ idsOf (ev x), h id = h' id) : rcall TT ev h b c = rcall TT ev h' b c := by
  unfold rcall
  cases c.callee with
  | builtin bb =>
    have two : ∀ {x y : AV}, c.args.toList.map ev = [x, y] → (∀ id ∈ idsOf x, h id = h' id) ∧ (∀ id ∈ idsOf y, h id = h' id) := by
      intro x y he
      obtain ⟨p, q, hpq, rfl, rfl⟩ := args_two he
      have e : c.args.toList = [p, q] := by rw [hpq]
      exact ⟨hh p (by simp [e]), hh q (by simp [e])⟩
    cases bb <;> try rfl
    · -- append
      rcases hl : c.args.toList.map ev with _ | ⟨x, _ | ⟨y, _ | ⟨z, l⟩⟩⟩ <;> try rfl
      obtain ⟨h1, h2⟩ := two hl
      have e : ∀ j, rappend j b h x y = rappend j b h' x y := fun j => rappend_local h1 h2
      rcases c.argTypes.toList with _ | ⟨t, _ | ⟨u, _ | ⟨z, l⟩⟩⟩ <;> first | rfl | simp only [e]
    · -- copy
      rcases hl : c.args.toList.map ev with _ | ⟨x, _ | ⟨y, _ | ⟨z, l⟩⟩⟩ <;> try rfl
      obtain ⟨h1, h2⟩ := two hl
      have e : ∀ j, rcopy j h x y = rcopy j h' x y := fun j => rcopy_local h1 h2
      rcases c.argTypes.toList with _ | ⟨t, l⟩ <;> first | rfl | simp only [e]
    · rcases hl : c.args.toList.map ev with _ | ⟨x, _ | ⟨y, l⟩⟩ <;> rcases c.argTypes.toList with _ | ⟨t, l⟩ <;> rfl
  | value f =>
    simp only
    rw [frzA_local _ h h' (fun id hid => by
      obtain ⟨y, hy, hid⟩ := List.mem_flatMap.1 hid
      obtain ⟨x, hx, rfl⟩ := List.mem_map.1 hy
      exact hh x hx id hid)]
  | invoke _ _ => rfl

theorem aop_local {o : Oper} (hh : ∀ id ∈ opIds o ev, h id = h' id) : aop TT o ev h b = aop TT o ev h' b := by
  have at_ : ∀ x ∈ o.op.operands, ∀ id ∈ idsOf (ev x), h id = h' id := fun x hx id hid => hh id (mem_opIds hx hid)
  obtain ⟨dst, op, ty, pos, after, guard⟩ := o
  cases op <;> try rfl
  case load t x =>
    have e : ∀ i, rload i h (ev x) = rload i h' (ev x) := fun i => rload_local (at_ x (by simp [Op.operands]))
    simp only [aop, e]
  case store t x y =>
    have e : ∀ i xs, rstore i h xs (ev x) = rstore i h' xs (ev x) := fun i xs => rstore_local (at_ x (by simp [Op.operands]))
    simp only [aop, e]
  case convert s d x =>
    have e : ∀ p q, rconv TT b h p q (ev x) = rconv TT b h' p q (ev x) := fun p q => rconv_local (at_ x (by simp [Op.operands]))
    simp only [aop, e]
  case slice t x lo hi mx =>
    have e : ∀ i l u m, rslice i TT h (ev x) l u m = rslice i TT h' (ev x) l u m := fun i l u m => rslice_local (at_ x (by simp [Op.operands]))
    simp only [aop, e]
  case indexAddr t x ix =>
    have e : ∀ j i, rindexAddr j h i (ev x) = rindexAddr j h' i (ev x) := fun j i => rindexAddr_local (at_ x (by simp [Op.operands]))
    simp only [aop, e]
  case next x k =>
    cases k with
    | false => rfl
    | true =>
      simp only [aop]
      have hx := at_ x (by simp [Op.operands])
      cases he : ev x with
      | it id => rw [he] at hx; simp only; rw [hx id (by simp [idsOf, ids1])]
      | _ => rfl
  case call c =>
    simp only [aop]
    exact rcall_local (fun x hx => at_ x (by simp only [Op.operands, Call.operands, Array.mem_append]; right; simpa using hx))

theorem aop_congr {o : Oper} (he : ∀ x ∈ o.op.operands, ev x = ev' x) : aop TT o ev h b = aop TT o ev' h b := by
  obtain ⟨dst, op, ty, pos, after, guard⟩ := o
  have pairs : ∀ ps : Array (Nat × Operand), (∀ x ∈ (ps.toList.map (·.2)).toArray, ev x = ev' x) → (ps.toList.map fun p => (p.1, ev p.2)) = (ps.toList.map fun p => (p.1, ev' p.2)) := fun ps hp =>
    List.map_congr_left fun p hm => by rw [hp p.2 (by simpa using ⟨p.1, by simpa using hm⟩)]
  cases op <;> try rfl
  all_goals simp only [Op.operands] at he
  case build t ps => simp only [aop]; rw [pairs ps he]
  case buildSlice t n ps => simp only [aop]; rw [pairs ps he]
  case call c =>
    simp only [aop]
    have hargs : c.args.toList.map ev = c.args.toList.map ev' := List.map_congr_left fun x hx => he x (by simp only [Call.operands, Array.mem_append]; right; simpa using hx)
    unfold rcall
    rw [hargs]
    cases hc : c.callee with
    | value f => simp only [he f (by simp [Call.operands, hc])]
    | _ => rfl
  case slice t x lo hi mx =>
    simp only [aop]
    have hx := he x (by simp)
    have hl : lo.map ev = lo.map ev' := by cases lo with | none => rfl | some y => simp [he y (by simp)]
    have hh : hi.map ev = hi.map ev' := by cases hi with | none => rfl | some y => simp [he y (by simp)]
    have hm : mx.map ev = mx.map ev' := by cases mx with | none => rfl | some y => simp [he y (by simp)]
    rw [hx, hl, hh, hm]
  case pick c a b => simp only [aop]; rw [he c (by simp), he a (by simp), he b (by simp)]
  case store t x y => simp only [aop]; rw [he x (by simp), he y (by simp)]
  case binOp p t x y u => simp only [aop]; rw [he x (by simp), he y (by simp)]
  case makeSlice t x y => simp only [aop]; rw [he x (by simp), he y (by simp)]
  case indexAddr t x y => simp only [aop]; rw [he x (by simp), he y (by simp)]
  case index t x y => simp only [aop]; rw [he x (by simp), he y (by simp)]
  case next x k =>
    cases k with
    | false => rfl
    | true => simp only [aop]; rw [he x (by simp)]
  case move x => simp only [aop, he x (by simp)]
  case assign x => simp only [aop, he x (by simp)]
  case box e x => simp only [aop, he x (by simp)]
  case load t x => simp only [aop, he x (by simp)]
  case nilCheck x => simp only [aop, he x (by simp)]
  case unOp p t x => simp only [aop, he x (by simp)]
  case convert s d x => simp only [aop, he x (by simp)]
  case fieldAddr s x f => simp only [aop, he x (by simp)]
  case field s x f => simp only [aop, he x (by simp)]
  case range t x => simp only [aop, he x (by simp)]
  case extract x i => simp only [aop, he x (by simp)]
end

end Go.AL

/- An abstract program logic over tree values (part 19): regions that draw their order. -/
set_option linter.unusedVariables false
set_option linter.unusedSimpArgs false
namespace Go.AL
open Go Go.RowKit

theorem frz_ups {h : Nat → Option LB} {x x' : AV} {ps : List Prop} {u : Ups} {acc : Accs} (hf : frz h x = some (x', ps, u, acc)) : ∀ p ∈ u, p.1 ∈ ids1 x := by
  cases x with
  | own id o l =>
    simp only [frz] at hf
    split at hf
    · rename_i sz rows _
      cases hz : Nat.beq sz 0 with
      | true => simp [hz] at hf
      | false =>
        simp only [hz, cond_false, Option.some.injEq, Prod.mk.injEq] at hf
        obtain ⟨_, _, rfl, _⟩ := hf
        intro p hp
        simp at hp
        simp [hp, ids1]
    · cases hf
  | lp _ _ => cases hf
  | li _ _ _ => cases hf
  | it _ => cases hf
  | _ =>
    simp only [frz, Option.some.injEq, Prod.mk.injEq] at hf
    obtain ⟨_, _, rfl, _⟩ := hf
    intro p hp; cases hp

theorem frzL_ups : ∀ (xs : List AV) (h : Nat → Option LB) (xs' : List AV) (ps : List Prop) (u : Ups) (acc : Accs), frzL h xs = some (xs', ps, u, acc) → ∀ p ∈ u, p.1 ∈ xs.flatMap ids1
  | [], h, xs', ps, u, acc, hf => by
    simp only [frzL, Option.some.injEq, Prod.mk.injEq] at hf
    obtain ⟨_, _, rfl, _⟩ := hf
    intro p hp; cases hp
  | x :: xs, h, xs', ps, u, acc, hf => by
    simp only [frzL] at hf
    cases h1 : frz h x with
    | none => simp [h1] at hf
    | some q =>
      obtain ⟨x1, p1, u1, a1⟩ := q
      simp only [h1] at hf
      cases h2 : frzL (updsH h u1) xs with
      | none => simp [h2] at hf
      | some q =>
        obtain ⟨xs2, p2, u2, a2⟩ := q
        simp only [h2, Option.some.injEq, Prod.mk.injEq] at hf
        obtain ⟨_, _, rfl, _⟩ := hf
        intro p hp
        rw [List.flatMap_cons, List.mem_append]
        rcases List.mem_append.1 hp with hp | hp
        · exact .inl (frz_ups h1 p hp)
        · exact .inr (frzL_ups xs _ _ _ _ _ h2 p hp)

theorem frzA_ups : ∀ (xs : List AV) (h : Nat → Option LB) (xs' : List AV) (ps : List Prop) (u : Ups) (acc : Accs), frzA h xs = some (xs', ps, u, acc) → ∀ p ∈ u, p.1 ∈ xs.flatMap idsOf
  | [], h, xs', ps, u, acc, hf => by
    simp only [frzA, Option.some.injEq, Prod.mk.injEq] at hf
    obtain ⟨_, _, rfl, _⟩ := hf
    intro p hp; cases hp
  | x :: xs, h, xs', ps, u, acc, hf => by
    have step : ∀ (x1 : AV) (p1 : List Prop) (u1 : Ups) (a1 : Accs), (∀ p ∈ u1, p.1 ∈ idsOf x) →
        (match frzA (updsH h u1) xs with
          | some (xs2, p2, u2, a2) => some (x1 :: xs2, p1 ++ p2, u1 ++ u2, a1 ++ a2)
          | none => none) = some (xs', ps, u, acc) → ∀ p ∈ u, p.1 ∈ (x :: xs).flatMap idsOf := by
      intro x1 p1 u1 a1 hone hf
      cases h2 : frzA (updsH h u1) xs with
      | none => simp [h2] at hf
      | some q =>
        obtain ⟨xs2, p2, u2, a2⟩ := q
        simp only [h2, Option.some.injEq, Prod.mk.injEq] at hf
        obtain ⟨_, _, rfl, _⟩ := hf
        intro p hp
        rw [List.flatMap_cons, List.mem_append]
        rcases List.mem_append.1 hp with hp | hp
        · exact .inl (hone p hp)
        · exact .inr (frzA_ups xs _ _ _ _ _ h2 p hp)
    have two : ∀ (hne : ∀ cs, x ≠ .agg cs), (match frz h x with
        | some (x', p, u, a) => match frzA (updsH h u) xs with
          | some (xs', p', u', a') => some (x' :: xs', p ++ p', u ++ u', a ++ a')
          | none => none
        | none => none) = some (xs', ps, u, acc) → ∀ p ∈ u, p.1 ∈ (x :: xs).flatMap idsOf := by
      intro hne hf
      cases h1 : frz h x with
      | none => simp [h1] at hf
      | some q =>
        obtain ⟨x1, p1, u1, a1⟩ := q
        simp only [h1] at hf
        refine step x1 p1 u1 a1 (fun p hp => ?_) hf
        have hm := frz_ups h1 p hp
        cases x with
        | agg cs => exact absurd rfl (hne cs)
        | tup cs => exact absurd hm (by simp [ids1])
        | _ => exact hm
    cases x with
    | agg cs =>
      simp only [frzA] at hf
      cases h1 : frzL h cs with
      | none => simp [h1] at hf
      | some q =>
        obtain ⟨x1, p1, u1, a1⟩ := q
        simp only [h1] at hf
        exact step (.agg x1) p1 u1 a1 (fun p hp => frzL_ups cs h _ _ _ _ h1 p hp) hf
    | _ => exact two (fun cs e => by cases e) hf

/-- What an operation changes: live blocks that its operands name, if it may; or new ones. -/
def UpsOk (o : Oper) (ev : Operand → AV) (b : Nat) (u : Ups) : Prop := ∀ p ∈ u, (p.1 ∈ opIds o ev ∧ isW o.op = true) ∨ (b ≤ p.1 ∧ p.1 < b + 8)

theorem AStep_ups {P : Program} {TT : Nat → Option TI} {o : Oper} {t : Nat → AV} {h : Nat → Option LB} {b : Nat} {v : AV} {u : Ups} {acc : Accs} (hs : AStep P TT o t h b v u acc) : UpsOk o (aval t) b u := by
  rcases hs with hg | ⟨f, args, ps, u0, r, hg, hp, hA, rfl, rfl⟩
  · have new : ∀ {x : Option LB}, UpsOk o (aval t) b [(b, x)] := fun {x} p hp => by simp at hp; subst hp; exact .inr ⟨Nat.le_refl _, by show b < b + 8; omega⟩
    have nil : UpsOk o (aval t) b [] := fun p hp => by cases hp
    unfold aop at hg
    split at hg
    case h_9 t' x y ho =>
      split at hg
      · rename_i i xs hi hy
        cases hc : (Nat.beq xs.length i.size && !Nat.beq i.size 0) with
        | false => simp [hc] at hg; exact hg.elim
        | true =>
          simp only [hc, cond_true] at hg
          have hw : isW o.op = true := by rw [ho]; rfl
          have main : ∀ p ∈ u, p.1 ∈ idsOf (aval t x) := by
            cases hx : aval t x with
            | lp id c =>
              rw [hx] at hg
              simp only [rstore] at hg
              split at hg
              · rename_i sz row hl
                cases hc2 : (Nat.ble (c + i.size) row.length) with
                | false => simp [hc2] at hg; exact hg.elim
                | true =>
                  simp only [hc2, cond_true] at hg
                  obtain ⟨_, rfl, _⟩ := hg
                  intro p hp; simp at hp; simp [hp, idsOf, ids1]
              · exact hg.elim
            | li id r c =>
              rw [hx] at hg
              simp only [rstore] at hg
              split at hg
              · rename_i sz rows hl
                cases hc2 : (Nat.beq i.size sz && Nat.beq c 0) with
                | true =>
                  simp only [hc2, cond_true] at hg
                  obtain ⟨_, _, rfl, _⟩ := hg
                  intro p hp; simp at hp; simp [hp, idsOf, ids1]
                | false =>
                  simp only [hc2, cond_false] at hg
                  cases hc3 : (Nat.ble (c + i.size) sz) with
                  | false => simp [hc3] at hg; exact hg.elim
                  | true =>
                    simp only [hc3, cond_true] at hg
                    obtain ⟨row, _, _, rfl, _⟩ := hg
                    intro p hp; simp at hp; simp [hp, idsOf, ids1]
              · exact hg.elim
            | _ => rw [hx] at hg; exact hg.elim
          exact fun p hp => .inl ⟨mem_opIds (by rw [ho]; simp [Op.operands]) (main p hp), hw⟩
      · exact hg.elim
    case h_21 x ho =>
      split at hg
      · rename_i id hx
        split at hg
        · rename_i sv pos hl
          have hid : id ∈ opIds o (aval t) := mem_opIds (x := x) (by rw [ho]; simp [Op.operands]) (by rw [hx]; simp [idsOf, ids1])
          rcases hg with ⟨_, _, rfl, _⟩ | ⟨_, _, rfl, _⟩
          · intro p hp; simp at hp; subst hp; exact .inl ⟨hid, by rw [ho]; rfl⟩
          · exact nil
        · exact hg.elim
      · exact hg.elim
    case h_23 c ho =>
      have hw : isW o.op = true := by rw [ho]; rfl
      unfold rcall at hg
      split at hg
      · rename_i bb hc
        split at hg
        · split at hg
          · unfold rlen at hg
            split at hg <;> first | exact hg.elim | (obtain ⟨_, rfl, _⟩ := hg; exact nil)
          · exact hg.elim
        · rename_i x y t0 u' hargs htys
          obtain ⟨p, q, hpq, rfl, rfl⟩ := args_two hargs
          have hmem : ∀ id ∈ idsOf (aval t p), id ∈ opIds o (aval t) := fun id hid => mem_opIds (x := p) (by rw [ho]; simp [Op.operands, Call.operands, hpq]) hid
          have main : ∀ j, (rappend j b h (aval t p) (aval t q)).gives v u acc → UpsOk o (aval t) b u := by
            intro j hg
            unfold rappend at hg
            split at hg
            · rename_i sz' ys ps acc' hsrc
              cases hc1 : ((Nat.beq j.size sz' || Nat.beq ys.length 0) && !Nat.beq j.bytes 0) with
              | false => simp [hc1] at hg; exact hg.elim
              | true =>
                simp only [hc1, cond_true] at hg
                split at hg
                · rename_i sz rows hx
                  cases hc2 : (Nat.beq j.size sz || Nat.beq rows.length 0) with
                  | false => simp [hc2] at hg; exact hg.elim
                  | true =>
                    simp only [hc2, cond_true] at hg
                    obtain ⟨_, _, rfl, _⟩ := hg
                    exact new
                · rename_i id off len hx
                  split at hg
                  · rename_i sz rows hlb
                    cases hc2 : (Nat.beq j.size sz) with
                    | false => simp [hc2] at hg; exact hg.elim
                    | true =>
                      simp only [hc2, cond_true] at hg
                      obtain ⟨_, _, rfl, _⟩ := hg
                      intro pp hpp
                      rcases List.mem_cons.1 hpp with rfl | hpp
                      · exact .inl ⟨hmem id (by rw [hx]; simp [idsOf, ids1]), hw⟩
                      · simp at hpp; subst hpp; exact .inr ⟨Nat.le_refl _, by show b < b + 8; omega⟩
                  · exact hg.elim
                · exact hg.elim
            · exact hg.elim
          split at hg
          · split at hg
            · split at hg
              · split at hg
                · exact main _ hg
                · exact main _ hg
                · exact hg.elim
              · exact hg.elim
            · exact hg.elim
          · exact hg.elim
        · rename_i x y t0 _ hargs htys
          obtain ⟨p, q, hpq, rfl, rfl⟩ := args_two hargs
          have hmem : ∀ id ∈ idsOf (aval t p), id ∈ opIds o (aval t) := fun id hid => mem_opIds (x := p) (by rw [ho]; simp [Op.operands, Call.operands, hpq]) hid
          split at hg
          · split at hg
            · split at hg
              · rename_i j hj
                unfold rcopy at hg
                split at hg
                · rename_i sz' ys ps acc' id off len hsrc hx
                  split at hg
                  · rename_i sz rows hlb
                    cases hc1 : (Nat.beq j.size sz' && Nat.beq j.size sz) with
                    | false => simp [hc1] at hg; exact hg.elim
                    | true =>
                      simp only [hc1, cond_true] at hg
                      obtain ⟨_, _, rfl, _⟩ := hg
                      intro pp hpp; simp at hpp; subst hpp
                      exact .inl ⟨hmem id (by rw [hx]; simp [idsOf, ids1]), hw⟩
                  · exact hg.elim
                · exact hg.elim
              · exact hg.elim
            · exact hg.elim
          · exact hg.elim
        · unfold rmin at hg
          split at hg
          · rename_i k m k' n hl
            cases hk : ikeq k k' with
            | false => simp [hk] at hg; exact hg.elim
            | true => simp only [hk, cond_true] at hg; obtain ⟨_, rfl, _⟩ := hg; exact nil
          · exact hg.elim
        · unfold rmax at hg
          split at hg
          · rename_i k m k' n hl
            cases hk : ikeq k k' with
            | false => simp [hk] at hg; exact hg.elim
            | true => simp only [hk, cond_true] at hg; obtain ⟨_, rfl, _⟩ := hg; exact nil
          · exact hg.elim
        · exact hg.elim
      · split at hg
        · split at hg
          · exact hg.elim
          · exact hg.elim
        · exact hg.elim
      · exact hg.elim
    case h_3 c x y ho =>
      split at hg
      · rcases hg with ⟨_, _, rfl, _⟩ | ⟨_, _, rfl, _⟩ <;> exact nil
      · exact hg.elim
    case h_8 t' x ho =>
      split at hg
      · obtain ⟨row, c, ⟨_, rfl⟩, _⟩ := rload_inv hg
        exact nil
      · exact hg.elim
    all_goals
      revert hg
      (try unfold rbin)
      (try unfold reqs)
      (try unfold runop)
      (try unfold rslice)
      (try unfold rindexAddr)
      (try unfold rconv)
      (try simp only [cond_eq_ite])
      repeat' split
      all_goals
        intro hg
        first
          | exact hg.elim
          | (obtain ⟨_, rfl, _⟩ := hg; first | exact nil | exact new)
          | (obtain ⟨_, _, rfl, _⟩ := hg; first | exact nil | exact new)
          | (obtain ⟨_, _, _, rfl, _⟩ := hg; first | exact nil | exact new)
          | (rcases hg with ⟨_, _, rfl, _⟩ | ⟨_, _, rfl, _⟩ <;> first | exact nil | exact new)
  · obtain ⟨c, ho, hc⟩ := aop_call hg
    obtain ⟨g, hcal, hev, hfz⟩ := rcall_inv hc
    intro p hp
    rcases List.mem_append.1 hp with hp | hp
    · left
      refine ⟨?_, by rw [ho]; rfl⟩
      have := frzA_ups _ _ _ _ _ _ hfz p hp
      obtain ⟨y, hy, hid⟩ := List.mem_flatMap.1 this
      obtain ⟨x, hx, rfl⟩ := List.mem_map.1 hy
      exact mem_opIds (x := x) (by rw [ho]; simp only [Op.operands, Call.operands, Array.mem_append]; right; simpa using hx) hid
    · right
      cases r with
      | pure v => cases hp
      | fresh sz rows => simp [AR.u] at hp; subst hp; exact ⟨Nat.le_refl _, by show b < b + 8; omega⟩

end Go.AL

/- An abstract program logic over tree values (part 19b): what an operation looks at: nothing of the live blocks, their shapes, their content. -/
set_option linter.unusedVariables false
set_option linter.unusedSimpArgs false
namespace Go.AL
open Go Go.RowKit

/-- 0: no live block; 1: whether there is one, and how wide its rows are; 2: all. -/
def dep : Op → Nat
  | .move _ | .assign _ | .pick .. | .alloc _ | .box .. | .build .. | .buildSlice .. | .nilCheck _ | .binOp .. | .unOp .. | .makeSlice .. | .fieldAddr .. | .field .. | .index .. | .range .. | .extract .. => 0
  | .indexAddr .. | .slice .. => 1
  | _ => 2
def isStore : Op → Bool
  | .store .. => true
  | _ => false

/-- A block's shape. -/
def shp : Option LB → Option (Option Nat)
  | none => none
  | some (.cells sz _) => some (some sz)
  | some (.iter _ _) => some none

section
variable {P : Program} {TT : Nat → Option TI} {ev : Operand → AV} {h h' : Nat → Option LB} {b : Nat}

theorem aop_dep0 {o : Oper} (hd : dep o.op = 0) : aop TT o ev h b = aop TT o ev h' b := by
  obtain ⟨dst, op, ty, pos, after, guard⟩ := o
  cases op <;> first | rfl | (simp [dep] at hd)

theorem rslice_shape {i : TI} {x : AV} {lo hi mx : Option AV} (hh : ∀ id ∈ idsOf x, shp (h id) = shp (h' id)) : rslice i TT h x lo hi mx = rslice i TT h' x lo hi mx := by
  unfold rslice
  cases x with
  | own id o l =>
    have e := hh id (by simp [idsOf, ids1])
    cases i.d <;> try rfl
    rename_i el
    simp only
    cases TT el with
    | none => rfl
    | some j =>
      cases h1 : h id with
      | none => cases h2 : h' id with
        | none => rfl
        | some lb => rw [h1, h2] at e; cases lb <;> simp [shp] at e
      | some lb => cases h2 : h' id with
        | none => rw [h1, h2] at e; cases lb <;> simp [shp] at e
        | some lb' =>
          rw [h1, h2] at e
          cases lb <;> cases lb' <;> simp [shp] at e
          · subst e; rfl
          · rfl
  | val v => cases i.d <;> cases v <;> rfl
  | _ => cases i.d <;> rfl

theorem rindexAddr_shape {j : TI} {i : Int} {x : AV} (hh : ∀ id ∈ idsOf x, shp (h id) = shp (h' id)) : rindexAddr j h i x = rindexAddr j h' i x := by
  cases x with
  | own id o l =>
    have e := hh id (by simp [idsOf, ids1])
    simp only [rindexAddr]
    cases h1 : h id with
    | none => cases h2 : h' id with
      | none => rfl
      | some lb => rw [h1, h2] at e; cases lb <;> simp [shp] at e
    | some lb => cases h2 : h' id with
      | none => rw [h1, h2] at e; cases lb <;> simp [shp] at e
      | some lb' =>
        rw [h1, h2] at e
        cases lb <;> cases lb' <;> simp [shp] at e
        · subst e; rfl
        · rfl
  | _ => rfl

theorem aop_dep1 {o : Oper} (hd : dep o.op = 1) (hh : ∀ id ∈ opIds o ev, shp (h id) = shp (h' id)) : aop TT o ev h b = aop TT o ev h' b := by
  have at_ : ∀ x ∈ o.op.operands, ∀ id ∈ idsOf (ev x), shp (h id) = shp (h' id) := fun x hx id hid => hh id (mem_opIds hx hid)
  obtain ⟨dst, op, ty, pos, after, guard⟩ := o
  cases op <;> try (simp [dep] at hd)
  case slice t x lo hi mx =>
    have e : ∀ i l u m, rslice i TT h (ev x) l u m = rslice i TT h' (ev x) l u m := fun i l u m => rslice_shape (at_ x (by simp [Op.operands]))
    simp only [aop, e]
  case indexAddr t x ix =>
    have e : ∀ j i, rindexAddr j h i (ev x) = rindexAddr j h' i (ev x) := fun j i => rindexAddr_shape (at_ x (by simp [Op.operands]))
    simp only [aop, e]

theorem rstore_shape {i : TI} {xs : List AV} {x : AV} {v : AV} {u : Ups} {acc : Accs} (hg : (rstore i h xs x).gives v u acc) : ∀ p ∈ u, shp p.2 = shp (h p.1) := by
  unfold rstore at hg
  split at hg
  · rename_i id c
    split at hg
    · rename_i sz row hl
      cases hc : (Nat.ble (c + i.size) row.length) with
      | false => simp [hc] at hg; exact hg.elim
      | true =>
        simp only [hc, cond_true] at hg
        obtain ⟨_, rfl, _⟩ := hg
        intro p hp; simp at hp; subst hp; simp [hl, shp]
    · exact hg.elim
  · rename_i id r c
    split at hg
    · rename_i sz rows hl
      cases hc : (Nat.beq i.size sz && Nat.beq c 0) with
      | true =>
        simp only [hc, cond_true] at hg
        obtain ⟨_, _, rfl, _⟩ := hg
        intro p hp; simp at hp; subst hp; simp [hl, shp]
      | false =>
        simp only [hc, cond_false] at hg
        cases hc2 : (Nat.ble (c + i.size) sz) with
        | false => simp [hc2] at hg; exact hg.elim
        | true =>
          simp only [hc2, cond_true] at hg
          obtain ⟨row, _, _, rfl, _⟩ := hg
          intro p hp; simp at hp; subst hp; simp [hl, shp]
    · exact hg.elim
  · exact hg.elim

theorem AStep_store {o : Oper} {t : Nat → AV} {v : AV} {u : Ups} {acc : Accs} (hw : isStore o.op = true) (hs : AStep P TT o t h b v u acc) : ∀ p ∈ u, shp p.2 = shp (h p.1) := by
  obtain ⟨dst, op, ty, pos, after, guard⟩ := o
  cases op <;> try (simp [isStore] at hw)
  case store t' x y =>
    rcases hs with hg | ⟨f, args, ps, u0, r, hg, _⟩
    · simp only [aop] at hg
      split at hg
      · rename_i i xs hi hy
        cases hc : (Nat.beq xs.length i.size && !Nat.beq i.size 0) with
        | false => simp [hc] at hg; exact hg.elim
        | true =>
          simp only [hc, cond_true] at hg
          exact rstore_shape hg
      · exact hg.elim
    · obtain ⟨c, ho, _⟩ := aop_call hg
      cases ho

theorem updsH_shape : ∀ (u : Ups) (h : Nat → Option LB), (∀ p ∈ u, shp p.2 = shp (h p.1)) → ∀ id, shp (updsH h u id) = shp (h id)
  | [], h, _, id => rfl
  | (d, v) :: u, h, hh, id => by
    have hd : shp v = shp (h d) := hh (d, v) (by simp)
    have one : ∀ k, shp (updH h d v k) = shp (h k) := by
      intro k
      by_cases e : k = d
      · subst e; rw [updH_same]; exact hd
      · rw [updH_ne _ _ e]
    simp only [updsH]
    rw [updsH_shape u (updH h d v) (fun p hp => by rw [one]; exact hh p (by simp [hp])) id, one]

/-- What an operation looks at stands the same in both. -/
def DepOk (o : Op) (ids : List Nat) (h h' : Nat → Option LB) : Prop := dep o = 0 ∨ (dep o = 1 ∧ ∀ id ∈ ids, shp (h id) = shp (h' id)) ∨ ∀ id ∈ ids, h id = h' id

theorem aop_dep {o : Oper} {ids : List Nat} (hi : opIds o ev = ids) (hd : DepOk o.op ids h h') : aop TT o ev h b = aop TT o ev h' b := by
  subst hi
  rcases hd with hd | ⟨hd, hh⟩ | hh
  · exact aop_dep0 hd
  · exact aop_dep1 hd hh
  · exact aop_local hh

end
end Go.AL

/- An abstract program logic over tree values (part 20): whatever order is drawn, the end is that of the text's order. -/
set_option linter.unusedVariables false
set_option linter.unusedSimpArgs false
namespace Go.AL
open Go Go.RowKit

theorem updsH_not : ∀ (u : Ups) (h : Nat → Option LB) (id : Nat), (∀ p ∈ u, p.1 ≠ id) → updsH h u id = h id
  | [], h, id, _ => rfl
  | (d, v) :: u, h, id, hn => by
    simp only [updsH]
    rw [updsH_not u _ id (fun p hp => hn p (by simp [hp])), updH_ne _ _ (fun e => hn (d, v) (by simp) e.symm)]
theorem updsH_in : ∀ (u : Ups) (h h' : Nat → Option LB) (id : Nat), (∃ p ∈ u, p.1 = id) → updsH h u id = updsH h' u id
  | [], h, h', id, hm => by obtain ⟨p, hp, _⟩ := hm; cases hp
  | (d, v) :: u, h, h', id, hm => by
    simp only [updsH]
    by_cases hu : ∃ p ∈ u, p.1 = id
    · exact updsH_in u _ _ id hu
    · have hn : ∀ p ∈ u, p.1 ≠ id := fun p hp e => hu ⟨p, hp, e⟩
      rw [updsH_not u _ id hn, updsH_not u _ id hn]
      obtain ⟨p, hp, e⟩ := hm
      rcases List.mem_cons.1 hp with rfl | hp
      · have e' : d = id := e
        subst e'; rw [updH_same, updH_same]
      · exact absurd e (hn p hp)
theorem updsH_comm (u u' : Ups) (h : Nat → Option LB) (hd : ∀ p ∈ u, ∀ q ∈ u', p.1 ≠ q.1) : updsH (updsH h u) u' = updsH (updsH h u') u := by
  funext id
  by_cases h1 : ∃ p ∈ u, p.1 = id
  · obtain ⟨p, hp, rfl⟩ := h1
    rw [updsH_not u' _ _ (fun q hq e => hd p hp q hq e.symm)]
    exact updsH_in u _ _ _ ⟨p, hp, rfl⟩
  · have hn : ∀ p ∈ u, p.1 ≠ id := fun p hp e => h1 ⟨p, hp, e⟩
    rw [updsH_not u (updsH h u') id hn]
    by_cases h2 : ∃ q ∈ u', q.1 = id
    · exact updsH_in u' _ _ _ h2
    · have hn' : ∀ q ∈ u', q.1 ≠ id := fun q hq e => h2 ⟨q, hq, e⟩
      rw [updsH_not u' _ id hn', updsH_not u _ id hn, updsH_not u' _ id hn']

/-- What an operation does in a region: its value, what it changes, whether its guard lets it by. -/
structure Ev where
  v : AV
  u : Ups
  skip : Bool

def Ev.val (e : Ev) : AV := bif e.skip then .val undef else e.v

def gdA (ops : Array Oper) (o : Oper) (t : Nat → AV) (yes : Bool) : Prop :=
  match o.guard with
  | none => yes = true
  | some (g, want) => ∃ d x, ((ops[g]?).bind (·.dst) = some d ∧ d < 1000000) ∧ t d = .val x ∧ (yv x == some want) = yes

/-- Operation i, at such slots and live blocks. -/
def CondE (P : Program) (TT : Nat → Option TI) (ops : Array Oper) (n : Nat) (i : Nat) (o : Oper) (ids : List Nat) (e : Ev) (t : Nat → AV) (h : Nat → Option LB) : Prop :=
  (e.skip = false ∧ gdA ops o t true ∧ opIds o (aval t) = ids ∧ ∃ acc, AStep P TT o t h (n + 8 * i) e.v e.u acc) ∨ (e.skip = true ∧ gdA ops o t false ∧ e.u = [])

/-- An operation of a region, with what it does. -/
structure Ent where
  i : Nat
  ids : List Nat
  ev : Ev

/-- A chain of operations. -/
inductive Cn (P : Program) (TT : Nat → Option TI) (ops : Array Oper) (n m : Nat) : List Ent → (Nat → AV) → (Nat → Option LB) → (Nat → AV) → (Nat → Option LB) → Prop
  | nil (t : Nat → AV) (h : Nat → Option LB) : Cn P TT ops n m [] t h t h
  | cons (x : Ent) (l : List Ent) (o : Oper) (t : Nat → AV) (h : Nat → Option LB) (t' : Nat → AV) (h' : Nat → Option LB) (ho : ops[x.i]? = some o) (hd : dstOk o.dst m = true)
      (hc : CondE P TT ops n x.i o x.ids x.ev t h) (hl : Cn P TT ops n m l (putT t o.dst x.ev.val) (updsH h x.ev.u) t' h') : Cn P TT ops n m (x :: l) t h t' h'

section
variable {P : Program} {TT : Nat → Option TI} {ops : Array Oper} {n m : Nat} {i j : Nat} {oi oj o : Oper} {idi idj ids : List Nat} {ei ej e : Ev} {t t' t1 : Nat → AV} {h h' h1 : Nat → Option LB}

theorem aval_agree {x : Operand} (hx : ∀ d, x = .tmp d → t d = t' d) : aval t x = aval t' x := by
  cases x with
  | tmp d =>
    show (bif Nat.blt d 1000000 then t d else .val undef) = (bif Nat.blt d 1000000 then t' d else .val undef)
    rw [hx d rfl]
  | _ => rfl

theorem CondE.move (hc : CondE P TT ops n i o ids e t h) (ht : ∀ d ∈ o.looksAt ops, t d = t' d) (hh : DepOk o.op ids h h') : CondE P TT ops n i o ids e t' h' := by
  have hop : ∀ x ∈ o.op.operands, aval t x = aval t' x := fun x hx => aval_agree fun d hd => ht d (by
    subst hd
    exact List.mem_append_left _ (List.mem_filterMap.2 ⟨.tmp d, by simpa using hx, rfl⟩))
  have hgd : ∀ yes, gdA ops o t yes → gdA ops o t' yes := by
    intro yes hg
    unfold gdA at *
    cases hgu : o.guard with
    | none => rw [hgu] at hg; exact hg
    | some gw =>
      obtain ⟨g, want⟩ := gw
      rw [hgu] at hg
      obtain ⟨d, x, h1, h2, h3⟩ := hg
      refine ⟨d, x, h1, ?_, h3⟩
      rw [← ht d (by simp [Oper.looksAt, hgu, h1.1])]
      exact h2
  have hids : opIds o (aval t) = opIds o (aval t') := by
    unfold opIds
    rw [List.flatMap_def, List.flatMap_def]
    refine congrArg List.flatten (List.map_congr_left ?_)
    intro x hx
    simp only [hop x (by simpa using hx)]
  rcases hc with ⟨h1, h2, h3, acc, hs⟩ | ⟨h1, h2, h3⟩
  · refine .inl ⟨h1, hgd _ h2, by rw [← hids]; exact h3, acc, ?_⟩
    have hl : aop TT o (aval t') h' (n + 8 * i) = aop TT o (aval t) h (n + 8 * i) := by
      rw [← aop_congr hop]
      exact (aop_dep h3 hh).symm
    unfold AStep at *
    rw [hl]
    exact hs
  · exact .inr ⟨h1, hgd _ h2, h3⟩

theorem CondE.ups (hc : CondE P TT ops n i o ids e t h) : ∀ p ∈ e.u, (p.1 ∈ ids ∧ isW o.op = true) ∨ (n + 8 * i ≤ p.1 ∧ p.1 < n + 8 * i + 8) := by
  rcases hc with ⟨h1, h2, h3, acc, hs⟩ | ⟨h1, h2, h3⟩
  · intro p hp
    have := AStep_ups hs p hp
    rwa [h3] at this
  · intro p hp; rw [h3] at hp; cases hp

def disj (a b : List Nat) : Bool := a.all fun x => b.all fun y => !Nat.beq x y
/-- What the second one looks at is nothing that the first one changes. -/
def calm (x y : Op) : Bool := !isW x || Nat.beq (dep y) 0 || (isStore x && Nat.ble (dep y) 1)
/-- Two operations that do not look at what the other one does. -/
def idsOk (n i j : Nat) (oi oj : Oper) (idi idj : List Nat) : Bool :=
  (disj idi idj || (calm oi.op oj.op && calm oj.op oi.op && !(isW oi.op && isW oj.op))) &&
  (idj.all fun y => Nat.blt y (n + 8 * i) || Nat.ble (n + 8 * i + 8) y) && (idi.all fun x => Nat.blt x (n + 8 * j) || Nat.ble (n + 8 * j + 8) x)

theorem disj_spec {a b : List Nat} (h : disj a b = true) : ∀ x ∈ a, ∀ y ∈ b, x ≠ y := by
  intro x hx y hy e
  simp only [disj, List.all_eq_true, Bool.not_eq_true'] at h
  have := h x hx y hy
  rw [e, Nat.beq_refl] at this
  cases this

theorem rd (hi : CondE P TT ops n i oi idi ei t h) (hk : disj idi idj = true ∨ calm oi.op oj.op = true) (k2 : ∀ y ∈ idj, ¬ (n + 8 * i ≤ y ∧ y < n + 8 * i + 8)) : DepOk oj.op idj (updsH h ei.u) h := by
  rcases hk with hk | hk
  · refine .inr (.inr fun id hid => updsH_not _ _ _ (fun p hp e => ?_))
    rcases hi.ups p hp with ⟨q1, q2⟩ | q
    · exact disj_spec hk p.1 q1 id hid e
    · rw [e] at q; exact k2 id hid q
  · simp only [calm, Bool.or_eq_true, Bool.and_eq_true, Bool.not_eq_true'] at hk
    rcases hk with (hk | hk) | ⟨hk, hk2⟩
    · refine .inr (.inr fun id hid => updsH_not _ _ _ (fun p hp e => ?_))
      rcases hi.ups p hp with ⟨q1, q2⟩ | q
      · rw [hk] at q2; cases q2
      · rw [e] at q; exact k2 id hid q
    · exact .inl (Nat.eq_of_beq_eq_true hk)
    · have hs : ∀ p ∈ ei.u, shp p.2 = shp (h p.1) := by
        rcases hi with ⟨_, _, _, acc, hs⟩ | ⟨_, _, h3⟩
        · exact AStep_store hk hs
        · intro p hp; rw [h3] at hp; cases hp
      have hle := Nat.ble_eq.mp hk2
      by_cases h0 : dep oj.op = 0
      · exact .inl h0
      · exact .inr (.inl ⟨by omega, fun id _ => updsH_shape _ _ hs id⟩)

theorem putT_comm {di dj : Option Nat} (v w : AV) (hd : ∀ d, di = some d → dj ≠ some d) : putT (putT t di v) dj w = putT (putT t dj w) di v := by
  cases di with
  | none => rfl
  | some a =>
    cases dj with
    | none => rfl
    | some b =>
      have hne : a ≠ b := fun e => hd a rfl (by rw [e])
      funext k
      simp only [putT, upd]
      cases h1 : Nat.beq k a <;> cases h2 : Nat.beq k b <;> simp [h1, h2]
      exact absurd ((Nat.eq_of_beq_eq_true h1).symm.trans (Nat.eq_of_beq_eq_true h2)) hne

theorem putT_other {di : Option Nat} {v : AV} {d : Nat} (hd : di ≠ some d) : putT t di v d = t d := by
  cases di with
  | none => rfl
  | some a => exact upd_ne _ _ (fun e => hd (by rw [e]))

theorem swap (hij : i ≠ j) (hap : oi.apart ops oj = true) (hok : idsOk n i j oi oj idi idj = true) (hi : CondE P TT ops n i oi idi ei t h)
    (hj : CondE P TT ops n j oj idj ej (putT t oi.dst ei.val) (updsH h ei.u)) :
    CondE P TT ops n j oj idj ej t h ∧ CondE P TT ops n i oi idi ei (putT t oj.dst ej.val) (updsH h ej.u) ∧
      putT (putT t oi.dst ei.val) oj.dst ej.val = putT (putT t oj.dst ej.val) oi.dst ei.val ∧ updsH (updsH h ei.u) ej.u = updsH (updsH h ej.u) ei.u := by
  obtain ⟨a1, a2, a3⟩ := Oper.apart_spec hap
  simp only [idsOk, Bool.and_eq_true, Bool.or_eq_true, List.all_eq_true, Bool.not_eq_true'] at hok
  obtain ⟨⟨k1, k2⟩, k3⟩ := hok
  have r2 : ∀ y ∈ idj, ¬ (n + 8 * i ≤ y ∧ y < n + 8 * i + 8) := fun y hy hc => by
    rcases k2 y hy with h | h
    · have := Nat.blt_eq.mp h; omega
    · have := Nat.ble_eq.mp h; omega
  have r3 : ∀ x ∈ idi, ¬ (n + 8 * j ≤ x ∧ x < n + 8 * j + 8) := fun x hx hc => by
    rcases k3 x hx with h | h
    · have := Nat.blt_eq.mp h; omega
    · have := Nat.ble_eq.mp h; omega
  have hd1 : disj idi idj = true ∨ calm oi.op oj.op = true := k1.imp id (fun h => h.1.1)
  have hd2 : disj idj idi = true ∨ calm oj.op oi.op = true := by
    rcases k1 with h | h
    · left
      simp only [disj, List.all_eq_true, Bool.not_eq_true']
      intro x hx y hy
      have := disj_spec h y hy x hx
      cases hb : Nat.beq x y with
      | false => rfl
      | true => exact absurd (Nat.eq_of_beq_eq_true hb).symm this
    · exact .inr h.1.2
  have r1 : isW oi.op = true → isW oj.op = true → ∀ x ∈ idi, ∀ y ∈ idj, x ≠ y := by
    intro hw hw'
    rcases k1 with h | h
    · exact disj_spec h
    · have := h.2; rw [hw, hw'] at this; cases this
  have hj' : CondE P TT ops n j oj idj ej t h := hj.move (fun d hd => putT_other (fun e => a1 d e hd)) (rd hi hd1 r2)
  have hi' : CondE P TT ops n i oi idi ei (putT t oj.dst ej.val) (updsH h ej.u) := hi.move (fun d hd => (putT_other (fun e => a3 d e hd)).symm) (by
    rcases rd hj' hd2 r3 with h | ⟨h, h'⟩ | h
    · exact .inl h
    · exact .inr (.inl ⟨h, fun id hid => (h' id hid).symm⟩)
    · exact .inr (.inr fun id hid => (h id hid).symm))
  refine ⟨hj', hi', putT_comm _ _ (fun d h1 h2 => a2 d h1 h2), updsH_comm _ _ _ (fun p hp q hq e => ?_)⟩
  rcases hi.ups p hp with ⟨p1, p2⟩ | p1 <;> rcases hj'.ups q hq with ⟨q1, q2⟩ | q1
  · exact r1 p2 q2 p.1 p1 q.1 q1 e
  · rw [← e] at q1; exact r3 p.1 p1 q1
  · rw [e] at p1; exact r2 q.1 q1 p1
  · rw [e] at p1; omega

def waits (o : Oper) (i : Nat) : Bool := o.after.toList.any fun e => Region.binds .any e && Nat.beq e.on i
/-- Of two operations the later one waits for the earlier one, or they have nothing to do with each other. -/
def pairOk (ops : Array Oper) (n i j : Nat) (oi oj : Oper) (idi idj : List Nat) : Bool := waits oj i || (oi.apart ops oj && idsOk n i j oi oj idi idj)

theorem Cn.bubble {y : Ent} : ∀ (l1 l2 : List Ent) (t : Nat → AV) (h : Nat → Option LB) (t' : Nat → AV) (h' : Nat → Option LB), Cn P TT ops n m (l1 ++ y :: l2) t h t' h' →
    (∀ x ∈ l1, x.i ≠ y.i ∧ ∀ oi oj, ops[x.i]? = some oi → ops[y.i]? = some oj → oi.apart ops oj = true ∧ idsOk n x.i y.i oi oj x.ids y.ids = true) → Cn P TT ops n m (y :: (l1 ++ l2)) t h t' h'
  | [], l2, t, h, t', h', hc, _ => hc
  | x :: l1, l2, t, h, t', h', hc, hk => by
    cases hc with
    | cons _ _ oi _ _ _ _ hoi hdi hci hl =>
      have hb := Cn.bubble l1 l2 _ _ _ _ hl (fun k hk' => hk k (by simp [hk']))
      cases hb with
      | cons _ _ oj _ _ _ _ hoj hdj hcj hl' =>
        obtain ⟨hne, hkk⟩ := hk x (by simp)
        obtain ⟨h1, h2⟩ := hkk oi oj hoi hoj
        obtain ⟨c1, c2, c3, c4⟩ := swap hne h1 h2 hci hcj
        refine .cons y _ oj t h t' h' hoj hdj c1 (.cons x _ oi _ _ _ _ hoi hdi c2 ?_)
        rw [← c3, ← c4]
        exact hl'

end
end Go.AL

/- An abstract program logic over tree values (part 21): regions that draw their order: the rule. -/
set_option linter.unusedVariables false
set_option linter.unusedSimpArgs false
namespace Go.AL
open Go Go.RowKit

/-- As `aops`, with the live blocks that each operation looks at. -/
def aopsD (P : Program) (TT : Nat → Option TI) (all : List Oper) : List Oper → Nat → List (List Nat) → (List (List Nat) → St → Prop) → St → Prop
  | [], _, acc, K, s => K acc s
  | o :: rest, i, acc, K, s => match o.guard with
    | none => aopK P TT o (s.n + 8 * i) (aopsD P TT all rest (i + 1) (opIds o (aval s.t) :: acc) K) s
    | some (g, want) => match gdst all g, dstOk o.dst s.m with
      | some d, true => match s.t d with
        | .val (.bool x) => match want with
          | true => match x with
            | true => aopK P TT o (s.n + 8 * i) (aopsD P TT all rest (i + 1) (opIds o (aval s.t) :: acc) K) { s with t := upd s.t d (.val (.bool true)) }
            | false => aopsD P TT all rest (i + 1) ([] :: acc) K { s with t := putT (upd s.t d (.val (.bool false))) o.dst (.val undef) }
          | false => match x with
            | true => aopsD P TT all rest (i + 1) ([] :: acc) K { s with t := putT (upd s.t d (.val (.bool true))) o.dst (.val undef) }
            | false => aopK P TT o (s.n + 8 * i) (aopsD P TT all rest (i + 1) (opIds o (aval s.t) :: acc) K) { s with t := upd s.t d (.val (.bool false)) }
        | .val (.tuple _) => aopsD P TT all rest (i + 1) ([] :: acc) K { s with t := putT s.t o.dst (.val undef) }
        | _ => False
      | _, _ => False

def entries : List Oper → Nat → List (List Nat) → List (Nat × Oper × List Nat)
  | o :: os, i, x :: xs => (i, o, x) :: entries os (i + 1) xs
  | _, _, _ => []
def edgesOk (i : Nat) (o : Oper) : Bool := o.after.toList.all fun e => !Region.binds .any e || Nat.blt e.on i
def pairsOk (ops : Array Oper) (n : Nat) : List (Nat × Oper × List Nat) → Bool
  | [] => true
  | x :: l => (edgesOk x.1 x.2.1 && l.all fun y => pairOk ops n x.1 y.1 x.2.1 y.2.1 x.2.2 y.2.2) && pairsOk ops n l
/-- No order changes anything. -/
def indOK (P : Program) (ops : Array Oper) (n : Nat) (ids : List (List Nat)) : Bool := P.follows .mixedOrders && pairsOk ops n (entries ops.toList 0 ids)

section
variable {P : Program} {TT : Nat → Option TI} {ops : Array Oper} {n m : Nat} {t t' : Nat → AV} {h h' : Nat → Option LB}

theorem chain_of {K : List (List Nat) → St → Prop} : ∀ (rest : List Oper) (i : Nat) (s : St) (acc : List (List Nat)), ops.toList.drop i = rest → i + rest.length = ops.toList.length → s.n = n → s.m = m →
    aopsD P TT ops.toList rest i acc K s → ∃ (l : List Ent) (t' : Nat → AV) (h' : Nat → Option LB), l.map (·.i) = List.range' i rest.length ∧ Cn P TT ops n m l s.t s.h t' h' ∧ K ((l.map (·.ids)).reverse ++ acc) { s with t := t', h := h' }
  | [], i, s, acc, hd, hl, hn, hm, h => ⟨[], s.t, s.h, rfl, .nil _ _, h⟩
  | o :: rest, i, s, acc, hd, hl, hn, hm, h => by
    have ho : ops[i]? = some o := by
      have : (ops.toList.drop i)[0]? = some o := by rw [hd]; rfl
      rw [List.getElem?_drop] at this
      simpa using this
    have hd' : ops.toList.drop (i + 1) = rest := by rw [← List.drop_drop, hd]; rfl
    simp only [List.length_cons] at hl
    have go : ∀ (e : Ev) (ids : List Nat), dstOk o.dst m = true → CondE P TT ops n i o ids e s.t s.h →
        aopsD P TT ops.toList rest (i + 1) (ids :: acc) K { s with t := putT s.t o.dst e.val, h := updsH s.h e.u } →
        ∃ (l : List Ent) (t' : Nat → AV) (h' : Nat → Option LB), l.map (·.i) = List.range' i (o :: rest).length ∧ Cn P TT ops n m l s.t s.h t' h' ∧ K ((l.map (·.ids)).reverse ++ acc) { s with t := t', h := h' } := by
      intro e ids hdst hc hk
      obtain ⟨l, t', h', h1, h2, h3⟩ := chain_of rest (i + 1) { s with t := putT s.t o.dst e.val, h := updsH s.h e.u } (ids :: acc) hd' (by omega) hn hm hk
      refine ⟨⟨i, ids, e⟩ :: l, t', h', ?_, .cons ⟨i, ids, e⟩ l o _ _ _ _ ho hdst hc h2, ?_⟩
      · simp [List.range'_succ, h1]
      · simpa using h3
    have perf : ∀ (K' : St → Prop), (gdA ops o s.t true) → K' = aopsD P TT ops.toList rest (i + 1) (opIds o (aval s.t) :: acc) K → aopK P TT o (s.n + 8 * i) K' s →
        ∃ (l : List Ent) (t' : Nat → AV) (h' : Nat → Option LB), l.map (·.i) = List.range' i (o :: rest).length ∧ Cn P TT ops n m l s.t s.h t' h' ∧ K ((l.map (·.ids)).reverse ++ acc) { s with t := t', h := h' } := by
      intro K' hg e hk
      subst e
      unfold aopK at hk
      split at hk
      · rename_i hdst
        obtain ⟨v, u, acc', hs, hk⟩ := run_step hk
        exact go ⟨v, u, false⟩ _ (by rw [← hm]; exact hdst) (.inl ⟨rfl, hg, rfl, acc', by rw [← hn]; exact hs⟩) hk
      · exact hk.elim
    unfold aopsD at h
    split at h
    · rename_i hg
      exact perf _ (by simp [gdA, hg]) rfl h
    · rename_i g want hg
      split at h
      · rename_i d hgd hdst
        have hgd' : (ops[g]?).bind (·.dst) = some d ∧ d < 1000000 := gdst_bind hgd
        split at h
        · rename_i x hx
          by_cases hxw : x = want
          · have hgA : gdA ops o s.t true := by
              simp only [gdA, hg]
              exact ⟨d, _, hgd', hx, by rw [hxw]; simp [yv]⟩
            subst hxw
            refine perf _ hgA rfl ?_
            cases x <;> (simp only [upd_self hx] at h; exact h)
          · have hgA : gdA ops o s.t false := by
              simp only [gdA, hg]
              exact ⟨d, _, hgd', hx, by simp [yv, hxw]⟩
            refine go ⟨.any, [], true⟩ [] (by rw [← hm]; exact hdst) (.inr ⟨rfl, hgA, rfl⟩) ?_
            cases x <;> cases want <;> first | exact absurd rfl hxw | (simp only [upd_self hx] at h; exact h)
        · rename_i vs hx
          have hgA : gdA ops o s.t false := by
            simp only [gdA, hg]
            exact ⟨d, _, hgd', hx, by simp [yv]⟩
          exact go ⟨.any, [], true⟩ [] (by rw [← hm]; exact hdst) (.inr ⟨rfl, hgA, rfl⟩) h
        · exact h.elim
      · exact h.elim

/-- Two entries: the later one waits, or they have nothing to do with each other. -/
def PR (ops : Array Oper) (n : Nat) (x y : Ent) : Prop := x.i < y.i ∧ ∀ oi oj, ops[x.i]? = some oi → ops[y.i]? = some oj → pairOk ops n x.i y.i oi oj x.ids y.ids = true

theorem ent_mem : ∀ (rest : List Oper) (i : Nat) (l : List Ent), ops.toList.drop i = rest → l.map (·.i) = List.range' i rest.length → ∀ y ∈ l, ∃ o, ops[y.i]? = some o ∧ i ≤ y.i ∧ (y.i, o, y.ids) ∈ entries rest i (l.map (·.ids))
  | [], i, l, hd, hl, y, hy => by
    have : l = [] := by simpa using hl
    rw [this] at hy; cases hy
  | o :: rest, i, l, hd, hl, y, hy => by
    have ho : ops[i]? = some o := by
      have : (ops.toList.drop i)[0]? = some o := by rw [hd]; rfl
      rw [List.getElem?_drop] at this
      simpa using this
    have hd' : ops.toList.drop (i + 1) = rest := by rw [← List.drop_drop, hd]; rfl
    cases l with
    | nil => cases hy
    | cons x l =>
      simp only [List.map_cons, List.length_cons, List.range'_succ, List.cons.injEq] at hl
      rcases List.mem_cons.1 hy with rfl | hy
      · exact ⟨o, by rw [hl.1]; exact ho, by omega, by simp [entries, hl.1]⟩
      · obtain ⟨o', h1, h2, h3⟩ := ent_mem rest (i + 1) l hd' hl.2 y hy
        exact ⟨o', h1, by omega, by simp only [List.map_cons, entries]; exact List.mem_cons_of_mem _ h3⟩

theorem pairs_of : ∀ (rest : List Oper) (i : Nat) (l : List Ent), ops.toList.drop i = rest → l.map (·.i) = List.range' i rest.length → pairsOk ops n (entries rest i (l.map (·.ids))) = true →
    l.Pairwise (PR ops n) ∧ ∀ x ∈ l, ∃ o, ops[x.i]? = some o ∧ ∀ e ∈ o.after, Region.binds .any e = true → e.on < x.i
  | [], i, l, hd, hl, hp => by
    have : l = [] := by simpa using hl
    subst this
    exact ⟨.nil, fun x hx => nomatch hx⟩
  | o :: rest, i, l, hd, hl, hp => by
    have ho : ops[i]? = some o := by
      have : (ops.toList.drop i)[0]? = some o := by rw [hd]; rfl
      rw [List.getElem?_drop] at this
      simpa using this
    have hd' : ops.toList.drop (i + 1) = rest := by rw [← List.drop_drop, hd]; rfl
    cases l with
    | nil => exact ⟨.nil, fun x hx => nomatch hx⟩
    | cons x l =>
      simp only [List.map_cons, List.length_cons, List.range'_succ, List.cons.injEq] at hl
      simp only [List.map_cons, entries, pairsOk, Bool.and_eq_true, List.all_eq_true] at hp
      obtain ⟨⟨p1, p2⟩, p3⟩ := hp
      obtain ⟨h1, h2⟩ := pairs_of rest (i + 1) l hd' hl.2 p3
      refine ⟨.cons (fun y hy => ?_) h1, fun y hy => ?_⟩
      · obtain ⟨oy, q1, q2, q3⟩ := ent_mem rest (i + 1) l hd' hl.2 y hy
        refine ⟨by omega, fun oi oj hoi hoj => ?_⟩
        rw [hl.1, ho] at hoi
        rw [q1] at hoj
        injection hoi with hoi
        injection hoj with hoj
        subst hoi; subst hoj
        rw [hl.1]
        exact p2 _ q3
      · rcases List.mem_cons.1 hy with rfl | hy
        · refine ⟨o, by rw [hl.1]; exact ho, fun e he hb => ?_⟩
          simp only [edgesOk, List.all_eq_true] at p1
          have := p1 e (by simpa using he)
          rw [hb] at this
          rw [hl.1]
          simpa [Nat.blt_eq] using this
        · exact h2 y hy

def frL (n : Nat) (N : Nat) (l : List Ent) (id : Nat) : Prop := (∃ x ∈ l, n + 8 * x.i ≤ id ∧ id < n + 8 * x.i + 8) ∨ n + 8 * N ≤ id

theorem yielded_gd {gh : Array Value} {w0 w : World} {F0 F : Nat → Prop} {ρ : Nat → Option BI} {fr : Nat → Prop} {s : St} {a : Act} (hR : Rel gh w0 F0 F ρ fr s a w) {o : Oper} {yes : Bool} (hg : gdA ops o s.t yes) : Region.wanted o (yielded ops a.tmps) = yes := by
  unfold gdA at hg
  unfold Region.wanted
  cases hgu : o.guard with
  | none => rw [hgu] at hg; exact hg.symm
  | some gw =>
    obtain ⟨g, want⟩ := gw
    rw [hgu] at hg
    obtain ⟨d, x, h1, h2, h3⟩ := hg
    have hy := yielded_of hR h1 h2
    simp only [hy]
    exact h3

theorem any_sound (hT : TTok P TT) {gh : Array Value} {w0 : World} {F0 : Nat → Prop} {Q : Exit → Act → World → Prop}
    (hQ : ∀ a' w', (∃ F ρ, Rel gh w0 F0 F ρ (fun id => n + 8 * ops.size ≤ id) ⟨t', h', n, m⟩ a' w') → Q .normal a' w') :
    ∀ (fuel : Nat) (l : List Ent) (listed : Array Bool) (t : Nat → AV) (h : Nat → Option LB) (a : Act) (w : World) (F : Nat → Prop) (ρ : Nat → Option BI), l.length = fuel → listed.size = ops.size →
      (∀ j, j < ops.size → (listed.getD j true = false ↔ ∃ x ∈ l, x.i = j)) → l.Pairwise (PR ops n) → (∀ x ∈ l, ∃ o, ops[x.i]? = some o ∧ ∀ e ∈ o.after, Region.binds .any e = true → e.on < x.i) →
      Cn P TT ops n m l t h t' h' → Rel gh w0 F0 F ρ (frL n ops.size l) ⟨t, h, n, m⟩ a w → wpAny P .any ops Q fuel listed a w
  | 0, l, listed, t, h, a, w, F, ρ, hl, hz, hli, hp, he, hc, hR => by
    have : l = [] := List.eq_nil_of_length_eq_zero hl
    subst this
    cases hc
    refine ⟨List.eq_nil_iff_forall_not_mem.2 fun j hj => ?_, hQ _ _ ⟨F, ρ, hR.mono_fr fun id hid => .inr hid⟩⟩
    obtain ⟨h1, o, ho, _⟩ := mem_ready.1 hj
    obtain ⟨x, hx, _⟩ := (hli j (Array.getElem?_eq_some_iff.1 ho).1).1 h1
    cases hx
  | fuel + 1, [], listed, t, h, a, w, F, ρ, hl, hz, hli, hp, he, hc, hR => by cases hl
  | fuel + 1, x :: l, listed, t, h, a, w, F, ρ, hl, hz, hli, hp, he, hc, hR => by
    constructor
    · intro hnil
      exfalso
      obtain ⟨o, ho, hed⟩ := he x (by simp)
      have hlt := (Array.getElem?_eq_some_iff.1 ho).1
      have : x.i ∈ Region.ready .any ops listed := mem_ready.2 ⟨(hli _ hlt).2 ⟨x, by simp, rfl⟩, o, ho, fun e hee hb => by
        have h1 := hed e hee hb
        have h2 : ¬ listed.getD e.on true = false := fun hf => by
          obtain ⟨y, hy, hye⟩ := (hli e.on (by omega)).1 hf
          rcases List.mem_cons.1 hy with rfl | hy
          · omega
          · have := ((List.pairwise_cons.1 hp).1 y hy).1
            omega
        have hlt' : e.on < listed.size := by omega
        simp [hlt'] at h2 ⊢
        exact h2⟩
      rw [hnil] at this
      cases this
    · intro j hj
      obtain ⟨h1, oj, hoj, hall⟩ := mem_ready.1 hj
      have hjlt := (Array.getElem?_eq_some_iff.1 hoj).1
      obtain ⟨y, hy, rfl⟩ := (hli j hjlt).1 h1
      obtain ⟨l1, l2, hsplit⟩ := List.append_of_mem hy
      rw [hsplit] at hp hc hR he hli
      have hpa := List.pairwise_append.1 hp
      have hb := Cn.bubble l1 l2 t h t' h' hc (fun k hk => by
        have hkk := hpa.2.2 k hk y (by simp)
        refine ⟨Nat.ne_of_lt hkk.1, fun oi oj' hoi hoj' => ?_⟩
        have hpo := hkk.2 oi oj' hoi hoj'
        rw [hoj] at hoj'
        injection hoj' with hoj'
        subst hoj'
        simp only [pairOk, Bool.or_eq_true, Bool.and_eq_true] at hpo
        rcases hpo with hw | hw
        · exfalso
          simp only [waits, List.any_eq_true, Bool.and_eq_true] at hw
          obtain ⟨e, hee, hb, hon⟩ := hw
          have g1 := hall e (by simpa using hee) hb
          have hon' : e.on = k.i := Nat.eq_of_beq_eq_true hon
          have hklt : k.i < ops.size := (Array.getElem?_eq_some_iff.1 hoi).1
          have g2 := (hli k.i hklt).2 ⟨k, by simp [hk], rfl⟩
          rw [hon'] at g1
          have hlt' : k.i < listed.size := by omega
          simp [hlt'] at g1 g2
          rw [g1] at g2
          cases g2
        · exact hw)
      have hnd : ∀ k ∈ l1 ++ l2, k.i ≠ y.i := by
        intro k hk
        rcases List.mem_append.1 hk with hk | hk
        · exact Nat.ne_of_lt (hpa.2.2 k hk y (by simp)).1
        · exact fun e => by have := ((List.pairwise_cons.1 hpa.2.1).1 k hk).1; omega
      have hsub : ∀ k ∈ l1 ++ l2, k ∈ l1 ++ y :: l2 := by
        intro k hk
        rcases List.mem_append.1 hk with hk | hk <;> simp [hk]
      cases hb with
      | cons _ _ oj' _ _ _ _ hoj' hdj hcj hl' =>
        rw [hoj] at hoj'
        injection hoj' with hoj'
        subst hoj'
        have hnext : ∀ (F' : Nat → Prop) (ρ' : Nat → Option BI) (a' : Act) (w' : World),
            Rel gh w0 F0 F' ρ' (frL n ops.size (l1 ++ l2)) ⟨putT t oj.dst y.ev.val, updsH h y.ev.u, n, m⟩ a' w' → wpAny P .any ops Q fuel (listed.setIfInBounds y.i true) a' w' := by
          intro F' ρ' a' w' hR'
          refine any_sound hT hQ fuel (l1 ++ l2) _ _ _ a' w' F' ρ' ?_ (by simpa using hz) ?_ ?_ (fun k hk => he k (hsub k hk)) hl' hR'
          · have := congrArg List.length hsplit
            simp at this hl ⊢
            omega
          · intro k hk
            by_cases hky : y.i = k
            · subst hky
              have hlt' : y.i < listed.size := by omega
              simp [hlt']
              intro k hk
              exact hnd k (by simpa using hk)
            · rw [getD_set_ne true hky, hli k hk]
              constructor
              · rintro ⟨x, hx, rfl⟩
                refine ⟨x, ?_, rfl⟩
                rcases List.mem_append.1 hx with hx | hx
                · simp [hx]
                · rcases List.mem_cons.1 hx with rfl | hx
                  · exact absurd rfl hky
                  · simp [hx]
              · rintro ⟨x, hx, rfl⟩
                exact ⟨x, hsub x hx, rfl⟩
          · refine List.pairwise_append.2 ⟨hpa.1, (List.pairwise_cons.1 hpa.2.1).2, fun a ha b hb => hpa.2.2 a ha b (by simp [hb])⟩
        have hfr : ∀ id, frL n ops.size (l1 ++ l2) id → frL n ops.size (l1 ++ y :: l2) id ∧ ¬ (n + 8 * y.i ≤ id ∧ id < n + 8 * y.i + 8) := by
          rintro id (⟨k, hk, h1, h2⟩ | h1)
          · refine ⟨.inl ⟨k, hsub k hk, h1, h2⟩, fun hc => ?_⟩
            have := hnd k hk
            omega
          · exact ⟨.inr h1, fun hc => by omega⟩
        unfold wpOp
        simp only [hoj]
        rcases hcj with ⟨c1, c2, c3, acc, c4⟩ | ⟨c1, c2, c3⟩
        · rw [if_pos (yielded_gd hR c2)]
          refine .inl (step_sound hT hR (fun k hk => .inl ⟨y, by simp, by omega, by omega⟩) c4 hdj (fun a' w' ⟨F', ρ', hR'⟩ => ?_))
          refine hnext F' ρ' a' w' ?_
          have e : y.ev.val = y.ev.v := by simp [Ev.val, c1]
          rw [e]
          exact hR'.mono_fr hfr
        · have hw : ¬ Region.wanted oj (yielded ops a.tmps) = true := by rw [yielded_gd hR c2]; decide
          rw [if_neg hw]
          refine hnext F ρ _ w ?_
          have e : y.ev.val = .val undef := by simp [Ev.val, c1]
          rw [e, c3]
          exact (hR.putd (.val undef) oj.dst hdj).mono_fr (fun id hid => (hfr id hid).1)

theorem Rel.drawn {gh : Array Value} {w0 w : World} {F0 F : Nat → Prop} {ρ : Nat → Option BI} {fr : Nat → Prop} {s : St} {a : Act} (hR : Rel gh w0 F0 F ρ fr s a w) : Rel gh w0 F0 F ρ fr s a { w with drawn := w.drawn + 1 } where
  defers := hR.defers
  size := hR.size
  below := ⟨hR.below.os, hR.below.tape, hR.below.output, hR.below.size, hR.below.block⟩
  Fb := hR.Fb
  F0F := hR.F0F
  Fnew := hR.Fnew
  mle := hR.mle
  vals := fun t => VR.mono (w := w) (w' := { w with drawn := w.drawn + 1 }) (fun _ h => h) (fun _ _ => rfl) (fun _ _ h => h) (hR.vals t)
  blks := fun id lb hl => by
    obtain ⟨bi, h1, h2, h3⟩ := hR.blks id lb hl
    exact ⟨bi, h1, BR.mono (w := w) (w' := { w with drawn := w.drawn + 1 }) (fun _ h => h) (fun _ _ => rfl) (fun _ _ h => h) (fun _ => rfl) h2, h3⟩
  inj := hR.inj
  fresh := hR.fresh

/-- A region that draws its order. -/
theorem SW.regionD {Q : Exit → St → Prop} {s : St} (hT : TTok P TT) {id : Nat}
    (h : aopsD P TT ops.toList ops.toList 0 [] (fun acc s' => indOK P ops s'.n acc.reverse = true ∧ Q .normal { s' with n := s'.n + 8 * ops.toList.length }) s) : SW P (.region id ops true) Q s := by
  unfold SW
  intro gh w0 F0 a w hR
  obtain ⟨F, ρ, hR'⟩ := hR
  obtain ⟨l, t', h', h1, h2, h3, h4⟩ := chain_of (n := s.n) (m := s.m) ops.toList 0 s [] rfl (by simp) rfl rfl h
  simp only [List.append_nil, List.reverse_reverse, indOK, Bool.and_eq_true] at h3
  obtain ⟨hm, hpo⟩ := h3
  obtain ⟨q1, q2⟩ := pairs_of ops.toList 0 l rfl h1 hpo
  have hlen : l.length = ops.size := by have := congrArg List.length h1; simpa using this
  refine wp_region_any hm ?_
  refine any_sound (t' := t') (h' := h') (n := s.n) (m := s.m) (gh := gh) (w0 := w0) (F0 := F0) hT (fun a' w' hx => ?_) ops.size l _ s.t s.h a _ F ρ hlen (by simp) ?_ q1 q2 h2 ?_
  · obtain ⟨F, ρ, hR⟩ := hx
    exact ⟨_, h4, rfl, F, ρ, by simpa using hR.setN _⟩
  · intro j hj
    have : (Array.replicate ops.size false).getD j true = false := by simp [hj]
    simp only [this, true_iff]
    have hmem : j ∈ l.map (·.i) := by rw [h1]; simp [List.mem_range'_1, hj]
    obtain ⟨x, hx, rfl⟩ := List.mem_map.1 hmem
    exact ⟨x, hx, rfl⟩
  · exact hR'.drawn.mono_fr (fun id hid => by
      rcases hid with ⟨x, hx, h1, h2⟩ | h1 <;> omega)

end
end Go.AL

/- An abstract program logic over tree values (part 22): symbolic execution, with regions that draw their order. Every state is taken apart and every value brought to its head ahead of the next step: so no term grows. -/
set_option linter.unusedVariables false
set_option linter.unusedSimpArgs false
namespace Go.AL
open Go Go.RowKit

/-- A value, brought to its head. -/
def AV.force {α : Sort _} (k : AV → α) : AV → α
  | .any => k .any
  | .val v => k (.val v)
  | .agg l => k (.agg l)
  | .tup l => k (.tup l)
  | .sl a b c => k (.sl a b c)
  | .fp a b => k (.fp a b)
  | .own a b c => k (.own a b c)
  | .lp a b => k (.lp a b)
  | .li a b c => k (.li a b c)
  | .it a => k (.it a)
theorem AV.force_eq {α : Sort _} (k : AV → α) (v : AV) : v.force k = k v := by cases v <;> rfl

def Ups.force {α : Sort _} (k : Ups → α) : Ups → α
  | [] => k []
  | [(i, b)] => k [(i, b)]
  | (i, b) :: (j, c) :: l => k ((i, b) :: (j, c) :: l)
theorem Ups.force_eq {α : Sort _} (k : Ups → α) (u : Ups) : Ups.force k u = k u := by
  rcases u with _ | ⟨⟨i, b⟩, _ | ⟨⟨j, c⟩, l⟩⟩ <;> rfl

def putK (d : Option Nat) (t : Nat → AV) (h : Nat → Option LB) (n m : Nat) (K : St → Prop) (v : AV) (u : Ups) : Prop :=
  match d with
  | some d => v.force fun v => Ups.force (fun u => match u with | [] => K ⟨upd t d v, h, n, m⟩ | u => K ⟨upd t d v, updsH h u, n, m⟩) u
  | none => Ups.force (fun u => match u with | [] => K ⟨t, h, n, m⟩ | u => K ⟨t, updsH h u, n, m⟩) u
theorem putK_eq (d : Option Nat) (t : Nat → AV) (h : Nat → Option LB) (n m : Nat) (K : St → Prop) (v : AV) (u : Ups) : putK d t h n m K v u = K ⟨putT t d v, updsH h u, n, m⟩ := by
  unfold putK
  cases d <;> simp only [AV.force_eq, Ups.force_eq] <;> cases u <;> rfl

def aopKF (P : Program) (TT : Nat → Option TI) (o : Oper) (b : Nat) (K : St → Prop) (t : Nat → AV) (h : Nat → Option LB) (n m : Nat) : Prop :=
  match dstOk o.dst m with
  | true => (aop TT o (aval t) h b).run P b fun v u _ => putK o.dst t h n m K v u
  | false => False
theorem aopKF_eq (P : Program) (TT : Nat → Option TI) (o : Oper) (b : Nat) (K : St → Prop) (t : Nat → AV) (h : Nat → Option LB) (n m : Nat) : aopKF P TT o b K t h n m = aopK P TT o b K ⟨t, h, n, m⟩ := by
  unfold aopKF aopK
  simp only [putK_eq]
  rfl

/-- The operations of a region, in the text's order. -/
def aopsF (P : Program) (TT : Nat → Option TI) (all : List Oper) : List Oper → Nat → (St → Prop) → St → Prop
  | [], _, K, s => K s
  | o :: rest, i, K, ⟨t, h, n, m⟩ => match o.guard with
    | none => aopKF P TT o (n + 8 * i) (aopsF P TT all rest (i + 1) K) t h n m
    | some (g, want) => match gdst all g, dstOk o.dst m with
      | some d, true => match t d with
        | .val (.bool x) => match want with
          | true => match x with
            | true => aopKF P TT o (n + 8 * i) (aopsF P TT all rest (i + 1) K) (upd t d (.val (.bool true))) h n m
            | false => aopsF P TT all rest (i + 1) K ⟨putT (upd t d (.val (.bool false))) o.dst (.val undef), h, n, m⟩
          | false => match x with
            | true => aopsF P TT all rest (i + 1) K ⟨putT (upd t d (.val (.bool true))) o.dst (.val undef), h, n, m⟩
            | false => aopKF P TT o (n + 8 * i) (aopsF P TT all rest (i + 1) K) (upd t d (.val (.bool false))) h n m
        | .val (.tuple _) => aopsF P TT all rest (i + 1) K ⟨putT t o.dst (.val undef), h, n, m⟩
        | _ => False
      | _, _ => False

theorem aopsF_eq (P : Program) (TT : Nat → Option TI) (all : List Oper) : ∀ (rest : List Oper) (i : Nat) (K : St → Prop), aopsF P TT all rest i K = aops P TT all rest i K
  | [], i, K => rfl
  | o :: rest, i, K => by
    funext ⟨t, h, n, m⟩
    unfold aopsF aops
    simp only [aopsF_eq P TT all rest (i + 1) K, aopKF_eq]
    rfl

def stepDF (P : Program) (TT : Nat → Option TI) (all : List Oper) (o : Oper) (ih : Nat → List (List Nat) → (List (List Nat) → St → Prop) → St → Prop) (i : Nat) (acc : List (List Nat)) (K : List (List Nat) → St → Prop) : St → Prop
  | ⟨t, h, n, m⟩ => match o.guard with
    | none => aopKF P TT o (n + 8 * i) (ih (i + 1) (opIds o (aval t) :: acc) K) t h n m
    | some (g, want) => match gdst all g, dstOk o.dst m with
      | some d, true => match t d with
        | .val (.bool x) => match want with
          | true => match x with
            | true => aopKF P TT o (n + 8 * i) (ih (i + 1) (opIds o (aval t) :: acc) K) (upd t d (.val (.bool true))) h n m
            | false => ih (i + 1) ([] :: acc) K ⟨putT (upd t d (.val (.bool false))) o.dst (.val undef), h, n, m⟩
          | false => match x with
            | true => ih (i + 1) ([] :: acc) K ⟨putT (upd t d (.val (.bool true))) o.dst (.val undef), h, n, m⟩
            | false => aopKF P TT o (n + 8 * i) (ih (i + 1) (opIds o (aval t) :: acc) K) (upd t d (.val (.bool false))) h n m
        | .val (.tuple _) => ih (i + 1) ([] :: acc) K ⟨putT t o.dst (.val undef), h, n, m⟩
        | _ => False
      | _, _ => False
def aopsDF (P : Program) (TT : Nat → Option TI) (all : List Oper) (l : List Oper) : Nat → List (List Nat) → (List (List Nat) → St → Prop) → St → Prop :=
  List.rec (motive := fun _ => Nat → List (List Nat) → (List (List Nat) → St → Prop) → St → Prop) (fun _ acc K s => K acc s) (fun o _ ih => stepDF P TT all o ih) l
theorem aopsDF_cons (P : Program) (TT : Nat → Option TI) (all : List Oper) (o : Oper) (rest : List Oper) : aopsDF P TT all (o :: rest) = stepDF P TT all o (aopsDF P TT all rest) := rfl

theorem aopsDF_eq (P : Program) (TT : Nat → Option TI) (all : List Oper) : ∀ (rest : List Oper) (i : Nat) (acc : List (List Nat)) (K : List (List Nat) → St → Prop), aopsDF P TT all rest i acc K = aopsD P TT all rest i acc K
  | [], i, acc, K => rfl
  | o :: rest, i, acc, K => by
    funext ⟨t, h, n, m⟩
    rw [aopsDF_cons]
    unfold stepDF aopsD
    simp only [aopsDF_eq P TT all rest (i + 1), aopKF_eq]
    try rfl

def bumpN (K : St → Prop) (k : Nat) : St → Prop
  | ⟨t, h, n, m⟩ => K ⟨t, h, n + k, m⟩
def bumpD (P : Program) (ops : Array Oper) (K : St → Prop) (k : Nat) (acc : List (List Nat)) : St → Prop
  | ⟨t, h, n, m⟩ => indOK P ops n acc.reverse = true ∧ K ⟨t, h, n + k, m⟩

/-- Symbolic execution: what does not loop is gone through at once. -/
def axp (P : Program) (TT : Nat → Option TI) : Code → (Exit → St → Prop) → St → Prop
  | .skip, Q, s => Q .normal s
  | .label _, Q, s => Q .normal s
  | .region id ops draw, Q, s => match draw with
    | false => aopsF P TT ops.toList ops.toList 0 (bumpN (Q .normal) (8 * ops.toList.length)) s
    | true => aopsDF P TT ops.toList ops.toList 0 [] (bumpD P ops (Q .normal) (8 * ops.toList.length)) s
  | .seq a b, Q, s => axp P TT a (fun e s' => match e with | .normal => axp P TT b Q s' | e => Q e s') s
  | .cond c x y, Q, ⟨t, h, n, m⟩ => match aval t c with
    | .val (.bool b) => match b with
      | true => axp P TT x Q ⟨t, h, n, m⟩
      | false => axp P TT y Q ⟨t, h, n, m⟩
    | _ => False
  | .block id c, Q, s => axp P TT c (fun e s' => match e with | .exit id' => bif Nat.beq id' id then Q .normal s' else Q (.exit id') s' | e => Q e s') s
  | .exit id, Q, s => Q (.exit id) s
  | .ret, Q, s => Q .ret s
  | c, Q, s => SW P c Q s

theorem axp_sound {P : Program} {TT : Nat → Option TI} (hT : TTok P TT) (c : Code) : ∀ (Q : Exit → St → Prop) (s : St), axp P TT c Q s → SW P c Q s := by
  induction c with
  | skip => exact fun Q s h => SW.skip h
  | label l => exact fun Q s h => SW.label h
  | region id ops draw =>
    intro Q s h
    cases draw with
    | false =>
      refine SW.region hT ?_
      have h' : aopsF P TT ops.toList ops.toList 0 (bumpN (Q .normal) (8 * ops.toList.length)) s := h
      rw [aopsF_eq] at h'
      exact h'
    | true =>
      refine SW.regionD hT ?_
      have h' : aopsDF P TT ops.toList ops.toList 0 [] (bumpD P ops (Q .normal) (8 * ops.toList.length)) s := h
      rw [aopsDF_eq] at h'
      exact h'
  | seq a b iha ihb =>
    intro Q s h
    refine SW.seq ((iha _ s h).mono fun e s' hq => ?_)
    cases e with
    | normal => exact ihb Q s' hq
    | _ => exact hq
  | cond c x y ihx ihy =>
    intro Q ⟨t, h, n, m⟩ hh
    unfold axp at hh
    split at hh
    · rename_i b hc
      exact SW.cond hc (fun hb => ihx Q _ (by subst hb; exact hh)) (fun hb => ihy Q _ (by subst hb; exact hh))
    · exact hh.elim
  | block id c ih =>
    intro Q s h
    refine SW.block ((ih _ s h).mono fun e s' hq => ?_)
    cases e with
    | exit id' => exact hq
    | _ => exact hq
  | exit id => exact fun Q s h => SW.exit h
  | ret => exact fun Q s h => SW.ret h
  | loop c ih => exact fun Q s h => h
  | rangeFunc f ps a b _ _ => exact fun Q s h => h
  | scope c _ => exact fun Q s h => h
  | goto l => exact fun Q s h => h
  | refuse w => exact fun Q s h => h

theorem SW.go {P : Program} {TT : Nat → Option TI} (hT : TTok P TT) {c : Code} {Q : Exit → St → Prop} {s : St} (h : axp P TT c Q s) : SW P c Q s := axp_sound hT c Q s h

/-- A function's contract out of its body's symbolic execution. -/
theorem AC.of_body {P : Program} {TT : Nat → Option TI} {f : FuncId} {fn : Func} {c : Code} {args : List AV} {r : AR} (hT : TTok P TT) (hf : P.funcs[f]? = some fn) (hb : fn.body = some c)
    (henter : ∀ (vals : Array Value) (w : World), (callFunc f vals).run P w = .ok (.enter f vals) w) (hA : ∀ x ∈ args, NoId x)
    (hr : match r with | .pure v => NoId v | .fresh _ rows => ∀ r ∈ rows, ∀ x ∈ r, NoId x) (hm : (fn.ntmps - 1000000) * 1000000000 + args.length ≤ fn.ntmps)
    (h : axp P TT c (retQ TT fn.results.toList r) ⟨getA args, fun _ => none, 0, fn.ntmps⟩) : AC P f args r :=
  AC.of_sw hT hf hb henter hA hr hm (axp_sound hT c _ _ h)

end Go.AL

/- An abstract program logic over tree values (part 23): loops with a measure; small words on numbers and texts. -/
set_option linter.unusedVariables false
set_option linter.unusedSimpArgs false
namespace Go.AL
open Go Go.RowKit

/-- A loop: the slots and live blocks that matter, told by an x; J: what holds of x; μ: what falls. -/
theorem SW.loopM {P : Program} {TT : Nat → Option TI} (hT : TTok P TT) {α : Type} {c : Code} {Q : Exit → St → Prop} {s : St} (ts : α → List (Nat × AV)) (hs : α → List (Nat × LB)) (n m : Nat) (hm : s.m = m)
    (μ : α → Nat) (J : α → Prop) (x0 : α) (σ0 : List (Nat × Nat)) (h0 : J x0) (e1 : okT s (σf σ0) n (ts x0)) (e2 : okH s (σf σ0) n (hs x0)) (e3 : distinct (((hs x0).map (·.1)).map (σf σ0)) = true)
    (round : ∀ x, J x → axp P TT c (loopQ Q fun s2 => ∃ (x' : α) (σ : List (Nat × Nat)), μ x' < μ x ∧ J x' ∧ okT s2 (σf σ) n (ts x') ∧ okH s2 (σf σ) n (hs x') ∧ distinct (((hs x').map (·.1)).map (σf σ)) = true) (mkS (ts x) (hs x) n m)) : SW P (.loop c) Q s := by
  refine SW.loop (fun k s1 => ∃ x, μ x = k ∧ J x ∧ s1 = mkS (ts x) (hs x) n m) (μ x0) (mkS (ts x0) (hs x0) n m) (Wk.of _ _ _ _ _ hm e1 e2 e3) hm.symm ⟨x0, rfl, h0, rfl⟩ ?_
  rintro k s1 hm1 ⟨x, rfl, hJ, rfl⟩
  refine ((axp_sound hT _ _ _ (round x hJ)).keep).mono fun e s' hq => ?_
  obtain ⟨hq, hms⟩ := hq
  cases e with
  | normal =>
    obtain ⟨x', σ, g1, g2, g3, g4, g5⟩ := hq
    exact ⟨μ x', mkS (ts x') (hs x') n m, g1, Wk.of _ _ _ _ _ (by rw [hms]; rfl) g3 g4 g5, (by rw [hms]; rfl), x', rfl, g2, rfl⟩
  | _ => exact hq

theorem valI {k : IntKind} {a b : Int} (h : a = b) : AV.val (.int k a) = AV.val (.int k b) := by rw [h]
theorem valB {a b : Bool} (h : a = b) : AV.val (.bool a) = AV.val (.bool b) := by rw [h]
theorem slE {sz : Nat} {a b : List (List AV)} {t : Bool} (h : a = b) : AV.sl sz a t = AV.sl sz b t := by rw [h]
theorem celE {sz : Nat} {a b : List (List AV)} (h : a = b) : some (LB.cells sz a) = some (LB.cells sz b) := by rw [h]
theorem ownE {id a b c d : Nat} (h1 : a = c) (h2 : b = d) : AV.own id a b = AV.own id c d := by rw [h1, h2]
theorem strE {a b : ByteArray} (h : a = b) : AV.val (.string a) = AV.val (.string b) := by rw [h]

theorem beqD {a b : Int} {p : Prop} [Decidable p] (h : a = b ↔ p) : (a == b) = decide p := by
  by_cases hp : p
  · rw [decide_eq_true hp]; exact beq_iff_eq.2 (h.2 hp)
  · rw [decide_eq_false hp]; exact beq_eq_false_iff_ne.2 (fun e => hp (h.1 e))
theorem bneD {a b : Int} {p : Prop} [Decidable p] (h : a ≠ b ↔ p) : (a != b) = decide p := by
  by_cases hp : p
  · rw [decide_eq_true hp]; exact bne_iff_ne.2 (h.2 hp)
  · rw [decide_eq_false hp]; simp only [bne, Bool.not_eq_false', beq_iff_eq]; exact Decidable.byContradiction (fun e => hp (h.1 e))
/-- The lowest bits of a number. -/
theorem and_mask (w : Nat) (x : Int) (hx : 0 ≤ x) (hb : x < 2 ^ w) (k : Nat) (hk : k ≤ w) : (BitVec.ofInt w x &&& BitVec.ofInt w ((2 ^ k - 1 : Nat) : Int)).toNat = x.toNat % 2 ^ k := by
  have hp : 2 ^ k ≤ 2 ^ w := Nat.pow_le_pow_right (by decide) hk
  have h1 : (BitVec.ofInt w x).toNat = x.toNat := by
    rw [BitVec.toNat_ofInt]
    congr 1
    exact Int.emod_eq_of_lt hx (by simpa using hb)
  have h2 : (BitVec.ofInt w ((2 ^ k - 1 : Nat) : Int)).toNat = 2 ^ k - 1 := by
    rw [BitVec.toNat_ofInt]
    have h0 : 0 < 2 ^ k := Nat.two_pow_pos k
    have : ((2 ^ k - 1 : Nat) : Int) % ((2 ^ w : Nat) : Int) = ((2 ^ k - 1 : Nat) : Int) := Int.emod_eq_of_lt (by omega) (by omega)
    rw [this]
    exact Int.toNat_natCast _
  rw [BitVec.toNat_and, h1, h2, Nat.and_two_pow_sub_one_eq_mod]
/-- A number's bits above those of another one. -/
theorem or_add (w : Nat) (a b : Nat) (k : Nat) (hb : b < 2 ^ k) (ha : a * 2 ^ k + b < 2 ^ w) : (BitVec.ofInt w ((a * 2 ^ k : Nat) : Int) ||| BitVec.ofInt w (b : Int)).toNat = a * 2 ^ k + b := by
  have h1 : (BitVec.ofInt w ((a * 2 ^ k : Nat) : Int)).toNat = a * 2 ^ k := by
    rw [BitVec.toNat_ofInt]
    have : ((a * 2 ^ k : Nat) : Int) % ((2 ^ w : Nat) : Int) = ((a * 2 ^ k : Nat) : Int) := Int.emod_eq_of_lt (by omega) (by omega)
    rw [this]; exact Int.toNat_natCast _
  have h2 : (BitVec.ofInt w (b : Int)).toNat = b := by
    rw [BitVec.toNat_ofInt]
    have : (b : Int) % ((2 ^ w : Nat) : Int) = (b : Int) := Int.emod_eq_of_lt (by omega) (by omega)
    rw [this]; exact Int.toNat_natCast _
  rw [BitVec.toNat_or, h1, h2, Nat.mul_comm, ← Nat.two_pow_add_eq_or_of_lt hb]

theorem or_add' (w : Nat) (a b : Nat) (k : Nat) (hb : b < 2 ^ k) (ha : a * 2 ^ k + b < 2 ^ w) : (BitVec.ofInt w (b : Int) ||| BitVec.ofInt w ((a * 2 ^ k : Nat) : Int)).toNat = a * 2 ^ k + b := by
  rw [BitVec.or_comm, or_add w a b k hb ha]
theorem tup2 {a b c d : AV} (h1 : a = c) (h2 : b = d) : AV.tup [a, b] = AV.tup [c, d] := by rw [h1, h2]
theorem tup3 {a b c d e f : AV} (h1 : a = c) (h2 : b = d) (h3 : e = f) : AV.tup [a, b, e] = AV.tup [c, d, f] := by rw [h1, h2, h3]

theorem w_u8 (a : Int) : IntKind.u8.wrap a = a % 256 := rfl
theorem w_u32 (a : Int) : IntKind.u32.wrap a = a % 4294967296 := rfl
theorem w_u64 (a : Int) : IntKind.u64.wrap a = a % 18446744073709551616 := rfl

end Go.AL

/- An abstract program logic over tree values (part 24): texts as lists of bytes. -/
set_option linter.unusedVariables false
set_option linter.unusedSimpArgs false
namespace Go.AL
open Go Go.RowKit

/-- Bytes. -/
def Byt (l : List Int) : Prop := ∀ x ∈ l, 0 ≤ x ∧ x < 256

theorem Byt.cons {x : Int} {l : List Int} (h : Byt (x :: l)) : (0 ≤ x ∧ x < 256) ∧ Byt l := ⟨h x (by simp), fun y hy => h y (by simp [hy])⟩
theorem Byt.append {a b : List Int} (ha : Byt a) (hb : Byt b) : Byt (a ++ b) := fun x hx => (List.mem_append.1 hx).elim (ha x) (hb x)
theorem Byt.take {l : List Int} (h : Byt l) (k : Nat) : Byt (l.take k) := fun x hx => h x (List.mem_of_mem_take hx)
theorem Byt.drop {l : List Int} (h : Byt l) (k : Nat) : Byt (l.drop k) := fun x hx => h x (List.mem_of_mem_drop hx)
theorem Byt.reverse {l : List Int} (h : Byt l) : Byt l.reverse := fun x hx => h x (by simpa using hx)

theorem byte_of {x : Int} (h : 0 ≤ x ∧ x < 256) : ((UInt8.ofNat x.toNat).toNat : Int) = x := by
  rw [UInt8.toNat_ofNat']
  omega

theorem bytesL_strL {l : List Int} (h : Byt l) : bytesL (strL l) = l := by
  unfold bytesL strL
  simp only [List.map_map]
  induction l with
  | nil => rfl
  | cons x l ih =>
    rw [List.map_cons, ih h.cons.2]
    simp only [Function.comp]
    rw [byte_of h.cons.1]

theorem bytesL_byt (s : ByteArray) : Byt (bytesL s) := by
  intro x hx
  unfold bytesL at hx
  obtain ⟨b, _, rfl⟩ := List.mem_map.1 hx
  have := b.toNat_lt
  omega

theorem strL_bytesL (s : ByteArray) : strL (bytesL s) = s := by
  unfold strL bytesL
  rw [List.map_map]
  have : ((fun n : Int => UInt8.ofNat n.toNat) ∘ fun b : UInt8 => (b.toNat : Int)) = id := by
    funext b
    simp
  rw [this, List.map_id]

theorem strL_inj {a b : List Int} (ha : Byt a) (hb : Byt b) (h : strL a = strL b) : a = b := by
  rw [← bytesL_strL ha, ← bytesL_strL hb, h]

theorem strL_size (l : List Int) : (strL l).size = l.length := by
  show (strL l).data.size = _
  unfold strL
  simp

theorem bytesL_len (s : ByteArray) : (bytesL s).length = s.size := by
  unfold bytesL
  simp

theorem byteAt_strL {l : List Int} (h : Byt l) {i : Int} (h0 : 0 ≤ i) {x : Int} (hx : l[i.toNat]? = some x) : byteAt (strL l) i = x := by
  unfold byteAt strL
  simp only [List.getD, List.getElem?_map, hx, Option.map_some, Option.getD_some]
  exact byte_of (h x (List.mem_of_getElem? hx))

theorem strL_extract (l : List Int) (a b : Nat) : (strL l).extract a b = strL ((l.take b).drop a) := by
  apply ByteArray.ext
  rw [ByteArray.data_extract]
  unfold strL
  simp [List.map_take, List.map_drop, List.extract_eq_take_drop, List.drop_take]

theorem strL_append (a b : List Int) : strL a ++ strL b = strL (a ++ b) := by
  apply ByteArray.ext
  rw [ByteArray.data_append]
  unfold strL
  simp

theorem str_beq {a b : List Int} (ha : Byt a) (hb : Byt b) : ((strL a).toList == (strL b).toList) = decide (a = b) := by
  rw [ByteArray.toList_eq, ByteArray.toList_eq]
  by_cases h : a = b
  · rw [decide_eq_true h, h]; exact beq_self_eq_true _
  · rw [decide_eq_false h, beq_eq_false_iff_ne]
    intro e
    refine h (strL_inj ha hb ?_)
    exact ByteArray.ext (Array.toList_inj.1 e)

end Go.AL

/- An abstract program logic over tree values (part 25): the empty slice as a live block of no rows. -/
set_option linter.unusedVariables false
set_option linter.unusedSimpArgs false
namespace Go.AL
open Go Go.RowKit

theorem Wk.nil {s : St} (d sz : Nat) {sz0 : Nat} (h : s.t d = .sl sz0 [] true) : Wk s ⟨upd s.t d (.own s.n 0 0), updH s.h s.n (some (.cells sz [])), s.n + 8, s.m⟩ := by
  intro gh w0 F0 a w ⟨F, ρ, hR⟩
  have h1 := hR.name s.n (Nat.le_refl _) ⟨0, 0, sz, 0⟩ (.cells sz []) ⟨rfl, (fun r hr => (nomatch hr)), fun _ => rfl, fun h => absurd h (Nat.lt_irrefl 0)⟩ (fun h => absurd h (Nat.lt_irrefl 0)) (fun h => absurd h (Nat.lt_irrefl 0))
  refine ⟨F, _, { h1 with vals := fun t => ?_, fresh := fun id hid => h1.fresh id ⟨by have : s.n + 8 ≤ id := hid; show s.n ≤ id; omega, by have : s.n + 8 ≤ id := hid; omega⟩ }⟩
  show VR w F _ _ (upd s.t d (.own s.n 0 0) t)
  by_cases e : t = d
  · subst e
    rw [upd_same]
    have hv := hR.vals t
    rw [h] at hv
    generalize gval a gh t = v at hv
    cases hv with
    | sl A n c _ _ _ b o vals hn hc ht hw hA h0 h1 h2 hno =>
      have hn0 : n = 0 := hn
      have hc0 : c = 0 := by rw [ht rfl, hn0]
      subst hn0
      subst hc0
      exact .own A s.n 0 0 0 ⟨0, 0, sz, 0⟩ (by simp [putρ]) (Nat.le_refl _) (fun h => absurd h (Nat.lt_irrefl 0))
  · rw [upd_ne _ _ e]
    exact h1.vals t

/-- The empty slice of a slot is taken as a live block. -/
theorem SW.nil {P : Program} {c : Code} {Q : Exit → St → Prop} {s : St} (d sz : Nat) {sz0 : Nat} (h : s.t d = .sl sz0 [] true)
    (hs : SW P c Q ⟨upd s.t d (.own s.n 0 0), updH s.h s.n (some (.cells sz [])), s.n + 8, s.m⟩) : SW P c Q s := SW.weak (Wk.nil d sz h) rfl hs

end Go.AL

/- An abstract program logic over tree values (part 26): an empty slice is an empty slice of any width. -/
set_option linter.unusedVariables false
set_option linter.unusedSimpArgs false
namespace Go.AL
open Go Go.RowKit

/-- What is known of a value may be less. -/
inductive AVle : AV → AV → Prop
  | refl (x : AV) : AVle x x
  | sl (a b : Nat) (t : Bool) : AVle (.sl a [] t) (.sl b [] false)
  | agg (xs ys : List AV) (hl : xs.length = ys.length) (h : ∀ (i : Nat) (x y : AV), xs[i]? = some x → ys[i]? = some y → AVle x y) : AVle (.agg xs) (.agg ys)
  | tup (xs ys : List AV) (hl : xs.length = ys.length) (h : ∀ (i : Nat) (x y : AV), xs[i]? = some x → ys[i]? = some y → AVle x y) : AVle (.tup xs) (.tup ys)

section
variable {w : World} {F : Nat → Prop} {ρ : Nat → Option BI}

theorem VR.le {x y : AV} (hle : AVle x y) : ∀ {v : Value}, VR w F ρ v x → VR w F ρ v y := by
  induction hle with
  | refl x => exact fun h => h
  | sl a b t =>
    intro v h
    cases h with
    | sl A n c _ _ _ bl o vals hn hc ht hw hA h0 h1 h2 hno =>
      exact .sl A n c b [] false bl o vals hn hc (fun h => by cases h) (fun r hr => (nomatch hr)) (fun h => absurd rfl h) (fun j x hx => by simp at hx) (fun j x hx => by simp at hx) (fun j x hx => by simp at hx) (fun j x hx => by simp at hx)
  | agg xs ys hl h ih =>
    intro v hv
    cases hv with
    | agg vs _ hs h1 h2 =>
      have get : ∀ (i : Nat) (y : AV), ys[i]? = some y → ∃ x, xs[i]? = some x := fun i y hy => by
        have := (List.getElem?_eq_some_iff.1 hy).1
        exact ⟨xs[i], List.getElem?_eq_getElem (by omega)⟩
      exact .agg vs ys (by omega) (fun i y hy => by obtain ⟨x, hx⟩ := get i y hy; exact h1 i x hx) (fun i y hy => by obtain ⟨x, hx⟩ := get i y hy; exact ih i x y hx hy (h2 i x hx))
  | tup xs ys hl h ih =>
    intro v hv
    cases hv with
    | tup vs _ hs h2 =>
      have get : ∀ (i : Nat) (y : AV), ys[i]? = some y → ∃ x, xs[i]? = some x := fun i y hy => by
        have := (List.getElem?_eq_some_iff.1 hy).1
        exact ⟨xs[i], List.getElem?_eq_getElem (by omega)⟩
      exact .tup vs ys (by omega) (fun i y hy => by obtain ⟨x, hx⟩ := get i y hy; exact ih i x y hx hy (h2 i x hx))

end

theorem AVle.agg1 {x y : AV} (h : AVle x y) : AVle (.agg [x]) (.agg [y]) := .agg _ _ rfl (fun i a b ha hb => by
  rcases i with _ | i
  · simp at ha hb; subst ha; subst hb; exact h
  · simp at ha)
theorem AVle.tup2 {x y x' y' : AV} (h : AVle x y) (h' : AVle x' y') : AVle (.tup [x, x']) (.tup [y, y']) := .tup _ _ rfl (fun i a b ha hb => by
  rcases i with _ | _ | i
  · simp at ha hb; subst ha; subst hb; exact h
  · simp at ha hb; subst ha; subst hb; exact h'
  · simp at ha)
theorem AVle.tup3 {x y x' y' x'' y'' : AV} (h : AVle x y) (h' : AVle x' y') (h'' : AVle x'' y'') : AVle (.tup [x, x', x'']) (.tup [y, y', y'']) := .tup _ _ rfl (fun i a b ha hb => by
  rcases i with _ | _ | _ | i
  · simp at ha hb; subst ha; subst hb; exact h
  · simp at ha hb; subst ha; subst hb; exact h'
  · simp at ha hb; subst ha; subst hb; exact h''
  · simp at ha)

section
variable {P : Program} {f : FuncId}

/-- A contract for arguments of which more is known. -/
theorem AC.le_args {args args' : List AV} {r : AR} (h : AC P f args r) (hl : args'.length = args.length) (hle : ∀ (i : Nat) (x y : AV), args'[i]? = some x → args[i]? = some y → AVle x y) (hno : ∀ x ∈ args', NoId x) : AC P f args' r where
  noid := hno
  enter := h.enter
  calls := fun w F vals hF hs hv => h.calls w F vals hF (by omega) (fun i y hy => by
    have hlt := (List.getElem?_eq_some_iff.1 hy).1
    have hx : args'[i]? = some (args'[i]'(by omega)) := List.getElem?_eq_getElem (by omega)
    exact (hv i _ hx).le (hle i _ y hx hy))

/-- A contract that tells less of its result. -/
theorem AC.le_res {args : List AV} {v v' : AV} (h : AC P f args (.pure v)) (hle : AVle v v') (hno : NoId v') : AC P f args (.pure v') where
  noid := h.noid
  enter := h.enter
  calls := fun w F vals hF hs hv => (h.calls w F vals hF hs hv).mono (fun e w' ⟨x, h1, h2, h3, F', g1, g2, g3, g4⟩ => ⟨x, h1, h2, hno, F', g1, g2, g3, g4.le hle⟩)

end

/-- Less is known of a slot. -/
theorem Wk.le {s : St} (d : Nat) {x y : AV} (h : s.t d = x) (hle : AVle x y) : Wk s ⟨upd s.t d y, s.h, s.n, s.m⟩ := by
  intro gh w0 F0 a w ⟨F, ρ, hR⟩
  refine ⟨F, ρ, { hR with vals := fun t => ?_ }⟩
  show VR w F ρ _ (upd s.t d y t)
  by_cases e : t = d
  · subst e
    rw [upd_same]
    have := hR.vals t
    rw [h] at this
    exact this.le hle
  · rw [upd_ne _ _ e]; exact hR.vals t

/-- Less is known of a block of one cell. -/
theorem Wk.leB {s : St} (id : Nat) {x y : AV} (h : s.h id = some (.cells 1 [[x]])) (hle : AVle x y) : Wk s ⟨s.t, updH s.h id (some (.cells 1 [[y]])), s.n, s.m⟩ := by
  intro gh w0 F0 a w ⟨F, ρ, hR⟩
  have hsome : ∀ k, ((updH s.h id (some (.cells 1 [[y]]))) k).isSome = (s.h k).isSome := by
    intro k
    by_cases e : k = id
    · subst e; rw [updH_same, h]; rfl
    · rw [updH_ne _ _ e]
  refine ⟨F, ρ, { hR with blks := fun k lb hl => ?_, inj := fun i j b1 b2 h1 h2 => hR.inj i j b1 b2 (by rw [← hsome]; exact h1) (by rw [← hsome]; exact h2) }⟩
  have hl' : updH s.h id (some (.cells 1 [[y]])) k = some lb := hl
  by_cases e : k = id
  · subst e
    rw [updH_same] at hl'
    injection hl' with hl'
    subst hl'
    obtain ⟨bi, g1, ⟨q1, q2, q3, q4⟩, g3⟩ := hR.blks k _ h
    refine ⟨bi, g1, ⟨q1, fun r hr => by simp at hr; subst hr; rfl, fun hz => ?_, fun hp => ?_⟩, g3⟩
    · have := q3 hz; simp at this
    · obtain ⟨cs, ty, p1, p2, p3, p4⟩ := q4 hp
      refine ⟨cs, ty, p1, p2, p3, fun j z hz => ?_⟩
      rcases j with _ | j
      · simp at hz
        subst hz
        have := p4 0 x (by simp)
        exact ⟨this.1, this.2.le hle⟩
      · simp at hz
  · rw [updH_ne _ _ e] at hl'
    exact hR.blks k lb hl'

end Go.AL

/- An abstract program logic over tree values (part 27): a live block is frozen between steps; loops whose end is weakened first. -/
set_option linter.unusedVariables false
set_option linter.unusedSimpArgs false
namespace Go.AL
open Go Go.RowKit

theorem Wk.refl (s : St) : Wk s s := fun _ _ _ _ _ h => h
theorem Wk.trans {s s' s'' : St} (h1 : Wk s s') (h2 : Wk s' s'') : Wk s s'' := fun gh w0 F0 a w h => h2 gh w0 F0 a w (h1 gh w0 F0 a w h)

/-- A live block that stands in a slot is frozen there. -/
theorem Wk.frz {s : St} (d id off len sz : Nat) {rows : List (List AV)} (h1 : s.t d = .own id off len) (h2 : s.h id = some (.cells sz rows)) (hz : 0 < sz) (hl : off + len ≤ rows.length)
    (hno : NoId (.sl sz ((rows.drop off).take len) false)) : Wk s ⟨upd s.t d (.sl sz ((rows.drop off).take len) false), updH s.h id none, s.n, s.m⟩ := by
  intro gh w0 F0 a w ⟨F, ρ, hR⟩
  have hv := hR.vals d
  rw [h1] at hv
  have hf : AL.frz s.h (.own id off len) = some (.sl sz ((rows.drop off).take len) false, [off + len ≤ rows.length], [(id, none)], [(id, true)]) := by
    unfold AL.frz
    simp only [h2]
    cases sz with
    | zero => exact absurd hz (Nat.lt_irrefl 0)
    | succ k => rfl
  obtain ⟨F', hF, hR', hv'⟩ := frz_ok hR hv hf hl hno
  refine ⟨F', ρ, { hR' with vals := fun t => ?_ }⟩
  show VR w F' ρ _ (upd s.t d _ t)
  by_cases e : t = d
  · subst e
    rw [upd_same]
    exact hv'
  · rw [upd_ne _ _ e]
    exact hR'.vals t

/-- A loop as in loopM; what stands at a round's end is weakened first. -/
theorem SW.loopW {P : Program} {TT : Nat → Option TI} (hT : TTok P TT) {α : Type} {c : Code} {Q : Exit → St → Prop} {s : St} (ts : α → List (Nat × AV)) (hs : α → List (Nat × LB)) (n m : Nat) (hm : s.m = m)
    (μ : α → Nat) (J : α → Prop) (x0 : α) (σ0 : List (Nat × Nat)) (h0 : J x0) (e1 : okT s (σf σ0) n (ts x0)) (e2 : okH s (σf σ0) n (hs x0)) (e3 : distinct (((hs x0).map (·.1)).map (σf σ0)) = true)
    (round : ∀ x, J x → axp P TT c (loopQ Q fun s2 => ∃ (s3 : St) (x' : α) (σ : List (Nat × Nat)), Wk s2 s3 ∧ s3.m = s2.m ∧ μ x' < μ x ∧ J x' ∧ okT s3 (σf σ) n (ts x') ∧ okH s3 (σf σ) n (hs x') ∧ distinct (((hs x').map (·.1)).map (σf σ)) = true) (mkS (ts x) (hs x) n m)) : SW P (.loop c) Q s := by
  refine SW.loop (fun k s1 => ∃ x, μ x = k ∧ J x ∧ s1 = mkS (ts x) (hs x) n m) (μ x0) (mkS (ts x0) (hs x0) n m) (Wk.of _ _ _ _ _ hm e1 e2 e3) hm.symm ⟨x0, rfl, h0, rfl⟩ ?_
  rintro k s1 hm1 ⟨x, rfl, hJ, rfl⟩
  refine ((axp_sound hT _ _ _ (round x hJ)).keep).mono fun e s' hq => ?_
  obtain ⟨hq, hms⟩ := hq
  cases e with
  | normal =>
    obtain ⟨s3, x', σ, w1, w2, g1, g2, g3, g4, g5⟩ := hq
    exact ⟨μ x', mkS (ts x') (hs x') n m, g1, w1.trans (Wk.of _ _ _ _ _ (by rw [w2, hms]; rfl) g3 g4 g5), (by rw [hms]; rfl), x', rfl, g2, rfl⟩
  | _ => exact hq

end Go.AL

/- An abstract program logic over tree values (part 28): a call whose callee is gone through in place, so that it may write into what it is handed. -/
set_option linter.unusedVariables false
set_option linter.unusedSimpArgs false
namespace Go.AL
open Go Go.RowKit

/-- A region's first operations, in the text's order. -/
theorem aops_pre {P : Program} {TT : Nat → Option TI} (hT : TTok P TT) {gh : Array Value} {w0 : World} {F0 : Nat → Prop} {ops : Array Oper} {K : St → Prop} {Q : Exit → Act → World → Prop} (n m : Nat) (tail : List Oper)
    (hQ : ∀ i s' a' w', i + tail.length = ops.toList.length → K s' → s'.n = n → s'.m = m → (∃ F ρ, Rel gh w0 F0 F ρ (fun id => n + 8 * i ≤ id) s' a' w') → wpOps P ops Q (List.range' i tail.length) a' w') :
    ∀ (rest : List Oper) (i : Nat) (s : St) (a : Act) (w : World) (F : Nat → Prop) (ρ : Nat → Option BI), ops.toList.drop i = rest ++ tail → i + rest.length + tail.length = ops.toList.length → s.n = n → s.m = m → aops P TT ops.toList rest i K s →
      Rel gh w0 F0 F ρ (fun id => n + 8 * i ≤ id) s a w → wpOps P ops Q (List.range' i (rest.length + tail.length)) a w
  | [], i, s, a, w, F, ρ, hd, hl, hn, hm, h, hR => by
    simp only [List.length_nil, Nat.add_zero] at hl
    rw [List.length_nil, Nat.zero_add]
    exact hQ i s a w hl h hn hm ⟨F, ρ, hR⟩
  | o :: rest, i, s, a, w, F, ρ, hd, hl, hn, hm, h, hR => by
    have ho : ops[i]? = some o := by
      have : (ops.toList.drop i)[0]? = some o := by rw [hd]; rfl
      rw [List.getElem?_drop] at this
      simpa using this
    have hd' : ops.toList.drop (i + 1) = rest ++ tail := by rw [← List.drop_drop, hd]; rfl
    simp only [List.length_cons] at hl
    have ih := aops_pre hT n m tail hQ rest (i + 1)
    have perf : aopK P TT o (s.n + 8 * i) (aops P TT ops.toList rest (i + 1) K) s → o.wp P a w (wpOps P ops Q (List.range' (i + 1) (rest.length + tail.length))) Q := by
      intro hk
      unfold aopK at hk
      split at hk
      · rename_i hdst
        obtain ⟨v, u, acc, hs, hk⟩ := run_step hk
        refine step_sound hT hR (fun k hk => by rw [hn]; omega) hs hdst (fun a' w' ⟨F', ρ', hR'⟩ => ?_)
        exact ih { s with t := putT s.t o.dst v, h := updsH s.h u } a' w' F' ρ' hd' (by omega) hn hm hk (hR'.mono_fr (fun id hid => ⟨by omega, by rw [hn]; omega⟩))
      · exact hk.elim
    rw [List.length_cons, show rest.length + 1 + tail.length = rest.length + tail.length + 1 by omega, List.range'_succ]
    simp only [wpOps, ho]
    unfold aops at h
    split at h
    · rename_i hg
      have hw : Region.wanted o (yielded ops a.tmps) = true := by simp [Region.wanted, hg]
      rw [if_pos hw]
      exact .inl (perf h)
    · rename_i g want hg
      split at h
      · rename_i d hgd hdst
        split at h
        · rename_i x hx
          have hy : yielded ops a.tmps g = some x := yielded_of hR (gdst_bind hgd) hx
          by_cases hxw : x = want
          · have hw : Region.wanted o (yielded ops a.tmps) = true := by simp [Region.wanted, hg, hy, hxw]
            rw [if_pos hw]
            refine .inl (perf ?_)
            subst hxw
            cases x <;> (simp only [upd_self hx] at h; exact h)
          · have hw : ¬ Region.wanted o (yielded ops a.tmps) = true := by simp [Region.wanted, hg, hy, hxw]
            rw [if_neg hw]
            have hk : aops P TT ops.toList rest (i + 1) K { s with t := putT s.t o.dst (.val undef) } := by
              cases x <;> cases want <;> first | exact absurd rfl hxw | (simp only [upd_self hx] at h; exact h)
            exact ih { s with t := putT s.t o.dst (.val undef) } _ w F ρ hd' (by omega) hn hm hk ((hR.putd (.val undef) o.dst hdst).mono_fr (fun id hid => by omega))
        · rename_i vs hx
          have hy : yielded ops a.tmps g = none := yielded_of hR (gdst_bind hgd) hx
          have hw : ¬ Region.wanted o (yielded ops a.tmps) = true := by simp [Region.wanted, hg, hy]
          rw [if_neg hw]
          exact ih { s with t := putT s.t o.dst (.val undef) } _ w F ρ hd' (by omega) hn hm h ((hR.putd (.val undef) o.dst hdst).mono_fr (fun id hid => by omega))
        · exact h.elim
      · exact h.elim

/-- All slots of a caller, as the ghosts of its callee. -/
def ghosts (a : Act) (gh : Array Value) : Array Value := Array.ofFn (n := 1000000 + gh.size) fun i => gval a gh i
theorem ghosts_get (a : Act) (gh : Array Value) (j : Nat) : (ghosts a gh).getD j undef = gval a gh j := by
  unfold ghosts
  rw [Array.getD_eq_getD_getElem?, Array.getElem?_ofFn]
  split
  · rfl
  · unfold gval
    rw [if_neg (by omega), Array.getD_eq_getD_getElem?, Array.getElem?_eq_none (by omega)]

/-- The slots that a callee begins with: its arguments; from 1000000 on its caller's. -/
def inT (args : List AV) (t : Nat → AV) : Nat → AV := fun k => bif Nat.blt k 1000000 then getA args k else t (k - 1000000)
/-- The slots that its caller goes on with. -/
def outT (t : Nat → AV) : Nat → AV := fun j => t (1000000 + j)

theorem SW.region_in {P : Program} {TT : Nat → Option TI} (hT : TTok P TT) {Q : Exit → St → Prop} {s : St} {id : Nat} {ops : Array Oper} (l1 : List Oper) (o : Oper) {c : Call} {f : Nat} {fn : Func} {body : Code}
    (hops : ops.toList = l1 ++ [o]) (hg : o.guard = none) (ho : o.op = .call c) (hc : c.callee = .value (.func f)) (hf : P.funcs[f]? = some fn) (hb : fn.body = some body)
    (henter : ∀ (vals : Array Value) (w : World), (callFunc f vals).run P w = .ok (.enter f vals) w) (hm : fn.ntmps ≤ 1000000) (ha : c.args.toList.length ≤ fn.ntmps)
    (h : aops P TT ops.toList l1 0 (fun s1 => dstOk o.dst s1.m = true ∧ SW P body (fun e s2 => (e = .ret ∨ e = .normal) ∧ ∃ vs, ares TT s2.t s2.h fn.results.toList = some vs ∧ Q .normal ⟨putT (outT s2.t) o.dst (oneV vs), s2.h, s2.n, s1.m⟩)
      ⟨inT (c.args.toList.map (aval s1.t)) s1.t, s1.h, s1.n + 8 * ops.toList.length, fn.ntmps⟩) s) : SW P (.region id ops false) Q s := by
  unfold SW
  intro gh w0 F0 a w hR
  obtain ⟨F, ρ, hR'⟩ := hR
  refine wp_region ?_
  have := aops_pre (Q := fun e a w => ∃ s', Q e s' ∧ s'.m = s.m ∧ RelE gh w0 F0 s' a w) hT (ops := ops) s.n s.m [o] (fun i s1 a1 w1 hi hk hn hm1 hx => ?_) l1 0 s a w F ρ (by simpa using hops) (by rw [hops]; simp) rfl rfl h (by simpa using hR')
  · rw [show l1.length + [o].length = ops.size by rw [← Array.length_toList, hops]; simp] at this
    simpa [List.range_eq_range'] using this
  obtain ⟨F1, ρ1, h1⟩ := hx
  obtain ⟨hdst, hsw⟩ := hk
  have hoi : ops[i]? = some o := by
    have hl : i = l1.length := by rw [hops] at hi; simp at hi; omega
    rw [← Array.getElem?_toList, hops, hl]
    simp
  show wpOps P ops _ [i] a1 w1
  have hw : Region.wanted o (yielded ops a1.tmps) = true := by simp [Region.wanted, hg]
  simp only [wpOps, hoi]
  rw [if_pos hw]
  refine .inl ?_
  have hexec : (execOp a1.eval o).run P w1 = .ok (.enter f (c.args.map a1.eval)) w1 := by
    simp [execOp, ho, resolve, hc, Deferred.ofValue, Act.eval, invoke, henter]
  unfold Oper.wp
  rw [hexec]
  simp only [Oper.upon]
  refine calls_of_wp hf hb ?_
  unfold SW at hsw
  have h2 : Rel (ghosts a1 gh) w0 F0 F1 ρ1 (fun id => s1.n + 8 * ops.toList.length ≤ id) ⟨inT (c.args.toList.map (aval s1.t)) s1.t, s1.h, s1.n + 8 * ops.toList.length, fn.ntmps⟩
      { tmps := c.args.map a1.eval ++ Array.replicate (fn.ntmps - (c.args.map a1.eval).size) undef, defers := [] } w1 := by
    refine ⟨rfl, ?_, hm, h1.below, h1.Fb, h1.F0F, h1.Fnew, fun t => ?_, h1.blks, h1.inj, fun id hid => h1.fresh id ?_⟩
    · have : c.args.size ≤ fn.ntmps := ha
      simp
      omega
    · show VR w1 F1 ρ1 _ (bif Nat.blt t 1000000 then getA (c.args.toList.map (aval s1.t)) t else s1.t (t - 1000000))
      cases hb : Nat.blt t 1000000 with
      | true =>
        have ht : t < 1000000 := Nat.blt_eq.mp hb
        rw [gval_lt ht]
        show VR w1 F1 ρ1 _ (getA (c.args.toList.map (aval s1.t)) t)
        rw [getA_eq]
        by_cases hta : t < c.args.size
        · have e0 : c.args.toList[t]? = some c.args[t] := by rw [Array.getElem?_toList]; exact Array.getElem?_eq_getElem hta
          have e1 : (c.args.toList.map (aval s1.t)).getD t .any = aval s1.t c.args[t] := by simp [List.getD, e0]
          have e2 : (c.args.map a1.eval ++ Array.replicate (fn.ntmps - (c.args.map a1.eval).size) undef).getD t undef = a1.eval c.args[t] := by
            simp only [Array.getD_eq_getD_getElem?, Array.getElem?_append]
            rw [if_pos (by simpa using hta)]
            simp [hta]
          rw [e1, e2]
          exact h1.aval _
        · have e1 : (c.args.toList.map (aval s1.t)).getD t .any = .any := by
            rw [List.getD, List.getElem?_eq_none (by simp; omega)]; rfl
          rw [e1]
          exact .any _
      | false =>
        have ht : ¬ t < 1000000 := fun h => by rw [Nat.blt_eq.mpr h] at hb; cases hb
        have e : ∀ a', gval a' (ghosts a1 gh) t = gval a1 gh (t - 1000000) := fun a' => by
          have hg := ghosts_get a1 gh (t - 1000000)
          rw [← hg]
          exact if_neg ht
        rw [e]
        exact h1.vals _
    · have hid' : s1.n + 8 * ops.toList.length ≤ id := hid
      rw [hn] at hid'
      show s.n + 8 * i ≤ id
      have : i ≤ ops.toList.length := by omega
      omega
  refine wp_mono (hsw (ghosts a1 gh) w0 F0 _ w1 ⟨F1, ρ1, h2⟩) ?_
  rintro e a2 w2 ⟨s2, ⟨he, vs, hvs, hQ⟩, hm2, F2, ρ2, h3⟩
  obtain ⟨vals, g1, g2, g3⟩ := run_results hT h3 fn vs hvs
  have h4 : Rel gh w0 F0 F2 ρ2 (fun id => s2.n ≤ id) ⟨outT s2.t, s2.h, s2.n, s1.m⟩ a1 w2 := by
    refine ⟨h1.defers, h1.size, h1.mle, h3.below, h3.Fb, h3.F0F, h3.Fnew, fun t => ?_, h3.blks, h3.inj, h3.fresh⟩
    have hv := h3.vals (1000000 + t)
    rw [gval_ge, ghosts_get] at hv
    exact hv
  have hd := h4.putd (one_ok g2 g3) o.dst hdst
  have fin : a2.defers = [] ∧ ∃ v, (results fn a2.tmps).run P w2 = .ok v w2 ∧ ∃ s', Q .normal s' ∧ s'.m = s.m ∧ RelE gh w0 F0 s' (a1.put o.dst v) w2 :=
    ⟨h3.defers, _, g1, _, hQ, hm1, F2, ρ2, hd⟩
  rcases he with rfl | rfl
  · exact fin
  · exact fin

end Go.AL
namespace Go.AL
open Go Go.RowKit
theorem SW.regionIn {P : Program} {TT : Nat → Option TI} (hT : TTok P TT) {Q : Exit → St → Prop} {s : St} {id : Nat} {ops : Array Oper} (o : Oper) {c : Call} {f : Nat} {fn : Func} {body : Code}
    (hops : ops.toList = ops.toList.dropLast ++ [o]) (hg : o.guard = none) (ho : o.op = .call c) (hc : c.callee = .value (.func f)) (hf : P.funcs[f]? = some fn) (hb : fn.body = some body)
    (henter : ∀ (vals : Array Value) (w : World), (callFunc f vals).run P w = .ok (.enter f vals) w) (hm : fn.ntmps ≤ 1000000) (ha : c.args.toList.length ≤ fn.ntmps)
    (h : aopsF P TT ops.toList ops.toList.dropLast 0 (fun s1 => dstOk o.dst s1.m = true ∧ SW P body (fun e s2 => (e = .ret ∨ e = .normal) ∧ ∃ vs, ares TT s2.t s2.h fn.results.toList = some vs ∧ Q .normal ⟨putT (outT s2.t) o.dst (oneV vs), s2.h, s2.n, s1.m⟩)
      ⟨inT (c.args.toList.map (aval s1.t)) s1.t, s1.h, s1.n + 8 * ops.toList.length, fn.ntmps⟩) s) : SW P (.region id ops false) Q s :=
  SW.region_in hT _ o hops hg ho hc hf hb henter hm ha (by rw [aopsF_eq] at h; exact h)
end Go.AL

/- An abstract program logic over tree values (part 29): loops whose round is told piece by piece. -/
set_option linter.unusedVariables false
set_option linter.unusedSimpArgs false
namespace Go.AL
open Go Go.RowKit

/-- A loop as in loopM; the round is told of the code itself. -/
theorem SW.loopS {P : Program} {TT : Nat → Option TI} (hT : TTok P TT) {α : Type} {c : Code} {Q : Exit → St → Prop} {s : St} (ts : α → List (Nat × AV)) (hs : α → List (Nat × LB)) (n m : Nat) (hm : s.m = m)
    (μ : α → Nat) (J : α → Prop) (x0 : α) (σ0 : List (Nat × Nat)) (h0 : J x0) (e1 : okT s (σf σ0) n (ts x0)) (e2 : okH s (σf σ0) n (hs x0)) (e3 : distinct (((hs x0).map (·.1)).map (σf σ0)) = true)
    (round : ∀ x, J x → SW P c (loopQ Q fun s2 => ∃ (x' : α) (σ : List (Nat × Nat)), μ x' < μ x ∧ J x' ∧ okT s2 (σf σ) n (ts x') ∧ okH s2 (σf σ) n (hs x') ∧ distinct (((hs x').map (·.1)).map (σf σ)) = true) (mkS (ts x) (hs x) n m)) : SW P (.loop c) Q s := by
  refine SW.loop (fun k s1 => ∃ x, μ x = k ∧ J x ∧ s1 = mkS (ts x) (hs x) n m) (μ x0) (mkS (ts x0) (hs x0) n m) (Wk.of _ _ _ _ _ hm e1 e2 e3) hm.symm ⟨x0, rfl, h0, rfl⟩ ?_
  rintro k s1 hm1 ⟨x, rfl, hJ, rfl⟩
  refine ((round x hJ).keep).mono fun e s' hq => ?_
  obtain ⟨hq, hms⟩ := hq
  cases e with
  | normal =>
    obtain ⟨x', σ, g1, g2, g3, g4, g5⟩ := hq
    exact ⟨μ x', mkS (ts x') (hs x') n m, g1, Wk.of _ _ _ _ _ (by rw [hms]; rfl) g3 g4 g5, (by rw [hms]; rfl), x', rfl, g2, rfl⟩
  | _ => exact hq

end Go.AL

/- An abstract program logic over tree values (part 30): what a caller hands in, structs and slices of any depth, as abstract values. -/
set_option linter.unusedVariables false
set_option linter.unusedSimpArgs false
namespace Go.AL
open Go Go.RowKit Go.ChangeShapes Go.WideShapes

/-- Cells that stand to abstract values that name no live block. -/
def CellsR (W : World) (cs : List Value) (xs : List AV) : Prop :=
  xs.length = cs.length ∧ ∀ (i : Nat) (y : AV), xs[i]? = some y → VR W (fun b => b < W.heap.size) (fun _ => none) (cs.getD i undef) y ∧ (cs.getD i undef).oneCell' = true ∧ NoId y

theorem CellsR.nil (W : World) : CellsR W [] [] := ⟨rfl, fun i y h => by simp at h⟩
theorem CellsR.append {W : World} {a b : List Value} {xs ys : List AV} (h : CellsR W a xs) (h' : CellsR W b ys) : CellsR W (a ++ b) (xs ++ ys) := by
  refine ⟨by rw [List.length_append, List.length_append, h.1, h'.1], fun i y hy => ?_⟩
  by_cases hi : i < xs.length
  · rw [List.getElem?_append_left hi] at hy
    have := h.2 i y hy
    rw [show (a ++ b).getD i undef = a.getD i undef by rw [List.getD, List.getD, List.getElem?_append_left (by rw [← h.1]; exact hi)]]
    exact this
  · rw [List.getElem?_append_right (by omega)] at hy
    have := h'.2 _ y hy
    rw [show (a ++ b).getD i undef = b.getD (i - xs.length) undef by rw [List.getD, List.getD, List.getElem?_append_right (by rw [← h.1]; omega), h.1]]
    exact this
theorem CellsR.one {W : World} {v : Value} {x : AV} (h : VR W (fun b => b < W.heap.size) (fun _ => none) v x) (h1 : v.oneCell' = true) (h2 : NoId x) : CellsR W [v] [x] := by
  refine ⟨rfl, fun i y hy => ?_⟩
  rcases i with _ | i
  · simp at hy; subst hy; exact ⟨h, h1, h2⟩
  · simp at hy

/-- What is known of the cells of a type. -/
def Opens (P : Program) (t : TypeId) (Φ : List AV → Prop) : Prop :=
  ∀ (W : World) (H : Type) (enc : TypeId × Value → H) (fuel : Nat) (cs : List Value) (x : DataW H × List MemPlace), DataW.trod enc P W 0 (fun _ => true) true fuel t cs = some x → ∃ xs, CellsR W cs xs ∧ Φ xs

section
variable {P : Program} {t : TypeId}

theorem opens_int {k : IntKind} (ht : P.underlying t = some (.int k)) : Opens P t (fun xs => ∃ n, xs = [.val (.int k n)] ∧ (Lit.int k n).wf = true) := by
  intro W H enc fuel cs x h
  obtain ⟨n, rfl, _, hw⟩ := DataW.trod_int ht h
  exact ⟨_, CellsR.one (.val _) rfl (.val _), n, rfl, hw⟩
theorem opens_bool (ht : P.underlying t = some .bool) : Opens P t (fun xs => ∃ b, xs = [.val (.bool b)]) := by
  intro W H enc fuel cs x h
  obtain ⟨n, rfl, _⟩ := DataW.trod_bool ht h
  exact ⟨_, CellsR.one (.val _) rfl (.val _), n, rfl⟩
theorem opens_str (ht : P.underlying t = some .string) : Opens P t (fun xs => ∃ s, xs = [.val (.string s)] ∧ s.size ≤ maxLen) := by
  intro W H enc fuel cs x h
  obtain ⟨s, rfl, _, hs⟩ := DataW.trod_string ht h
  exact ⟨_, CellsR.one (.val _) rfl (.val _), s, rfl, hs⟩

/-- The fields of a struct, from a place on. -/
inductive OpensF (P : Program) : List (Nat × Nat) → Nat → Nat → (List AV → Prop) → Prop
  | nil (n : Nat) : OpensF P [] n n (fun xs => xs = [])
  | cons (t : Nat) (fs : List (Nat × Nat)) (off c n : Nat) (Φ Ψ : List AV → Prop) (hc : P.cellsOf t = c) (hf : Opens P t Φ) (hr : OpensF P fs (off + c) n Ψ) :
      OpensF P ((off, t) :: fs) off n (fun xs => ∃ a b, xs = a ++ b ∧ Φ a ∧ Ψ b)

theorem OpensF.spec {fs : List (Nat × Nat)} {off n : Nat} {Φ : List AV → Prop} (h : OpensF P fs off n Φ) : ∀ (W : World) (H : Type) (enc : TypeId × Value → H) (fuel : Nat) (cs : List Value),
    cs.length = n → (∀ f ∈ fs, ∃ y, DataW.trod enc P W 0 (fun _ => true) true fuel f.2 ((cs.drop f.1).take (P.cellsOf f.2)) = some y) → ∃ xs, CellsR W (cs.drop off) xs ∧ Φ xs := by
  induction h with
  | nil n =>
    intro W H enc fuel cs hl _
    refine ⟨[], ?_, rfl⟩
    rw [List.drop_of_length_le (by omega)]
    exact .nil W
  | cons t fs off c n Φ Ψ hc hf hr ih =>
    intro W H enc fuel cs hl hall
    obtain ⟨y, hy⟩ := hall (off, t) (by simp)
    rw [hc] at hy
    obtain ⟨a, ha, hΦ⟩ := hf W H enc fuel _ y hy
    obtain ⟨b, hb, hΨ⟩ := ih W H enc fuel cs hl (fun g hg => hall g (by simp [hg]))
    refine ⟨a ++ b, ?_, a, b, rfl, hΦ, hΨ⟩
    have e : cs.drop off = (cs.drop off).take c ++ cs.drop (off + c) := by
      rw [← List.drop_drop, List.take_append_drop]
    rw [e]
    exact ha.append hb

theorem opens_struct {fs : Array Field} {l : List (Nat × Nat)} {n : Nat} {Φ : List AV → Prop} (ht : P.underlying t = some (.struct fs)) (hfs : fs.toList.map (fun f => (f.offset, f.type)) = l) (hc : P.cellsOf t = n) (h : OpensF P l 0 n Φ) : Opens P t Φ := by
  intro W H enc fuel cs x hx
  obtain ⟨xs, m, rfl, _, hl, hs, hf⟩ := DataW.trod_struct ht hx
  have := h.spec W H enc m cs (by rw [hl, hc]) (fun g hgm => by
    rw [← hfs] at hgm
    obtain ⟨f, hfm, rfl⟩ := List.mem_map.1 hgm
    obtain ⟨i, hi⟩ := List.getElem?_of_mem hfm
    have hi' : fs[i]? = some f := by rw [← Array.getElem?_toList]; exact hi
    have hlt : i < xs.length := by
      have := (Array.getElem?_eq_some_iff.1 hi').1
      omega
    exact ⟨xs[i], by rw [hf i f hi']; exact List.getElem?_eq_getElem hlt⟩)
  simpa using this

theorem opens_slice {e c : Nat} {Φ : List AV → Prop} (ht : P.underlying t = some (.slice e)) (hc : P.cellsOf e = c) (h0 : 0 < c) (he : Opens P e Φ) :
    Opens P t (fun xs => ∃ rows, xs = [.sl c rows false] ∧ rows.length ≤ maxLen ∧ ∀ r ∈ rows, r.length = c ∧ Φ r) := by
  intro W H enc fuel cs x hx
  rcases DataW.trod_slice ht hx with ⟨rfl, _⟩ | ⟨a, len, cap, elems, rest, n, rfl, rfl, _, hb, hl, hm, hlen, hel, _, _⟩
  · refine ⟨[.sl c [] false], CellsR.one (.sl none 0 0 c [] false 0 0 (fun _ => undef) rfl (Nat.le_refl _) (fun h => by cases h) (fun r hr => by cases hr) (fun h => absurd rfl h) (fun j x hx => by simp at hx) (fun j x hx => by simp at hx) (fun j x hx => by simp at hx) (fun j x hx => by simp at hx)) rfl (.sl _ _ _ (fun r hr => by cases hr)), [], rfl, Nat.zero_le _, fun r hr => by cases hr⟩
  · have ex : ∀ i, i < len → ∃ (ci : List Value) (xs : List AV), W.cells? 0 (a.add (i * c)) c = some ci ∧ CellsR W ci xs ∧ Φ xs := by
      intro i hi
      have h1 := hel i hi
      rw [hc, List.getElem?_eq_getElem (by omega), Option.bind_eq_some_iff] at h1
      obtain ⟨ci, h2, h3⟩ := h1
      obtain ⟨xs, h4, h5⟩ := he W H enc n ci _ h3
      exact ⟨ci, xs, h2, h4, h5⟩
    have : ∃ f : Nat → List AV, ∀ i, i < len → ∃ ci : List Value, W.cells? 0 (a.add (i * c)) c = some ci ∧ CellsR W ci (f i) ∧ Φ (f i) :=
      ⟨fun i => if h : i < len then (ex i h).choose_spec.choose else [], fun i hi => ⟨(ex i hi).choose, by
        simp only [dif_pos hi]
        exact (ex i hi).choose_spec.choose_spec⟩⟩
    obtain ⟨f, hf⟩ := this
    have hrl : ((List.range len).map f).length = len := by simp
    have hget : ∀ i r, ((List.range len).map f)[i]? = some r → i < len ∧ r = f i := fun i r hr => by
      rw [List.getElem?_map] at hr
      by_cases hi : i < len
      · rw [List.getElem?_range hi] at hr
        exact ⟨hi, (Option.some.inj hr).symm⟩
      · rw [List.getElem?_eq_none (by simp; omega)] at hr; cases hr
    have hw : ∀ r ∈ (List.range len).map f, r.length = c ∧ Φ r := fun r hr => by
      obtain ⟨i, hi, rfl⟩ := List.mem_map.1 hr
      obtain ⟨ci, h1, h2, h3⟩ := hf i (List.mem_range.1 hi)
      exact ⟨by rw [h2.1]; exact (World.cells?_some h1).2.1, h3⟩
    have spot : 0 < len → a.spot = none := fun hp => by
      obtain ⟨ci, h1, _, _⟩ := hf 0 hp
      have h2 := World.cells?_some h1
      have h3 := h2.2.2 0 h0
      rw [Nat.zero_mul, show (a.add 0).add 0 = a from rfl, List.getElem?_eq_getElem (by omega)] at h3
      unfold World.cell? at h3
      split at h3
      · cases hs : a.spot with
        | none => rfl
        | some z => rw [hs] at h3; simp at h3
      · cases h3
    have cell : ∀ (j : Nat) (y : AV), ((List.range len).map f).flatten[j]? = some y → ∃ v, W.cell? ⟨a.block, a.off + j, none⟩ = some v ∧ v.oneCell' = true ∧ VR W (fun b => b < W.heap.size) (fun _ => none) v y ∧ NoId y := by
      intro j y hy
      rw [flat_get h0 _ (fun r hr => (hw r hr).1), Option.bind_eq_some_iff] at hy
      obtain ⟨r, hr, hy⟩ := hy
      obtain ⟨hi, rfl⟩ := hget _ _ hr
      obtain ⟨ci, h1, h2, h3⟩ := hf _ hi
      obtain ⟨_, hcl, hcell⟩ := World.cells?_some h1
      have hk : j % c < c := Nat.mod_lt _ h0
      have h4 := hcell (j % c) hk
      rw [List.getElem?_eq_getElem (by omega)] at h4
      obtain ⟨g1, g2, g3⟩ := h2.2 _ y hy
      rw [List.getD, List.getElem?_eq_getElem (by omega), Option.getD_some] at g1 g2
      have hs := spot (Nat.lt_of_le_of_lt (Nat.zero_le _) hi)
      have ea : (a.add (j / c * c)).add (j % c) = ⟨a.block, a.off + j, none⟩ := by
        obtain ⟨b, o, sp⟩ := a
        have hs : sp = none := hs
        subst hs
        rw [add_plain, add_plain, Nat.add_assoc, Nat.mul_comm, Nat.div_add_mod]
      rw [ea] at h4
      exact ⟨_, h4, g2, g1, g3⟩
    refine ⟨[.sl c ((List.range len).map f) false], CellsR.one ?_ rfl (.sl _ _ _ (fun r hr y hy => ?_)), _, rfl, by rw [hrl]; omega, hw⟩
    · refine .sl (some a) len cap c _ false a.block a.off (fun j => (W.cell? ⟨a.block, a.off + j, none⟩).getD undef) (by rw [hrl]) hl (fun h => by cases h) (fun r hr => (hw r hr).1) (fun hne => ?_) (fun j y hy => ?_) (fun j y hy => ?_) (fun j y hy => ?_) (fun j y hy => ?_)
      · have hp : 0 < len := by
          rcases Nat.eq_zero_or_pos len with h | h
          · exact absurd (by rw [h]; rfl) hne
          · exact h
        have hs := spot hp
        obtain ⟨ci, h1, _, _⟩ := hf 0 hp
        have h3 := (World.cells?_some h1).2.2 0 h0
        rw [Nat.zero_mul, show (a.add 0).add 0 = a from rfl, List.getElem?_eq_getElem (by rw [(World.cells?_some h1).2.1]; exact h0)] at h3
        refine ⟨by obtain ⟨b, o, sp⟩ := a; have hs : sp = none := hs; rw [hs], ?_⟩
        unfold World.cell? at h3
        split at h3
        · rename_i hb' 
          exact (Array.getElem?_eq_some_iff.1 hb').1
        · cases h3
      · obtain ⟨v, h1, _⟩ := cell j y hy
        rw [h1]; rfl
      · obtain ⟨v, h1, h2, _⟩ := cell j y hy
        rw [h1]; exact h2
      · obtain ⟨v, h1, _, h3, _⟩ := cell j y hy
        rw [h1]; exact h3
      · obtain ⟨v, h1, _, _, h4⟩ := cell j y hy
        exact h4
    · obtain ⟨i, hi⟩ := List.getElem?_of_mem hr
      obtain ⟨k, hk⟩ := List.getElem?_of_mem hy
      have := flat_row (fun r hr => (hw r hr).1) hi hk
      exact (cell _ y this).choose_spec.2.2.2

theorem Opens.mono {Φ Ψ : List AV → Prop} (h : Opens P t Φ) (hm : ∀ xs, Φ xs → Ψ xs) : Opens P t Ψ := fun W H enc fuel cs x hx => by
  obtain ⟨xs, h1, h2⟩ := h W H enc fuel cs x hx
  exact ⟨xs, h1, hm xs h2⟩

/-- An argument of one cell. -/
theorem Opens.cell {Φ : List AV → Prop} (h : Opens P t Φ) {W : World} {H : Type} {enc : TypeId × Value → H} {v : Value} {d : DataW H} {ps : List MemPlace} (hd : DataW.Trod enc P W 0 (fun _ => true) true t v d ps)
    (hc : v.cells = #[v]) : ∃ x, Φ [x] ∧ VR W (fun b => b < W.heap.size) (fun _ => none) v x ∧ NoId x := by
  obtain ⟨fuel, hf⟩ := hd
  obtain ⟨xs, h1, h2⟩ := h W H enc fuel _ _ hf
  rw [hc] at h1
  match xs, h1, h2 with
  | [x], h1, h2 =>
    obtain ⟨g1, _, g3⟩ := h1.2 0 x rfl
    exact ⟨x, h2, g1, g3⟩
  | [], h1, _ => exact absurd h1.1 (by simp)
  | _ :: _ :: _, h1, _ => exact absurd h1.1 (by simp)

/-- An argument that is a struct. -/
theorem Opens.struct {Φ : List AV → Prop} (h : Opens P t Φ) {W : World} {H : Type} {enc : TypeId × Value → H} {cs : Array Value} {d : DataW H} {ps : List MemPlace} (hd : DataW.Trod enc P W 0 (fun _ => true) true t (.agg cs) d ps) :
    ∃ xs, Φ xs ∧ VR W (fun b => b < W.heap.size) (fun _ => none) (.agg cs) (.agg xs) ∧ NoId (.agg xs) := by
  obtain ⟨fuel, hf⟩ := hd
  obtain ⟨xs, h1, h2⟩ := h W H enc fuel _ _ hf
  have hg : ∀ i, (Value.cells (.agg cs)).toList.getD i undef = cs.getD i undef := fun i => by
    show cs.toList.getD i undef = _
    rw [List.getD, Array.getElem?_toList, Array.getD_eq_getD_getElem?]
  refine ⟨xs, h2, .agg cs xs ?_ (fun i x hx => ?_) (fun i x hx => ?_), .agg _ (fun x hx => ?_)⟩
  · have : xs.length = cs.toList.length := h1.1
    rw [this]; simp
  · have := (h1.2 i x hx).2.1
    rwa [hg] at this
  · have := (h1.2 i x hx).1
    rwa [hg] at this
  · obtain ⟨i, hi⟩ := List.getElem?_of_mem hx
    exact (h1.2 i x hi).2.2
end
end Go.AL

/- The types of the program: what of them the abstract logic wants to know. -/
namespace Go.Proofs.Ytdlonboheckdoaa
open Go Go.AL

def TT : Nat → Option TI := findTI [
  (1, ⟨.func, 1, 8, [.nilFunc], false⟩),
  (2, ⟨.int .i64, 1, 8, [.int .i64 0], false⟩),
  (3, ⟨.int .i64, 1, 8, [.int .i64 0], false⟩),
  (4, ⟨.bool, 1, 1, [.bool false], false⟩),
  (5, ⟨.int .u8, 1, 1, [.int .u8 0], false⟩),
  (9, ⟨.str, 1, 16, [.string ByteArray.empty], false⟩),
  (12, ⟨.int .u64, 1, 8, [.int .u64 0], false⟩),
  (21, ⟨.int .i32, 1, 4, [.int .i32 0], false⟩),
  (22, ⟨.slice 9, 1, 24, [.slice none 0 0], false⟩),
  (23, ⟨.func, 1, 8, [.nilFunc], false⟩),
  (24, ⟨.slice 27, 1, 24, [.slice none 0 0], false⟩),
  (25, ⟨.func, 1, 8, [.nilFunc], false⟩),
  (26, ⟨.struct [(0, 9), (1, 3), (2, 3)], 3, 32, [.string ByteArray.empty, .int .i64 0, .int .i64 0], true⟩),
  (27, ⟨.struct [(0, 9), (1, 3), (2, 3)], 3, 32, [.string ByteArray.empty, .int .i64 0, .int .i64 0], true⟩),
  (28, ⟨.func, 1, 8, [.nilFunc], false⟩),
  (29, ⟨.slice 21, 1, 24, [.slice none 0 0], false⟩),
  (30, ⟨.struct [(0, 3), (1, 22)], 2, 32, [.int .i64 0, .slice none 0 0], false⟩),
  (31, ⟨.struct [(0, 3), (1, 22)], 2, 32, [.int .i64 0, .slice none 0 0], false⟩),
  (33, ⟨.func, 1, 8, [.nilFunc], false⟩),
  (34, ⟨.func, 1, 8, [.nilFunc], false⟩),
  (35, ⟨.func, 1, 8, [.nilFunc], false⟩),
  (36, ⟨.func, 1, 8, [.nilFunc], false⟩),
  (38, ⟨.func, 1, 8, [.nilFunc], false⟩),
  (39, ⟨.func, 1, 8, [.nilFunc], false⟩),
  (40, ⟨.func, 1, 8, [.nilFunc], false⟩),
  (42, ⟨.func, 1, 8, [.nilFunc], false⟩),
  (43, ⟨.func, 1, 8, [.nilFunc], false⟩),
  (44, ⟨.func, 1, 8, [.nilFunc], false⟩),
  (45, ⟨.func, 1, 8, [.nilFunc], false⟩),
  (46, ⟨.func, 1, 8, [.nilFunc], false⟩),
  (52, ⟨.func, 1, 8, [.nilFunc], false⟩),
  (53, ⟨.int .u32, 1, 4, [.int .u32 0], false⟩),
  (56, ⟨.func, 1, 8, [.nilFunc], false⟩),
  (57, ⟨.ptr 5, 1, 8, [.pointer none], false⟩)]

theorem TT1 : TIok Try.prog 1 ⟨.func, 1, 8, [.nilFunc], false⟩ := TIok.mk (z := .nilFunc) (by kernel_rfl) (by kernel_rfl) rfl (by rfl) (fun h => by cases h)
theorem TT2 : TIok Try.prog 2 ⟨.int .i64, 1, 8, [.int .i64 0], false⟩ := TIok.mk (z := .int .i64 0) (by kernel_rfl) (by kernel_rfl) rfl (by rfl) (fun h => by cases h)
theorem TT3 : TIok Try.prog 3 ⟨.int .i64, 1, 8, [.int .i64 0], false⟩ := TIok.mk (z := .int .i64 0) (by kernel_rfl) (by kernel_rfl) rfl (by rfl) (fun h => by cases h)
theorem TT4 : TIok Try.prog 4 ⟨.bool, 1, 1, [.bool false], false⟩ := TIok.mk (z := .bool false) (by kernel_rfl) (by kernel_rfl) rfl (by rfl) (fun h => by cases h)
theorem TT5 : TIok Try.prog 5 ⟨.int .u8, 1, 1, [.int .u8 0], false⟩ := TIok.mk (z := .int .u8 0) (by kernel_rfl) (by kernel_rfl) rfl (by rfl) (fun h => by cases h)
theorem TT9 : TIok Try.prog 9 ⟨.str, 1, 16, [.string ByteArray.empty], false⟩ := TIok.mk (z := .string ByteArray.empty) (by kernel_rfl) (by kernel_rfl) rfl (by rfl) (fun h => by cases h)
theorem TT12 : TIok Try.prog 12 ⟨.int .u64, 1, 8, [.int .u64 0], false⟩ := TIok.mk (z := .int .u64 0) (by kernel_rfl) (by kernel_rfl) rfl (by rfl) (fun h => by cases h)
theorem TT21 : TIok Try.prog 21 ⟨.int .i32, 1, 4, [.int .i32 0], false⟩ := TIok.mk (z := .int .i32 0) (by kernel_rfl) (by kernel_rfl) rfl (by rfl) (fun h => by cases h)
theorem TT22 : TIok Try.prog 22 ⟨.slice 9, 1, 24, [.slice none 0 0], false⟩ := TIok.mk (z := .slice none 0 0) (by kernel_rfl) (by kernel_rfl) rfl (by rfl) (fun h => by cases h)
theorem TT23 : TIok Try.prog 23 ⟨.func, 1, 8, [.nilFunc], false⟩ := TIok.mk (z := .nilFunc) (by kernel_rfl) (by kernel_rfl) rfl (by rfl) (fun h => by cases h)
theorem TT24 : TIok Try.prog 24 ⟨.slice 27, 1, 24, [.slice none 0 0], false⟩ := TIok.mk (z := .slice none 0 0) (by kernel_rfl) (by kernel_rfl) rfl (by rfl) (fun h => by cases h)
theorem TT25 : TIok Try.prog 25 ⟨.func, 1, 8, [.nilFunc], false⟩ := TIok.mk (z := .nilFunc) (by kernel_rfl) (by kernel_rfl) rfl (by rfl) (fun h => by cases h)
theorem TT26 : TIok Try.prog 26 ⟨.struct [(0, 9), (1, 3), (2, 3)], 3, 32, [.string ByteArray.empty, .int .i64 0, .int .i64 0], true⟩ := TIok.mk (z := .agg #[.string ByteArray.empty, .int .i64 0, .int .i64 0]) (by kernel_rfl) (by kernel_rfl) rfl (by rfl) (fun _ => by kernel_rfl)
theorem TT27 : TIok Try.prog 27 ⟨.struct [(0, 9), (1, 3), (2, 3)], 3, 32, [.string ByteArray.empty, .int .i64 0, .int .i64 0], true⟩ := TIok.mk (z := .agg #[.string ByteArray.empty, .int .i64 0, .int .i64 0]) (by kernel_rfl) (by kernel_rfl) rfl (by rfl) (fun _ => by kernel_rfl)
theorem TT28 : TIok Try.prog 28 ⟨.func, 1, 8, [.nilFunc], false⟩ := TIok.mk (z := .nilFunc) (by kernel_rfl) (by kernel_rfl) rfl (by rfl) (fun h => by cases h)
theorem TT29 : TIok Try.prog 29 ⟨.slice 21, 1, 24, [.slice none 0 0], false⟩ := TIok.mk (z := .slice none 0 0) (by kernel_rfl) (by kernel_rfl) rfl (by rfl) (fun h => by cases h)
theorem TT30 : TIok Try.prog 30 ⟨.struct [(0, 3), (1, 22)], 2, 32, [.int .i64 0, .slice none 0 0], false⟩ := TIok.mk (z := .agg #[.int .i64 0, .slice none 0 0]) (by kernel_rfl) (by kernel_rfl) rfl (by rfl) (fun h => by cases h)
theorem TT31 : TIok Try.prog 31 ⟨.struct [(0, 3), (1, 22)], 2, 32, [.int .i64 0, .slice none 0 0], false⟩ := TIok.mk (z := .agg #[.int .i64 0, .slice none 0 0]) (by kernel_rfl) (by kernel_rfl) rfl (by rfl) (fun h => by cases h)
theorem TT33 : TIok Try.prog 33 ⟨.func, 1, 8, [.nilFunc], false⟩ := TIok.mk (z := .nilFunc) (by kernel_rfl) (by kernel_rfl) rfl (by rfl) (fun h => by cases h)
theorem TT34 : TIok Try.prog 34 ⟨.func, 1, 8, [.nilFunc], false⟩ := TIok.mk (z := .nilFunc) (by kernel_rfl) (by kernel_rfl) rfl (by rfl) (fun h => by cases h)
theorem TT35 : TIok Try.prog 35 ⟨.func, 1, 8, [.nilFunc], false⟩ := TIok.mk (z := .nilFunc) (by kernel_rfl) (by kernel_rfl) rfl (by rfl) (fun h => by cases h)
theorem TT36 : TIok Try.prog 36 ⟨.func, 1, 8, [.nilFunc], false⟩ := TIok.mk (z := .nilFunc) (by kernel_rfl) (by kernel_rfl) rfl (by rfl) (fun h => by cases h)
theorem TT38 : TIok Try.prog 38 ⟨.func, 1, 8, [.nilFunc], false⟩ := TIok.mk (z := .nilFunc) (by kernel_rfl) (by kernel_rfl) rfl (by rfl) (fun h => by cases h)
theorem TT39 : TIok Try.prog 39 ⟨.func, 1, 8, [.nilFunc], false⟩ := TIok.mk (z := .nilFunc) (by kernel_rfl) (by kernel_rfl) rfl (by rfl) (fun h => by cases h)
theorem TT40 : TIok Try.prog 40 ⟨.func, 1, 8, [.nilFunc], false⟩ := TIok.mk (z := .nilFunc) (by kernel_rfl) (by kernel_rfl) rfl (by rfl) (fun h => by cases h)
theorem TT42 : TIok Try.prog 42 ⟨.func, 1, 8, [.nilFunc], false⟩ := TIok.mk (z := .nilFunc) (by kernel_rfl) (by kernel_rfl) rfl (by rfl) (fun h => by cases h)
theorem TT43 : TIok Try.prog 43 ⟨.func, 1, 8, [.nilFunc], false⟩ := TIok.mk (z := .nilFunc) (by kernel_rfl) (by kernel_rfl) rfl (by rfl) (fun h => by cases h)
theorem TT44 : TIok Try.prog 44 ⟨.func, 1, 8, [.nilFunc], false⟩ := TIok.mk (z := .nilFunc) (by kernel_rfl) (by kernel_rfl) rfl (by rfl) (fun h => by cases h)
theorem TT45 : TIok Try.prog 45 ⟨.func, 1, 8, [.nilFunc], false⟩ := TIok.mk (z := .nilFunc) (by kernel_rfl) (by kernel_rfl) rfl (by rfl) (fun h => by cases h)
theorem TT46 : TIok Try.prog 46 ⟨.func, 1, 8, [.nilFunc], false⟩ := TIok.mk (z := .nilFunc) (by kernel_rfl) (by kernel_rfl) rfl (by rfl) (fun h => by cases h)
theorem TT52 : TIok Try.prog 52 ⟨.func, 1, 8, [.nilFunc], false⟩ := TIok.mk (z := .nilFunc) (by kernel_rfl) (by kernel_rfl) rfl (by rfl) (fun h => by cases h)
theorem TT53 : TIok Try.prog 53 ⟨.int .u32, 1, 4, [.int .u32 0], false⟩ := TIok.mk (z := .int .u32 0) (by kernel_rfl) (by kernel_rfl) rfl (by rfl) (fun h => by cases h)
theorem TT56 : TIok Try.prog 56 ⟨.func, 1, 8, [.nilFunc], false⟩ := TIok.mk (z := .nilFunc) (by kernel_rfl) (by kernel_rfl) rfl (by rfl) (fun h => by cases h)
theorem TT57 : TIok Try.prog 57 ⟨.ptr 5, 1, 8, [.pointer none], false⟩ := TIok.mk (z := .pointer none) (by kernel_rfl) (by kernel_rfl) rfl (by rfl) (fun h => by cases h)
theorem TTok : TTok Try.prog TT := TTok_of (List.forall_mem_cons.2 ⟨TT1, List.forall_mem_cons.2  ⟨TT2, List.forall_mem_cons.2  ⟨TT3, List.forall_mem_cons.2  ⟨TT4, List.forall_mem_cons.2  ⟨TT5, List.forall_mem_cons.2  ⟨TT9, List.forall_mem_cons.2  ⟨TT12, List.forall_mem_cons.2  ⟨TT21, List.forall_mem_cons.2  ⟨TT22, List.forall_mem_cons.2  ⟨TT23, List.forall_mem_cons.2  ⟨TT24, List.forall_mem_cons.2  ⟨TT25, List.forall_mem_cons.2  ⟨TT26, List.forall_mem_cons.2  ⟨TT27, List.forall_mem_cons.2  ⟨TT28, List.forall_mem_cons.2  ⟨TT29, List.forall_mem_cons.2  ⟨TT30, List.forall_mem_cons.2  ⟨TT31, List.forall_mem_cons.2  ⟨TT33, List.forall_mem_cons.2  ⟨TT34, List.forall_mem_cons.2  ⟨TT35, List.forall_mem_cons.2  ⟨TT36, List.forall_mem_cons.2  ⟨TT38, List.forall_mem_cons.2  ⟨TT39, List.forall_mem_cons.2  ⟨TT40, List.forall_mem_cons.2  ⟨TT42, List.forall_mem_cons.2  ⟨TT43, List.forall_mem_cons.2  ⟨TT44, List.forall_mem_cons.2  ⟨TT45, List.forall_mem_cons.2  ⟨TT46, List.forall_mem_cons.2  ⟨TT52, List.forall_mem_cons.2  ⟨TT53, List.forall_mem_cons.2  ⟨TT56, List.forall_mem_cons.2 ⟨TT57, fun _ h => (List.not_mem_nil h).elim⟩⟩⟩⟩⟩⟩⟩⟩⟩⟩⟩⟩⟩⟩⟩⟩⟩⟩⟩⟩⟩⟩⟩⟩⟩⟩⟩⟩⟩⟩⟩⟩⟩⟩)

end Go.Proofs.Ytdlonboheckdoaa

/- Signs: letters and digits, of the program and of the document. -/
set_option linter.unusedVariables false
namespace Go.Proofs.Ytdlonboheckdoaa
open Go Go.AL

theorem noid1 {a : AV} (ha : NoId a) : ∀ x ∈ [a], NoId x := by
  intro x hx; rcases List.mem_cons.1 hx with rfl | hx; exact ha; cases hx
theorem noid2 {a b : AV} (ha : NoId a) (hb : NoId b) : ∀ x ∈ [a, b], NoId x := by
  intro x hx; rcases List.mem_cons.1 hx with rfl | hx; exact ha; exact noid1 hb x hx
theorem noid3 {a b c : AV} (ha : NoId a) (hb : NoId b) (hc : NoId c) : ∀ x ∈ [a, b, c], NoId x := by
  intro x hx; rcases List.mem_cons.1 hx with rfl | hx; exact ha; exact noid2 hb hc x hx

theorem width_pos (s : ByteArray) (pos : Nat) : 1 ≤ (Utf8.decode s pos).2 := by
  unfold Utf8.decode
  dsimp only
  repeat' split
  all_goals (first | exact Nat.le_refl _ | (show 1 ≤ _; omega))

theorem runesL_end (s : ByteArray) (f pos : Nat) (h : ¬ pos < s.size) : runesL s f pos = [] := by
  cases f with
  | zero => rfl
  | succ f => exact if_neg h
theorem in_ok (s : ByteArray) (c : Int) : AC Try.prog 24 [.val (.string s), .val (.int .i32 c)] (.pure (.val (.bool (decide (c ∈ runes s))))) := by
  refine AC.of_body TTok Try.func24 rfl (enter_of Try.func24 (by kernel_rfl) (by kernel_rfl)) (noid2 (.val _) (.val _)) (.val _) (Nat.le_of_ble_eq_true rfl) ?_
  conv => whnf
  refine SW.loopM TTok (fun x : Nat × Nat => [(1, .val (.int .i32 c)), (8, .it 16)]) (fun x => [(16, .iter s x.1)]) 24 15 rfl (fun x => s.size - x.1) (fun x => s.size ≤ x.1 + x.2 ∧ (c ∈ runes s ↔ c ∈ runesL s x.2 x.1)) (0, s.size) [] ⟨by show s.size ≤ 0 + s.size; omega, Iff.rfl⟩
    ⟨⟨rfl, rfl⟩, ⟨rfl, rfl⟩, trivial⟩ ⟨⟨rfl, .inr ⟨rfl, rfl⟩⟩, trivial⟩ rfl ?_
  intro x hJ
  obtain ⟨pos, f⟩ := x
  have h1 : s.size ≤ pos + f := hJ.1
  have h2 : c ∈ runes s ↔ c ∈ runesL s f pos := hJ.2
  clear hJ
  conv => whnf
  refine caseb (fun h3 => ?_) (fun h3 => ?_)
  · have h3' : pos < s.size := of_decide_eq_true h3
    obtain ⟨f, rfl⟩ : ∃ g, f = g + 1 := ⟨f - 1, by omega⟩
    rw [show runesL s (f + 1) pos = ((Utf8.decode s pos).1 : Int) :: runesL s f (pos + (Utf8.decode s pos).2) from if_pos h3'] at h2
    have hw := width_pos s pos
    conv => whnf
    refine caseb (fun h4 => ?_) (fun h4 => ?_)
    · have h4' : ((Utf8.decode s pos).1 : Int) = c := eq_of_beq h4
      rw [decide_eq_true (h2.2 (by rw [h4']; exact List.mem_cons_self))]
      conv => whnf
      exact rfl
    · have h4' : ((Utf8.decode s pos).1 : Int) ≠ c := beq_eq_false_iff_ne.1 h4
      conv => whnf
      refine ⟨(pos + (Utf8.decode s pos).2, f), [], (by show s.size - (pos + (Utf8.decode s pos).2) < s.size - pos; omega), ⟨(by show s.size ≤ pos + (Utf8.decode s pos).2 + f; omega), ?_⟩, ⟨⟨rfl, rfl⟩, ⟨rfl, rfl⟩, trivial⟩, ⟨⟨rfl, .inr ⟨rfl, rfl⟩⟩, trivial⟩, rfl⟩
      show c ∈ runes s ↔ c ∈ runesL s f (pos + (Utf8.decode s pos).2)
      rw [h2, List.mem_cons]
      exact ⟨fun h => h.resolve_left (fun e => h4' e.symm), .inr⟩
  · have h3' : ¬ pos < s.size := of_decide_eq_false h3
    rw [runesL_end s f pos h3'] at h2
    rw [decide_eq_false (fun h => by cases h2.1 h)]
    conv => whnf
    exact rfl

/-- Letters. -/
def letter (c : Int) : Prop := (97 ≤ c ∧ c ≤ 122) ∨ (65 ≤ c ∧ c ≤ 90) ∨ c = 95 ∨ c = 8710
instance (c : Int) : Decidable (letter c) := inferInstanceAs (Decidable (_ ∨ _))
/-- Signs of a name. -/
def wordc (c : Int) : Prop := letter c ∨ (48 ≤ c ∧ c ≤ 57)
instance (c : Int) : Decidable (wordc c) := inferInstanceAs (Decidable (_ ∨ _))
theorem Kind_let (c : Int) (h : letter c) : AC Try.prog 22 [.val (.int .i32 c)] (.pure (.val (.int .i64 2))) := by
  unfold letter at h
  refine AC.of_body TTok Try.func22 rfl (enter_of Try.func22 (by kernel_rfl) (by kernel_rfl)) (noid1 (.val _)) (.val _) (Nat.le_of_ble_eq_true rfl) ?_
  rcases h with h | h | h | h
  · repeat
      conv => whnf
      first
        | refine ⟨_, by assumption, ?_⟩
        | refine ⟨(Nat.le_of_ble_eq_true rfl), _, by assumption, ?_⟩
        | refine ⟨by kernel_rfl, ?_⟩
        | exact rfl
        | exact ⟨Nat.le_of_ble_eq_true rfl, rfl⟩
        | refine ⟨by decide, ?_⟩
        | refine caseb (fun _ => ?_) (fun h => absurd (of_decide_eq_false h) (by omega))
        | refine caseb (fun h => absurd (of_decide_eq_true h) (by omega)) (fun _ => ?_)
        | refine caseb (fun _ => ?_) (fun h => absurd (beq_eq_false_iff_ne.1 h) (by omega))
        | refine caseb (fun h => absurd (eq_of_beq h) (by omega)) (fun _ => ?_)
  · repeat
      conv => whnf
      first
        | refine ⟨_, by assumption, ?_⟩
        | refine ⟨(Nat.le_of_ble_eq_true rfl), _, by assumption, ?_⟩
        | refine ⟨by kernel_rfl, ?_⟩
        | exact rfl
        | exact ⟨Nat.le_of_ble_eq_true rfl, rfl⟩
        | refine ⟨by decide, ?_⟩
        | refine caseb (fun _ => ?_) (fun h => absurd (of_decide_eq_false h) (by omega))
        | refine caseb (fun h => absurd (of_decide_eq_true h) (by omega)) (fun _ => ?_)
        | refine caseb (fun _ => ?_) (fun h => absurd (beq_eq_false_iff_ne.1 h) (by omega))
        | refine caseb (fun h => absurd (eq_of_beq h) (by omega)) (fun _ => ?_)
  · repeat
      conv => whnf
      first
        | refine ⟨_, by assumption, ?_⟩
        | refine ⟨(Nat.le_of_ble_eq_true rfl), _, by assumption, ?_⟩
        | refine ⟨by kernel_rfl, ?_⟩
        | exact rfl
        | exact ⟨Nat.le_of_ble_eq_true rfl, rfl⟩
        | refine ⟨by decide, ?_⟩
        | refine caseb (fun _ => ?_) (fun h => absurd (of_decide_eq_false h) (by omega))
        | refine caseb (fun h => absurd (of_decide_eq_true h) (by omega)) (fun _ => ?_)
        | refine caseb (fun _ => ?_) (fun h => absurd (beq_eq_false_iff_ne.1 h) (by omega))
        | refine caseb (fun h => absurd (eq_of_beq h) (by omega)) (fun _ => ?_)
  · repeat
      conv => whnf
      first
        | refine ⟨_, by assumption, ?_⟩
        | refine ⟨(Nat.le_of_ble_eq_true rfl), _, by assumption, ?_⟩
        | refine ⟨by kernel_rfl, ?_⟩
        | exact rfl
        | exact ⟨Nat.le_of_ble_eq_true rfl, rfl⟩
        | refine ⟨by decide, ?_⟩
        | refine caseb (fun _ => ?_) (fun h => absurd (of_decide_eq_false h) (by omega))
        | refine caseb (fun h => absurd (of_decide_eq_true h) (by omega)) (fun _ => ?_)
        | refine caseb (fun _ => ?_) (fun h => absurd (beq_eq_false_iff_ne.1 h) (by omega))
        | refine caseb (fun h => absurd (eq_of_beq h) (by omega)) (fun _ => ?_)
theorem Kind_dig (c : Int) (h : ¬ letter c) (h' : (48 ≤ c ∧ c ≤ 57) ∨ c = 175) : AC Try.prog 22 [.val (.int .i32 c)] (.pure (.val (.int .i64 3))) := by
  clear h
  refine AC.of_body TTok Try.func22 rfl (enter_of Try.func22 (by kernel_rfl) (by kernel_rfl)) (noid1 (.val _)) (.val _) (Nat.le_of_ble_eq_true rfl) ?_
  rcases h' with h | h
  · repeat
      conv => whnf
      first
        | refine ⟨_, by assumption, ?_⟩
        | refine ⟨(Nat.le_of_ble_eq_true rfl), _, by assumption, ?_⟩
        | refine ⟨by kernel_rfl, ?_⟩
        | exact rfl
        | exact ⟨Nat.le_of_ble_eq_true rfl, rfl⟩
        | refine ⟨by decide, ?_⟩
        | refine caseb (fun _ => ?_) (fun h => absurd (of_decide_eq_false h) (by omega))
        | refine caseb (fun h => absurd (of_decide_eq_true h) (by omega)) (fun _ => ?_)
        | refine caseb (fun _ => ?_) (fun h => absurd (beq_eq_false_iff_ne.1 h) (by omega))
        | refine caseb (fun h => absurd (eq_of_beq h) (by omega)) (fun _ => ?_)
  · repeat
      conv => whnf
      first
        | refine ⟨_, by assumption, ?_⟩
        | refine ⟨(Nat.le_of_ble_eq_true rfl), _, by assumption, ?_⟩
        | refine ⟨by kernel_rfl, ?_⟩
        | exact rfl
        | exact ⟨Nat.le_of_ble_eq_true rfl, rfl⟩
        | refine ⟨by decide, ?_⟩
        | refine caseb (fun _ => ?_) (fun h => absurd (of_decide_eq_false h) (by omega))
        | refine caseb (fun h => absurd (of_decide_eq_true h) (by omega)) (fun _ => ?_)
        | refine caseb (fun _ => ?_) (fun h => absurd (beq_eq_false_iff_ne.1 h) (by omega))
        | refine caseb (fun h => absurd (eq_of_beq h) (by omega)) (fun _ => ?_)
/-- The kind of a sign that is no letter and no digit, by which lists it stands in. -/
def kindE (c : Int) (b4 b5 b6 b7 b8 : Bool) : Int := if c = 32 then 1 else if b4 then 4 else if b5 then 5 else if b6 then 6 else if b7 then 7 else if b8 then 8 else 0
theorem kindE_ne (c : Int) (b4 b5 b6 b7 b8 : Bool) : kindE c b4 b5 b6 b7 b8 ≠ 2 := by
  unfold kindE
  split
  · decide
  · cases b4 <;> cases b5 <;> cases b6 <;> cases b7 <;> cases b8 <;> decide
theorem Kind_e (c : Int) (h : ¬ letter c) (h' : ¬ ((48 ≤ c ∧ c ≤ 57) ∨ c = 175)) (b4 b5 b6 b7 b8 : Bool)
    (a4 : AC Try.prog 24 [.val (.string { data := #[43, 45, 195, 151, 195, 183, 226, 140, 136, 226, 140, 138, 124, 42, 33, 60, 226, 137, 164, 61, 226, 137, 165, 62, 226, 137, 160, 226, 136, 167, 226, 136, 168, 226, 141, 178, 226, 141, 177, 126, 226, 141, 159, 226, 151, 139] }), .val (.int .i32 c)] (.pure (.val (.bool b4))))
    (a5 : AC Try.prog 24 [.val (.string { data := #[226, 141, 180, 44, 226, 140, 189, 226, 138, 150, 226, 141, 137, 226, 134, 145, 226, 134, 147, 226, 141, 179, 226, 136, 138, 226, 141, 139, 226, 141, 146, 226, 138, 164, 226, 138, 165, 63, 226, 140, 185, 226, 141, 142, 226, 141, 149] }), .val (.int .i32 c)] (.pure (.val (.bool b5))))
    (a6 : AC Try.prog 24 [.val (.string { data := #[47, 226, 140, 191, 92, 226, 141, 128] }), .val (.int .i32 c)] (.pure (.val (.bool b6))))
    (a7 : AC Try.prog 24 [.val (.string { data := #[40, 41, 91, 93, 59, 39, 46, 58, 226, 134, 144, 226, 134, 146, 226, 136, 152, 226, 142, 149, 226, 141, 158, 226, 136, 135, 226, 141, 157] }), .val (.int .i32 c)] (.pure (.val (.bool b7))))
    (a8 : AC Try.prog 24 [.val (.string { data := #[34, 35, 36, 37, 38, 64, 94, 96, 123, 125, 194, 168, 226, 136, 170, 226, 136, 169, 226, 137, 161, 226, 137, 162, 226, 138, 130, 226, 138, 131, 226, 138, 162, 226, 138, 163, 226, 141, 181, 226, 141, 186, 226, 141, 170, 226, 141, 184, 226, 141, 184, 226, 151, 138] }), .val (.int .i32 c)] (.pure (.val (.bool b8))))
    : AC Try.prog 22 [.val (.int .i32 c)] (.pure (.val (.int .i64 (kindE c b4 b5 b6 b7 b8)))) := by
  unfold letter at h
  refine AC.of_body TTok Try.func22 rfl (enter_of Try.func22 (by kernel_rfl) (by kernel_rfl)) (noid1 (.val _)) (.val _) (Nat.le_of_ble_eq_true rfl) ?_
  by_cases h0 : c = 32
  · rw [show kindE c b4 b5 b6 b7 b8 = 1 from if_pos h0]
    clear a4 a5 a6 a7 a8
    repeat
      conv => whnf
      first
        | refine ⟨_, by assumption, ?_⟩
        | refine ⟨(Nat.le_of_ble_eq_true rfl), _, by assumption, ?_⟩
        | refine ⟨by kernel_rfl, ?_⟩
        | exact rfl
        | exact ⟨Nat.le_of_ble_eq_true rfl, rfl⟩
        | refine ⟨by decide, ?_⟩
        | refine caseb (fun _ => ?_) (fun h => absurd (of_decide_eq_false h) (by omega))
        | refine caseb (fun h => absurd (of_decide_eq_true h) (by omega)) (fun _ => ?_)
        | refine caseb (fun _ => ?_) (fun h => absurd (beq_eq_false_iff_ne.1 h) (by omega))
        | refine caseb (fun h => absurd (eq_of_beq h) (by omega)) (fun _ => ?_)
  · unfold kindE
    rw [if_neg h0]
    cases b4
    · cases b5
      · cases b6
        · cases b7
          · cases b8
            all_goals
              by_cases g1 : 97 ≤ c
              · repeat
                  conv => whnf
                  first
                    | refine ⟨_, by assumption, ?_⟩
                    | refine ⟨(Nat.le_of_ble_eq_true rfl), _, by assumption, ?_⟩
                    | refine ⟨by kernel_rfl, ?_⟩
                    | exact rfl
                    | exact ⟨Nat.le_of_ble_eq_true rfl, rfl⟩
                    | refine ⟨by decide, ?_⟩
                    | refine caseb (fun _ => ?_) (fun h => absurd (of_decide_eq_false h) (by omega))
                    | refine caseb (fun h => absurd (of_decide_eq_true h) (by omega)) (fun _ => ?_)
                    | refine caseb (fun _ => ?_) (fun h => absurd (beq_eq_false_iff_ne.1 h) (by omega))
                    | refine caseb (fun h => absurd (eq_of_beq h) (by omega)) (fun _ => ?_)
              · by_cases g2 : 65 ≤ c
                · repeat
                    conv => whnf
                    first
                      | refine ⟨_, by assumption, ?_⟩
                      | refine ⟨(Nat.le_of_ble_eq_true rfl), _, by assumption, ?_⟩
                      | refine ⟨by kernel_rfl, ?_⟩
                      | exact rfl
                      | exact ⟨Nat.le_of_ble_eq_true rfl, rfl⟩
                      | refine ⟨by decide, ?_⟩
                      | refine caseb (fun _ => ?_) (fun h => absurd (of_decide_eq_false h) (by omega))
                      | refine caseb (fun h => absurd (of_decide_eq_true h) (by omega)) (fun _ => ?_)
                      | refine caseb (fun _ => ?_) (fun h => absurd (beq_eq_false_iff_ne.1 h) (by omega))
                      | refine caseb (fun h => absurd (eq_of_beq h) (by omega)) (fun _ => ?_)
                · by_cases g3 : 48 ≤ c
                  · repeat
                      conv => whnf
                      first
                        | refine ⟨_, by assumption, ?_⟩
                        | refine ⟨(Nat.le_of_ble_eq_true rfl), _, by assumption, ?_⟩
                        | refine ⟨by kernel_rfl, ?_⟩
                        | exact rfl
                        | exact ⟨Nat.le_of_ble_eq_true rfl, rfl⟩
                        | refine ⟨by decide, ?_⟩
                        | refine caseb (fun _ => ?_) (fun h => absurd (of_decide_eq_false h) (by omega))
                        | refine caseb (fun h => absurd (of_decide_eq_true h) (by omega)) (fun _ => ?_)
                        | refine caseb (fun _ => ?_) (fun h => absurd (beq_eq_false_iff_ne.1 h) (by omega))
                        | refine caseb (fun h => absurd (eq_of_beq h) (by omega)) (fun _ => ?_)
                  · repeat
                      conv => whnf
                      first
                        | refine ⟨_, by assumption, ?_⟩
                        | refine ⟨(Nat.le_of_ble_eq_true rfl), _, by assumption, ?_⟩
                        | refine ⟨by kernel_rfl, ?_⟩
                        | exact rfl
                        | exact ⟨Nat.le_of_ble_eq_true rfl, rfl⟩
                        | refine ⟨by decide, ?_⟩
                        | refine caseb (fun _ => ?_) (fun h => absurd (of_decide_eq_false h) (by omega))
                        | refine caseb (fun h => absurd (of_decide_eq_true h) (by omega)) (fun _ => ?_)
                        | refine caseb (fun _ => ?_) (fun h => absurd (beq_eq_false_iff_ne.1 h) (by omega))
                        | refine caseb (fun h => absurd (eq_of_beq h) (by omega)) (fun _ => ?_)
          · by_cases g1 : 97 ≤ c
            · repeat
                conv => whnf
                first
                  | refine ⟨_, by assumption, ?_⟩
                  | refine ⟨(Nat.le_of_ble_eq_true rfl), _, by assumption, ?_⟩
                  | refine ⟨by kernel_rfl, ?_⟩
                  | exact rfl
                  | exact ⟨Nat.le_of_ble_eq_true rfl, rfl⟩
                  | refine ⟨by decide, ?_⟩
                  | refine caseb (fun _ => ?_) (fun h => absurd (of_decide_eq_false h) (by omega))
                  | refine caseb (fun h => absurd (of_decide_eq_true h) (by omega)) (fun _ => ?_)
                  | refine caseb (fun _ => ?_) (fun h => absurd (beq_eq_false_iff_ne.1 h) (by omega))
                  | refine caseb (fun h => absurd (eq_of_beq h) (by omega)) (fun _ => ?_)
            · by_cases g2 : 65 ≤ c
              · repeat
                  conv => whnf
                  first
                    | refine ⟨_, by assumption, ?_⟩
                    | refine ⟨(Nat.le_of_ble_eq_true rfl), _, by assumption, ?_⟩
                    | refine ⟨by kernel_rfl, ?_⟩
                    | exact rfl
                    | exact ⟨Nat.le_of_ble_eq_true rfl, rfl⟩
                    | refine ⟨by decide, ?_⟩
                    | refine caseb (fun _ => ?_) (fun h => absurd (of_decide_eq_false h) (by omega))
                    | refine caseb (fun h => absurd (of_decide_eq_true h) (by omega)) (fun _ => ?_)
                    | refine caseb (fun _ => ?_) (fun h => absurd (beq_eq_false_iff_ne.1 h) (by omega))
                    | refine caseb (fun h => absurd (eq_of_beq h) (by omega)) (fun _ => ?_)
              · by_cases g3 : 48 ≤ c
                · repeat
                    conv => whnf
                    first
                      | refine ⟨_, by assumption, ?_⟩
                      | refine ⟨(Nat.le_of_ble_eq_true rfl), _, by assumption, ?_⟩
                      | refine ⟨by kernel_rfl, ?_⟩
                      | exact rfl
                      | exact ⟨Nat.le_of_ble_eq_true rfl, rfl⟩
                      | refine ⟨by decide, ?_⟩
                      | refine caseb (fun _ => ?_) (fun h => absurd (of_decide_eq_false h) (by omega))
                      | refine caseb (fun h => absurd (of_decide_eq_true h) (by omega)) (fun _ => ?_)
                      | refine caseb (fun _ => ?_) (fun h => absurd (beq_eq_false_iff_ne.1 h) (by omega))
                      | refine caseb (fun h => absurd (eq_of_beq h) (by omega)) (fun _ => ?_)
                · repeat
                    conv => whnf
                    first
                      | refine ⟨_, by assumption, ?_⟩
                      | refine ⟨(Nat.le_of_ble_eq_true rfl), _, by assumption, ?_⟩
                      | refine ⟨by kernel_rfl, ?_⟩
                      | exact rfl
                      | exact ⟨Nat.le_of_ble_eq_true rfl, rfl⟩
                      | refine ⟨by decide, ?_⟩
                      | refine caseb (fun _ => ?_) (fun h => absurd (of_decide_eq_false h) (by omega))
                      | refine caseb (fun h => absurd (of_decide_eq_true h) (by omega)) (fun _ => ?_)
                      | refine caseb (fun _ => ?_) (fun h => absurd (beq_eq_false_iff_ne.1 h) (by omega))
                      | refine caseb (fun h => absurd (eq_of_beq h) (by omega)) (fun _ => ?_)
        · by_cases g1 : 97 ≤ c
          · repeat
              conv => whnf
              first
                | refine ⟨_, by assumption, ?_⟩
                | refine ⟨(Nat.le_of_ble_eq_true rfl), _, by assumption, ?_⟩
                | refine ⟨by kernel_rfl, ?_⟩
                | exact rfl
                | exact ⟨Nat.le_of_ble_eq_true rfl, rfl⟩
                | refine ⟨by decide, ?_⟩
                | refine caseb (fun _ => ?_) (fun h => absurd (of_decide_eq_false h) (by omega))
                | refine caseb (fun h => absurd (of_decide_eq_true h) (by omega)) (fun _ => ?_)
                | refine caseb (fun _ => ?_) (fun h => absurd (beq_eq_false_iff_ne.1 h) (by omega))
                | refine caseb (fun h => absurd (eq_of_beq h) (by omega)) (fun _ => ?_)
          · by_cases g2 : 65 ≤ c
            · repeat
                conv => whnf
                first
                  | refine ⟨_, by assumption, ?_⟩
                  | refine ⟨(Nat.le_of_ble_eq_true rfl), _, by assumption, ?_⟩
                  | refine ⟨by kernel_rfl, ?_⟩
                  | exact rfl
                  | exact ⟨Nat.le_of_ble_eq_true rfl, rfl⟩
                  | refine ⟨by decide, ?_⟩
                  | refine caseb (fun _ => ?_) (fun h => absurd (of_decide_eq_false h) (by omega))
                  | refine caseb (fun h => absurd (of_decide_eq_true h) (by omega)) (fun _ => ?_)
                  | refine caseb (fun _ => ?_) (fun h => absurd (beq_eq_false_iff_ne.1 h) (by omega))
                  | refine caseb (fun h => absurd (eq_of_beq h) (by omega)) (fun _ => ?_)
            · by_cases g3 : 48 ≤ c
              · repeat
                  conv => whnf
                  first
                    | refine ⟨_, by assumption, ?_⟩
                    | refine ⟨(Nat.le_of_ble_eq_true rfl), _, by assumption, ?_⟩
                    | refine ⟨by kernel_rfl, ?_⟩
                    | exact rfl
                    | exact ⟨Nat.le_of_ble_eq_true rfl, rfl⟩
                    | refine ⟨by decide, ?_⟩
                    | refine caseb (fun _ => ?_) (fun h => absurd (of_decide_eq_false h) (by omega))
                    | refine caseb (fun h => absurd (of_decide_eq_true h) (by omega)) (fun _ => ?_)
                    | refine caseb (fun _ => ?_) (fun h => absurd (beq_eq_false_iff_ne.1 h) (by omega))
                    | refine caseb (fun h => absurd (eq_of_beq h) (by omega)) (fun _ => ?_)
              · repeat
                  conv => whnf
                  first
                    | refine ⟨_, by assumption, ?_⟩
                    | refine ⟨(Nat.le_of_ble_eq_true rfl), _, by assumption, ?_⟩
                    | refine ⟨by kernel_rfl, ?_⟩
                    | exact rfl
                    | exact ⟨Nat.le_of_ble_eq_true rfl, rfl⟩
                    | refine ⟨by decide, ?_⟩
                    | refine caseb (fun _ => ?_) (fun h => absurd (of_decide_eq_false h) (by omega))
                    | refine caseb (fun h => absurd (of_decide_eq_true h) (by omega)) (fun _ => ?_)
                    | refine caseb (fun _ => ?_) (fun h => absurd (beq_eq_false_iff_ne.1 h) (by omega))
                    | refine caseb (fun h => absurd (eq_of_beq h) (by omega)) (fun _ => ?_)
      · by_cases g1 : 97 ≤ c
        · repeat
            conv => whnf
            first
              | refine ⟨_, by assumption, ?_⟩
              | refine ⟨(Nat.le_of_ble_eq_true rfl), _, by assumption, ?_⟩
              | refine ⟨by kernel_rfl, ?_⟩
              | exact rfl
              | exact ⟨Nat.le_of_ble_eq_true rfl, rfl⟩
              | refine ⟨by decide, ?_⟩
              | refine caseb (fun _ => ?_) (fun h => absurd (of_decide_eq_false h) (by omega))
              | refine caseb (fun h => absurd (of_decide_eq_true h) (by omega)) (fun _ => ?_)
              | refine caseb (fun _ => ?_) (fun h => absurd (beq_eq_false_iff_ne.1 h) (by omega))
              | refine caseb (fun h => absurd (eq_of_beq h) (by omega)) (fun _ => ?_)
        · by_cases g2 : 65 ≤ c
          · repeat
              conv => whnf
              first
                | refine ⟨_, by assumption, ?_⟩
                | refine ⟨(Nat.le_of_ble_eq_true rfl), _, by assumption, ?_⟩
                | refine ⟨by kernel_rfl, ?_⟩
                | exact rfl
                | exact ⟨Nat.le_of_ble_eq_true rfl, rfl⟩
                | refine ⟨by decide, ?_⟩
                | refine caseb (fun _ => ?_) (fun h => absurd (of_decide_eq_false h) (by omega))
                | refine caseb (fun h => absurd (of_decide_eq_true h) (by omega)) (fun _ => ?_)
                | refine caseb (fun _ => ?_) (fun h => absurd (beq_eq_false_iff_ne.1 h) (by omega))
                | refine caseb (fun h => absurd (eq_of_beq h) (by omega)) (fun _ => ?_)
          · by_cases g3 : 48 ≤ c
            · repeat
                conv => whnf
                first
                  | refine ⟨_, by assumption, ?_⟩
                  | refine ⟨(Nat.le_of_ble_eq_true rfl), _, by assumption, ?_⟩
                  | refine ⟨by kernel_rfl, ?_⟩
                  | exact rfl
                  | exact ⟨Nat.le_of_ble_eq_true rfl, rfl⟩
                  | refine ⟨by decide, ?_⟩
                  | refine caseb (fun _ => ?_) (fun h => absurd (of_decide_eq_false h) (by omega))
                  | refine caseb (fun h => absurd (of_decide_eq_true h) (by omega)) (fun _ => ?_)
                  | refine caseb (fun _ => ?_) (fun h => absurd (beq_eq_false_iff_ne.1 h) (by omega))
                  | refine caseb (fun h => absurd (eq_of_beq h) (by omega)) (fun _ => ?_)
            · repeat
                conv => whnf
                first
                  | refine ⟨_, by assumption, ?_⟩
                  | refine ⟨(Nat.le_of_ble_eq_true rfl), _, by assumption, ?_⟩
                  | refine ⟨by kernel_rfl, ?_⟩
                  | exact rfl
                  | exact ⟨Nat.le_of_ble_eq_true rfl, rfl⟩
                  | refine ⟨by decide, ?_⟩
                  | refine caseb (fun _ => ?_) (fun h => absurd (of_decide_eq_false h) (by omega))
                  | refine caseb (fun h => absurd (of_decide_eq_true h) (by omega)) (fun _ => ?_)
                  | refine caseb (fun _ => ?_) (fun h => absurd (beq_eq_false_iff_ne.1 h) (by omega))
                  | refine caseb (fun h => absurd (eq_of_beq h) (by omega)) (fun _ => ?_)
    · by_cases g1 : 97 ≤ c
      · repeat
          conv => whnf
          first
            | refine ⟨_, by assumption, ?_⟩
            | refine ⟨(Nat.le_of_ble_eq_true rfl), _, by assumption, ?_⟩
            | refine ⟨by kernel_rfl, ?_⟩
            | exact rfl
            | exact ⟨Nat.le_of_ble_eq_true rfl, rfl⟩
            | refine ⟨by decide, ?_⟩
            | refine caseb (fun _ => ?_) (fun h => absurd (of_decide_eq_false h) (by omega))
            | refine caseb (fun h => absurd (of_decide_eq_true h) (by omega)) (fun _ => ?_)
            | refine caseb (fun _ => ?_) (fun h => absurd (beq_eq_false_iff_ne.1 h) (by omega))
            | refine caseb (fun h => absurd (eq_of_beq h) (by omega)) (fun _ => ?_)
      · by_cases g2 : 65 ≤ c
        · repeat
            conv => whnf
            first
              | refine ⟨_, by assumption, ?_⟩
              | refine ⟨(Nat.le_of_ble_eq_true rfl), _, by assumption, ?_⟩
              | refine ⟨by kernel_rfl, ?_⟩
              | exact rfl
              | exact ⟨Nat.le_of_ble_eq_true rfl, rfl⟩
              | refine ⟨by decide, ?_⟩
              | refine caseb (fun _ => ?_) (fun h => absurd (of_decide_eq_false h) (by omega))
              | refine caseb (fun h => absurd (of_decide_eq_true h) (by omega)) (fun _ => ?_)
              | refine caseb (fun _ => ?_) (fun h => absurd (beq_eq_false_iff_ne.1 h) (by omega))
              | refine caseb (fun h => absurd (eq_of_beq h) (by omega)) (fun _ => ?_)
        · by_cases g3 : 48 ≤ c
          · repeat
              conv => whnf
              first
                | refine ⟨_, by assumption, ?_⟩
                | refine ⟨(Nat.le_of_ble_eq_true rfl), _, by assumption, ?_⟩
                | refine ⟨by kernel_rfl, ?_⟩
                | exact rfl
                | exact ⟨Nat.le_of_ble_eq_true rfl, rfl⟩
                | refine ⟨by decide, ?_⟩
                | refine caseb (fun _ => ?_) (fun h => absurd (of_decide_eq_false h) (by omega))
                | refine caseb (fun h => absurd (of_decide_eq_true h) (by omega)) (fun _ => ?_)
                | refine caseb (fun _ => ?_) (fun h => absurd (beq_eq_false_iff_ne.1 h) (by omega))
                | refine caseb (fun h => absurd (eq_of_beq h) (by omega)) (fun _ => ?_)
          · repeat
              conv => whnf
              first
                | refine ⟨_, by assumption, ?_⟩
                | refine ⟨(Nat.le_of_ble_eq_true rfl), _, by assumption, ?_⟩
                | refine ⟨by kernel_rfl, ?_⟩
                | exact rfl
                | exact ⟨Nat.le_of_ble_eq_true rfl, rfl⟩
                | refine ⟨by decide, ?_⟩
                | refine caseb (fun _ => ?_) (fun h => absurd (of_decide_eq_false h) (by omega))
                | refine caseb (fun h => absurd (of_decide_eq_true h) (by omega)) (fun _ => ?_)
                | refine caseb (fun _ => ?_) (fun h => absurd (beq_eq_false_iff_ne.1 h) (by omega))
                | refine caseb (fun h => absurd (eq_of_beq h) (by omega)) (fun _ => ?_)
theorem Kind_else (c : Int) (h : ¬ letter c) (h' : ¬ ((48 ≤ c ∧ c ≤ 57) ∨ c = 175)) : ∃ k, k ≠ 2 ∧ AC Try.prog 22 [.val (.int .i32 c)] (.pure (.val (.int .i64 k))) :=
  ⟨_, kindE_ne _ _ _ _ _ _, Kind_e c h h' _ _ _ _ _ (in_ok _ c) (in_ok _ c) (in_ok _ c) (in_ok _ c) (in_ok _ c)⟩
theorem Kind_ok (c : Int) : ∃ k, (k = 2 ↔ letter c) ∧ AC Try.prog 22 [.val (.int .i32 c)] (.pure (.val (.int .i64 k))) := by
  by_cases h : letter c
  · exact ⟨2, ⟨fun _ => h, fun _ => rfl⟩, Kind_let c h⟩
  · by_cases h' : (48 ≤ c ∧ c ≤ 57) ∨ c = 175
    · exact ⟨3, ⟨fun e => absurd e (by decide), fun e => absurd e h⟩, Kind_dig c h h'⟩
    · obtain ⟨k, hk, hK⟩ := Kind_else c h h'
      exact ⟨k, ⟨fun e => absurd e hk, fun e => absurd e h⟩, hK⟩
theorem Word_ok (c : Int) : AC Try.prog 23 [.val (.int .i32 c)] (.pure (.val (.bool (decide (wordc c))))) := by
  obtain ⟨k, hk, hK⟩ := Kind_ok c
  refine AC.of_body TTok Try.func23 rfl (enter_of Try.func23 (by kernel_rfl) (by kernel_rfl)) (noid1 (.val _)) (.val _) (Nat.le_of_ble_eq_true rfl) ?_
  by_cases h : letter c
  · rw [decide_eq_true (show wordc c from .inl h)]
    have := hk.2 h
    clear hk
    repeat
      conv => whnf
      first
        | refine ⟨_, by assumption, ?_⟩
        | refine ⟨(Nat.le_of_ble_eq_true rfl), _, by assumption, ?_⟩
        | refine ⟨by kernel_rfl, ?_⟩
        | exact rfl
        | exact ⟨Nat.le_of_ble_eq_true rfl, rfl⟩
        | refine ⟨by decide, ?_⟩
        | refine caseb (fun _ => ?_) (fun h => absurd (of_decide_eq_false h) (by omega))
        | refine caseb (fun h => absurd (of_decide_eq_true h) (by omega)) (fun _ => ?_)
        | refine caseb (fun _ => ?_) (fun h => absurd (beq_eq_false_iff_ne.1 h) (by omega))
        | refine caseb (fun h => absurd (eq_of_beq h) (by omega)) (fun _ => ?_)
  · have : k ≠ 2 := fun e => h (hk.1 e)
    clear hk
    by_cases h48 : 48 ≤ c
    · by_cases h57 : c ≤ 57
      · rw [decide_eq_true (show wordc c from .inr ⟨h48, h57⟩)]
        clear h
        repeat
          conv => whnf
          first
            | refine ⟨_, by assumption, ?_⟩
            | refine ⟨(Nat.le_of_ble_eq_true rfl), _, by assumption, ?_⟩
            | refine ⟨by kernel_rfl, ?_⟩
            | exact rfl
            | exact ⟨Nat.le_of_ble_eq_true rfl, rfl⟩
            | refine ⟨by decide, ?_⟩
            | refine caseb (fun _ => ?_) (fun h => absurd (of_decide_eq_false h) (by omega))
            | refine caseb (fun h => absurd (of_decide_eq_true h) (by omega)) (fun _ => ?_)
            | refine caseb (fun _ => ?_) (fun h => absurd (beq_eq_false_iff_ne.1 h) (by omega))
            | refine caseb (fun h => absurd (eq_of_beq h) (by omega)) (fun _ => ?_)
        exact valB (decide_eq_true h57)
      · rw [decide_eq_false (show ¬ wordc c from fun e => e.elim h (fun e => h57 e.2))]
        clear h
        repeat
          conv => whnf
          first
            | refine ⟨_, by assumption, ?_⟩
            | refine ⟨(Nat.le_of_ble_eq_true rfl), _, by assumption, ?_⟩
            | refine ⟨by kernel_rfl, ?_⟩
            | exact rfl
            | exact ⟨Nat.le_of_ble_eq_true rfl, rfl⟩
            | refine ⟨by decide, ?_⟩
            | refine caseb (fun _ => ?_) (fun h => absurd (of_decide_eq_false h) (by omega))
            | refine caseb (fun h => absurd (of_decide_eq_true h) (by omega)) (fun _ => ?_)
            | refine caseb (fun _ => ?_) (fun h => absurd (beq_eq_false_iff_ne.1 h) (by omega))
            | refine caseb (fun h => absurd (eq_of_beq h) (by omega)) (fun _ => ?_)
        exact valB (decide_eq_false h57)
    · rw [decide_eq_false (show ¬ wordc c from fun e => e.elim h (fun e => h48 e.1))]
      clear h
      repeat
        conv => whnf
        first
          | refine ⟨_, by assumption, ?_⟩
          | refine ⟨(Nat.le_of_ble_eq_true rfl), _, by assumption, ?_⟩
          | refine ⟨by kernel_rfl, ?_⟩
          | exact rfl
          | exact ⟨Nat.le_of_ble_eq_true rfl, rfl⟩
          | refine ⟨by decide, ?_⟩
          | refine caseb (fun _ => ?_) (fun h => absurd (of_decide_eq_false h) (by omega))
          | refine caseb (fun h => absurd (of_decide_eq_true h) (by omega)) (fun _ => ?_)
          | refine caseb (fun _ => ?_) (fun h => absurd (beq_eq_false_iff_ne.1 h) (by omega))
          | refine caseb (fun h => absurd (eq_of_beq h) (by omega)) (fun _ => ?_)

/-- The document's lists of signs. -/
def tab (k : Int) : List Int := if k = 1 then [32] else if k = 4 then [43, 45, 215, 247, 8968, 8970, 124, 42, 33, 60, 8804, 61, 8805, 62, 8800, 8743, 8744, 9074, 9073, 126, 9055, 9675] else if k = 5 then [9076, 44, 9021, 8854, 9033, 8593, 8595, 9075, 8714, 9035, 9042, 8868, 8869, 63, 9017, 9038, 9045] else if k = 6 then [47, 9023, 92, 9024] else if k = 7 then [40, 41, 91, 93, 59, 39, 46, 58, 8592, 8594, 8728, 9109, 9054, 8711, 9053] else if k = 8 then [34, 35, 36, 37, 38, 64, 94, 96, 123, 125, 168, 8746, 8745, 8801, 8802, 8834, 8835, 8866, 8867, 9077, 9082, 9066, 9080, 9674] else []
theorem irows_noid {k : IntKind} (l : List Int) : ∀ r ∈ irows k l, ∀ x ∈ r, NoId x := by
  intro r hr x hx
  obtain ⟨n, _, rfl⟩ := List.mem_map.1 hr
  simp at hx; subst hx; exact .val _
theorem irows_len (k : IntKind) (l : List Int) : (irows k l).length = l.length := List.length_map _
theorem irows_get (k : IntKind) (l : List Int) {i : Nat} {x : Int} (h : l[i]? = some x) : (irows k l)[i]? = some [.val (.int k x)] := by
  unfold irows; rw [List.getElem?_map, h]; rfl
theorem slI_noid (k : IntKind) (l : List Int) (t : Bool) : NoId (.sl 1 (irows k l) t) := .sl _ _ _ (irows_noid l)
theorem Table_ok (k : Int) : AC Try.prog 21 [.val (.int .i64 k)] (.pure (.sl 1 (irows .i32 (tab k)) false)) := by
  by_cases h1 : k = 1
  · subst h1
    refine AC.of_body TTok Try.func21 rfl (enter_of Try.func21 (by kernel_rfl) (by kernel_rfl)) (noid1 (.val _)) (slI_noid _ _ _) (Nat.le_of_ble_eq_true rfl) ?_
    repeat
      conv => whnf
      first
        | refine ⟨_, by assumption, ?_⟩
        | refine ⟨(Nat.le_of_ble_eq_true rfl), _, by assumption, ?_⟩
        | refine ⟨by kernel_rfl, ?_⟩
        | exact rfl
        | exact ⟨Nat.le_of_ble_eq_true rfl, rfl⟩
        | refine ⟨by decide, ?_⟩
  by_cases h4 : k = 4
  · subst h4
    refine AC.of_body TTok Try.func21 rfl (enter_of Try.func21 (by kernel_rfl) (by kernel_rfl)) (noid1 (.val _)) (slI_noid _ _ _) (Nat.le_of_ble_eq_true rfl) ?_
    repeat
      conv => whnf
      first
        | refine ⟨_, by assumption, ?_⟩
        | refine ⟨(Nat.le_of_ble_eq_true rfl), _, by assumption, ?_⟩
        | refine ⟨by kernel_rfl, ?_⟩
        | exact rfl
        | exact ⟨Nat.le_of_ble_eq_true rfl, rfl⟩
        | refine ⟨by decide, ?_⟩
  by_cases h5 : k = 5
  · subst h5
    refine AC.of_body TTok Try.func21 rfl (enter_of Try.func21 (by kernel_rfl) (by kernel_rfl)) (noid1 (.val _)) (slI_noid _ _ _) (Nat.le_of_ble_eq_true rfl) ?_
    repeat
      conv => whnf
      first
        | refine ⟨_, by assumption, ?_⟩
        | refine ⟨(Nat.le_of_ble_eq_true rfl), _, by assumption, ?_⟩
        | refine ⟨by kernel_rfl, ?_⟩
        | exact rfl
        | exact ⟨Nat.le_of_ble_eq_true rfl, rfl⟩
        | refine ⟨by decide, ?_⟩
  by_cases h6 : k = 6
  · subst h6
    refine AC.of_body TTok Try.func21 rfl (enter_of Try.func21 (by kernel_rfl) (by kernel_rfl)) (noid1 (.val _)) (slI_noid _ _ _) (Nat.le_of_ble_eq_true rfl) ?_
    repeat
      conv => whnf
      first
        | refine ⟨_, by assumption, ?_⟩
        | refine ⟨(Nat.le_of_ble_eq_true rfl), _, by assumption, ?_⟩
        | refine ⟨by kernel_rfl, ?_⟩
        | exact rfl
        | exact ⟨Nat.le_of_ble_eq_true rfl, rfl⟩
        | refine ⟨by decide, ?_⟩
  by_cases h7 : k = 7
  · subst h7
    refine AC.of_body TTok Try.func21 rfl (enter_of Try.func21 (by kernel_rfl) (by kernel_rfl)) (noid1 (.val _)) (slI_noid _ _ _) (Nat.le_of_ble_eq_true rfl) ?_
    repeat
      conv => whnf
      first
        | refine ⟨_, by assumption, ?_⟩
        | refine ⟨(Nat.le_of_ble_eq_true rfl), _, by assumption, ?_⟩
        | refine ⟨by kernel_rfl, ?_⟩
        | exact rfl
        | exact ⟨Nat.le_of_ble_eq_true rfl, rfl⟩
        | refine ⟨by decide, ?_⟩
  by_cases h8 : k = 8
  · subst h8
    refine AC.of_body TTok Try.func21 rfl (enter_of Try.func21 (by kernel_rfl) (by kernel_rfl)) (noid1 (.val _)) (slI_noid _ _ _) (Nat.le_of_ble_eq_true rfl) ?_
    repeat
      conv => whnf
      first
        | refine ⟨_, by assumption, ?_⟩
        | refine ⟨(Nat.le_of_ble_eq_true rfl), _, by assumption, ?_⟩
        | refine ⟨by kernel_rfl, ?_⟩
        | exact rfl
        | exact ⟨Nat.le_of_ble_eq_true rfl, rfl⟩
        | refine ⟨by decide, ?_⟩
  have e : tab k = [] := by unfold tab; rw [if_neg h1, if_neg h4, if_neg h5, if_neg h6, if_neg h7, if_neg h8]
  rw [e]
  refine AC.le_res (v := .sl 0 [] true) ?_ (.sl _ _ _) (slI_noid _ _ _)
  refine AC.of_body TTok Try.func21 rfl (enter_of Try.func21 (by kernel_rfl) (by kernel_rfl)) (noid1 (.val _)) (.sl _ _ _ (fun r hr => by cases hr)) (Nat.le_of_ble_eq_true rfl) ?_
  repeat
    conv => whnf
    first
      | refine ⟨_, by assumption, ?_⟩
      | refine ⟨(Nat.le_of_ble_eq_true rfl), _, by assumption, ?_⟩
      | refine ⟨by kernel_rfl, ?_⟩
      | exact rfl
      | exact ⟨Nat.le_of_ble_eq_true rfl, rfl⟩
      | refine ⟨by decide, ?_⟩
      | refine caseb (fun _ => ?_) (fun h => absurd (of_decide_eq_false h) (by omega))
      | refine caseb (fun h => absurd (of_decide_eq_true h) (by omega)) (fun _ => ?_)
      | refine caseb (fun _ => ?_) (fun h => absurd (beq_eq_false_iff_ne.1 h) (by omega))
      | refine caseb (fun h => absurd (eq_of_beq h) (by omega)) (fun _ => ?_)

end Go.Proofs.Ytdlonboheckdoaa

/- Signs: the document's kinds; names. -/
set_option linter.unusedVariables false
namespace Go.Proofs.Ytdlonboheckdoaa
open Go Go.AL

/-- The first list that a sign stands in. -/
def kindR (c : Int) : Int := if c ∈ tab 1 then 1 else if c ∈ tab 2 then 2 else if c ∈ tab 3 then 3 else if c ∈ tab 4 then 4 else if c ∈ tab 5 then 5 else if c ∈ tab 6 then 6 else if c ∈ tab 7 then 7 else if c ∈ tab 8 then 8 else 0
theorem tab2 : tab 2 = [] := rfl
theorem kindR_ne (c : Int) : kindR c ≠ 2 := by
  unfold kindR
  rw [tab2]
  repeat' split
  all_goals (first | decide | (rename_i h; cases h))
theorem kindR_at (c : Int) (k : Nat) (h1 : 1 ≤ k) (h8 : k ≤ 8) (hm : c ∈ tab k) (hn : ∀ j : Nat, 1 ≤ j → j < k → c ∉ tab j) : kindR c = k := by
  have hk : k = 1 ∨ k = 2 ∨ k = 3 ∨ k = 4 ∨ k = 5 ∨ k = 6 ∨ k = 7 ∨ k = 8 := by omega
  unfold kindR
  rcases hk with rfl | rfl | rfl | rfl | rfl | rfl | rfl | rfl
  · rw [if_pos (show c ∈ tab 1 from hm)]; rfl
  · rw [if_neg (show c ∉ tab 1 from hn 1 (by decide) (by decide)), if_pos (show c ∈ tab 2 from hm)]; rfl
  · rw [if_neg (show c ∉ tab 1 from hn 1 (by decide) (by decide)), if_neg (show c ∉ tab 2 from hn 2 (by decide) (by decide)), if_pos (show c ∈ tab 3 from hm)]; rfl
  · rw [if_neg (show c ∉ tab 1 from hn 1 (by decide) (by decide)), if_neg (show c ∉ tab 2 from hn 2 (by decide) (by decide)), if_neg (show c ∉ tab 3 from hn 3 (by decide) (by decide)), if_pos (show c ∈ tab 4 from hm)]; rfl
  · rw [if_neg (show c ∉ tab 1 from hn 1 (by decide) (by decide)), if_neg (show c ∉ tab 2 from hn 2 (by decide) (by decide)), if_neg (show c ∉ tab 3 from hn 3 (by decide) (by decide)), if_neg (show c ∉ tab 4 from hn 4 (by decide) (by decide)), if_pos (show c ∈ tab 5 from hm)]; rfl
  · rw [if_neg (show c ∉ tab 1 from hn 1 (by decide) (by decide)), if_neg (show c ∉ tab 2 from hn 2 (by decide) (by decide)), if_neg (show c ∉ tab 3 from hn 3 (by decide) (by decide)), if_neg (show c ∉ tab 4 from hn 4 (by decide) (by decide)), if_neg (show c ∉ tab 5 from hn 5 (by decide) (by decide)), if_pos (show c ∈ tab 6 from hm)]; rfl
  · rw [if_neg (show c ∉ tab 1 from hn 1 (by decide) (by decide)), if_neg (show c ∉ tab 2 from hn 2 (by decide) (by decide)), if_neg (show c ∉ tab 3 from hn 3 (by decide) (by decide)), if_neg (show c ∉ tab 4 from hn 4 (by decide) (by decide)), if_neg (show c ∉ tab 5 from hn 5 (by decide) (by decide)), if_neg (show c ∉ tab 6 from hn 6 (by decide) (by decide)), if_pos (show c ∈ tab 7 from hm)]; rfl
  · rw [if_neg (show c ∉ tab 1 from hn 1 (by decide) (by decide)), if_neg (show c ∉ tab 2 from hn 2 (by decide) (by decide)), if_neg (show c ∉ tab 3 from hn 3 (by decide) (by decide)), if_neg (show c ∉ tab 4 from hn 4 (by decide) (by decide)), if_neg (show c ∉ tab 5 from hn 5 (by decide) (by decide)), if_neg (show c ∉ tab 6 from hn 6 (by decide) (by decide)), if_neg (show c ∉ tab 7 from hn 7 (by decide) (by decide)), if_pos (show c ∈ tab 8 from hm)]; rfl
theorem kindR_no (c : Int) (hn : ∀ j : Nat, 1 ≤ j → j < 9 → c ∉ tab j) : kindR c = 0 := by
  unfold kindR
  rw [if_neg (show c ∉ tab 1 from hn 1 (by decide) (by decide)), if_neg (show c ∉ tab 2 from hn 2 (by decide) (by decide)), if_neg (show c ∉ tab 3 from hn 3 (by decide) (by decide)), if_neg (show c ∉ tab 4 from hn 4 (by decide) (by decide)), if_neg (show c ∉ tab 5 from hn 5 (by decide) (by decide)), if_neg (show c ∉ tab 6 from hn 6 (by decide) (by decide)), if_neg (show c ∉ tab 7 from hn 7 (by decide) (by decide)), if_neg (show c ∉ tab 8 from hn 8 (by decide) (by decide))]

theorem RKind_let (c : Int) (h : letter c) : AC Try.prog 15 [.val (.int .i32 c)] (.pure (.val (.int .i64 2))) := by
  unfold letter at h
  refine AC.of_body TTok Try.func15 rfl (enter_of Try.func15 (by kernel_rfl) (by kernel_rfl)) (noid1 (.val _)) (.val _) (Nat.le_of_ble_eq_true rfl) ?_
  rcases h with h | h | h | h
  · repeat
      conv => whnf
      first
        | refine ⟨_, by assumption, ?_⟩
        | refine ⟨(Nat.le_of_ble_eq_true rfl), _, by assumption, ?_⟩
        | refine ⟨by kernel_rfl, ?_⟩
        | exact rfl
        | exact ⟨Nat.le_of_ble_eq_true rfl, rfl⟩
        | refine ⟨by decide, ?_⟩
        | refine caseb (fun _ => ?_) (fun h => absurd (of_decide_eq_false h) (by omega))
        | refine caseb (fun h => absurd (of_decide_eq_true h) (by omega)) (fun _ => ?_)
        | refine caseb (fun _ => ?_) (fun h => absurd (beq_eq_false_iff_ne.1 h) (by omega))
        | refine caseb (fun h => absurd (eq_of_beq h) (by omega)) (fun _ => ?_)
  · repeat
      conv => whnf
      first
        | refine ⟨_, by assumption, ?_⟩
        | refine ⟨(Nat.le_of_ble_eq_true rfl), _, by assumption, ?_⟩
        | refine ⟨by kernel_rfl, ?_⟩
        | exact rfl
        | exact ⟨Nat.le_of_ble_eq_true rfl, rfl⟩
        | refine ⟨by decide, ?_⟩
        | refine caseb (fun _ => ?_) (fun h => absurd (of_decide_eq_false h) (by omega))
        | refine caseb (fun h => absurd (of_decide_eq_true h) (by omega)) (fun _ => ?_)
        | refine caseb (fun _ => ?_) (fun h => absurd (beq_eq_false_iff_ne.1 h) (by omega))
        | refine caseb (fun h => absurd (eq_of_beq h) (by omega)) (fun _ => ?_)
  · repeat
      conv => whnf
      first
        | refine ⟨_, by assumption, ?_⟩
        | refine ⟨(Nat.le_of_ble_eq_true rfl), _, by assumption, ?_⟩
        | refine ⟨by kernel_rfl, ?_⟩
        | exact rfl
        | exact ⟨Nat.le_of_ble_eq_true rfl, rfl⟩
        | refine ⟨by decide, ?_⟩
        | refine caseb (fun _ => ?_) (fun h => absurd (of_decide_eq_false h) (by omega))
        | refine caseb (fun h => absurd (of_decide_eq_true h) (by omega)) (fun _ => ?_)
        | refine caseb (fun _ => ?_) (fun h => absurd (beq_eq_false_iff_ne.1 h) (by omega))
        | refine caseb (fun h => absurd (eq_of_beq h) (by omega)) (fun _ => ?_)
  · repeat
      conv => whnf
      first
        | refine ⟨_, by assumption, ?_⟩
        | refine ⟨(Nat.le_of_ble_eq_true rfl), _, by assumption, ?_⟩
        | refine ⟨by kernel_rfl, ?_⟩
        | exact rfl
        | exact ⟨Nat.le_of_ble_eq_true rfl, rfl⟩
        | refine ⟨by decide, ?_⟩
        | refine caseb (fun _ => ?_) (fun h => absurd (of_decide_eq_false h) (by omega))
        | refine caseb (fun h => absurd (of_decide_eq_true h) (by omega)) (fun _ => ?_)
        | refine caseb (fun _ => ?_) (fun h => absurd (beq_eq_false_iff_ne.1 h) (by omega))
        | refine caseb (fun h => absurd (eq_of_beq h) (by omega)) (fun _ => ?_)
theorem RKind_dig (c : Int) (h : ¬ letter c) (h' : (48 ≤ c ∧ c ≤ 57) ∨ c = 175) : AC Try.prog 15 [.val (.int .i32 c)] (.pure (.val (.int .i64 3))) := by
  unfold letter at h
  refine AC.of_body TTok Try.func15 rfl (enter_of Try.func15 (by kernel_rfl) (by kernel_rfl)) (noid1 (.val _)) (.val _) (Nat.le_of_ble_eq_true rfl) ?_
  rcases h' with h' | h'
  · repeat
      conv => whnf
      first
        | refine ⟨_, by assumption, ?_⟩
        | refine ⟨(Nat.le_of_ble_eq_true rfl), _, by assumption, ?_⟩
        | refine ⟨by kernel_rfl, ?_⟩
        | exact rfl
        | exact ⟨Nat.le_of_ble_eq_true rfl, rfl⟩
        | refine ⟨by decide, ?_⟩
        | refine caseb (fun _ => ?_) (fun h => absurd (of_decide_eq_false h) (by omega))
        | refine caseb (fun h => absurd (of_decide_eq_true h) (by omega)) (fun _ => ?_)
        | refine caseb (fun _ => ?_) (fun h => absurd (beq_eq_false_iff_ne.1 h) (by omega))
        | refine caseb (fun h => absurd (eq_of_beq h) (by omega)) (fun _ => ?_)
  · repeat
      conv => whnf
      first
        | refine ⟨_, by assumption, ?_⟩
        | refine ⟨(Nat.le_of_ble_eq_true rfl), _, by assumption, ?_⟩
        | refine ⟨by kernel_rfl, ?_⟩
        | exact rfl
        | exact ⟨Nat.le_of_ble_eq_true rfl, rfl⟩
        | refine ⟨by decide, ?_⟩
        | refine caseb (fun _ => ?_) (fun h => absurd (of_decide_eq_false h) (by omega))
        | refine caseb (fun h => absurd (of_decide_eq_true h) (by omega)) (fun _ => ?_)
        | refine caseb (fun _ => ?_) (fun h => absurd (beq_eq_false_iff_ne.1 h) (by omega))
        | refine caseb (fun h => absurd (eq_of_beq h) (by omega)) (fun _ => ?_)
theorem tab_len (k : Int) : (tab k).length ≤ 30 := by
  unfold tab
  repeat' split
  all_goals decide
theorem RKind_else (c : Int) (h : ¬ letter c) (h' : ¬ ((48 ≤ c ∧ c ≤ 57) ∨ c = 175)) : AC Try.prog 15 [.val (.int .i32 c)] (.pure (.val (.int .i64 (kindR c)))) := by
  unfold letter at h
  refine AC.of_body TTok Try.func15 rfl (enter_of Try.func15 (by kernel_rfl) (by kernel_rfl)) (noid1 (.val _)) (.val _) (Nat.le_of_ble_eq_true rfl) ?_
  have q1 : (decide (c ≥ 97) = true ∧ decide (c ≤ 122) = false) ∨ decide (c ≥ 97) = false := by
    by_cases e : c ≥ 97
    · exact .inl ⟨decide_eq_true e, decide_eq_false (by omega)⟩
    · exact .inr (decide_eq_false e)
  have q2 : (decide (c ≥ 65) = true ∧ decide (c ≤ 90) = false) ∨ decide (c ≥ 65) = false := by
    by_cases e : c ≥ 65
    · exact .inl ⟨decide_eq_true e, decide_eq_false (by omega)⟩
    · exact .inr (decide_eq_false e)
  have q3 : (decide (c ≥ 48) = true ∧ decide (c ≤ 57) = false) ∨ decide (c ≥ 48) = false := by
    by_cases e : c ≥ 48
    · exact .inl ⟨decide_eq_true e, decide_eq_false (by omega)⟩
    · exact .inr (decide_eq_false e)
  have q4 : (c == 95) = false := beq_false_of_ne (by omega)
  have q5 : (c == 8710) = false := beq_false_of_ne (by omega)
  have q6 : (c == 175) = false := beq_false_of_ne (by omega)
  clear h h'
  rcases q1 with ⟨q1, q1'⟩ | q1 <;> rcases q2 with ⟨q2, q2'⟩ | q2 <;> rcases q3 with ⟨q3, q3'⟩ | q3
  · conv => whnf
    refine caseb (fun _ => ?_) (fun h => Bool.noConfusion ((q1).symm.trans h))
    conv => whnf
    refine caseb (fun h => Bool.noConfusion ((q1').symm.trans h)) (fun _ => ?_)
    conv => whnf
    refine caseb (fun _ => ?_) (fun h => Bool.noConfusion ((q2).symm.trans h))
    conv => whnf
    refine caseb (fun h => Bool.noConfusion ((q2').symm.trans h)) (fun _ => ?_)
    conv => whnf
    refine caseb (fun h => Bool.noConfusion ((q4).symm.trans h)) (fun _ => ?_)
    conv => whnf
    refine caseb (fun h => Bool.noConfusion ((q5).symm.trans h)) (fun _ => ?_)
    conv => whnf
    refine caseb (fun _ => ?_) (fun h => Bool.noConfusion ((q3).symm.trans h))
    conv => whnf
    refine caseb (fun h => Bool.noConfusion ((q3').symm.trans h)) (fun _ => ?_)
    conv => whnf
    refine caseb (fun h => Bool.noConfusion ((q6).symm.trans h)) (fun _ => ?_)
    conv => whnf
    refine SW.loopM TTok (fun k : Nat => [(0, .val (.int .i32 c)), (3, .val (.int .i64 (k : Int)))]) (fun k => []) 272 57 rfl (fun k => 9 - k) (fun k => 1 ≤ k ∧ k ≤ 9 ∧ ∀ j : Nat, 1 ≤ j → j < k → c ∉ tab j) 1 [] ⟨by decide, by decide, fun j h1 h2 => by omega⟩
      ⟨⟨rfl, rfl⟩, ⟨rfl, rfl⟩, trivial⟩ trivial rfl ?_
    intro k hJ
    have hk1 : 1 ≤ k := hJ.1
    have hk9 : k ≤ 9 := hJ.2.1
    have hn := hJ.2.2
    clear hJ
    have hT := Table_ok (k : Int)
    by_cases hk : k = 9
    · rw [kindR_no c (fun j h1 h2 => hn j h1 (by omega))]
      have hk' : (k : Int) = 9 := by omega
      clear hT hn
      repeat
        conv => whnf
        first
          | refine ⟨_, by assumption, ?_⟩
          | refine ⟨(Nat.le_of_ble_eq_true rfl), _, by assumption, ?_⟩
          | refine ⟨by kernel_rfl, ?_⟩
          | exact rfl
          | exact ⟨Nat.le_of_ble_eq_true rfl, rfl⟩
          | refine ⟨by decide, ?_⟩
          | refine caseb (fun _ => ?_) (fun h => absurd (of_decide_eq_false h) (by omega))
          | refine caseb (fun h => absurd (of_decide_eq_true h) (by omega)) (fun _ => ?_)
          | refine caseb (fun _ => ?_) (fun h => absurd (beq_eq_false_iff_ne.1 h) (by omega))
          | refine caseb (fun h => absurd (eq_of_beq h) (by omega)) (fun _ => ?_)
    · have hk' : (k : Int) ≤ 8 := by omega
      conv => whnf
      first
        | refine caseb (fun _ => ?_) (fun h => absurd (of_decide_eq_false h) (by omega))
        | refine caseb (fun h => absurd (of_decide_eq_true h) (by omega)) (fun _ => ?_)
        | refine caseb (fun _ => ?_) (fun h => absurd (beq_eq_false_iff_ne.1 h) (by omega))
        | refine caseb (fun h => absurd (eq_of_beq h) (by omega)) (fun _ => ?_)
      conv => whnf
      refine ⟨_, hT, ?_⟩
      conv => whnf
      refine SW.loopM TTok (fun i : Nat => [(0, .val (.int .i32 c)), (3, .val (.int .i64 (k : Int))), (4, .sl 1 (irows .i32 (tab k)) false), (5, .val (.int .i64 (i : Int)))]) (fun i => []) 320 57 rfl (fun i => (tab k).length - i) (fun i => i ≤ (tab k).length ∧ ∀ (j : Nat) (x : Int), j < i → (tab k)[j]? = some x → x ≠ c) 0 [] ⟨Nat.zero_le _, fun j x h => absurd h (Nat.not_lt_zero j)⟩
        ⟨⟨rfl, rfl⟩, ⟨rfl, rfl⟩, ⟨rfl, rfl⟩, ⟨rfl, rfl⟩, trivial⟩ trivial rfl ?_
      intro i hJ
      have hi : i ≤ (tab k).length := hJ.1
      have hn2 := hJ.2
      clear hJ
      have hlen := irows_len .i32 (tab k)
      have htl := tab_len k
      conv => whnf
      refine caseb (fun h1 => ?_) (fun h1 => ?_)
      · have h1' : (i : Int) < (irows .i32 (tab k)).length := of_decide_eq_true h1
        have hlt : i < (tab k).length := by omega
        conv => whnf
        refine ⟨_, ⟨by omega, irows_get _ _ (List.getElem?_eq_getElem hlt)⟩, ?_⟩
        conv => whnf
        refine caseb (fun h2 => ?_) (fun h2 => ?_)
        · have h2' : (tab k)[i] = c := eq_of_beq h2
          rw [kindR_at c k hk1 (by omega) (by rw [← h2']; exact List.getElem_mem hlt) hn]
          conv => whnf
          exact rfl
        · have h2' : (tab k)[i] ≠ c := beq_eq_false_iff_ne.1 h2
          conv => whnf
          refine ⟨i + 1, [], (by show (tab k).length - (i + 1) < (tab k).length - i; omega), ⟨(by show i + 1 ≤ (tab k).length; omega), fun j x hj hx => ?_⟩, ⟨⟨rfl, rfl⟩, ⟨rfl, rfl⟩, ⟨rfl, rfl⟩, ⟨valI ?_, rfl⟩, trivial⟩, trivial, rfl⟩
          · by_cases e : j = i
            · subst e
              rw [List.getElem?_eq_getElem hlt] at hx
              rw [← Option.some.inj hx]
              exact h2'
            · exact hn2 j x (by omega) hx
          · show IntKind.i64.wrap ((i : Int) + 1) = ((i + 1 : Nat) : Int)
            rw [IntWalk.i64_in _ (by omega)]; omega
      · have h1' : ¬ (i : Int) < (irows .i32 (tab k)).length := of_decide_eq_false h1
        conv => whnf
        refine ⟨k + 1, [], (by show 9 - (k + 1) < 9 - k; omega), ⟨(by show 1 ≤ k + 1; omega), (by show k + 1 ≤ 9; omega), fun j g1 g2 hm => ?_⟩, ⟨⟨rfl, rfl⟩, ⟨valI ?_, rfl⟩, trivial⟩, trivial, rfl⟩
        · by_cases e : j = k
          · subst e
            obtain ⟨q, hq⟩ := List.getElem?_of_mem hm
            have := (List.getElem?_eq_some_iff.1 hq).1
            exact hn2 q c (by omega) hq rfl
          · exact hn j g1 (by have : j < k + 1 := g2; omega) hm
        · show IntKind.i64.wrap ((k : Int) + 1) = ((k + 1 : Nat) : Int)
          rw [IntWalk.i64_in _ (by omega)]; omega
  · conv => whnf
    refine caseb (fun _ => ?_) (fun h => Bool.noConfusion ((q1).symm.trans h))
    conv => whnf
    refine caseb (fun h => Bool.noConfusion ((q1').symm.trans h)) (fun _ => ?_)
    conv => whnf
    refine caseb (fun _ => ?_) (fun h => Bool.noConfusion ((q2).symm.trans h))
    conv => whnf
    refine caseb (fun h => Bool.noConfusion ((q2').symm.trans h)) (fun _ => ?_)
    conv => whnf
    refine caseb (fun h => Bool.noConfusion ((q4).symm.trans h)) (fun _ => ?_)
    conv => whnf
    refine caseb (fun h => Bool.noConfusion ((q5).symm.trans h)) (fun _ => ?_)
    conv => whnf
    refine caseb (fun h => Bool.noConfusion ((q3).symm.trans h)) (fun _ => ?_)
    conv => whnf
    refine caseb (fun h => Bool.noConfusion ((q6).symm.trans h)) (fun _ => ?_)
    conv => whnf
    refine SW.loopM TTok (fun k : Nat => [(0, .val (.int .i32 c)), (3, .val (.int .i64 (k : Int)))]) (fun k => []) 272 57 rfl (fun k => 9 - k) (fun k => 1 ≤ k ∧ k ≤ 9 ∧ ∀ j : Nat, 1 ≤ j → j < k → c ∉ tab j) 1 [] ⟨by decide, by decide, fun j h1 h2 => by omega⟩
      ⟨⟨rfl, rfl⟩, ⟨rfl, rfl⟩, trivial⟩ trivial rfl ?_
    intro k hJ
    have hk1 : 1 ≤ k := hJ.1
    have hk9 : k ≤ 9 := hJ.2.1
    have hn := hJ.2.2
    clear hJ
    have hT := Table_ok (k : Int)
    by_cases hk : k = 9
    · rw [kindR_no c (fun j h1 h2 => hn j h1 (by omega))]
      have hk' : (k : Int) = 9 := by omega
      clear hT hn
      repeat
        conv => whnf
        first
          | refine ⟨_, by assumption, ?_⟩
          | refine ⟨(Nat.le_of_ble_eq_true rfl), _, by assumption, ?_⟩
          | refine ⟨by kernel_rfl, ?_⟩
          | exact rfl
          | exact ⟨Nat.le_of_ble_eq_true rfl, rfl⟩
          | refine ⟨by decide, ?_⟩
          | refine caseb (fun _ => ?_) (fun h => absurd (of_decide_eq_false h) (by omega))
          | refine caseb (fun h => absurd (of_decide_eq_true h) (by omega)) (fun _ => ?_)
          | refine caseb (fun _ => ?_) (fun h => absurd (beq_eq_false_iff_ne.1 h) (by omega))
          | refine caseb (fun h => absurd (eq_of_beq h) (by omega)) (fun _ => ?_)
    · have hk' : (k : Int) ≤ 8 := by omega
      conv => whnf
      first
        | refine caseb (fun _ => ?_) (fun h => absurd (of_decide_eq_false h) (by omega))
        | refine caseb (fun h => absurd (of_decide_eq_true h) (by omega)) (fun _ => ?_)
        | refine caseb (fun _ => ?_) (fun h => absurd (beq_eq_false_iff_ne.1 h) (by omega))
        | refine caseb (fun h => absurd (eq_of_beq h) (by omega)) (fun _ => ?_)
      conv => whnf
      refine ⟨_, hT, ?_⟩
      conv => whnf
      refine SW.loopM TTok (fun i : Nat => [(0, .val (.int .i32 c)), (3, .val (.int .i64 (k : Int))), (4, .sl 1 (irows .i32 (tab k)) false), (5, .val (.int .i64 (i : Int)))]) (fun i => []) 320 57 rfl (fun i => (tab k).length - i) (fun i => i ≤ (tab k).length ∧ ∀ (j : Nat) (x : Int), j < i → (tab k)[j]? = some x → x ≠ c) 0 [] ⟨Nat.zero_le _, fun j x h => absurd h (Nat.not_lt_zero j)⟩
        ⟨⟨rfl, rfl⟩, ⟨rfl, rfl⟩, ⟨rfl, rfl⟩, ⟨rfl, rfl⟩, trivial⟩ trivial rfl ?_
      intro i hJ
      have hi : i ≤ (tab k).length := hJ.1
      have hn2 := hJ.2
      clear hJ
      have hlen := irows_len .i32 (tab k)
      have htl := tab_len k
      conv => whnf
      refine caseb (fun h1 => ?_) (fun h1 => ?_)
      · have h1' : (i : Int) < (irows .i32 (tab k)).length := of_decide_eq_true h1
        have hlt : i < (tab k).length := by omega
        conv => whnf
        refine ⟨_, ⟨by omega, irows_get _ _ (List.getElem?_eq_getElem hlt)⟩, ?_⟩
        conv => whnf
        refine caseb (fun h2 => ?_) (fun h2 => ?_)
        · have h2' : (tab k)[i] = c := eq_of_beq h2
          rw [kindR_at c k hk1 (by omega) (by rw [← h2']; exact List.getElem_mem hlt) hn]
          conv => whnf
          exact rfl
        · have h2' : (tab k)[i] ≠ c := beq_eq_false_iff_ne.1 h2
          conv => whnf
          refine ⟨i + 1, [], (by show (tab k).length - (i + 1) < (tab k).length - i; omega), ⟨(by show i + 1 ≤ (tab k).length; omega), fun j x hj hx => ?_⟩, ⟨⟨rfl, rfl⟩, ⟨rfl, rfl⟩, ⟨rfl, rfl⟩, ⟨valI ?_, rfl⟩, trivial⟩, trivial, rfl⟩
          · by_cases e : j = i
            · subst e
              rw [List.getElem?_eq_getElem hlt] at hx
              rw [← Option.some.inj hx]
              exact h2'
            · exact hn2 j x (by omega) hx
          · show IntKind.i64.wrap ((i : Int) + 1) = ((i + 1 : Nat) : Int)
            rw [IntWalk.i64_in _ (by omega)]; omega
      · have h1' : ¬ (i : Int) < (irows .i32 (tab k)).length := of_decide_eq_false h1
        conv => whnf
        refine ⟨k + 1, [], (by show 9 - (k + 1) < 9 - k; omega), ⟨(by show 1 ≤ k + 1; omega), (by show k + 1 ≤ 9; omega), fun j g1 g2 hm => ?_⟩, ⟨⟨rfl, rfl⟩, ⟨valI ?_, rfl⟩, trivial⟩, trivial, rfl⟩
        · by_cases e : j = k
          · subst e
            obtain ⟨q, hq⟩ := List.getElem?_of_mem hm
            have := (List.getElem?_eq_some_iff.1 hq).1
            exact hn2 q c (by omega) hq rfl
          · exact hn j g1 (by have : j < k + 1 := g2; omega) hm
        · show IntKind.i64.wrap ((k : Int) + 1) = ((k + 1 : Nat) : Int)
          rw [IntWalk.i64_in _ (by omega)]; omega
  · conv => whnf
    refine caseb (fun _ => ?_) (fun h => Bool.noConfusion ((q1).symm.trans h))
    conv => whnf
    refine caseb (fun h => Bool.noConfusion ((q1').symm.trans h)) (fun _ => ?_)
    conv => whnf
    refine caseb (fun h => Bool.noConfusion ((q2).symm.trans h)) (fun _ => ?_)
    conv => whnf
    refine caseb (fun h => Bool.noConfusion ((q4).symm.trans h)) (fun _ => ?_)
    conv => whnf
    refine caseb (fun h => Bool.noConfusion ((q5).symm.trans h)) (fun _ => ?_)
    conv => whnf
    refine caseb (fun _ => ?_) (fun h => Bool.noConfusion ((q3).symm.trans h))
    conv => whnf
    refine caseb (fun h => Bool.noConfusion ((q3').symm.trans h)) (fun _ => ?_)
    conv => whnf
    refine caseb (fun h => Bool.noConfusion ((q6).symm.trans h)) (fun _ => ?_)
    conv => whnf
    refine SW.loopM TTok (fun k : Nat => [(0, .val (.int .i32 c)), (3, .val (.int .i64 (k : Int)))]) (fun k => []) 272 57 rfl (fun k => 9 - k) (fun k => 1 ≤ k ∧ k ≤ 9 ∧ ∀ j : Nat, 1 ≤ j → j < k → c ∉ tab j) 1 [] ⟨by decide, by decide, fun j h1 h2 => by omega⟩
      ⟨⟨rfl, rfl⟩, ⟨rfl, rfl⟩, trivial⟩ trivial rfl ?_
    intro k hJ
    have hk1 : 1 ≤ k := hJ.1
    have hk9 : k ≤ 9 := hJ.2.1
    have hn := hJ.2.2
    clear hJ
    have hT := Table_ok (k : Int)
    by_cases hk : k = 9
    · rw [kindR_no c (fun j h1 h2 => hn j h1 (by omega))]
      have hk' : (k : Int) = 9 := by omega
      clear hT hn
      repeat
        conv => whnf
        first
          | refine ⟨_, by assumption, ?_⟩
          | refine ⟨(Nat.le_of_ble_eq_true rfl), _, by assumption, ?_⟩
          | refine ⟨by kernel_rfl, ?_⟩
          | exact rfl
          | exact ⟨Nat.le_of_ble_eq_true rfl, rfl⟩
          | refine ⟨by decide, ?_⟩
          | refine caseb (fun _ => ?_) (fun h => absurd (of_decide_eq_false h) (by omega))
          | refine caseb (fun h => absurd (of_decide_eq_true h) (by omega)) (fun _ => ?_)
          | refine caseb (fun _ => ?_) (fun h => absurd (beq_eq_false_iff_ne.1 h) (by omega))
          | refine caseb (fun h => absurd (eq_of_beq h) (by omega)) (fun _ => ?_)
    · have hk' : (k : Int) ≤ 8 := by omega
      conv => whnf
      first
        | refine caseb (fun _ => ?_) (fun h => absurd (of_decide_eq_false h) (by omega))
        | refine caseb (fun h => absurd (of_decide_eq_true h) (by omega)) (fun _ => ?_)
        | refine caseb (fun _ => ?_) (fun h => absurd (beq_eq_false_iff_ne.1 h) (by omega))
        | refine caseb (fun h => absurd (eq_of_beq h) (by omega)) (fun _ => ?_)
      conv => whnf
      refine ⟨_, hT, ?_⟩
      conv => whnf
      refine SW.loopM TTok (fun i : Nat => [(0, .val (.int .i32 c)), (3, .val (.int .i64 (k : Int))), (4, .sl 1 (irows .i32 (tab k)) false), (5, .val (.int .i64 (i : Int)))]) (fun i => []) 320 57 rfl (fun i => (tab k).length - i) (fun i => i ≤ (tab k).length ∧ ∀ (j : Nat) (x : Int), j < i → (tab k)[j]? = some x → x ≠ c) 0 [] ⟨Nat.zero_le _, fun j x h => absurd h (Nat.not_lt_zero j)⟩
        ⟨⟨rfl, rfl⟩, ⟨rfl, rfl⟩, ⟨rfl, rfl⟩, ⟨rfl, rfl⟩, trivial⟩ trivial rfl ?_
      intro i hJ
      have hi : i ≤ (tab k).length := hJ.1
      have hn2 := hJ.2
      clear hJ
      have hlen := irows_len .i32 (tab k)
      have htl := tab_len k
      conv => whnf
      refine caseb (fun h1 => ?_) (fun h1 => ?_)
      · have h1' : (i : Int) < (irows .i32 (tab k)).length := of_decide_eq_true h1
        have hlt : i < (tab k).length := by omega
        conv => whnf
        refine ⟨_, ⟨by omega, irows_get _ _ (List.getElem?_eq_getElem hlt)⟩, ?_⟩
        conv => whnf
        refine caseb (fun h2 => ?_) (fun h2 => ?_)
        · have h2' : (tab k)[i] = c := eq_of_beq h2
          rw [kindR_at c k hk1 (by omega) (by rw [← h2']; exact List.getElem_mem hlt) hn]
          conv => whnf
          exact rfl
        · have h2' : (tab k)[i] ≠ c := beq_eq_false_iff_ne.1 h2
          conv => whnf
          refine ⟨i + 1, [], (by show (tab k).length - (i + 1) < (tab k).length - i; omega), ⟨(by show i + 1 ≤ (tab k).length; omega), fun j x hj hx => ?_⟩, ⟨⟨rfl, rfl⟩, ⟨rfl, rfl⟩, ⟨rfl, rfl⟩, ⟨valI ?_, rfl⟩, trivial⟩, trivial, rfl⟩
          · by_cases e : j = i
            · subst e
              rw [List.getElem?_eq_getElem hlt] at hx
              rw [← Option.some.inj hx]
              exact h2'
            · exact hn2 j x (by omega) hx
          · show IntKind.i64.wrap ((i : Int) + 1) = ((i + 1 : Nat) : Int)
            rw [IntWalk.i64_in _ (by omega)]; omega
      · have h1' : ¬ (i : Int) < (irows .i32 (tab k)).length := of_decide_eq_false h1
        conv => whnf
        refine ⟨k + 1, [], (by show 9 - (k + 1) < 9 - k; omega), ⟨(by show 1 ≤ k + 1; omega), (by show k + 1 ≤ 9; omega), fun j g1 g2 hm => ?_⟩, ⟨⟨rfl, rfl⟩, ⟨valI ?_, rfl⟩, trivial⟩, trivial, rfl⟩
        · by_cases e : j = k
          · subst e
            obtain ⟨q, hq⟩ := List.getElem?_of_mem hm
            have := (List.getElem?_eq_some_iff.1 hq).1
            exact hn2 q c (by omega) hq rfl
          · exact hn j g1 (by have : j < k + 1 := g2; omega) hm
        · show IntKind.i64.wrap ((k : Int) + 1) = ((k + 1 : Nat) : Int)
          rw [IntWalk.i64_in _ (by omega)]; omega
  · conv => whnf
    refine caseb (fun _ => ?_) (fun h => Bool.noConfusion ((q1).symm.trans h))
    conv => whnf
    refine caseb (fun h => Bool.noConfusion ((q1').symm.trans h)) (fun _ => ?_)
    conv => whnf
    refine caseb (fun h => Bool.noConfusion ((q2).symm.trans h)) (fun _ => ?_)
    conv => whnf
    refine caseb (fun h => Bool.noConfusion ((q4).symm.trans h)) (fun _ => ?_)
    conv => whnf
    refine caseb (fun h => Bool.noConfusion ((q5).symm.trans h)) (fun _ => ?_)
    conv => whnf
    refine caseb (fun h => Bool.noConfusion ((q3).symm.trans h)) (fun _ => ?_)
    conv => whnf
    refine caseb (fun h => Bool.noConfusion ((q6).symm.trans h)) (fun _ => ?_)
    conv => whnf
    refine SW.loopM TTok (fun k : Nat => [(0, .val (.int .i32 c)), (3, .val (.int .i64 (k : Int)))]) (fun k => []) 272 57 rfl (fun k => 9 - k) (fun k => 1 ≤ k ∧ k ≤ 9 ∧ ∀ j : Nat, 1 ≤ j → j < k → c ∉ tab j) 1 [] ⟨by decide, by decide, fun j h1 h2 => by omega⟩
      ⟨⟨rfl, rfl⟩, ⟨rfl, rfl⟩, trivial⟩ trivial rfl ?_
    intro k hJ
    have hk1 : 1 ≤ k := hJ.1
    have hk9 : k ≤ 9 := hJ.2.1
    have hn := hJ.2.2
    clear hJ
    have hT := Table_ok (k : Int)
    by_cases hk : k = 9
    · rw [kindR_no c (fun j h1 h2 => hn j h1 (by omega))]
      have hk' : (k : Int) = 9 := by omega
      clear hT hn
      repeat
        conv => whnf
        first
          | refine ⟨_, by assumption, ?_⟩
          | refine ⟨(Nat.le_of_ble_eq_true rfl), _, by assumption, ?_⟩
          | refine ⟨by kernel_rfl, ?_⟩
          | exact rfl
          | exact ⟨Nat.le_of_ble_eq_true rfl, rfl⟩
          | refine ⟨by decide, ?_⟩
          | refine caseb (fun _ => ?_) (fun h => absurd (of_decide_eq_false h) (by omega))
          | refine caseb (fun h => absurd (of_decide_eq_true h) (by omega)) (fun _ => ?_)
          | refine caseb (fun _ => ?_) (fun h => absurd (beq_eq_false_iff_ne.1 h) (by omega))
          | refine caseb (fun h => absurd (eq_of_beq h) (by omega)) (fun _ => ?_)
    · have hk' : (k : Int) ≤ 8 := by omega
      conv => whnf
      first
        | refine caseb (fun _ => ?_) (fun h => absurd (of_decide_eq_false h) (by omega))
        | refine caseb (fun h => absurd (of_decide_eq_true h) (by omega)) (fun _ => ?_)
        | refine caseb (fun _ => ?_) (fun h => absurd (beq_eq_false_iff_ne.1 h) (by omega))
        | refine caseb (fun h => absurd (eq_of_beq h) (by omega)) (fun _ => ?_)
      conv => whnf
      refine ⟨_, hT, ?_⟩
      conv => whnf
      refine SW.loopM TTok (fun i : Nat => [(0, .val (.int .i32 c)), (3, .val (.int .i64 (k : Int))), (4, .sl 1 (irows .i32 (tab k)) false), (5, .val (.int .i64 (i : Int)))]) (fun i => []) 320 57 rfl (fun i => (tab k).length - i) (fun i => i ≤ (tab k).length ∧ ∀ (j : Nat) (x : Int), j < i → (tab k)[j]? = some x → x ≠ c) 0 [] ⟨Nat.zero_le _, fun j x h => absurd h (Nat.not_lt_zero j)⟩
        ⟨⟨rfl, rfl⟩, ⟨rfl, rfl⟩, ⟨rfl, rfl⟩, ⟨rfl, rfl⟩, trivial⟩ trivial rfl ?_
      intro i hJ
      have hi : i ≤ (tab k).length := hJ.1
      have hn2 := hJ.2
      clear hJ
      have hlen := irows_len .i32 (tab k)
      have htl := tab_len k
      conv => whnf
      refine caseb (fun h1 => ?_) (fun h1 => ?_)
      · have h1' : (i : Int) < (irows .i32 (tab k)).length := of_decide_eq_true h1
        have hlt : i < (tab k).length := by omega
        conv => whnf
        refine ⟨_, ⟨by omega, irows_get _ _ (List.getElem?_eq_getElem hlt)⟩, ?_⟩
        conv => whnf
        refine caseb (fun h2 => ?_) (fun h2 => ?_)
        · have h2' : (tab k)[i] = c := eq_of_beq h2
          rw [kindR_at c k hk1 (by omega) (by rw [← h2']; exact List.getElem_mem hlt) hn]
          conv => whnf
          exact rfl
        · have h2' : (tab k)[i] ≠ c := beq_eq_false_iff_ne.1 h2
          conv => whnf
          refine ⟨i + 1, [], (by show (tab k).length - (i + 1) < (tab k).length - i; omega), ⟨(by show i + 1 ≤ (tab k).length; omega), fun j x hj hx => ?_⟩, ⟨⟨rfl, rfl⟩, ⟨rfl, rfl⟩, ⟨rfl, rfl⟩, ⟨valI ?_, rfl⟩, trivial⟩, trivial, rfl⟩
          · by_cases e : j = i
            · subst e
              rw [List.getElem?_eq_getElem hlt] at hx
              rw [← Option.some.inj hx]
              exact h2'
            · exact hn2 j x (by omega) hx
          · show IntKind.i64.wrap ((i : Int) + 1) = ((i + 1 : Nat) : Int)
            rw [IntWalk.i64_in _ (by omega)]; omega
      · have h1' : ¬ (i : Int) < (irows .i32 (tab k)).length := of_decide_eq_false h1
        conv => whnf
        refine ⟨k + 1, [], (by show 9 - (k + 1) < 9 - k; omega), ⟨(by show 1 ≤ k + 1; omega), (by show k + 1 ≤ 9; omega), fun j g1 g2 hm => ?_⟩, ⟨⟨rfl, rfl⟩, ⟨valI ?_, rfl⟩, trivial⟩, trivial, rfl⟩
        · by_cases e : j = k
          · subst e
            obtain ⟨q, hq⟩ := List.getElem?_of_mem hm
            have := (List.getElem?_eq_some_iff.1 hq).1
            exact hn2 q c (by omega) hq rfl
          · exact hn j g1 (by have : j < k + 1 := g2; omega) hm
        · show IntKind.i64.wrap ((k : Int) + 1) = ((k + 1 : Nat) : Int)
          rw [IntWalk.i64_in _ (by omega)]; omega
  · conv => whnf
    refine caseb (fun h => Bool.noConfusion ((q1).symm.trans h)) (fun _ => ?_)
    conv => whnf
    refine caseb (fun _ => ?_) (fun h => Bool.noConfusion ((q2).symm.trans h))
    conv => whnf
    refine caseb (fun h => Bool.noConfusion ((q2').symm.trans h)) (fun _ => ?_)
    conv => whnf
    refine caseb (fun h => Bool.noConfusion ((q4).symm.trans h)) (fun _ => ?_)
    conv => whnf
    refine caseb (fun h => Bool.noConfusion ((q5).symm.trans h)) (fun _ => ?_)
    conv => whnf
    refine caseb (fun _ => ?_) (fun h => Bool.noConfusion ((q3).symm.trans h))
    conv => whnf
    refine caseb (fun h => Bool.noConfusion ((q3').symm.trans h)) (fun _ => ?_)
    conv => whnf
    refine caseb (fun h => Bool.noConfusion ((q6).symm.trans h)) (fun _ => ?_)
    conv => whnf
    refine SW.loopM TTok (fun k : Nat => [(0, .val (.int .i32 c)), (3, .val (.int .i64 (k : Int)))]) (fun k => []) 272 57 rfl (fun k => 9 - k) (fun k => 1 ≤ k ∧ k ≤ 9 ∧ ∀ j : Nat, 1 ≤ j → j < k → c ∉ tab j) 1 [] ⟨by decide, by decide, fun j h1 h2 => by omega⟩
      ⟨⟨rfl, rfl⟩, ⟨rfl, rfl⟩, trivial⟩ trivial rfl ?_
    intro k hJ
    have hk1 : 1 ≤ k := hJ.1
    have hk9 : k ≤ 9 := hJ.2.1
    have hn := hJ.2.2
    clear hJ
    have hT := Table_ok (k : Int)
    by_cases hk : k = 9
    · rw [kindR_no c (fun j h1 h2 => hn j h1 (by omega))]
      have hk' : (k : Int) = 9 := by omega
      clear hT hn
      repeat
        conv => whnf
        first
          | refine ⟨_, by assumption, ?_⟩
          | refine ⟨(Nat.le_of_ble_eq_true rfl), _, by assumption, ?_⟩
          | refine ⟨by kernel_rfl, ?_⟩
          | exact rfl
          | exact ⟨Nat.le_of_ble_eq_true rfl, rfl⟩
          | refine ⟨by decide, ?_⟩
          | refine caseb (fun _ => ?_) (fun h => absurd (of_decide_eq_false h) (by omega))
          | refine caseb (fun h => absurd (of_decide_eq_true h) (by omega)) (fun _ => ?_)
          | refine caseb (fun _ => ?_) (fun h => absurd (beq_eq_false_iff_ne.1 h) (by omega))
          | refine caseb (fun h => absurd (eq_of_beq h) (by omega)) (fun _ => ?_)
    · have hk' : (k : Int) ≤ 8 := by omega
      conv => whnf
      first
        | refine caseb (fun _ => ?_) (fun h => absurd (of_decide_eq_false h) (by omega))
        | refine caseb (fun h => absurd (of_decide_eq_true h) (by omega)) (fun _ => ?_)
        | refine caseb (fun _ => ?_) (fun h => absurd (beq_eq_false_iff_ne.1 h) (by omega))
        | refine caseb (fun h => absurd (eq_of_beq h) (by omega)) (fun _ => ?_)
      conv => whnf
      refine ⟨_, hT, ?_⟩
      conv => whnf
      refine SW.loopM TTok (fun i : Nat => [(0, .val (.int .i32 c)), (3, .val (.int .i64 (k : Int))), (4, .sl 1 (irows .i32 (tab k)) false), (5, .val (.int .i64 (i : Int)))]) (fun i => []) 320 57 rfl (fun i => (tab k).length - i) (fun i => i ≤ (tab k).length ∧ ∀ (j : Nat) (x : Int), j < i → (tab k)[j]? = some x → x ≠ c) 0 [] ⟨Nat.zero_le _, fun j x h => absurd h (Nat.not_lt_zero j)⟩
        ⟨⟨rfl, rfl⟩, ⟨rfl, rfl⟩, ⟨rfl, rfl⟩, ⟨rfl, rfl⟩, trivial⟩ trivial rfl ?_
      intro i hJ
      have hi : i ≤ (tab k).length := hJ.1
      have hn2 := hJ.2
      clear hJ
      have hlen := irows_len .i32 (tab k)
      have htl := tab_len k
      conv => whnf
      refine caseb (fun h1 => ?_) (fun h1 => ?_)
      · have h1' : (i : Int) < (irows .i32 (tab k)).length := of_decide_eq_true h1
        have hlt : i < (tab k).length := by omega
        conv => whnf
        refine ⟨_, ⟨by omega, irows_get _ _ (List.getElem?_eq_getElem hlt)⟩, ?_⟩
        conv => whnf
        refine caseb (fun h2 => ?_) (fun h2 => ?_)
        · have h2' : (tab k)[i] = c := eq_of_beq h2
          rw [kindR_at c k hk1 (by omega) (by rw [← h2']; exact List.getElem_mem hlt) hn]
          conv => whnf
          exact rfl
        · have h2' : (tab k)[i] ≠ c := beq_eq_false_iff_ne.1 h2
          conv => whnf
          refine ⟨i + 1, [], (by show (tab k).length - (i + 1) < (tab k).length - i; omega), ⟨(by show i + 1 ≤ (tab k).length; omega), fun j x hj hx => ?_⟩, ⟨⟨rfl, rfl⟩, ⟨rfl, rfl⟩, ⟨rfl, rfl⟩, ⟨valI ?_, rfl⟩, trivial⟩, trivial, rfl⟩
          · by_cases e : j = i
            · subst e
              rw [List.getElem?_eq_getElem hlt] at hx
              rw [← Option.some.inj hx]
              exact h2'
            · exact hn2 j x (by omega) hx
          · show IntKind.i64.wrap ((i : Int) + 1) = ((i + 1 : Nat) : Int)
            rw [IntWalk.i64_in _ (by omega)]; omega
      · have h1' : ¬ (i : Int) < (irows .i32 (tab k)).length := of_decide_eq_false h1
        conv => whnf
        refine ⟨k + 1, [], (by show 9 - (k + 1) < 9 - k; omega), ⟨(by show 1 ≤ k + 1; omega), (by show k + 1 ≤ 9; omega), fun j g1 g2 hm => ?_⟩, ⟨⟨rfl, rfl⟩, ⟨valI ?_, rfl⟩, trivial⟩, trivial, rfl⟩
        · by_cases e : j = k
          · subst e
            obtain ⟨q, hq⟩ := List.getElem?_of_mem hm
            have := (List.getElem?_eq_some_iff.1 hq).1
            exact hn2 q c (by omega) hq rfl
          · exact hn j g1 (by have : j < k + 1 := g2; omega) hm
        · show IntKind.i64.wrap ((k : Int) + 1) = ((k + 1 : Nat) : Int)
          rw [IntWalk.i64_in _ (by omega)]; omega
  · conv => whnf
    refine caseb (fun h => Bool.noConfusion ((q1).symm.trans h)) (fun _ => ?_)
    conv => whnf
    refine caseb (fun _ => ?_) (fun h => Bool.noConfusion ((q2).symm.trans h))
    conv => whnf
    refine caseb (fun h => Bool.noConfusion ((q2').symm.trans h)) (fun _ => ?_)
    conv => whnf
    refine caseb (fun h => Bool.noConfusion ((q4).symm.trans h)) (fun _ => ?_)
    conv => whnf
    refine caseb (fun h => Bool.noConfusion ((q5).symm.trans h)) (fun _ => ?_)
    conv => whnf
    refine caseb (fun h => Bool.noConfusion ((q3).symm.trans h)) (fun _ => ?_)
    conv => whnf
    refine caseb (fun h => Bool.noConfusion ((q6).symm.trans h)) (fun _ => ?_)
    conv => whnf
    refine SW.loopM TTok (fun k : Nat => [(0, .val (.int .i32 c)), (3, .val (.int .i64 (k : Int)))]) (fun k => []) 272 57 rfl (fun k => 9 - k) (fun k => 1 ≤ k ∧ k ≤ 9 ∧ ∀ j : Nat, 1 ≤ j → j < k → c ∉ tab j) 1 [] ⟨by decide, by decide, fun j h1 h2 => by omega⟩
      ⟨⟨rfl, rfl⟩, ⟨rfl, rfl⟩, trivial⟩ trivial rfl ?_
    intro k hJ
    have hk1 : 1 ≤ k := hJ.1
    have hk9 : k ≤ 9 := hJ.2.1
    have hn := hJ.2.2
    clear hJ
    have hT := Table_ok (k : Int)
    by_cases hk : k = 9
    · rw [kindR_no c (fun j h1 h2 => hn j h1 (by omega))]
      have hk' : (k : Int) = 9 := by omega
      clear hT hn
      repeat
        conv => whnf
        first
          | refine ⟨_, by assumption, ?_⟩
          | refine ⟨(Nat.le_of_ble_eq_true rfl), _, by assumption, ?_⟩
          | refine ⟨by kernel_rfl, ?_⟩
          | exact rfl
          | exact ⟨Nat.le_of_ble_eq_true rfl, rfl⟩
          | refine ⟨by decide, ?_⟩
          | refine caseb (fun _ => ?_) (fun h => absurd (of_decide_eq_false h) (by omega))
          | refine caseb (fun h => absurd (of_decide_eq_true h) (by omega)) (fun _ => ?_)
          | refine caseb (fun _ => ?_) (fun h => absurd (beq_eq_false_iff_ne.1 h) (by omega))
          | refine caseb (fun h => absurd (eq_of_beq h) (by omega)) (fun _ => ?_)
    · have hk' : (k : Int) ≤ 8 := by omega
      conv => whnf
      first
        | refine caseb (fun _ => ?_) (fun h => absurd (of_decide_eq_false h) (by omega))
        | refine caseb (fun h => absurd (of_decide_eq_true h) (by omega)) (fun _ => ?_)
        | refine caseb (fun _ => ?_) (fun h => absurd (beq_eq_false_iff_ne.1 h) (by omega))
        | refine caseb (fun h => absurd (eq_of_beq h) (by omega)) (fun _ => ?_)
      conv => whnf
      refine ⟨_, hT, ?_⟩
      conv => whnf
      refine SW.loopM TTok (fun i : Nat => [(0, .val (.int .i32 c)), (3, .val (.int .i64 (k : Int))), (4, .sl 1 (irows .i32 (tab k)) false), (5, .val (.int .i64 (i : Int)))]) (fun i => []) 320 57 rfl (fun i => (tab k).length - i) (fun i => i ≤ (tab k).length ∧ ∀ (j : Nat) (x : Int), j < i → (tab k)[j]? = some x → x ≠ c) 0 [] ⟨Nat.zero_le _, fun j x h => absurd h (Nat.not_lt_zero j)⟩
        ⟨⟨rfl, rfl⟩, ⟨rfl, rfl⟩, ⟨rfl, rfl⟩, ⟨rfl, rfl⟩, trivial⟩ trivial rfl ?_
      intro i hJ
      have hi : i ≤ (tab k).length := hJ.1
      have hn2 := hJ.2
      clear hJ
      have hlen := irows_len .i32 (tab k)
      have htl := tab_len k
      conv => whnf
      refine caseb (fun h1 => ?_) (fun h1 => ?_)
      · have h1' : (i : Int) < (irows .i32 (tab k)).length := of_decide_eq_true h1
        have hlt : i < (tab k).length := by omega
        conv => whnf
        refine ⟨_, ⟨by omega, irows_get _ _ (List.getElem?_eq_getElem hlt)⟩, ?_⟩
        conv => whnf
        refine caseb (fun h2 => ?_) (fun h2 => ?_)
        · have h2' : (tab k)[i] = c := eq_of_beq h2
          rw [kindR_at c k hk1 (by omega) (by rw [← h2']; exact List.getElem_mem hlt) hn]
          conv => whnf
          exact rfl
        · have h2' : (tab k)[i] ≠ c := beq_eq_false_iff_ne.1 h2
          conv => whnf
          refine ⟨i + 1, [], (by show (tab k).length - (i + 1) < (tab k).length - i; omega), ⟨(by show i + 1 ≤ (tab k).length; omega), fun j x hj hx => ?_⟩, ⟨⟨rfl, rfl⟩, ⟨rfl, rfl⟩, ⟨rfl, rfl⟩, ⟨valI ?_, rfl⟩, trivial⟩, trivial, rfl⟩
          · by_cases e : j = i
            · subst e
              rw [List.getElem?_eq_getElem hlt] at hx
              rw [← Option.some.inj hx]
              exact h2'
            · exact hn2 j x (by omega) hx
          · show IntKind.i64.wrap ((i : Int) + 1) = ((i + 1 : Nat) : Int)
            rw [IntWalk.i64_in _ (by omega)]; omega
      · have h1' : ¬ (i : Int) < (irows .i32 (tab k)).length := of_decide_eq_false h1
        conv => whnf
        refine ⟨k + 1, [], (by show 9 - (k + 1) < 9 - k; omega), ⟨(by show 1 ≤ k + 1; omega), (by show k + 1 ≤ 9; omega), fun j g1 g2 hm => ?_⟩, ⟨⟨rfl, rfl⟩, ⟨valI ?_, rfl⟩, trivial⟩, trivial, rfl⟩
        · by_cases e : j = k
          · subst e
            obtain ⟨q, hq⟩ := List.getElem?_of_mem hm
            have := (List.getElem?_eq_some_iff.1 hq).1
            exact hn2 q c (by omega) hq rfl
          · exact hn j g1 (by have : j < k + 1 := g2; omega) hm
        · show IntKind.i64.wrap ((k : Int) + 1) = ((k + 1 : Nat) : Int)
          rw [IntWalk.i64_in _ (by omega)]; omega
  · conv => whnf
    refine caseb (fun h => Bool.noConfusion ((q1).symm.trans h)) (fun _ => ?_)
    conv => whnf
    refine caseb (fun h => Bool.noConfusion ((q2).symm.trans h)) (fun _ => ?_)
    conv => whnf
    refine caseb (fun h => Bool.noConfusion ((q4).symm.trans h)) (fun _ => ?_)
    conv => whnf
    refine caseb (fun h => Bool.noConfusion ((q5).symm.trans h)) (fun _ => ?_)
    conv => whnf
    refine caseb (fun _ => ?_) (fun h => Bool.noConfusion ((q3).symm.trans h))
    conv => whnf
    refine caseb (fun h => Bool.noConfusion ((q3').symm.trans h)) (fun _ => ?_)
    conv => whnf
    refine caseb (fun h => Bool.noConfusion ((q6).symm.trans h)) (fun _ => ?_)
    conv => whnf
    refine SW.loopM TTok (fun k : Nat => [(0, .val (.int .i32 c)), (3, .val (.int .i64 (k : Int)))]) (fun k => []) 272 57 rfl (fun k => 9 - k) (fun k => 1 ≤ k ∧ k ≤ 9 ∧ ∀ j : Nat, 1 ≤ j → j < k → c ∉ tab j) 1 [] ⟨by decide, by decide, fun j h1 h2 => by omega⟩
      ⟨⟨rfl, rfl⟩, ⟨rfl, rfl⟩, trivial⟩ trivial rfl ?_
    intro k hJ
    have hk1 : 1 ≤ k := hJ.1
    have hk9 : k ≤ 9 := hJ.2.1
    have hn := hJ.2.2
    clear hJ
    have hT := Table_ok (k : Int)
    by_cases hk : k = 9
    · rw [kindR_no c (fun j h1 h2 => hn j h1 (by omega))]
      have hk' : (k : Int) = 9 := by omega
      clear hT hn
      repeat
        conv => whnf
        first
          | refine ⟨_, by assumption, ?_⟩
          | refine ⟨(Nat.le_of_ble_eq_true rfl), _, by assumption, ?_⟩
          | refine ⟨by kernel_rfl, ?_⟩
          | exact rfl
          | exact ⟨Nat.le_of_ble_eq_true rfl, rfl⟩
          | refine ⟨by decide, ?_⟩
          | refine caseb (fun _ => ?_) (fun h => absurd (of_decide_eq_false h) (by omega))
          | refine caseb (fun h => absurd (of_decide_eq_true h) (by omega)) (fun _ => ?_)
          | refine caseb (fun _ => ?_) (fun h => absurd (beq_eq_false_iff_ne.1 h) (by omega))
          | refine caseb (fun h => absurd (eq_of_beq h) (by omega)) (fun _ => ?_)
    · have hk' : (k : Int) ≤ 8 := by omega
      conv => whnf
      first
        | refine caseb (fun _ => ?_) (fun h => absurd (of_decide_eq_false h) (by omega))
        | refine caseb (fun h => absurd (of_decide_eq_true h) (by omega)) (fun _ => ?_)
        | refine caseb (fun _ => ?_) (fun h => absurd (beq_eq_false_iff_ne.1 h) (by omega))
        | refine caseb (fun h => absurd (eq_of_beq h) (by omega)) (fun _ => ?_)
      conv => whnf
      refine ⟨_, hT, ?_⟩
      conv => whnf
      refine SW.loopM TTok (fun i : Nat => [(0, .val (.int .i32 c)), (3, .val (.int .i64 (k : Int))), (4, .sl 1 (irows .i32 (tab k)) false), (5, .val (.int .i64 (i : Int)))]) (fun i => []) 320 57 rfl (fun i => (tab k).length - i) (fun i => i ≤ (tab k).length ∧ ∀ (j : Nat) (x : Int), j < i → (tab k)[j]? = some x → x ≠ c) 0 [] ⟨Nat.zero_le _, fun j x h => absurd h (Nat.not_lt_zero j)⟩
        ⟨⟨rfl, rfl⟩, ⟨rfl, rfl⟩, ⟨rfl, rfl⟩, ⟨rfl, rfl⟩, trivial⟩ trivial rfl ?_
      intro i hJ
      have hi : i ≤ (tab k).length := hJ.1
      have hn2 := hJ.2
      clear hJ
      have hlen := irows_len .i32 (tab k)
      have htl := tab_len k
      conv => whnf
      refine caseb (fun h1 => ?_) (fun h1 => ?_)
      · have h1' : (i : Int) < (irows .i32 (tab k)).length := of_decide_eq_true h1
        have hlt : i < (tab k).length := by omega
        conv => whnf
        refine ⟨_, ⟨by omega, irows_get _ _ (List.getElem?_eq_getElem hlt)⟩, ?_⟩
        conv => whnf
        refine caseb (fun h2 => ?_) (fun h2 => ?_)
        · have h2' : (tab k)[i] = c := eq_of_beq h2
          rw [kindR_at c k hk1 (by omega) (by rw [← h2']; exact List.getElem_mem hlt) hn]
          conv => whnf
          exact rfl
        · have h2' : (tab k)[i] ≠ c := beq_eq_false_iff_ne.1 h2
          conv => whnf
          refine ⟨i + 1, [], (by show (tab k).length - (i + 1) < (tab k).length - i; omega), ⟨(by show i + 1 ≤ (tab k).length; omega), fun j x hj hx => ?_⟩, ⟨⟨rfl, rfl⟩, ⟨rfl, rfl⟩, ⟨rfl, rfl⟩, ⟨valI ?_, rfl⟩, trivial⟩, trivial, rfl⟩
          · by_cases e : j = i
            · subst e
              rw [List.getElem?_eq_getElem hlt] at hx
              rw [← Option.some.inj hx]
              exact h2'
            · exact hn2 j x (by omega) hx
          · show IntKind.i64.wrap ((i : Int) + 1) = ((i + 1 : Nat) : Int)
            rw [IntWalk.i64_in _ (by omega)]; omega
      · have h1' : ¬ (i : Int) < (irows .i32 (tab k)).length := of_decide_eq_false h1
        conv => whnf
        refine ⟨k + 1, [], (by show 9 - (k + 1) < 9 - k; omega), ⟨(by show 1 ≤ k + 1; omega), (by show k + 1 ≤ 9; omega), fun j g1 g2 hm => ?_⟩, ⟨⟨rfl, rfl⟩, ⟨valI ?_, rfl⟩, trivial⟩, trivial, rfl⟩
        · by_cases e : j = k
          · subst e
            obtain ⟨q, hq⟩ := List.getElem?_of_mem hm
            have := (List.getElem?_eq_some_iff.1 hq).1
            exact hn2 q c (by omega) hq rfl
          · exact hn j g1 (by have : j < k + 1 := g2; omega) hm
        · show IntKind.i64.wrap ((k : Int) + 1) = ((k + 1 : Nat) : Int)
          rw [IntWalk.i64_in _ (by omega)]; omega
  · conv => whnf
    refine caseb (fun h => Bool.noConfusion ((q1).symm.trans h)) (fun _ => ?_)
    conv => whnf
    refine caseb (fun h => Bool.noConfusion ((q2).symm.trans h)) (fun _ => ?_)
    conv => whnf
    refine caseb (fun h => Bool.noConfusion ((q4).symm.trans h)) (fun _ => ?_)
    conv => whnf
    refine caseb (fun h => Bool.noConfusion ((q5).symm.trans h)) (fun _ => ?_)
    conv => whnf
    refine caseb (fun h => Bool.noConfusion ((q3).symm.trans h)) (fun _ => ?_)
    conv => whnf
    refine caseb (fun h => Bool.noConfusion ((q6).symm.trans h)) (fun _ => ?_)
    conv => whnf
    refine SW.loopM TTok (fun k : Nat => [(0, .val (.int .i32 c)), (3, .val (.int .i64 (k : Int)))]) (fun k => []) 272 57 rfl (fun k => 9 - k) (fun k => 1 ≤ k ∧ k ≤ 9 ∧ ∀ j : Nat, 1 ≤ j → j < k → c ∉ tab j) 1 [] ⟨by decide, by decide, fun j h1 h2 => by omega⟩
      ⟨⟨rfl, rfl⟩, ⟨rfl, rfl⟩, trivial⟩ trivial rfl ?_
    intro k hJ
    have hk1 : 1 ≤ k := hJ.1
    have hk9 : k ≤ 9 := hJ.2.1
    have hn := hJ.2.2
    clear hJ
    have hT := Table_ok (k : Int)
    by_cases hk : k = 9
    · rw [kindR_no c (fun j h1 h2 => hn j h1 (by omega))]
      have hk' : (k : Int) = 9 := by omega
      clear hT hn
      repeat
        conv => whnf
        first
          | refine ⟨_, by assumption, ?_⟩
          | refine ⟨(Nat.le_of_ble_eq_true rfl), _, by assumption, ?_⟩
          | refine ⟨by kernel_rfl, ?_⟩
          | exact rfl
          | exact ⟨Nat.le_of_ble_eq_true rfl, rfl⟩
          | refine ⟨by decide, ?_⟩
          | refine caseb (fun _ => ?_) (fun h => absurd (of_decide_eq_false h) (by omega))
          | refine caseb (fun h => absurd (of_decide_eq_true h) (by omega)) (fun _ => ?_)
          | refine caseb (fun _ => ?_) (fun h => absurd (beq_eq_false_iff_ne.1 h) (by omega))
          | refine caseb (fun h => absurd (eq_of_beq h) (by omega)) (fun _ => ?_)
    · have hk' : (k : Int) ≤ 8 := by omega
      conv => whnf
      first
        | refine caseb (fun _ => ?_) (fun h => absurd (of_decide_eq_false h) (by omega))
        | refine caseb (fun h => absurd (of_decide_eq_true h) (by omega)) (fun _ => ?_)
        | refine caseb (fun _ => ?_) (fun h => absurd (beq_eq_false_iff_ne.1 h) (by omega))
        | refine caseb (fun h => absurd (eq_of_beq h) (by omega)) (fun _ => ?_)
      conv => whnf
      refine ⟨_, hT, ?_⟩
      conv => whnf
      refine SW.loopM TTok (fun i : Nat => [(0, .val (.int .i32 c)), (3, .val (.int .i64 (k : Int))), (4, .sl 1 (irows .i32 (tab k)) false), (5, .val (.int .i64 (i : Int)))]) (fun i => []) 320 57 rfl (fun i => (tab k).length - i) (fun i => i ≤ (tab k).length ∧ ∀ (j : Nat) (x : Int), j < i → (tab k)[j]? = some x → x ≠ c) 0 [] ⟨Nat.zero_le _, fun j x h => absurd h (Nat.not_lt_zero j)⟩
        ⟨⟨rfl, rfl⟩, ⟨rfl, rfl⟩, ⟨rfl, rfl⟩, ⟨rfl, rfl⟩, trivial⟩ trivial rfl ?_
      intro i hJ
      have hi : i ≤ (tab k).length := hJ.1
      have hn2 := hJ.2
      clear hJ
      have hlen := irows_len .i32 (tab k)
      have htl := tab_len k
      conv => whnf
      refine caseb (fun h1 => ?_) (fun h1 => ?_)
      · have h1' : (i : Int) < (irows .i32 (tab k)).length := of_decide_eq_true h1
        have hlt : i < (tab k).length := by omega
        conv => whnf
        refine ⟨_, ⟨by omega, irows_get _ _ (List.getElem?_eq_getElem hlt)⟩, ?_⟩
        conv => whnf
        refine caseb (fun h2 => ?_) (fun h2 => ?_)
        · have h2' : (tab k)[i] = c := eq_of_beq h2
          rw [kindR_at c k hk1 (by omega) (by rw [← h2']; exact List.getElem_mem hlt) hn]
          conv => whnf
          exact rfl
        · have h2' : (tab k)[i] ≠ c := beq_eq_false_iff_ne.1 h2
          conv => whnf
          refine ⟨i + 1, [], (by show (tab k).length - (i + 1) < (tab k).length - i; omega), ⟨(by show i + 1 ≤ (tab k).length; omega), fun j x hj hx => ?_⟩, ⟨⟨rfl, rfl⟩, ⟨rfl, rfl⟩, ⟨rfl, rfl⟩, ⟨valI ?_, rfl⟩, trivial⟩, trivial, rfl⟩
          · by_cases e : j = i
            · subst e
              rw [List.getElem?_eq_getElem hlt] at hx
              rw [← Option.some.inj hx]
              exact h2'
            · exact hn2 j x (by omega) hx
          · show IntKind.i64.wrap ((i : Int) + 1) = ((i + 1 : Nat) : Int)
            rw [IntWalk.i64_in _ (by omega)]; omega
      · have h1' : ¬ (i : Int) < (irows .i32 (tab k)).length := of_decide_eq_false h1
        conv => whnf
        refine ⟨k + 1, [], (by show 9 - (k + 1) < 9 - k; omega), ⟨(by show 1 ≤ k + 1; omega), (by show k + 1 ≤ 9; omega), fun j g1 g2 hm => ?_⟩, ⟨⟨rfl, rfl⟩, ⟨valI ?_, rfl⟩, trivial⟩, trivial, rfl⟩
        · by_cases e : j = k
          · subst e
            obtain ⟨q, hq⟩ := List.getElem?_of_mem hm
            have := (List.getElem?_eq_some_iff.1 hq).1
            exact hn2 q c (by omega) hq rfl
          · exact hn j g1 (by have : j < k + 1 := g2; omega) hm
        · show IntKind.i64.wrap ((k : Int) + 1) = ((k + 1 : Nat) : Int)
          rw [IntWalk.i64_in _ (by omega)]; omega
theorem RKind_ok (c : Int) : ∃ k, (k = 2 ↔ letter c) ∧ AC Try.prog 15 [.val (.int .i32 c)] (.pure (.val (.int .i64 k))) := by
  by_cases h : letter c
  · exact ⟨2, ⟨fun _ => h, fun _ => rfl⟩, RKind_let c h⟩
  · by_cases h' : (48 ≤ c ∧ c ≤ 57) ∨ c = 175
    · exact ⟨3, ⟨fun e => absurd e (by decide), fun e => absurd e h⟩, RKind_dig c h h'⟩
    · exact ⟨_, ⟨fun e => absurd e (kindR_ne c), fun e => absurd e h⟩, RKind_else c h h'⟩
theorem RWord_ok (c : Int) : AC Try.prog 14 [.val (.int .i32 c)] (.pure (.val (.bool (decide (wordc c))))) := by
  obtain ⟨k, hk, hK⟩ := RKind_ok c
  refine AC.of_body TTok Try.func14 rfl (enter_of Try.func14 (by kernel_rfl) (by kernel_rfl)) (noid1 (.val _)) (.val _) (Nat.le_of_ble_eq_true rfl) ?_
  by_cases h : letter c
  · rw [decide_eq_true (show wordc c from .inl h)]
    have := hk.2 h
    clear hk
    repeat
      conv => whnf
      first
        | refine ⟨_, by assumption, ?_⟩
        | refine ⟨(Nat.le_of_ble_eq_true rfl), _, by assumption, ?_⟩
        | refine ⟨by kernel_rfl, ?_⟩
        | exact rfl
        | exact ⟨Nat.le_of_ble_eq_true rfl, rfl⟩
        | refine ⟨by decide, ?_⟩
        | refine caseb (fun _ => ?_) (fun h => absurd (of_decide_eq_false h) (by omega))
        | refine caseb (fun h => absurd (of_decide_eq_true h) (by omega)) (fun _ => ?_)
        | refine caseb (fun _ => ?_) (fun h => absurd (beq_eq_false_iff_ne.1 h) (by omega))
        | refine caseb (fun h => absurd (eq_of_beq h) (by omega)) (fun _ => ?_)
  · have : k ≠ 2 := fun e => h (hk.1 e)
    clear hk
    by_cases h48 : 48 ≤ c
    · by_cases h57 : c ≤ 57
      · rw [decide_eq_true (show wordc c from .inr ⟨h48, h57⟩)]
        clear h
        repeat
          conv => whnf
          first
            | refine ⟨_, by assumption, ?_⟩
            | refine ⟨(Nat.le_of_ble_eq_true rfl), _, by assumption, ?_⟩
            | refine ⟨by kernel_rfl, ?_⟩
            | exact rfl
            | exact ⟨Nat.le_of_ble_eq_true rfl, rfl⟩
            | refine ⟨by decide, ?_⟩
            | refine caseb (fun _ => ?_) (fun h => absurd (of_decide_eq_false h) (by omega))
            | refine caseb (fun h => absurd (of_decide_eq_true h) (by omega)) (fun _ => ?_)
            | refine caseb (fun _ => ?_) (fun h => absurd (beq_eq_false_iff_ne.1 h) (by omega))
            | refine caseb (fun h => absurd (eq_of_beq h) (by omega)) (fun _ => ?_)
        exact valB (decide_eq_true h57)
      · rw [decide_eq_false (show ¬ wordc c from fun e => e.elim h (fun e => h57 e.2))]
        clear h
        repeat
          conv => whnf
          first
            | refine ⟨_, by assumption, ?_⟩
            | refine ⟨(Nat.le_of_ble_eq_true rfl), _, by assumption, ?_⟩
            | refine ⟨by kernel_rfl, ?_⟩
            | exact rfl
            | exact ⟨Nat.le_of_ble_eq_true rfl, rfl⟩
            | refine ⟨by decide, ?_⟩
            | refine caseb (fun _ => ?_) (fun h => absurd (of_decide_eq_false h) (by omega))
            | refine caseb (fun h => absurd (of_decide_eq_true h) (by omega)) (fun _ => ?_)
            | refine caseb (fun _ => ?_) (fun h => absurd (beq_eq_false_iff_ne.1 h) (by omega))
            | refine caseb (fun h => absurd (eq_of_beq h) (by omega)) (fun _ => ?_)
        exact valB (decide_eq_false h57)
    · rw [decide_eq_false (show ¬ wordc c from fun e => e.elim h (fun e => h48 e.1))]
      clear h
      repeat
        conv => whnf
        first
          | refine ⟨_, by assumption, ?_⟩
          | refine ⟨(Nat.le_of_ble_eq_true rfl), _, by assumption, ?_⟩
          | refine ⟨by kernel_rfl, ?_⟩
          | exact rfl
          | exact ⟨Nat.le_of_ble_eq_true rfl, rfl⟩
          | refine ⟨by decide, ?_⟩
          | refine caseb (fun _ => ?_) (fun h => absurd (of_decide_eq_false h) (by omega))
          | refine caseb (fun h => absurd (of_decide_eq_true h) (by omega)) (fun _ => ?_)
          | refine caseb (fun _ => ?_) (fun h => absurd (beq_eq_false_iff_ne.1 h) (by omega))
          | refine caseb (fun h => absurd (eq_of_beq h) (by omega)) (fun _ => ?_)

end Go.Proofs.Ytdlonboheckdoaa

/- Names. -/
set_option linter.unusedVariables false
namespace Go.Proofs.Ytdlonboheckdoaa
open Go Go.AL

def nameL : List Int → Bool
  | [] => false
  | a :: t => decide ((a :: t).length ≤ 24) && (decide (letter a) && (a :: t).all (fun x => decide (wordc x)))
theorem nameL_cons (a : Int) (t : List Int) : nameL (a :: t) = (decide ((a :: t).length ≤ 24) && (decide (letter a) && (a :: t).all (fun x => decide (wordc x)))) := rfl
theorem nameL_long {L : List Int} (h : 24 < L.length) : nameL L = false := by
  cases L with
  | nil => rfl
  | cons a t => rw [nameL_cons, decide_eq_false (show ¬ (a :: t).length ≤ 24 by omega)]; rfl
theorem nameL_first {a : Int} {t : List Int} (h : ¬ letter a) : nameL (a :: t) = false := by
  rw [nameL_cons, decide_eq_false h]; simp
theorem nameL_bad {L : List Int} {i : Nat} (hi : i < L.length) (h : ¬ wordc L[i]) : nameL L = false := by
  cases L with
  | nil => rfl
  | cons a t =>
    have : (a :: t).all (fun x => decide (wordc x)) = false := List.all_eq_false.2 ⟨_, List.getElem_mem hi, by rw [decide_eq_false h]; decide⟩
    rw [nameL_cons, this]; simp
theorem nameL_good {a : Int} {t : List Int} (h1 : (a :: t).length ≤ 24) (h2 : letter a) (h3 : ∀ (j : Nat) (x : Int), j < (a :: t).length → (a :: t)[j]? = some x → wordc x) : nameL (a :: t) = true := by
  have : (a :: t).all (fun x => decide (wordc x)) = true := List.all_eq_true.2 (fun x hx => by
    obtain ⟨q, hq⟩ := List.getElem?_of_mem hx
    exact decide_eq_true (h3 q x (List.getElem?_eq_some_iff.1 hq).1 hq))
  rw [nameL_cons, this, decide_eq_true h1, decide_eq_true h2]; rfl

theorem Name_ok (L : List Int) (t : Bool) (hb : L.length < 1000000000) : AC Try.prog 18 [.sl 1 (irows .i32 L) t] (.pure (.val (.bool (nameL L)))) := by
  refine AC.of_body TTok Try.func18 rfl (enter_of Try.func18 (by kernel_rfl) (by kernel_rfl)) (noid1 (slI_noid _ _ _)) (.val _) (Nat.le_of_ble_eq_true rfl) ?_
  cases L with
  | nil =>
    repeat
      conv => whnf
      first
        | refine ⟨_, by assumption, ?_⟩
        | refine ⟨(Nat.le_of_ble_eq_true rfl), _, by assumption, ?_⟩
        | refine ⟨by kernel_rfl, ?_⟩
        | exact rfl
        | exact ⟨Nat.le_of_ble_eq_true rfl, rfl⟩
        | refine ⟨by decide, ?_⟩
        | refine caseb (fun _ => ?_) (fun h => absurd (of_decide_eq_false h) (by omega))
        | refine caseb (fun h => absurd (of_decide_eq_true h) (by omega)) (fun _ => ?_)
        | refine caseb (fun _ => ?_) (fun h => absurd (beq_eq_false_iff_ne.1 h) (by omega))
        | refine caseb (fun h => absurd (eq_of_beq h) (by omega)) (fun _ => ?_)
  | cons a l =>
  have hlen := irows_len .i32 (a :: l)
  have hl1 : (a :: l).length = l.length + 1 := rfl
  by_cases h24 : 24 < (a :: l).length
  · rw [nameL_long h24]
    repeat
      conv => whnf
      first
        | refine ⟨_, by assumption, ?_⟩
        | refine ⟨(Nat.le_of_ble_eq_true rfl), _, by assumption, ?_⟩
        | refine ⟨by kernel_rfl, ?_⟩
        | exact rfl
        | exact ⟨Nat.le_of_ble_eq_true rfl, rfl⟩
        | refine ⟨by decide, ?_⟩
        | refine caseb (fun _ => ?_) (fun h => absurd (of_decide_eq_false h) (by omega))
        | refine caseb (fun h => absurd (of_decide_eq_true h) (by omega)) (fun _ => ?_)
        | refine caseb (fun _ => ?_) (fun h => absurd (beq_eq_false_iff_ne.1 h) (by omega))
        | refine caseb (fun h => absurd (eq_of_beq h) (by omega)) (fun _ => ?_)
  obtain ⟨k, hk, hK⟩ := Kind_ok a
  by_cases hlet : letter a
  rotate_left
  · rw [nameL_first hlet]
    have hk2 : k ≠ 2 := fun e => hlet (hk.1 e)
    clear hk
    conv => whnf
    first
      | refine caseb (fun _ => ?_) (fun h => absurd (of_decide_eq_false h) (by omega))
      | refine caseb (fun h => absurd (of_decide_eq_true h) (by omega)) (fun _ => ?_)
      | refine caseb (fun _ => ?_) (fun h => absurd (beq_eq_false_iff_ne.1 h) (by omega))
      | refine caseb (fun h => absurd (eq_of_beq h) (by omega)) (fun _ => ?_)
    conv => whnf
    refine ⟨_, ⟨by omega, irows_get .i32 (a :: l) (x := a) rfl⟩, ?_⟩
    conv => whnf
    refine ⟨_, hK, ?_⟩
    conv => whnf
    first
      | refine caseb (fun h => absurd (bne_iff_ne.1 h) (by omega)) (fun _ => ?_)
      | refine caseb (fun _ => ?_) (fun h => absurd (bne_eq_false_iff_eq.1 h) (by omega))
    conv => whnf
    exact rfl
  have hk2 : k = 2 := hk.2 hlet
  clear hk
  conv => whnf
  first
    | refine caseb (fun _ => ?_) (fun h => absurd (of_decide_eq_false h) (by omega))
    | refine caseb (fun h => absurd (of_decide_eq_true h) (by omega)) (fun _ => ?_)
    | refine caseb (fun _ => ?_) (fun h => absurd (beq_eq_false_iff_ne.1 h) (by omega))
    | refine caseb (fun h => absurd (eq_of_beq h) (by omega)) (fun _ => ?_)
  conv => whnf
  refine ⟨_, ⟨by omega, irows_get .i32 (a :: l) (x := a) rfl⟩, ?_⟩
  conv => whnf
  refine ⟨_, hK, ?_⟩
  conv => whnf
  first
    | refine caseb (fun h => absurd (bne_iff_ne.1 h) (by omega)) (fun _ => ?_)
    | refine caseb (fun _ => ?_) (fun h => absurd (bne_eq_false_iff_eq.1 h) (by omega))
  conv => whnf
  refine SW.loopM TTok (fun i : Nat => [(20, .sl 1 (irows .i32 (a :: l)) t), (21, .val (.int .i64 (irows .i32 (a :: l)).length)), (22, .val (.int .i64 (i : Int)))]) (fun i => []) 152 30 rfl (fun i => (a :: l).length - i) (fun i => i ≤ (a :: l).length ∧ ∀ (j : Nat) (x : Int), j < i → (a :: l)[j]? = some x → wordc x) 0 [] ⟨Nat.zero_le _, fun j x h => absurd h (Nat.not_lt_zero j)⟩
    ⟨⟨rfl, rfl⟩, ⟨rfl, rfl⟩, ⟨rfl, rfl⟩, trivial⟩ trivial rfl ?_
  intro i hJ
  have hi : i ≤ (a :: l).length := hJ.1
  have hn2 := hJ.2
  clear hJ
  generalize hL : a :: l = L at *
  conv => whnf
  refine caseb (fun h1 => ?_) (fun h1 => ?_)
  · have h1' : (i : Int) < (irows .i32 L).length := of_decide_eq_true h1
    have hlt : i < L.length := by omega
    have hW := Word_ok L[i]
    conv => whnf
    refine ⟨_, ⟨by omega, irows_get _ _ (List.getElem?_eq_getElem hlt)⟩, ?_⟩
    by_cases hw : wordc L[i]
    · rw [decide_eq_true hw] at hW
      conv => whnf
      refine ⟨_, hW, ?_⟩
      conv => whnf
      refine ⟨i + 1, [], (by show L.length - (i + 1) < L.length - i; omega), ⟨(by show i + 1 ≤ L.length; omega), fun j x hj hx => ?_⟩, ⟨⟨rfl, rfl⟩, ⟨rfl, rfl⟩, ⟨valI ?_, rfl⟩, trivial⟩, trivial, rfl⟩
      · by_cases e : j = i
        · subst e
          rw [List.getElem?_eq_getElem hlt] at hx
          rw [← Option.some.inj hx]
          exact hw
        · exact hn2 j x (by omega) hx
      · show IntKind.i64.wrap ((i : Int) + 1) = ((i + 1 : Nat) : Int)
        rw [IntWalk.i64_in _ (by omega)]; omega
    · rw [decide_eq_false hw] at hW
      rw [nameL_bad hlt hw]
      conv => whnf
      refine ⟨_, hW, ?_⟩
      conv => whnf
      exact rfl
  · have h1' : ¬ (i : Int) < (irows .i32 L).length := of_decide_eq_false h1
    subst hL
    rw [nameL_good (by omega) hlet (fun j x hj hx => hn2 j x (by omega) hx)]
    conv => whnf
    exact rfl

theorem RName_ok (L : List Int) (t : Bool) (hb : L.length < 1000000000) : AC Try.prog 7 [.sl 1 (irows .i32 L) t] (.pure (.val (.bool (nameL L)))) := by
  refine AC.of_body TTok Try.func7 rfl (enter_of Try.func7 (by kernel_rfl) (by kernel_rfl)) (noid1 (slI_noid _ _ _)) (.val _) (Nat.le_of_ble_eq_true rfl) ?_
  have hlen := irows_len .i32 L
  conv => whnf
  refine SW.loopM TTok (fun i : Nat => [(0, .sl 1 (irows .i32 L) t), (3, .val (.int .i64 (i : Int)))]) (fun i => []) 16 31 rfl (fun i => L.length - i) (fun i => i ≤ L.length ∧ ∀ (j : Nat) (x : Int), j < i → L[j]? = some x → wordc x) 0 [] ⟨Nat.zero_le _, fun j x h => absurd h (Nat.not_lt_zero j)⟩
    ⟨⟨rfl, rfl⟩, ⟨rfl, rfl⟩, trivial⟩ trivial rfl ?_
  intro i hJ
  have hi : i ≤ L.length := hJ.1
  have hn2 := hJ.2
  clear hJ
  conv => whnf
  refine caseb (fun h1 => ?_) (fun h1 => ?_)
  · have h1' : (i : Int) < (irows .i32 L).length := of_decide_eq_true h1
    have hlt : i < L.length := by omega
    have hW := RWord_ok L[i]
    conv => whnf
    refine ⟨_, ⟨by omega, irows_get _ _ (List.getElem?_eq_getElem hlt)⟩, ?_⟩
    by_cases hw : wordc L[i]
    · rw [decide_eq_true hw] at hW
      conv => whnf
      refine ⟨_, hW, ?_⟩
      conv => whnf
      refine ⟨i + 1, [], (by show L.length - (i + 1) < L.length - i; omega), ⟨(by show i + 1 ≤ L.length; omega), fun j x hj hx => ?_⟩, ⟨⟨rfl, rfl⟩, ⟨valI ?_, rfl⟩, trivial⟩, trivial, rfl⟩
      · by_cases e : j = i
        · subst e
          rw [List.getElem?_eq_getElem hlt] at hx
          rw [← Option.some.inj hx]
          exact hw
        · exact hn2 j x (by omega) hx
      · show IntKind.i64.wrap ((i : Int) + 1) = ((i + 1 : Nat) : Int)
        rw [IntWalk.i64_in _ (by omega)]; omega
    · rw [decide_eq_false hw] at hW
      rw [nameL_bad hlt hw]
      conv => whnf
      refine ⟨_, hW, ?_⟩
      conv => whnf
      exact rfl
  · have h1' : ¬ (i : Int) < (irows .i32 L).length := of_decide_eq_false h1
    have hall : ∀ (j : Nat) (x : Int), j < L.length → L[j]? = some x → wordc x := fun j x hj hx => hn2 j x (by omega) hx
    clear hn2
    cases L with
    | nil =>
      repeat
        conv => whnf
        first
          | refine ⟨_, by assumption, ?_⟩
          | refine ⟨(Nat.le_of_ble_eq_true rfl), _, by assumption, ?_⟩
          | refine ⟨by kernel_rfl, ?_⟩
          | exact rfl
          | exact ⟨Nat.le_of_ble_eq_true rfl, rfl⟩
          | refine ⟨by decide, ?_⟩
          | refine caseb (fun _ => ?_) (fun h => absurd (of_decide_eq_false h) (by omega))
          | refine caseb (fun h => absurd (of_decide_eq_true h) (by omega)) (fun _ => ?_)
          | refine caseb (fun _ => ?_) (fun h => absurd (beq_eq_false_iff_ne.1 h) (by omega))
          | refine caseb (fun h => absurd (eq_of_beq h) (by omega)) (fun _ => ?_)
    | cons a l =>
    have hl1 : (a :: l).length = l.length + 1 := rfl
    by_cases h24 : 24 < (a :: l).length
    · rw [nameL_long h24]
      repeat
        conv => whnf
        first
          | refine ⟨_, by assumption, ?_⟩
          | refine ⟨(Nat.le_of_ble_eq_true rfl), _, by assumption, ?_⟩
          | refine ⟨by kernel_rfl, ?_⟩
          | exact rfl
          | exact ⟨Nat.le_of_ble_eq_true rfl, rfl⟩
          | refine ⟨by decide, ?_⟩
          | refine caseb (fun _ => ?_) (fun h => absurd (of_decide_eq_false h) (by omega))
          | refine caseb (fun h => absurd (of_decide_eq_true h) (by omega)) (fun _ => ?_)
          | refine caseb (fun _ => ?_) (fun h => absurd (beq_eq_false_iff_ne.1 h) (by omega))
          | refine caseb (fun h => absurd (eq_of_beq h) (by omega)) (fun _ => ?_)
    obtain ⟨k, hk, hK⟩ := RKind_ok a
    by_cases hlet : letter a
    · rw [nameL_good (by omega) hlet hall]
      have hk2 : k = 2 := hk.2 hlet
      clear hk
      conv => whnf
      first
        | refine caseb (fun _ => ?_) (fun h => absurd (of_decide_eq_false h) (by omega))
        | refine caseb (fun h => absurd (of_decide_eq_true h) (by omega)) (fun _ => ?_)
        | refine caseb (fun _ => ?_) (fun h => absurd (beq_eq_false_iff_ne.1 h) (by omega))
        | refine caseb (fun h => absurd (eq_of_beq h) (by omega)) (fun _ => ?_)
      conv => whnf
      first
        | refine caseb (fun _ => ?_) (fun h => absurd (of_decide_eq_false h) (by omega))
        | refine caseb (fun h => absurd (of_decide_eq_true h) (by omega)) (fun _ => ?_)
        | refine caseb (fun _ => ?_) (fun h => absurd (beq_eq_false_iff_ne.1 h) (by omega))
        | refine caseb (fun h => absurd (eq_of_beq h) (by omega)) (fun _ => ?_)
      conv => whnf
      refine ⟨_, ⟨by omega, irows_get .i32 (a :: l) (x := a) rfl⟩, ?_⟩
      conv => whnf
      refine ⟨_, hK, ?_⟩
      conv => whnf
      exact valB (by rw [hk2]; rfl)
    · rw [nameL_first hlet]
      have hk2 : k ≠ 2 := fun e => hlet (hk.1 e)
      clear hk
      conv => whnf
      first
        | refine caseb (fun _ => ?_) (fun h => absurd (of_decide_eq_false h) (by omega))
        | refine caseb (fun h => absurd (of_decide_eq_true h) (by omega)) (fun _ => ?_)
        | refine caseb (fun _ => ?_) (fun h => absurd (beq_eq_false_iff_ne.1 h) (by omega))
        | refine caseb (fun h => absurd (eq_of_beq h) (by omega)) (fun _ => ?_)
      conv => whnf
      first
        | refine caseb (fun _ => ?_) (fun h => absurd (of_decide_eq_false h) (by omega))
        | refine caseb (fun h => absurd (of_decide_eq_true h) (by omega)) (fun _ => ?_)
        | refine caseb (fun _ => ?_) (fun h => absurd (beq_eq_false_iff_ne.1 h) (by omega))
        | refine caseb (fun h => absurd (eq_of_beq h) (by omega)) (fun _ => ?_)
      conv => whnf
      refine ⟨_, ⟨by omega, irows_get .i32 (a :: l) (x := a) rfl⟩, ?_⟩
      conv => whnf
      refine ⟨_, hK, ?_⟩
      conv => whnf
      exact valB (beq_false_of_ne hk2)

theorem ValidRune_ok (c : Int) : ∃ b, AC Try.prog 10 [.val (.int .i32 c)] (.pure (.val (.bool b))) := by
  by_cases h0 : 0 ≤ c
  · by_cases h1 : c < 55296
    · refine ⟨true, AC.of_body TTok Try.func10 rfl (enter_of Try.func10 (by kernel_rfl) (by kernel_rfl)) (noid1 (.val _)) (.val _) (Nat.le_of_ble_eq_true rfl) ?_⟩
      repeat
        conv => whnf
        first
          | refine ⟨_, by assumption, ?_⟩
          | refine ⟨(Nat.le_of_ble_eq_true rfl), _, by assumption, ?_⟩
          | refine ⟨by kernel_rfl, ?_⟩
          | exact rfl
          | exact ⟨Nat.le_of_ble_eq_true rfl, rfl⟩
          | refine ⟨by decide, ?_⟩
          | refine caseb (fun _ => ?_) (fun h => absurd (of_decide_eq_false h) (by omega))
          | refine caseb (fun h => absurd (of_decide_eq_true h) (by omega)) (fun _ => ?_)
          | refine caseb (fun _ => ?_) (fun h => absurd (beq_eq_false_iff_ne.1 h) (by omega))
          | refine caseb (fun h => absurd (eq_of_beq h) (by omega)) (fun _ => ?_)
    · by_cases h2 : 57343 < c ∧ c ≤ 1114111
      · refine ⟨true, AC.of_body TTok Try.func10 rfl (enter_of Try.func10 (by kernel_rfl) (by kernel_rfl)) (noid1 (.val _)) (.val _) (Nat.le_of_ble_eq_true rfl) ?_⟩
        repeat
          conv => whnf
          first
            | refine ⟨_, by assumption, ?_⟩
            | refine ⟨(Nat.le_of_ble_eq_true rfl), _, by assumption, ?_⟩
            | refine ⟨by kernel_rfl, ?_⟩
            | exact rfl
            | exact ⟨Nat.le_of_ble_eq_true rfl, rfl⟩
            | refine ⟨by decide, ?_⟩
            | refine caseb (fun _ => ?_) (fun h => absurd (of_decide_eq_false h) (by omega))
            | refine caseb (fun h => absurd (of_decide_eq_true h) (by omega)) (fun _ => ?_)
            | refine caseb (fun _ => ?_) (fun h => absurd (beq_eq_false_iff_ne.1 h) (by omega))
            | refine caseb (fun h => absurd (eq_of_beq h) (by omega)) (fun _ => ?_)
      · refine ⟨false, AC.of_body TTok Try.func10 rfl (enter_of Try.func10 (by kernel_rfl) (by kernel_rfl)) (noid1 (.val _)) (.val _) (Nat.le_of_ble_eq_true rfl) ?_⟩
        by_cases h3 : 57343 < c
        · repeat
            conv => whnf
            first
              | refine ⟨_, by assumption, ?_⟩
              | refine ⟨(Nat.le_of_ble_eq_true rfl), _, by assumption, ?_⟩
              | refine ⟨by kernel_rfl, ?_⟩
              | exact rfl
              | exact ⟨Nat.le_of_ble_eq_true rfl, rfl⟩
              | refine ⟨by decide, ?_⟩
              | refine caseb (fun _ => ?_) (fun h => absurd (of_decide_eq_false h) (by omega))
              | refine caseb (fun h => absurd (of_decide_eq_true h) (by omega)) (fun _ => ?_)
              | refine caseb (fun _ => ?_) (fun h => absurd (beq_eq_false_iff_ne.1 h) (by omega))
              | refine caseb (fun h => absurd (eq_of_beq h) (by omega)) (fun _ => ?_)
        · repeat
            conv => whnf
            first
              | refine ⟨_, by assumption, ?_⟩
              | refine ⟨(Nat.le_of_ble_eq_true rfl), _, by assumption, ?_⟩
              | refine ⟨by kernel_rfl, ?_⟩
              | exact rfl
              | exact ⟨Nat.le_of_ble_eq_true rfl, rfl⟩
              | refine ⟨by decide, ?_⟩
              | refine caseb (fun _ => ?_) (fun h => absurd (of_decide_eq_false h) (by omega))
              | refine caseb (fun h => absurd (of_decide_eq_true h) (by omega)) (fun _ => ?_)
              | refine caseb (fun _ => ?_) (fun h => absurd (beq_eq_false_iff_ne.1 h) (by omega))
              | refine caseb (fun h => absurd (eq_of_beq h) (by omega)) (fun _ => ?_)
  · refine ⟨false, AC.of_body TTok Try.func10 rfl (enter_of Try.func10 (by kernel_rfl) (by kernel_rfl)) (noid1 (.val _)) (.val _) (Nat.le_of_ble_eq_true rfl) ?_⟩
    repeat
      conv => whnf
      first
        | refine ⟨_, by assumption, ?_⟩
        | refine ⟨(Nat.le_of_ble_eq_true rfl), _, by assumption, ?_⟩
        | refine ⟨by kernel_rfl, ?_⟩
        | exact rfl
        | exact ⟨Nat.le_of_ble_eq_true rfl, rfl⟩
        | refine ⟨by decide, ?_⟩
        | refine caseb (fun _ => ?_) (fun h => absurd (of_decide_eq_false h) (by omega))
        | refine caseb (fun h => absurd (of_decide_eq_true h) (by omega)) (fun _ => ?_)
        | refine caseb (fun _ => ?_) (fun h => absurd (beq_eq_false_iff_ne.1 h) (by omega))
        | refine caseb (fun h => absurd (eq_of_beq h) (by omega)) (fun _ => ?_)

end Go.Proofs.Ytdlonboheckdoaa
