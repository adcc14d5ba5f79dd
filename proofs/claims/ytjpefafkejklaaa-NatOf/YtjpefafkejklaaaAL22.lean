/- An abstract program logic over tree values (part 22): symbolic execution, with regions that draw their order. Every state is taken apart and every value brought to its head ahead of the next step: so no term grows. -/
import Derived.Test.YtjpefafkejklaaaAL21
set_option linter.unusedVariables false
set_option linter.unusedSimpArgs false
namespace Go.AL
open Go Go.RowKit

/-- A value, brought to its head. -/
def AV.force {α : Sort _} (k : AV → α) : AV → α
  | .any => k .any
  | .val v => k (.val v)
  | .agg l => k (.agg l)
  | .tup l => k (.tup l)
  | .sl a b c => k (.sl a b c)
  | .fp a b => k (.fp a b)
  | .own a b c => k (.own a b c)
  | .lp a b => k (.lp a b)
  | .li a b c => k (.li a b c)
  | .it a => k (.it a)
theorem AV.force_eq {α : Sort _} (k : AV → α) (v : AV) : v.force k = k v := by cases v <;> rfl

def Ups.force {α : Sort _} (k : Ups → α) : Ups → α
  | [] => k []
  | [(i, b)] => k [(i, b)]
  | (i, b) :: (j, c) :: l => k ((i, b) :: (j, c) :: l)
theorem Ups.force_eq {α : Sort _} (k : Ups → α) (u : Ups) : Ups.force k u = k u := by
  rcases u with _ | ⟨⟨i, b⟩, _ | ⟨⟨j, c⟩, l⟩⟩ <;> rfl

def putK (d : Option Nat) (t : Nat → AV) (h : Nat → Option LB) (n m : Nat) (K : St → Prop) (v : AV) (u : Ups) : Prop :=
  match d with
  | some d => v.force fun v => Ups.force (fun u => match u with | [] => K ⟨upd t d v, h, n, m⟩ | u => K ⟨upd t d v, updsH h u, n, m⟩) u
  | none => Ups.force (fun u => match u with | [] => K ⟨t, h, n, m⟩ | u => K ⟨t, updsH h u, n, m⟩) u
theorem putK_eq (d : Option Nat) (t : Nat → AV) (h : Nat → Option LB) (n m : Nat) (K : St → Prop) (v : AV) (u : Ups) : putK d t h n m K v u = K ⟨putT t d v, updsH h u, n, m⟩ := by
  unfold putK
  cases d <;> simp only [AV.force_eq, Ups.force_eq] <;> cases u <;> rfl

def aopKF (P : Program) (TT : Nat → Option TI) (o : Oper) (b : Nat) (K : St → Prop) (t : Nat → AV) (h : Nat → Option LB) (n m : Nat) : Prop :=
  match dstOk o.dst m with
  | true => (aop TT o (aval t) h b).run P b fun v u _ => putK o.dst t h n m K v u
  | false => False
theorem aopKF_eq (P : Program) (TT : Nat → Option TI) (o : Oper) (b : Nat) (K : St → Prop) (t : Nat → AV) (h : Nat → Option LB) (n m : Nat) : aopKF P TT o b K t h n m = aopK P TT o b K ⟨t, h, n, m⟩ := by
  unfold aopKF aopK
  simp only [putK_eq]
  rfl

/-- The operations of a region, in the text's order. -/
def aopsF (P : Program) (TT : Nat → Option TI) (all : List Oper) : List Oper → Nat → (St → Prop) → St → Prop
  | [], _, K, s => K s
  | o :: rest, i, K, ⟨t, h, n, m⟩ => match o.guard with
    | none => aopKF P TT o (n + 8 * i) (aopsF P TT all rest (i + 1) K) t h n m
    | some (g, want) => match gdst all g, dstOk o.dst m with
      | some d, true => match t d with
        | .val (.bool x) => match want with
          | true => match x with
            | true => aopKF P TT o (n + 8 * i) (aopsF P TT all rest (i + 1) K) (upd t d (.val (.bool true))) h n m
            | false => aopsF P TT all rest (i + 1) K ⟨putT (upd t d (.val (.bool false))) o.dst (.val undef), h, n, m⟩
          | false => match x with
            | true => aopsF P TT all rest (i + 1) K ⟨putT (upd t d (.val (.bool true))) o.dst (.val undef), h, n, m⟩
            | false => aopKF P TT o (n + 8 * i) (aopsF P TT all rest (i + 1) K) (upd t d (.val (.bool false))) h n m
        | .val (.tuple _) => aopsF P TT all rest (i + 1) K ⟨putT t o.dst (.val undef), h, n, m⟩
        | _ => False
      | _, _ => False

theorem aopsF_eq (P : Program) (TT : Nat → Option TI) (all : List Oper) : ∀ (rest : List Oper) (i : Nat) (K : St → Prop), aopsF P TT all rest i K = aops P TT all rest i K
  | [], i, K => rfl
  | o :: rest, i, K => by
    funext ⟨t, h, n, m⟩
    unfold aopsF aops
    simp only [aopsF_eq P TT all rest (i + 1) K, aopKF_eq]
    rfl

def aopsDF (P : Program) (TT : Nat → Option TI) (all : List Oper) : List Oper → Nat → List (List Nat) → (List (List Nat) → St → Prop) → St → Prop
  | [], _, acc, K, s => K acc s
  | o :: rest, i, acc, K, ⟨t, h, n, m⟩ => match o.guard with
    | none => aopKF P TT o (n + 8 * i) (aopsDF P TT all rest (i + 1) (opIds o (aval t) :: acc) K) t h n m
    | some (g, want) => match gdst all g, dstOk o.dst m with
      | some d, true => match t d with
        | .val (.bool x) => match want with
          | true => match x with
            | true => aopKF P TT o (n + 8 * i) (aopsDF P TT all rest (i + 1) (opIds o (aval t) :: acc) K) (upd t d (.val (.bool true))) h n m
            | false => aopsDF P TT all rest (i + 1) ([] :: acc) K ⟨putT (upd t d (.val (.bool false))) o.dst (.val undef), h, n, m⟩
          | false => match x with
            | true => aopsDF P TT all rest (i + 1) ([] :: acc) K ⟨putT (upd t d (.val (.bool true))) o.dst (.val undef), h, n, m⟩
            | false => aopKF P TT o (n + 8 * i) (aopsDF P TT all rest (i + 1) (opIds o (aval t) :: acc) K) (upd t d (.val (.bool false))) h n m
        | .val (.tuple _) => aopsDF P TT all rest (i + 1) ([] :: acc) K ⟨putT t o.dst (.val undef), h, n, m⟩
        | _ => False
      | _, _ => False

theorem aopsDF_eq (P : Program) (TT : Nat → Option TI) (all : List Oper) : ∀ (rest : List Oper) (i : Nat) (acc : List (List Nat)) (K : List (List Nat) → St → Prop), aopsDF P TT all rest i acc K = aopsD P TT all rest i acc K
  | [], i, acc, K => rfl
  | o :: rest, i, acc, K => by
    funext ⟨t, h, n, m⟩
    unfold aopsDF aopsD
    simp only [aopsDF_eq P TT all rest (i + 1), aopKF_eq]
    rfl

def bumpN (K : St → Prop) (k : Nat) : St → Prop
  | ⟨t, h, n, m⟩ => K ⟨t, h, n + k, m⟩
def bumpD (P : Program) (ops : Array Oper) (K : St → Prop) (k : Nat) (acc : List (List Nat)) : St → Prop
  | ⟨t, h, n, m⟩ => indOK P ops n acc.reverse = true ∧ K ⟨t, h, n + k, m⟩

/-- Symbolic execution: what does not loop is gone through at once. -/
def axp (P : Program) (TT : Nat → Option TI) : Code → (Exit → St → Prop) → St → Prop
  | .skip, Q, s => Q .normal s
  | .label _, Q, s => Q .normal s
  | .region id ops draw, Q, s => match draw with
    | false => aopsF P TT ops.toList ops.toList 0 (bumpN (Q .normal) (8 * ops.toList.length)) s
    | true => aopsDF P TT ops.toList ops.toList 0 [] (bumpD P ops (Q .normal) (8 * ops.toList.length)) s
  | .seq a b, Q, s => axp P TT a (fun e s' => match e with | .normal => axp P TT b Q s' | e => Q e s') s
  | .cond c x y, Q, ⟨t, h, n, m⟩ => match aval t c with
    | .val (.bool b) => match b with
      | true => axp P TT x Q ⟨t, h, n, m⟩
      | false => axp P TT y Q ⟨t, h, n, m⟩
    | _ => False
  | .block id c, Q, s => axp P TT c (fun e s' => match e with | .exit id' => bif Nat.beq id' id then Q .normal s' else Q (.exit id') s' | e => Q e s') s
  | .exit id, Q, s => Q (.exit id) s
  | .ret, Q, s => Q .ret s
  | c, Q, s => SW P c Q s

theorem axp_sound {P : Program} {TT : Nat → Option TI} (hT : TTok P TT) (c : Code) : ∀ (Q : Exit → St → Prop) (s : St), axp P TT c Q s → SW P c Q s := by
  induction c with
  | skip => exact fun Q s h => SW.skip h
  | label l => exact fun Q s h => SW.label h
  | region id ops draw =>
    intro Q s h
    cases draw with
    | false =>
      refine SW.region hT ?_
      have h' : aopsF P TT ops.toList ops.toList 0 (bumpN (Q .normal) (8 * ops.toList.length)) s := h
      rw [aopsF_eq] at h'
      exact h'
    | true =>
      refine SW.regionD hT ?_
      have h' : aopsDF P TT ops.toList ops.toList 0 [] (bumpD P ops (Q .normal) (8 * ops.toList.length)) s := h
      rw [aopsDF_eq] at h'
      exact h'
  | seq a b iha ihb =>
    intro Q s h
    refine SW.seq ((iha _ s h).mono fun e s' hq => ?_)
    cases e with
    | normal => exact ihb Q s' hq
    | _ => exact hq
  | cond c x y ihx ihy =>
    intro Q ⟨t, h, n, m⟩ hh
    unfold axp at hh
    split at hh
    · rename_i b hc
      exact SW.cond hc (fun hb => ihx Q _ (by subst hb; exact hh)) (fun hb => ihy Q _ (by subst hb; exact hh))
    · exact hh.elim
  | block id c ih =>
    intro Q s h
    refine SW.block ((ih _ s h).mono fun e s' hq => ?_)
    cases e with
    | exit id' => exact hq
    | _ => exact hq
  | exit id => exact fun Q s h => SW.exit h
  | ret => exact fun Q s h => SW.ret h
  | loop c ih => exact fun Q s h => h
  | rangeFunc f ps a b _ _ => exact fun Q s h => h
  | scope c _ => exact fun Q s h => h
  | goto l => exact fun Q s h => h
  | refuse w => exact fun Q s h => h

theorem SW.go {P : Program} {TT : Nat → Option TI} (hT : TTok P TT) {c : Code} {Q : Exit → St → Prop} {s : St} (h : axp P TT c Q s) : SW P c Q s := axp_sound hT c Q s h

/-- A function's contract out of its body's symbolic execution. -/
theorem AC.of_body {P : Program} {TT : Nat → Option TI} {f : FuncId} {fn : Func} {c : Code} {args : List AV} {r : AR} (hT : TTok P TT) (hf : P.funcs[f]? = some fn) (hb : fn.body = some c)
    (henter : ∀ (vals : Array Value) (w : World), (callFunc f vals).run P w = .ok (.enter f vals) w) (hA : ∀ x ∈ args, NoId x)
    (hr : match r with | .pure v => NoId v | .fresh _ rows => ∀ r ∈ rows, ∀ x ∈ r, NoId x) (hm : args.length ≤ fn.ntmps)
    (h : axp P TT c (retQ TT fn.results.toList r) ⟨getA args, fun _ => none, 0, fn.ntmps⟩) : AC P f args r :=
  AC.of_sw hT hf hb henter hA hr hm (axp_sound hT c _ _ h)

end Go.AL
