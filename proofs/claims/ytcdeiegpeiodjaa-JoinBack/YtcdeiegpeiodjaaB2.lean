/- An abstract program logic over tree values (part 14): calls, regions, code, functions. -/
import Derived.Test.YtcdeiegpeiodjaaB1
import Derived.Test.YtcdeiegpeiodjaaProg
import Derived.KernelRfl
import Derived.Laws.Strings
set_option linter.unusedVariables false
set_option linter.unusedSimpArgs false
namespace Go.AL
open Go Go.RowKit

section
variable {P : Program} {TT : Nat → Option TI} {gh : Array Value} {w0 w : World} {F0 F : Nat → Prop} {ρ : Nat → Option BI} {fr : Nat → Prop} {s : St} {a : Act} {b : Nat}

/-- A pure call. -/
theorem call_sound (hR : Rel gh w0 F0 F ρ fr s a w) (hfr : ∀ k, k < 8 → fr (b + k)) {o : Oper} {c : Call} (ho : o.op = .call c) {f : Nat} {args : List AV} {ps : List Prop} {u : Ups} {acc : Accs}
    (hg : rcall TT (aval s.t) s.h b c = .call f args ps u acc) (hp : allP ps) {r : AR} (hA : AC P f args r) {K : Act → World → Prop} {Q : Exit → Act → World → Prop}
    (hK : ∀ v w', (∃ F' ρ', Rel gh w0 F0 F' ρ' (fun j => fr j ∧ ¬ (b ≤ j ∧ j < b + 8)) { s with h := updsH s.h (u ++ r.u b) } a w' ∧ VR w' F' ρ' v (r.v b)) → K (a.put o.dst v) w') :
    o.wp P a w K Q := by
  obtain ⟨g, hc, hev, hfz⟩ := rcall_inv hg
  have hge : a.eval g = .func (.func f) #[] #[] := by have := hR.aval g; rw [hev] at this; exact this.val_inv
  obtain ⟨F1, g1, g2, g3, g4⟩ := frzA_ok (c.args.toList.map (aval s.t)) args (c.args.toList.map a.eval) s F ps u acc hR (by simp) (fun i x hx => by
    rw [List.getElem?_map] at hx
    cases hi : c.args.toList[i]? with
    | none => simp [hi] at hx
    | some y =>
      simp [hi] at hx
      subst hx
      have : (c.args.toList.map a.eval).getD i undef = a.eval y := by simp only [List.getD, List.getElem?_map, hi, Option.map_some, Option.getD_some]
      rw [this]
      exact hR.aval y) hfz hp hA.noid
  have hvals : (c.args.map a.eval).size = args.length := by rw [g3]; simp
  have hcall := hA.calls w F1 (c.args.map a.eval) g2.Fb hvals (fun i x hx => by
    have h1 := g4 i x hx
    have e : (c.args.toList.map a.eval).getD i undef = (c.args.map a.eval).getD i undef := by
      simp only [List.getD, Array.getD_eq_getD_getElem?, List.getElem?_map, Array.getElem?_map, Array.getElem?_toList]
    rw [e] at h1
    exact h1.noid (hA.noid x (List.mem_of_getElem? hx)))
  have hexec : (execOp a.eval o).run P w = .ok (.enter f (c.args.map a.eval)) w := by
    simp [execOp, ho, resolve, hc, Deferred.ofValue, hge, invoke, hA.enter]
  unfold Oper.wp
  rw [hexec]
  simp only [Oper.upon]
  refine hcall.mono ?_
  rintro e w' ⟨v, rfl, hb, hret⟩
  refine hK v w' ?_
  have hw := g2.world hb.size (fun k hk => hb.block k hk) hb.os hb.tape hb.output
  have live : ∀ (F' : Nat → Prop), (∀ b, F' b → F1 b ∨ w.heap.size ≤ b) → ∀ id bi, ((updsH s.h u) id).isSome = true → ρ id = some bi → 0 < bi.csz → ¬ F' bi.blk := by
    intro F' hF' id bi hi hr hp0 hc'
    obtain ⟨lb, hlb⟩ := Option.isSome_iff_exists.1 hi
    obtain ⟨bi', q1, q2, q3⟩ := g2.blks id lb hlb
    rw [hr] at q1; injection q1 with q1; subst q1
    rcases hF' _ hc' with h | h
    · exact (q3 hp0).1 h
    · have := g2.blk_lt hi hr hp0; omega
  cases r with
  | pure r =>
    obtain ⟨hno, F', k1, k2, k3, k4⟩ := hret
    have h3 := hw.growF F' k1 k2 (fun b hb' => by
      rcases k3 b hb' with h | h
      · exact .inl h
      · exact .inr (Nat.le_trans hR.below.size h)) (live F' k3)
    exact ⟨F', ρ, by simpa [AR.u] using h3.mono_fr (fun _ h => h.1), k4.noid hno⟩
  | fresh sz rows =>
    obtain ⟨hno, F', bi, k1, k2, k3, k4, k5, k6⟩ := hret
    have h3 := hw.growF F' k1 k2 (fun b hb' => by
      rcases k3 b hb' with h | h
      · exact .inl h
      · exact .inr (Nat.le_trans hR.below.size h)) (live F' k3)
    have hbr : BR w' F' ρ bi (.cells sz rows) := by
      obtain ⟨c1, c2, c3, c4⟩ := k5
      refine ⟨c1, c2, c3, fun hp0 => ?_⟩
      obtain ⟨cs, ty, d1, d2, d3, d4⟩ := c4 hp0
      exact ⟨cs, ty, d1, d2, d3, fun j x hx => ⟨(d4 j x hx).1, (d4 j x hx).2.noid (mem_flat hno hx)⟩⟩
    have h4 := h3.name b (hfr 0 (by omega)) bi (.cells sz rows) hbr (fun hp0 => ⟨(k6 hp0).1, Nat.le_trans hR.below.size (k6 hp0).2⟩) (fun hp0 id' bi' hi hr hp' he => by
      have h1 : bi'.blk < w.heap.size := g2.blk_lt hi hr hp'
      have := (k6 hp0).2
      omega)
    have h5 := h4.mono_fr (fr' := fun j => fr j ∧ ¬ (b ≤ j ∧ j < b + 8)) (fun j hj => ⟨hj.1, fun e => hj.2 ⟨by omega, by omega⟩⟩)
    refine ⟨F', putρ ρ b bi, by simpa [AR.u, updsH_append, updsH] using h5, ?_⟩
    · simp only [AR.v]
      cases k4 with
      | own A _ _ _ cp bi' hr hl hA' =>
        simp [putρ] at hr
        subst hr
        exact .own A b 0 rows.length cp bi (by simp [putρ]) hl hA'

end

/-- How an operation's answer goes on, if it calls nothing. -/
def Res.run0 : Res → (AV → Ups → Accs → Prop) → Prop
  | .bad, _ => False
  | .ok0 v u a, K => K v u a
  | .ok c v u a, K => c ∧ K v u a
  | .ex p k, K => ∃ x, p x ∧ (k x).run0 K
  | .br b x y, K => match b with
    | true => x.run0 K
    | false => y.run0 K
  | .call _ _ _ _ _, _ => False

def Res.run (P : Program) (base : Nat) (r : Res) (K : AV → Ups → Accs → Prop) : Prop :=
  match r with
  | .call f args [] u a => ∃ r, AC P f args r ∧ K (r.v base) (u ++ r.u base) a
  | .call f args ps u a => allP ps ∧ ∃ r, AC P f args r ∧ K (r.v base) (u ++ r.u base) a
  | r => r.run0 K

/-- An operation's step: what it makes, what it does to the live blocks, what it looks at. -/
def AStep (P : Program) (TT : Nat → Option TI) (o : Oper) (t : Nat → AV) (h : Nat → Option LB) (b : Nat) (v : AV) (u : Ups) (acc : Accs) : Prop :=
  (aop TT o (aval t) h b).gives v u acc ∨ ∃ f args ps u0 r, aop TT o (aval t) h b = .call f args ps u0 acc ∧ allP ps ∧ AC P f args r ∧ v = r.v b ∧ u = u0 ++ r.u b

theorem Res.run0_inv {K : AV → Ups → Accs → Prop} (r : Res) (h : r.run0 K) : ∃ v u acc, r.gives v u acc ∧ K v u acc := by
  induction r with
  | bad => exact h.elim
  | ok0 v u a => exact ⟨v, u, a, ⟨rfl, rfl, rfl⟩, h⟩
  | ok c v u a => exact ⟨v, u, a, ⟨h.1, rfl, rfl, rfl⟩, h.2⟩
  | ex p k ih =>
    obtain ⟨x, hx, h⟩ := h
    obtain ⟨v, u, acc, hg, hk⟩ := ih x h
    exact ⟨v, u, acc, ⟨x, hx, hg⟩, hk⟩
  | br b x y ihx ihy =>
    cases b with
    | true =>
      obtain ⟨v, u, acc, hg, hk⟩ := ihx h
      exact ⟨v, u, acc, .inl ⟨rfl, hg⟩, hk⟩
    | false =>
      obtain ⟨v, u, acc, hg, hk⟩ := ihy h
      exact ⟨v, u, acc, .inr ⟨rfl, hg⟩, hk⟩
  | call f args ps u a => exact h.elim

theorem run_step {P : Program} {TT : Nat → Option TI} {o : Oper} {t : Nat → AV} {h : Nat → Option LB} {b : Nat} {K : AV → Ups → Accs → Prop} (hr : (aop TT o (aval t) h b).run P b K) :
    ∃ v u acc, AStep P TT o t h b v u acc ∧ K v u acc := by
  unfold Res.run at hr
  split at hr
  · rename_i f args u a he
    obtain ⟨r, hA, hk⟩ := hr
    exact ⟨_, _, a, .inr ⟨f, args, [], u, r, he, trivial, hA, rfl, rfl⟩, hk⟩
  · rename_i f args ps u a _ he
    obtain ⟨hp, r, hA, hk⟩ := hr
    exact ⟨_, _, a, .inr ⟨f, args, ps, u, r, he, hp, hA, rfl, rfl⟩, hk⟩
  · obtain ⟨v, u, acc, hg, hk⟩ := Res.run0_inv _ hr
    exact ⟨v, u, acc, .inl hg, hk⟩

theorem aop_call {TT : Nat → Option TI} {o : Oper} {ev : Operand → AV} {h : Nat → Option LB} {b : Nat} {f : Nat} {args : List AV} {ps : List Prop} {u : Ups} {acc : Accs} (hg : aop TT o ev h b = .call f args ps u acc) :
    ∃ c, o.op = .call c ∧ rcall TT ev h b c = .call f args ps u acc := by
  unfold aop at hg
  split at hg
  all_goals first
    | (rename_i c ho; exact ⟨c, ho, hg⟩)
    | (exfalso
       refine not_nc ?_ hg
       (try simp only [cond_eq_ite])
       repeat' (first | trivial | exact rbin_nc _ _ _ _ | exact reqs_nc _ _ _ _ _ | exact runop_nc _ _ | exact rload_nc _ _ _ | exact rstore_nc _ _ _ _ | exact rslice_nc _ _ _ _ _ _ _ | exact rindexAddr_nc _ _ _ _ | exact rconv_nc _ _ _ _ _ _ | split))

def dstOk (d : Option Nat) (m : Nat) : Bool :=
  match d with
  | some d => Nat.blt d m
  | none => true

def putT (t : Nat → AV) (d : Option Nat) (v : AV) : Nat → AV :=
  match d with
  | some d => upd t d v
  | none => t

section
variable {P : Program} {TT : Nat → Option TI} {gh : Array Value} {w0 w : World} {F0 F : Nat → Prop} {ρ : Nat → Option BI} {fr : Nat → Prop} {s : St} {a : Act} {b : Nat}

theorem Rel.putd (h : Rel gh w0 F0 F ρ fr s a w) {v' : Value} {v : AV} (hv : VR w F ρ v' v) (d : Option Nat) (hd : dstOk d s.m = true) :
    Rel gh w0 F0 F ρ fr { s with t := putT s.t d v } (a.put d v') w := by
  cases d with
  | none => exact h
  | some d => exact h.put hv d (by simpa [dstOk, Nat.blt_eq] using hd)

theorem Post.wp {o : Oper} {s' : St} {v : AV} (hp : Post P o a w gh w0 F0 fr b s' v) {K : Act → World → Prop} {Q : Exit → Act → World → Prop}
    (hK : ∀ v' w', (∃ F' ρ', Rel gh w0 F0 F' ρ' (fun j => fr j ∧ ¬ (b ≤ j ∧ j < b + 8)) s' a w' ∧ VR w' F' ρ' v' v) → K (a.put o.dst v') w') : o.wp P a w K Q := by
  obtain ⟨nx, w', v', hr, hn, hrel⟩ := hp
  unfold Oper.wp
  rw [hr]
  rcases hn with rfl | ⟨rfl, rfl⟩
  · exact hK v' w' hrel
  · exact hK _ w' hrel

/-- A step of the abstract state is one of the machine's. -/
theorem step_sound (hT : TTok P TT) (hR : Rel gh w0 F0 F ρ fr s a w) (hfr : ∀ k, k < 8 → fr (b + k)) {o : Oper} {v : AV} {u : Ups} {acc : Accs} (hs : AStep P TT o s.t s.h b v u acc) (hd : dstOk o.dst s.m = true)
    {K : Act → World → Prop} {Q : Exit → Act → World → Prop}
    (hK : ∀ a' w', (∃ F' ρ', Rel gh w0 F0 F' ρ' (fun j => fr j ∧ ¬ (b ≤ j ∧ j < b + 8)) { s with t := putT s.t o.dst v, h := updsH s.h u } a' w') → K a' w') : o.wp P a w K Q := by
  rcases hs with hg | ⟨f, args, ps, u0, r, hg, hp, hA, rfl, rfl⟩
  · exact (aop_sound hT hR hfr hg).wp fun v' w' ⟨F', ρ', h1, h2⟩ => hK _ _ ⟨F', ρ', h1.putd h2 o.dst hd⟩
  · obtain ⟨c, ho, hc⟩ := aop_call hg
    exact call_sound hR hfr ho hc hp hA fun v' w' ⟨F', ρ', h1, h2⟩ => hK _ _ ⟨F', ρ', h1.putd h2 o.dst hd⟩

end

theorem upd_self {t : Nat → AV} {d : Nat} {v : AV} (h : t d = v) : upd t d v = t := by
  funext j
  by_cases e : j = d
  · subst e; rw [upd_same, h]
  · rw [upd_ne _ _ e]

def gdst (all : List Oper) (g : Nat) : Option Nat :=
  match all[g]? with
  | some o => match o.dst with
    | some d => bif Nat.blt d 1000000 then some d else none
    | none => none
  | none => none

def aopK (P : Program) (TT : Nat → Option TI) (o : Oper) (b : Nat) (K : St → Prop) (s : St) : Prop :=
  match dstOk o.dst s.m with
  | true => (aop TT o (aval s.t) s.h b).run P b fun v u _ => K { s with t := putT s.t o.dst v, h := updsH s.h u }
  | false => False

/-- The operations of a region, in the text's order. -/
def aops (P : Program) (TT : Nat → Option TI) (all : List Oper) : List Oper → Nat → (St → Prop) → St → Prop
  | [], _, K, s => K s
  | o :: rest, i, K, s => match o.guard with
    | none => aopK P TT o (s.n + 8 * i) (aops P TT all rest (i + 1) K) s
    | some (g, want) => match gdst all g, dstOk o.dst s.m with
      | some d, true => match s.t d with
        | .val (.bool x) => match want with
          | true => match x with
            | true => aopK P TT o (s.n + 8 * i) (aops P TT all rest (i + 1) K) { s with t := upd s.t d (.val (.bool true)) }
            | false => aops P TT all rest (i + 1) K { s with t := putT (upd s.t d (.val (.bool false))) o.dst (.val undef) }
          | false => match x with
            | true => aops P TT all rest (i + 1) K { s with t := putT (upd s.t d (.val (.bool true))) o.dst (.val undef) }
            | false => aopK P TT o (s.n + 8 * i) (aops P TT all rest (i + 1) K) { s with t := upd s.t d (.val (.bool false)) }
        | .val (.tuple _) => aops P TT all rest (i + 1) K { s with t := putT s.t o.dst (.val undef) }
        | _ => False
      | _, _ => False

def RelE (gh : Array Value) (w0 : World) (F0 : Nat → Prop) (s : St) (a : Act) (w : World) : Prop := ∃ F ρ, Rel gh w0 F0 F ρ (fun id => s.n ≤ id) s a w

/-- What a value yields as a guard. -/
def yv : Value → Option Bool
  | .bool b => some b
  | _ => none

theorem yielded_of {gh : Array Value} {w0 w : World} {F0 F : Nat → Prop} {ρ : Nat → Option BI} {fr : Nat → Prop} {s : St} {a : Act} (hR : Rel gh w0 F0 F ρ fr s a w) {ops : Array Oper} {g d : Nat} {x : Value} (hdst : (ops[g]?).bind (·.dst) = some d ∧ d < 1000000) (hx : s.t d = .val x) :
    yielded ops a.tmps g = yv x := by
  obtain ⟨hdst, hlt⟩ := hdst
  have hv := hR.vals d
  rw [hx, gval_lt hlt] at hv
  have hv' := hv.val_inv
  rw [Array.getD_eq_getD_getElem?] at hv'
  unfold yielded
  rw [hdst, Option.bind_some]
  cases h : a.tmps[d]? with
  | none =>
    rw [h] at hv'
    have e : x = undef := hv'.symm
    rw [e]
    rfl
  | some v =>
    rw [h] at hv'
    have e : v = x := hv'
    subst e
    cases v <;> rfl

theorem gdst_bind {ops : Array Oper} {g d : Nat} (hd : gdst ops.toList g = some d) : (ops[g]?).bind (·.dst) = some d ∧ d < 1000000 := by
  unfold gdst at hd
  rw [Array.getElem?_toList] at hd
  cases ho : ops[g]? with
  | none => rw [ho] at hd; cases hd
  | some o =>
    rw [ho] at hd
    rw [Option.bind_some]
    cases hdd : o.dst with
    | none => simp only [hdd] at hd; cases hd
    | some d' =>
      simp only [hdd] at hd
      cases hb : Nat.blt d' 1000000 with
      | false => rw [hb] at hd; cases hd
      | true =>
        rw [hb] at hd
        have e : d' = d := Option.some.inj hd
        subst e
        exact ⟨rfl, Nat.blt_eq.mp hb⟩

theorem aops_sound {P : Program} {TT : Nat → Option TI} (hT : TTok P TT) {gh : Array Value} {w0 : World} {F0 : Nat → Prop} {ops : Array Oper} {K : St → Prop} {Q : Exit → Act → World → Prop} (n m : Nat)
    (hQ : ∀ s' a' w', K s' → s'.n = n → s'.m = m → (∃ F ρ, Rel gh w0 F0 F ρ (fun id => n + 8 * ops.toList.length ≤ id) s' a' w') → Q .normal a' w') :
    ∀ (rest : List Oper) (i : Nat) (s : St) (a : Act) (w : World) (F : Nat → Prop) (ρ : Nat → Option BI), ops.toList.drop i = rest → i + rest.length = ops.toList.length → s.n = n → s.m = m → aops P TT ops.toList rest i K s →
      Rel gh w0 F0 F ρ (fun id => n + 8 * i ≤ id) s a w → wpOps P ops Q (List.range' i rest.length) a w
  | [], i, s, a, w, F, ρ, hd, hl, hn, hm, h, hR => by
    simp only [List.length_nil, Nat.add_zero] at hl
    exact hQ s a w h hn hm ⟨F, ρ, by rw [← hl]; exact hR⟩
  | o :: rest, i, s, a, w, F, ρ, hd, hl, hn, hm, h, hR => by
    have ho : ops[i]? = some o := by
      have : (ops.toList.drop i)[0]? = some o := by rw [hd]; rfl
      rw [List.getElem?_drop] at this
      simpa using this
    have hd' : ops.toList.drop (i + 1) = rest := by rw [← List.drop_drop, hd]; rfl
    simp only [List.length_cons] at hl
    have ih := aops_sound hT n m hQ rest (i + 1)
    have perf : aopK P TT o (s.n + 8 * i) (aops P TT ops.toList rest (i + 1) K) s → o.wp P a w (wpOps P ops Q (List.range' (i + 1) rest.length)) Q := by
      intro hk
      unfold aopK at hk
      split at hk
      · rename_i hdst
        obtain ⟨v, u, acc, hs, hk⟩ := run_step hk
        refine step_sound hT hR (fun k hk => by rw [hn]; omega) hs hdst (fun a' w' ⟨F', ρ', hR'⟩ => ?_)
        exact ih { s with t := putT s.t o.dst v, h := updsH s.h u } a' w' F' ρ' hd' (by omega) hn hm hk (hR'.mono_fr (fun id hid => ⟨by omega, by rw [hn]; omega⟩))
      · exact hk.elim
    rw [List.length_cons, List.range'_succ]
    simp only [wpOps, ho]
    unfold aops at h
    split at h
    · rename_i hg
      have hw : Region.wanted o (yielded ops a.tmps) = true := by simp [Region.wanted, hg]
      rw [if_pos hw]
      exact .inl (perf h)
    · rename_i g want hg
      split at h
      · rename_i d hgd hdst
        split at h
        · rename_i x hx
          have hy : yielded ops a.tmps g = some x := yielded_of hR (gdst_bind hgd) hx
          by_cases hxw : x = want
          · have hw : Region.wanted o (yielded ops a.tmps) = true := by simp [Region.wanted, hg, hy, hxw]
            rw [if_pos hw]
            refine .inl (perf ?_)
            subst hxw
            cases x <;> (simp only [upd_self hx] at h; exact h)
          · have hw : ¬ Region.wanted o (yielded ops a.tmps) = true := by simp [Region.wanted, hg, hy, hxw]
            rw [if_neg hw]
            have hk : aops P TT ops.toList rest (i + 1) K { s with t := putT s.t o.dst (.val undef) } := by
              cases x <;> cases want <;> first | exact absurd rfl hxw | (simp only [upd_self hx] at h; exact h)
            exact ih { s with t := putT s.t o.dst (.val undef) } _ w F ρ hd' (by omega) hn hm hk ((hR.putd (.val undef) o.dst hdst).mono_fr (fun id hid => by omega))
        · rename_i vs hx
          have hy : yielded ops a.tmps g = none := yielded_of hR (gdst_bind hgd) hx
          have hw : ¬ Region.wanted o (yielded ops a.tmps) = true := by simp [Region.wanted, hg, hy]
          rw [if_neg hw]
          exact ih { s with t := putT s.t o.dst (.val undef) } _ w F ρ hd' (by omega) hn hm h ((hR.putd (.val undef) o.dst hdst).mono_fr (fun id hid => by omega))
        · exact h.elim
      · exact h.elim

theorem Rel.setN {gh : Array Value} {w0 w : World} {F0 F : Nat → Prop} {ρ : Nat → Option BI} {fr : Nat → Prop} {s : St} {a : Act} (h : Rel gh w0 F0 F ρ fr s a w) (n : Nat) : Rel gh w0 F0 F ρ fr { s with n := n } a w := { h with }

/-- The semantic statement about a piece of code. -/
@[irreducible] def SW (P : Program) (c : Code) (Q : Exit → St → Prop) (s : St) : Prop :=
  ∀ gh w0 F0 a w, RelE gh w0 F0 s a w → c.wp P (fun e a w => ∃ s', Q e s' ∧ s'.m = s.m ∧ RelE gh w0 F0 s' a w) a w

section
variable {P : Program} {TT : Nat → Option TI} {Q Q' : Exit → St → Prop} {s : St}

theorem SW.mono {c : Code} (h : SW P c Q s) (hq : ∀ e s', Q e s' → Q' e s') : SW P c Q' s := by
  unfold SW at *
  intro gh w0 F0 a w hR
  exact wp_mono (h gh w0 F0 a w hR) (fun e a w ⟨s', h1, h2, h3⟩ => ⟨s', hq _ _ h1, h2, h3⟩)

theorem SW.keep {c : Code} (h : SW P c Q s) : SW P c (fun e s' => Q e s' ∧ s'.m = s.m) s := by
  unfold SW at *
  intro gh w0 F0 a w hR
  exact wp_mono (h gh w0 F0 a w hR) (fun e a w ⟨s', h1, h2, h3⟩ => ⟨s', ⟨h1, h2⟩, h2, h3⟩)

def seqQ (P : Program) (y : Code) (Q : Exit → St → Prop) : Exit → St → Prop
  | .normal, s => SW P y Q s
  | e, s => Q e s

theorem SW.seq {x y : Code} (h : SW P x (seqQ P y Q) s) : SW P (.seq x y) Q s := by
  unfold SW
  intro gh w0 F0 a w hR
  unfold SW at h
  refine wp_seq (wp_mono (h gh w0 F0 a w hR) ?_)
  rintro e a' w' ⟨s', h1, h2, h3⟩
  cases e with
  | normal =>
    simp only [seqQ] at h1
    unfold SW at h1
    refine wp_mono (h1 gh w0 F0 a' w' h3) ?_
    rintro e a'' w'' ⟨s'', k1, k2, k3⟩
    exact ⟨s'', k1, by omega, k3⟩
  | _ => exact ⟨s', h1, h2, h3⟩

theorem SW.skip (h : Q .normal s) : SW P .skip Q s := by
  unfold SW
  exact fun gh w0 F0 a w hR => wp_skip ⟨s, h, rfl, hR⟩
theorem SW.label {l : Nat} (h : Q .normal s) : SW P (.label l) Q s := by
  unfold SW
  exact fun gh w0 F0 a w hR => wp_label ⟨s, h, rfl, hR⟩
theorem SW.exit {id : Nat} (h : Q (.exit id) s) : SW P (.exit id) Q s := by
  unfold SW
  exact fun gh w0 F0 a w hR => wp_exit ⟨s, h, rfl, hR⟩
theorem SW.ret (h : Q .ret s) : SW P .ret Q s := by
  unfold SW
  exact fun gh w0 F0 a w hR => wp_ret ⟨s, h, rfl, hR⟩

theorem SW.cond {c : Operand} {x y : Code} {t : Bool} (hc : aval s.t c = .val (.bool t)) (ht : t = true → SW P x Q s) (hf : t = false → SW P y Q s) : SW P (.cond c x y) Q s := by
  unfold SW
  intro gh w0 F0 a w hR
  obtain ⟨F, ρ, hR'⟩ := hR
  have he : a.eval c = .bool t := by have := hR'.aval c; rw [hc] at this; exact this.val_inv
  refine wp_cond_split he (fun h => ?_) (fun h => ?_)
  · have := ht h; unfold SW at this; exact this gh w0 F0 a w ⟨F, ρ, hR'⟩
  · have := hf h; unfold SW at this; exact this gh w0 F0 a w ⟨F, ρ, hR'⟩

def blockQ (id : Nat) (Q : Exit → St → Prop) : Exit → St → Prop
  | .exit id', s => bif Nat.beq id' id then Q .normal s else Q (.exit id') s
  | e, s => Q e s

theorem SW.block {id : Nat} {c : Code} (h : SW P c (blockQ id Q) s) : SW P (.block id c) Q s := by
  unfold SW
  intro gh w0 F0 a w hR
  unfold SW at h
  refine wp_block (wp_mono (h gh w0 F0 a w hR) ?_)
  rintro e a' w' ⟨s', h1, h2, h3⟩
  cases e with
  | exit id' =>
    simp only [blockQ] at h1
    simp only [Exit.inBlock]
    by_cases e : id' = id
    · rw [if_pos e]
      simp [e] at h1
      exact ⟨s', h1, h2, h3⟩
    · rw [if_neg e]
      simp [e] at h1
      exact ⟨s', h1, h2, h3⟩
  | _ => exact ⟨s', h1, h2, h3⟩

/-- What is known may be forgotten, and live blocks may get other numbers. -/
def Wk (s s' : St) : Prop := ∀ gh w0 F0 a w, RelE gh w0 F0 s a w → RelE gh w0 F0 s' a w

theorem SW.weak {c : Code} {s' : St} (hw : Wk s s') (hm : s'.m = s.m) (h : SW P c Q s') : SW P c Q s := by
  unfold SW at *
  intro gh w0 F0 a w hR
  refine wp_mono (h gh w0 F0 a w (hw _ _ _ _ _ hR)) ?_
  rintro e a' w' ⟨s'', h1, h2, h3⟩
  exact ⟨s'', h1, by omega, h3⟩

def loopQ (Q : Exit → St → Prop) (next : St → Prop) : Exit → St → Prop
  | .normal, s => next s
  | e, s => Q e s

theorem exists_min {p : Nat → Prop} : ∀ k, p k → ∃ m, p m ∧ ∀ j, p j → m ≤ j := by
  intro k
  induction k using Nat.strongRecOn with
  | _ k ih =>
    intro hk
    by_cases h : ∃ j, j < k ∧ p j
    · obtain ⟨j, hj, hp⟩ := h
      exact ih j hj hp
    · exact ⟨k, hk, fun j hj => Nat.le_of_not_lt fun hlt => h ⟨j, hlt, hj⟩⟩

/-- A loop: 'I k s': k bounds the rounds that are left. -/
theorem SW.loop {c : Code} (I : Nat → St → Prop) (k0 : Nat) (s0 : St) (hw : Wk s s0) (hm : s0.m = s.m) (h0 : I k0 s0)
    (round : ∀ k s1, s1.m = s.m → I k s1 → SW P c (loopQ Q fun s2 => ∃ k' s3, k' < k ∧ Wk s2 s3 ∧ s3.m = s2.m ∧ I k' s3) s1) : SW P (.loop c) Q s := by
  unfold SW
  intro gh w0 F0 a w hR
  let J : Act → World → Nat → Prop := fun a w k => ∃ s1, s1.m = s.m ∧ I k s1 ∧ RelE gh w0 F0 s1 a w
  -- the measure is the least k that fits
  have key : ∀ k a w, J a w k → (Code.loop c).wp P (fun e a w => ∃ s', Q e s' ∧ s'.m = s.m ∧ RelE gh w0 F0 s' a w) a w := by
    intro k a w hJ
    classical
    let μ : Act → World → Nat := fun a w => if h : ∃ m, J a w m ∧ ∀ j, J a w j → m ≤ j then Classical.choose h else 0
    have hμ : ∀ a w, (∃ k, J a w k) → J a w (μ a w) ∧ ∀ j, J a w j → μ a w ≤ j := by
      intro a w ⟨k, hk⟩
      have h := exists_min k hk
      simp only [μ]
      rw [dif_pos h]
      exact Classical.choose_spec h
    refine wp_loop (fun a w => ∃ k, J a w k) μ ⟨k, hJ⟩ (fun a w hI => ?_)
    obtain ⟨s1, m1, i1, r1⟩ := (hμ a w hI).1
    have hb := round _ s1 m1 i1
    unfold SW at hb
    refine wp_mono (hb gh w0 F0 a w r1) ?_
    rintro e a' w' ⟨s2, q1, q2, q3⟩
    cases e with
    | normal =>
      obtain ⟨k', s3, g1, g2, g3, g4⟩ := q1
      have hJ' : J a' w' k' := ⟨s3, by omega, g4, g2 _ _ _ _ _ q3⟩
      exact ⟨⟨k', hJ'⟩, Nat.lt_of_le_of_lt ((hμ a' w' ⟨k', hJ'⟩).2 k' hJ') g1⟩
    | _ => exact ⟨s2, q1, by omega, q3⟩
  exact key k0 a w ⟨s0, hm, h0, hw _ _ _ _ _ hR⟩

/-- Ways that meet again. -/
theorem SW.cut {x y : Code} (I : St → Prop) (h : SW P x (loopQ Q fun s2 => ∃ s3, Wk s2 s3 ∧ s3.m = s2.m ∧ I s3) s) (hy : ∀ s3, s3.m = s.m → I s3 → SW P y Q s3) : SW P (.seq x y) Q s := by
  unfold SW
  intro gh w0 F0 a w hR
  unfold SW at h
  refine wp_seq (wp_mono (h gh w0 F0 a w hR) ?_)
  rintro e a' w' ⟨s', h1, h2, h3⟩
  cases e with
  | normal =>
    obtain ⟨s3, k1, k2, k3⟩ := h1
    have hb := hy s3 (by omega) k3
    unfold SW at hb
    refine wp_mono (hb gh w0 F0 a' w' (k1 _ _ _ _ _ h3)) ?_
    rintro e a'' w'' ⟨s'', k1, k2, k3⟩
    exact ⟨s'', k1, by omega, k3⟩
  | _ => exact ⟨s', h1, h2, h3⟩

theorem SW.region (hT : TTok P TT) {id : Nat} {ops : Array Oper} (h : aops P TT ops.toList ops.toList 0 (fun s' => Q .normal { s' with n := s'.n + 8 * ops.toList.length }) s) : SW P (.region id ops false) Q s := by
  unfold SW
  intro gh w0 F0 a w hR
  obtain ⟨F, ρ, hR'⟩ := hR
  refine wp_region ?_
  have := aops_sound (Q := fun e a w => ∃ s', Q e s' ∧ s'.m = s.m ∧ RelE gh w0 F0 s' a w) hT (ops := ops) (K := fun s' => Q .normal { s' with n := s'.n + 8 * ops.toList.length }) s.n s.m (fun s' a' w' hk hn hm hx => ⟨{ s' with n := s'.n + 8 * ops.toList.length }, hk, hm, by
    obtain ⟨F, ρ, hR⟩ := hx
    rw [← hn] at hR
    exact ⟨F, ρ, hR.setN _⟩⟩) ops.toList 0 s a w F ρ rfl (by simp) rfl rfl h (by simpa using hR')
  simpa [List.range_eq_range'] using this

end

end Go.AL

set_option linter.unusedSimpArgs false
namespace Go.AL
open Go Go.RowKit

/-- Symbolic execution: what does not loop is gone through at once. -/
def awp (P : Program) (TT : Nat → Option TI) : Code → (Exit → St → Prop) → St → Prop
  | .skip, Q, s => Q .normal s
  | .label _, Q, s => Q .normal s
  | .region id ops draw, Q, s => match draw with
    | false => aops P TT ops.toList ops.toList 0 (fun s' => Q .normal { s' with n := s'.n + 8 * ops.toList.length }) s
    | true => SW P (.region id ops true) Q s
  | .seq a b, Q, s => awp P TT a (fun e s' => match e with | .normal => awp P TT b Q s' | e => Q e s') s
  | .cond c x y, Q, s => match aval s.t c with
    | .val (.bool b) => match b with
      | true => awp P TT x Q s
      | false => awp P TT y Q s
    | _ => False
  | .block id c, Q, s => awp P TT c (fun e s' => match e with | .exit id' => bif Nat.beq id' id then Q .normal s' else Q (.exit id') s' | e => Q e s') s
  | .exit id, Q, s => Q (.exit id) s
  | .ret, Q, s => Q .ret s
  | c, Q, s => SW P c Q s

theorem awp_sound {P : Program} {TT : Nat → Option TI} (hT : TTok P TT) (c : Code) : ∀ (Q : Exit → St → Prop) (s : St), awp P TT c Q s → SW P c Q s := by
  induction c with
  | skip => exact fun Q s h => SW.skip h
  | label l => exact fun Q s h => SW.label h
  | region id ops draw =>
    intro Q s h
    cases draw with
    | false => exact SW.region hT h
    | true => exact h
  | seq a b iha ihb =>
    intro Q s h
    refine SW.seq ((iha _ s h).mono fun e s' hq => ?_)
    cases e with
    | normal => exact ihb Q s' hq
    | _ => exact hq
  | cond c x y ihx ihy =>
    intro Q s h
    unfold awp at h
    split at h
    · rename_i b hc
      exact SW.cond hc (fun hb => ihx Q s (by subst hb; exact h)) (fun hb => ihy Q s (by subst hb; exact h))
    · exact h.elim
  | block id c ih =>
    intro Q s h
    refine SW.block ((ih _ s h).mono fun e s' hq => ?_)
    cases e with
    | exit id' => exact hq
    | _ => exact hq
  | exit id => exact fun Q s h => SW.exit h
  | ret => exact fun Q s h => SW.ret h
  | loop c ih => exact fun Q s h => h
  | rangeFunc f ps a b _ _ => exact fun Q s h => h
  | scope c _ => exact fun Q s h => h
  | goto l => exact fun Q s h => h
  | refuse w => exact fun Q s h => h

def ares (TT : Nat → Option TI) (t : Nat → AV) (h : Nat → Option LB) : List ResultVar → Option (List AV)
  | [] => some []
  | .tmp d :: l => match ares TT t h l with
    | some vs => some (aval t (.tmp d) :: vs)
    | none => none
  | .cell d ty :: l => match TT ty, aval t (.tmp d) with
    | some i, .lp id c => match h id with
      | some (.cells _ [row]) => bif okd i && Nat.ble (c + i.size) row.length then (match ares TT t h l with
        | some vs => some (part i row c :: vs)
        | none => none) else none
      | _ => none
    | _, _ => none

def oneV : List AV → AV
  | [x] => x
  | l => .tup l

/-- What a function's end must bring. -/
def retOK (TT : Nat → Option TI) (rs : List ResultVar) (r : AR) (s : St) : Prop :=
  match ares TT s.t s.h rs with
  | some vs => match r with
    | .pure v => match frzA s.h vs with
      | some (vs', [], _, _) => oneV vs' = v
      | some (vs', ps, _, _) => allP ps ∧ oneV vs' = v
      | none => False
    | .fresh sz rows => match vs with
      | [.own id off len] => match s.h id with
        | some (.cells sz' rs) => sz' = sz ∧ off + len ≤ rs.length ∧ (rs.drop off).take len = rows
        | _ => False
      | _ => False
  | none => False

def retQ (TT : Nat → Option TI) (rs : List ResultVar) (r : AR) (e : Exit) (s : St) : Prop :=
  match e with
  | .normal => retOK TT rs r s
  | .ret => retOK TT rs r s
  | _ => False

def getA : List AV → Nat → AV
  | [], _ => .any
  | x :: _, 0 => x
  | _ :: l, n + 1 => getA l n

theorem getA_eq : ∀ (l : List AV) (n : Nat), getA l n = l.getD n .any
  | [], n => by cases n <;> rfl
  | x :: l, 0 => rfl
  | x :: l, n + 1 => by simp [getA, getA_eq l n, List.getD]

def resF (tmps : Array Value) : ResultVar → Sem Value
  | .tmp t => pure (tmps.getD t undef)
  | .cell a t => do loadVar t (← asAddr (tmps.getD a undef))

section
variable {P : Program} {TT : Nat → Option TI} {gh : Array Value} {w0 w : World} {F0 F : Nat → Prop} {ρ : Nat → Option BI} {fr : Nat → Prop} {s : St} {a : Act} {b : Nat}

theorem ares_ok (hT : TTok P TT) (hR : Rel gh w0 F0 F ρ fr s a w) : ∀ (l : List ResultVar) (vs : List AV), ares TT s.t s.h l = some vs →
    ∃ vals : List Value, (l.mapM (resF a.tmps)).run P w = .ok vals w ∧ vals.length = vs.length ∧ ∀ (i : Nat) (x : AV), vs[i]? = some x → VR w F ρ (vals.getD i undef) x
  | [], vs, h => by
    simp only [ares, Option.some.injEq] at h
    subst h
    exact ⟨[], by simp, rfl, fun i x hx => by simp at hx⟩
  | .tmp d :: l, vs, h => by
    simp only [ares] at h
    split at h
    · rename_i vs' hvs
      injection h with h
      subst h
      obtain ⟨vals, h1, h2, h3⟩ := ares_ok hT hR l vs' hvs
      refine ⟨a.tmps.getD d undef :: vals, by simp [List.mapM_cons, resF, h1], by simp [h2], fun i x hx => ?_⟩
      cases i with
      | zero => simp at hx; subst hx; exact hR.aval (.tmp d)
      | succ i => exact h3 i x (by simpa using hx)
    · cases h
  | .cell d ty :: l, vs, h => by
    simp only [ares] at h
    split at h
    · rename_i i id c hi hd
      split at h
      · rename_i sz row hl
        cases hc : (okd i && Nat.ble (c + i.size) row.length) with
        | false => simp [hc] at h
        | true =>
          simp only [hc, cond_true] at h
          simp only [Bool.and_eq_true, Nat.ble_eq] at hc
          split at h
          · rename_i vs' hvs
            injection h with h
            subst h
            obtain ⟨vals, h1, h2, h3⟩ := ares_ok hT hR l vs' hvs
            obtain ⟨bi, q1, q2, q3⟩ := hR.cell hl
            have hv := hR.aval (.tmp d)
            rw [hd] at hv
            generalize hve : a.eval (.tmp d) = ve at hv
            have hve : a.tmps.getD d undef = ve := hve
            cases hv with
            | lp _ _ bi' hr =>
              rw [q1] at hr; injection hr with hr; subst hr
              obtain ⟨v, g1, g2⟩ := load_part (hT ty i hi) hc.1 bi.blk bi.base c row hc.2 (fun j y hy => q3 j y (by simpa using hy))
              refine ⟨v :: vals, ?_, by simp [h2], fun i x hx => ?_⟩
              · have : (resF a.tmps (.cell d ty)).run P w = .ok v w := by
                  simp only [resF, hve, asAddr, Sem.run_bind, Sem.run_pure, Result.andThen_ok, g1]
                simp [List.mapM_cons, this, h1]
              · cases i with
                | zero => simp at hx; subst hx; exact g2
                | succ i => exact h3 i x (by simpa using hx)
          · cases h
      · cases h
    · cases h

theorem run_results (hT : TTok P TT) (hR : Rel gh w0 F0 F ρ fr s a w) (fn : Func) (vs : List AV) (h : ares TT s.t s.h fn.results.toList = some vs) :
    ∃ vals : List Value, (results fn a.tmps).run P w = .ok (if h : vals.toArray.size = 1 then vals.toArray[0] else .tuple vals.toArray) w ∧ vals.length = vs.length ∧ ∀ (i : Nat) (x : AV), vs[i]? = some x → VR w F ρ (vals.getD i undef) x := by
  obtain ⟨vals, h1, h2, h3⟩ := ares_ok hT hR _ _ h
  refine ⟨vals, ?_, h2, h3⟩
  have hm : (fn.results.mapM (resF a.tmps)).run P w = .ok vals.toArray w := by
    rcases hfr : fn.results with ⟨l⟩
    rw [hfr] at h1
    have h1' : (l.mapM (resF a.tmps)).run P w = .ok vals w := h1
    simp [h1']
  have he : results fn a.tmps = (do let vs ← fn.results.mapM (resF a.tmps); pure (if h : vs.size = 1 then vs[0] else .tuple vs)) := rfl
  rw [he]
  simp only [Sem.run_bind, hm, Result.andThen_ok, Sem.run_pure]

theorem one_ok {vals : List Value} {vs : List AV} (hl : vals.length = vs.length) (hv : ∀ (i : Nat) (x : AV), vs[i]? = some x → VR w F ρ (vals.getD i undef) x) :
    VR w F ρ (if h : vals.toArray.size = 1 then vals.toArray[0] else .tuple vals.toArray) (oneV vs) := by
  by_cases h1 : vals.toArray.size = 1
  · rw [dif_pos h1]
    have h1' : vals.length = 1 := h1
    rcases vs with _ | ⟨x, _ | ⟨y, l⟩⟩
    · exact absurd (h1'.symm.trans hl) (by decide)
    · rcases vals with _ | ⟨v, l⟩
      · simp at h1'
      · exact hv 0 x rfl
    · simp at hl; omega
  · rw [dif_neg h1]
    have h1' : vs.length ≠ 1 := fun e => h1 (show vals.length = 1 from hl.trans e)
    have : oneV vs = .tup vs := by
      rcases vs with _ | ⟨x, _ | ⟨y, l⟩⟩
      · rfl
      · simp at h1'
      · rfl
    rw [this]
    refine .tup _ _ hl (fun i x hx => ?_)
    have := hv i x hx
    simpa [Array.getD_eq_getD_getElem?, List.getD] using this

end

/-- A function's contract out of its body's symbolic execution. -/
theorem AC.of_sw {P : Program} {TT : Nat → Option TI} {f : FuncId} {fn : Func} {c : Code} {args : List AV} {r : AR} (hT : TTok P TT) (hf : P.funcs[f]? = some fn) (hb : fn.body = some c)
    (henter : ∀ (vals : Array Value) (w : World), (callFunc f vals).run P w = .ok (.enter f vals) w) (hA : ∀ x ∈ args, NoId x)
    (hr : match r with | .pure v => NoId v | .fresh _ rows => ∀ r ∈ rows, ∀ x ∈ r, NoId x) (hm : (fn.ntmps - 1000000) * 1000000000 + args.length ≤ fn.ntmps)
    (hsw : SW P c (retQ TT fn.results.toList r) ⟨getA args, fun _ => none, 0, fn.ntmps⟩) : AC P f args r := by
  refine ⟨hA, henter, fun w F vals hF hsz hv => calls_of_wp hf hb ?_⟩
  unfold SW at hsw
  have hR0 : Rel #[] w F F (fun _ => none) (fun id => (0 : Nat) ≤ id) ⟨getA args, fun _ => none, 0, fn.ntmps⟩ { tmps := vals ++ Array.replicate (fn.ntmps - vals.size) undef, defers := [] } w := by
    refine ⟨rfl, by simp; omega, by show fn.ntmps ≤ 1000000; omega, Below.refl _ _, hF, fun _ h => h, fun _ h => .inl h, fun t => ?_, (fun id lb h => nomatch h), (fun id id' bi bi' h => nomatch h), fun _ _ => rfl⟩
    show VR w F _ _ (getA args t)
    rw [getA_eq]
    by_cases ht : t < args.length
    · rw [gval_lt (by omega)]
      show VR w F _ ((vals ++ Array.replicate (fn.ntmps - vals.size) undef).getD t undef) _
      have hx : args[t]? = some (args[t]) := List.getElem?_eq_getElem ht
      have e1 : args.getD t .any = args[t] := by simp [List.getD, hx]
      have e2 : (vals ++ Array.replicate (fn.ntmps - vals.size) undef).getD t undef = vals.getD t undef := by
        simp only [Array.getD_eq_getD_getElem?, Array.getElem?_append]
        rw [if_pos (by omega)]
      rw [e1, e2]
      exact hv t _ hx
    · have e1 : args.getD t .any = .any := by simp [List.getD, List.getElem?_eq_none (Nat.le_of_not_lt ht)]
      rw [e1]
      exact .any _
  refine wp_mono (hsw #[] w F _ w ⟨F, _, hR0⟩) ?_
  rintro e a' w' ⟨s', hq, hm', F', ρ', hR⟩
  have main : retOK TT fn.results.toList r s' → a'.defers = [] ∧ ∃ v, (results fn a'.tmps).run P w' = .ok v w' ∧ ∃ v', Ending.returned v = .returned v' ∧ Below w.heap.size w w' ∧ RetOK w F w' v' r := by
    intro hq
    unfold retOK at hq
    split at hq
    · rename_i vs hvs
      obtain ⟨vals, h1, h2, h3⟩ := run_results hT hR fn vs hvs
      refine ⟨hR.defers, _, h1, _, rfl, hR.below, ?_⟩
      cases r with
      | pure v =>
        simp only at hq
        have hfz : ∃ vs' ps u acc, frzA s'.h vs = some (vs', ps, u, acc) ∧ allP ps ∧ oneV vs' = v := by
          split at hq
          · rename_i vs' u acc hf; exact ⟨_, _, _, _, hf, trivial, hq⟩
          · rename_i vs' ps u acc _ hf; exact ⟨_, _, _, _, hf, hq.1, hq.2⟩
          · exact hq.elim
        obtain ⟨vs', ps, u, acc, hfz, hps, rfl⟩ := hfz
        obtain ⟨F2, g1, g2, g3, g4⟩ := frzA_ok vs vs' vals s' F' ps u acc hR h2 h3 hfz hps (by
          intro x hx
          rcases vs' with _ | ⟨y, _ | ⟨z, l⟩⟩
          · cases hx
          · simp at hx; subst hx; exact hr
          · have hr' : NoId (.tup (y :: z :: l)) := hr
            cases hr' with | tup _ hh => exact hh x hx)
        exact ⟨hr, F2, fun b hb => g1 b (hR.F0F b hb), g2.Fb, g2.Fnew, (one_ok (by omega) g4).noid hr⟩
      | fresh sz rows =>
        simp only at hq
        split at hq
        · rename_i id off len
          split at hq
          · rename_i sz' rs hl
            obtain ⟨rfl, hle, rfl⟩ := hq
            obtain ⟨bi, q1, q2, q3, q4, q5, q6⟩ := hR.block hl
            have hlen : ((rs.drop off).take len).length = len := by simp; omega
            have hv0 := h3 0 _ rfl
            have h1' : vals.toArray.size = 1 := h2
            rw [dif_pos h1']
            have e0 : vals.toArray[0] = vals.getD 0 undef := by
              rcases vals with _ | ⟨v, l⟩
              · simp at h2
              · rfl
            rw [e0]
            generalize vals.getD 0 undef = v0 at hv0
            have hsub : ((rs.drop off).take len) = (rs.take (off + len)).drop off := by rw [List.drop_take]; congr 1; omega
            cases hv0 with
            | own A _ _ _ cp bi' hr' hl' hA' =>
              rw [q1] at hr'; injection hr' with hr'; subst hr'
              refine ⟨hr, F', ⟨bi.blk, bi.base + off * sz', sz', bi.csz⟩, hR.F0F, hR.Fb, hR.Fnew, ?_, ⟨rfl, fun q hq => q3 q (List.mem_of_mem_drop (List.mem_of_mem_take hq)), fun h0 => ?_, fun hp => ?_⟩, fun hp => q4 hp⟩
              · rw [hlen]
                refine .own A 0 0 len cp ⟨bi.blk, bi.base + off * sz', sz', bi.csz⟩ (by simp [putρ]) hl' (fun hp => ?_)
                obtain ⟨e1, e2⟩ := hA' hp
                rw [q2] at e1 e2
                refine ⟨by rw [e1]; simp, ?_⟩
                show bi.base + off * sz' + (0 + cp) * sz' ≤ bi.csz
                rw [Nat.zero_add]
                rw [Nat.add_mul] at e2
                omega
              · have hf := q5 h0
                have h1 := flat_len rs q3
                rw [hf] at h1
                apply List.eq_nil_of_length_eq_zero
                rw [flat_len _ (fun q hq => q3 q (List.mem_of_mem_drop (List.mem_of_mem_take hq))), hlen]
                have h2 : rs.length * sz' = 0 := by simpa using h1.symm
                rcases Nat.mul_eq_zero.1 h2 with h | h
                · have : len = 0 := by omega
                  rw [this]; simp
                · rw [h]; simp
              · obtain ⟨cs, ty, g1, g2, g3, g4⟩ := q6 hp
                refine ⟨cs, ty, g1, g2, ?_, fun j x hx => ?_⟩
                · show bi.base + off * sz' + ((rs.drop off).take len).length * sz' ≤ cs.size
                  rw [hlen]
                  have : (off + len) * sz' ≤ rs.length * sz' := Nat.mul_le_mul_right _ hle
                  rw [Nat.add_mul] at this
                  omega
                · have hmem : NoId x := mem_flat hr hx
                  rw [hsub] at hx
                  have := g4 _ x (flat_sub q3 off (off + len) j x hx)
                  rw [← Nat.add_assoc] at this
                  exact ⟨this.1, this.2.noid hmem⟩
          · exact hq.elim
        · exact hq.elim
    · exact hq.elim
  cases e with
  | normal => exact main hq
  | ret => exact main hq
  | exit id => exact hq.elim
  | goto l => exact hq.elim
  | panic ch => exact hq.elim
  | outgrown => exact hq.elim

/-- A law's walk. -/
theorem AC.law {P : Program} {f : FuncId} {args : List AV} (h : AC P f args (.pure (.val (.bool true)))) (w : World) (vals : Array Value) (hs : vals.size = args.length)
    (hv : ∀ (i : Nat) (x : AV), args[i]? = some x → VR w (fun b => b < w.heap.size) (fun _ => none) (vals.getD i undef) x) :
    Calls P f vals w fun e w' => e = .returned (.bool true) ∧ Below w.heap.size w w' := by
  refine (h.calls w (fun b => b < w.heap.size) vals (fun _ h => h) hs hv).mono ?_
  rintro e w' ⟨v, rfl, hb, hno, F', _, _, _, hvr⟩
  exact ⟨by rw [hvr.val_inv], hb⟩

end Go.AL

namespace Go.AL
open Go Go.RowKit
section

theorem TIok.mk {P : Program} {t : Nat} {sd : SD} {z : Value} {size bytes : Nat} {e : Bool} (h1 : (P.underlying t).map sdOf = some sd)
    (h2 : (P.info? t).map (fun i => (i.zero, i.size, i.bytes)) = some (some z, size, bytes)) (h3 : z.cells.toList.length = size) (h4 : (z.cells.toList.all Value.oneCell') = true) (h5 : e = true → eqOKb P t = true) : TIok P t ⟨sd, size, bytes, z.cells.toList, e⟩ := by
  cases hu : P.underlying t with
  | none => rw [hu] at h1; cases h1
  | some d =>
    cases hi : P.info? t with
    | none => rw [hi] at h2; cases h2
    | some inf =>
      rw [hu] at h1
      rw [hi] at h2
      simp only [Option.map_some, Option.some.injEq, Prod.mk.injEq] at h1 h2
      exact ⟨d, inf, z, hu, h1, hi, h2.2.1, h2.2.2, h2.1, rfl, h3, h4, h5⟩

theorem enter_of {P : Program} {f : FuncId} {fn : Func} (hf : P.funcs[f]? = some fn) (hn : (fn.name == "runtime.NumGoroutine") = false) (hb : fn.body.isNone = false) (vals : Array Value) (w : World) :
    (callFunc f vals).run P w = .ok (.enter f vals) w := by
  simp only [callFunc, Sem.run_bind, run_program, Result.andThen_ok, hf, hn, Bool.false_eq_true, if_false, hb, Sem.run_pure]

/-- A test that nobody can decide ahead. -/
theorem caseb {b : Bool} {X Y : Prop} (h1 : b = true → X) (h2 : b = false → Y) : (match (generalizing := false) b with | true => X | false => Y) := by
  cases b
  · exact h2 rfl
  · exact h1 rfl

end
end Go.AL

namespace Go.Proofs.Ytcdeiegpeiodjaa
open Go Go.AL
section

def TT : Nat → Option TI := findTI [
  (2, ⟨.int .i64, 1, 8, [.int .i64 0], false⟩),
  (3, ⟨.int .i64, 1, 8, [.int .i64 0], false⟩),
  (4, ⟨.bool, 1, 1, [.bool false], false⟩),
  (5, ⟨.int .u8, 1, 1, [.int .u8 0], false⟩),
  (9, ⟨.str, 1, 16, [.string ByteArray.empty], false⟩),
  (12, ⟨.int .u64, 1, 8, [.int .u64 0], false⟩),
  (21, ⟨.int .i32, 1, 4, [.int .i32 0], false⟩),
  (22, ⟨.slice 26, 1, 24, [.slice none 0 0], false⟩),
  (23, ⟨.slice 4, 1, 24, [.slice none 0 0], false⟩),
  (25, ⟨.slice 3, 1, 24, [.slice none 0 0], false⟩),
  (26, ⟨.int .i8, 1, 1, [.int .i8 0], false⟩),
  (27, ⟨.slice 21, 1, 24, [.slice none 0 0], false⟩),
  (28, ⟨.slice 55, 1, 24, [.slice none 0 0], false⟩),
  (29, ⟨.struct [(0, 25), (1, 4), (2, 27), (3, 28), (4, 4)], 5, 88, [.slice none 0 0, .bool false, .slice none 0 0, .slice none 0 0, .bool false], false⟩),
  (30, ⟨.struct [(0, 25), (1, 4), (2, 27), (3, 28), (4, 4)], 5, 88, [.slice none 0 0, .bool false, .slice none 0 0, .slice none 0 0, .bool false], false⟩),
  (32, ⟨.int .i64, 1, 8, [.int .i64 0], false⟩),
  (41, ⟨.slice 72, 1, 24, [.slice none 0 0], false⟩),
  (42, ⟨.struct [(0, 25), (1, 4), (2, 27), (3, 41)], 4, 80, [.slice none 0 0, .bool false, .slice none 0 0, .slice none 0 0], false⟩),
  (43, ⟨.struct [(0, 25), (1, 4), (2, 27), (3, 41)], 4, 80, [.slice none 0 0, .bool false, .slice none 0 0, .slice none 0 0], false⟩),
  (49, ⟨.slice 115, 1, 24, [.slice none 0 0], false⟩),
  (50, ⟨.struct [(0, 49)], 1, 24, [.slice none 0 0], false⟩),
  (51, ⟨.struct [(0, 49)], 1, 24, [.slice none 0 0], false⟩),
  (52, ⟨.struct [(0, 51), (1, 4)], 2, 32, [.slice none 0 0, .bool false], false⟩),
  (53, ⟨.struct [(0, 51), (1, 4)], 2, 32, [.slice none 0 0, .bool false], false⟩),
  (54, ⟨.struct [(0, 53), (2, 51)], 3, 56, [.slice none 0 0, .bool false, .slice none 0 0], false⟩),
  (55, ⟨.struct [(0, 53), (2, 51)], 3, 56, [.slice none 0 0, .bool false, .slice none 0 0], false⟩),
  (71, ⟨.struct [(0, 4), (1, 9), (2, 9)], 3, 40, [.bool false, .string ByteArray.empty, .string ByteArray.empty], true⟩),
  (72, ⟨.struct [(0, 4), (1, 9), (2, 9)], 3, 40, [.bool false, .string ByteArray.empty, .string ByteArray.empty], true⟩),
  (85, ⟨.int .u64, 1, 8, [.int .u64 0], false⟩),
  (100, ⟨.int .u64, 1, 8, [.int .u64 0], false⟩),
  (105, ⟨.struct [(0, 4), (1, 9)], 2, 24, [.bool false, .string ByteArray.empty], true⟩),
  (106, ⟨.struct [(0, 4), (1, 9)], 2, 24, [.bool false, .string ByteArray.empty], true⟩),
  (115, ⟨.int .u32, 1, 4, [.int .u32 0], false⟩),
  (126, ⟨.slice 25, 1, 24, [.slice none 0 0], false⟩),
  (130, ⟨.slice 53, 1, 24, [.slice none 0 0], false⟩),
  (134, ⟨.slice 5, 1, 24, [.slice none 0 0], false⟩),
  (148, ⟨.ptr 5, 1, 8, [.pointer none], false⟩)]

theorem TT2 : TIok Try.prog 2 ⟨.int .i64, 1, 8, [.int .i64 0], false⟩ := TIok.mk (z := .int .i64 0) (by kernel_rfl) (by kernel_rfl) rfl (by rfl) (fun h => by cases h)
theorem TT3 : TIok Try.prog 3 ⟨.int .i64, 1, 8, [.int .i64 0], false⟩ := TIok.mk (z := .int .i64 0) (by kernel_rfl) (by kernel_rfl) rfl (by rfl) (fun h => by cases h)
theorem TT4 : TIok Try.prog 4 ⟨.bool, 1, 1, [.bool false], false⟩ := TIok.mk (z := .bool false) (by kernel_rfl) (by kernel_rfl) rfl (by rfl) (fun h => by cases h)
theorem TT5 : TIok Try.prog 5 ⟨.int .u8, 1, 1, [.int .u8 0], false⟩ := TIok.mk (z := .int .u8 0) (by kernel_rfl) (by kernel_rfl) rfl (by rfl) (fun h => by cases h)
theorem TT9 : TIok Try.prog 9 ⟨.str, 1, 16, [.string ByteArray.empty], false⟩ := TIok.mk (z := .string ByteArray.empty) (by kernel_rfl) (by kernel_rfl) rfl (by rfl) (fun h => by cases h)
theorem TT12 : TIok Try.prog 12 ⟨.int .u64, 1, 8, [.int .u64 0], false⟩ := TIok.mk (z := .int .u64 0) (by kernel_rfl) (by kernel_rfl) rfl (by rfl) (fun h => by cases h)
theorem TT21 : TIok Try.prog 21 ⟨.int .i32, 1, 4, [.int .i32 0], false⟩ := TIok.mk (z := .int .i32 0) (by kernel_rfl) (by kernel_rfl) rfl (by rfl) (fun h => by cases h)
theorem TT22 : TIok Try.prog 22 ⟨.slice 26, 1, 24, [.slice none 0 0], false⟩ := TIok.mk (z := .slice none 0 0) (by kernel_rfl) (by kernel_rfl) rfl (by rfl) (fun h => by cases h)
theorem TT23 : TIok Try.prog 23 ⟨.slice 4, 1, 24, [.slice none 0 0], false⟩ := TIok.mk (z := .slice none 0 0) (by kernel_rfl) (by kernel_rfl) rfl (by rfl) (fun h => by cases h)
theorem TT25 : TIok Try.prog 25 ⟨.slice 3, 1, 24, [.slice none 0 0], false⟩ := TIok.mk (z := .slice none 0 0) (by kernel_rfl) (by kernel_rfl) rfl (by rfl) (fun h => by cases h)
theorem TT26 : TIok Try.prog 26 ⟨.int .i8, 1, 1, [.int .i8 0], false⟩ := TIok.mk (z := .int .i8 0) (by kernel_rfl) (by kernel_rfl) rfl (by rfl) (fun h => by cases h)
theorem TT27 : TIok Try.prog 27 ⟨.slice 21, 1, 24, [.slice none 0 0], false⟩ := TIok.mk (z := .slice none 0 0) (by kernel_rfl) (by kernel_rfl) rfl (by rfl) (fun h => by cases h)
theorem TT28 : TIok Try.prog 28 ⟨.slice 55, 1, 24, [.slice none 0 0], false⟩ := TIok.mk (z := .slice none 0 0) (by kernel_rfl) (by kernel_rfl) rfl (by rfl) (fun h => by cases h)
theorem TT29 : TIok Try.prog 29 ⟨.struct [(0, 25), (1, 4), (2, 27), (3, 28), (4, 4)], 5, 88, [.slice none 0 0, .bool false, .slice none 0 0, .slice none 0 0, .bool false], false⟩ := TIok.mk (z := .agg #[.slice none 0 0, .bool false, .slice none 0 0, .slice none 0 0, .bool false]) (by kernel_rfl) (by kernel_rfl) rfl (by rfl) (fun h => by cases h)
theorem TT30 : TIok Try.prog 30 ⟨.struct [(0, 25), (1, 4), (2, 27), (3, 28), (4, 4)], 5, 88, [.slice none 0 0, .bool false, .slice none 0 0, .slice none 0 0, .bool false], false⟩ := TIok.mk (z := .agg #[.slice none 0 0, .bool false, .slice none 0 0, .slice none 0 0, .bool false]) (by kernel_rfl) (by kernel_rfl) rfl (by rfl) (fun h => by cases h)
theorem TT32 : TIok Try.prog 32 ⟨.int .i64, 1, 8, [.int .i64 0], false⟩ := TIok.mk (z := .int .i64 0) (by kernel_rfl) (by kernel_rfl) rfl (by rfl) (fun h => by cases h)
theorem TT41 : TIok Try.prog 41 ⟨.slice 72, 1, 24, [.slice none 0 0], false⟩ := TIok.mk (z := .slice none 0 0) (by kernel_rfl) (by kernel_rfl) rfl (by rfl) (fun h => by cases h)
theorem TT42 : TIok Try.prog 42 ⟨.struct [(0, 25), (1, 4), (2, 27), (3, 41)], 4, 80, [.slice none 0 0, .bool false, .slice none 0 0, .slice none 0 0], false⟩ := TIok.mk (z := .agg #[.slice none 0 0, .bool false, .slice none 0 0, .slice none 0 0]) (by kernel_rfl) (by kernel_rfl) rfl (by rfl) (fun h => by cases h)
theorem TT43 : TIok Try.prog 43 ⟨.struct [(0, 25), (1, 4), (2, 27), (3, 41)], 4, 80, [.slice none 0 0, .bool false, .slice none 0 0, .slice none 0 0], false⟩ := TIok.mk (z := .agg #[.slice none 0 0, .bool false, .slice none 0 0, .slice none 0 0]) (by kernel_rfl) (by kernel_rfl) rfl (by rfl) (fun h => by cases h)
theorem TT49 : TIok Try.prog 49 ⟨.slice 115, 1, 24, [.slice none 0 0], false⟩ := TIok.mk (z := .slice none 0 0) (by kernel_rfl) (by kernel_rfl) rfl (by rfl) (fun h => by cases h)
theorem TT50 : TIok Try.prog 50 ⟨.struct [(0, 49)], 1, 24, [.slice none 0 0], false⟩ := TIok.mk (z := .agg #[.slice none 0 0]) (by kernel_rfl) (by kernel_rfl) rfl (by rfl) (fun h => by cases h)
theorem TT51 : TIok Try.prog 51 ⟨.struct [(0, 49)], 1, 24, [.slice none 0 0], false⟩ := TIok.mk (z := .agg #[.slice none 0 0]) (by kernel_rfl) (by kernel_rfl) rfl (by rfl) (fun h => by cases h)
theorem TT52 : TIok Try.prog 52 ⟨.struct [(0, 51), (1, 4)], 2, 32, [.slice none 0 0, .bool false], false⟩ := TIok.mk (z := .agg #[.slice none 0 0, .bool false]) (by kernel_rfl) (by kernel_rfl) rfl (by rfl) (fun h => by cases h)
theorem TT53 : TIok Try.prog 53 ⟨.struct [(0, 51), (1, 4)], 2, 32, [.slice none 0 0, .bool false], false⟩ := TIok.mk (z := .agg #[.slice none 0 0, .bool false]) (by kernel_rfl) (by kernel_rfl) rfl (by rfl) (fun h => by cases h)
theorem TT54 : TIok Try.prog 54 ⟨.struct [(0, 53), (2, 51)], 3, 56, [.slice none 0 0, .bool false, .slice none 0 0], false⟩ := TIok.mk (z := .agg #[.slice none 0 0, .bool false, .slice none 0 0]) (by kernel_rfl) (by kernel_rfl) rfl (by rfl) (fun h => by cases h)
theorem TT55 : TIok Try.prog 55 ⟨.struct [(0, 53), (2, 51)], 3, 56, [.slice none 0 0, .bool false, .slice none 0 0], false⟩ := TIok.mk (z := .agg #[.slice none 0 0, .bool false, .slice none 0 0]) (by kernel_rfl) (by kernel_rfl) rfl (by rfl) (fun h => by cases h)
theorem TT71 : TIok Try.prog 71 ⟨.struct [(0, 4), (1, 9), (2, 9)], 3, 40, [.bool false, .string ByteArray.empty, .string ByteArray.empty], true⟩ := TIok.mk (z := .agg #[.bool false, .string ByteArray.empty, .string ByteArray.empty]) (by kernel_rfl) (by kernel_rfl) rfl (by rfl) (fun _ => by kernel_rfl)
theorem TT72 : TIok Try.prog 72 ⟨.struct [(0, 4), (1, 9), (2, 9)], 3, 40, [.bool false, .string ByteArray.empty, .string ByteArray.empty], true⟩ := TIok.mk (z := .agg #[.bool false, .string ByteArray.empty, .string ByteArray.empty]) (by kernel_rfl) (by kernel_rfl) rfl (by rfl) (fun _ => by kernel_rfl)
theorem TT85 : TIok Try.prog 85 ⟨.int .u64, 1, 8, [.int .u64 0], false⟩ := TIok.mk (z := .int .u64 0) (by kernel_rfl) (by kernel_rfl) rfl (by rfl) (fun h => by cases h)
theorem TT100 : TIok Try.prog 100 ⟨.int .u64, 1, 8, [.int .u64 0], false⟩ := TIok.mk (z := .int .u64 0) (by kernel_rfl) (by kernel_rfl) rfl (by rfl) (fun h => by cases h)
theorem TT105 : TIok Try.prog 105 ⟨.struct [(0, 4), (1, 9)], 2, 24, [.bool false, .string ByteArray.empty], true⟩ := TIok.mk (z := .agg #[.bool false, .string ByteArray.empty]) (by kernel_rfl) (by kernel_rfl) rfl (by rfl) (fun _ => by kernel_rfl)
theorem TT106 : TIok Try.prog 106 ⟨.struct [(0, 4), (1, 9)], 2, 24, [.bool false, .string ByteArray.empty], true⟩ := TIok.mk (z := .agg #[.bool false, .string ByteArray.empty]) (by kernel_rfl) (by kernel_rfl) rfl (by rfl) (fun _ => by kernel_rfl)
theorem TT115 : TIok Try.prog 115 ⟨.int .u32, 1, 4, [.int .u32 0], false⟩ := TIok.mk (z := .int .u32 0) (by kernel_rfl) (by kernel_rfl) rfl (by rfl) (fun h => by cases h)
theorem TT126 : TIok Try.prog 126 ⟨.slice 25, 1, 24, [.slice none 0 0], false⟩ := TIok.mk (z := .slice none 0 0) (by kernel_rfl) (by kernel_rfl) rfl (by rfl) (fun h => by cases h)
theorem TT130 : TIok Try.prog 130 ⟨.slice 53, 1, 24, [.slice none 0 0], false⟩ := TIok.mk (z := .slice none 0 0) (by kernel_rfl) (by kernel_rfl) rfl (by rfl) (fun h => by cases h)
theorem TT134 : TIok Try.prog 134 ⟨.slice 5, 1, 24, [.slice none 0 0], false⟩ := TIok.mk (z := .slice none 0 0) (by kernel_rfl) (by kernel_rfl) rfl (by rfl) (fun h => by cases h)
theorem TT148 : TIok Try.prog 148 ⟨.ptr 5, 1, 8, [.pointer none], false⟩ := TIok.mk (z := .pointer none) (by kernel_rfl) (by kernel_rfl) rfl (by rfl) (fun h => by cases h)
set_option maxRecDepth 100000 in
theorem TTok : TTok Try.prog TT := TTok_of (List.forall_mem_cons.2 ⟨TT2, List.forall_mem_cons.2  ⟨TT3, List.forall_mem_cons.2  ⟨TT4, List.forall_mem_cons.2  ⟨TT5, List.forall_mem_cons.2  ⟨TT9, List.forall_mem_cons.2  ⟨TT12, List.forall_mem_cons.2  ⟨TT21, List.forall_mem_cons.2  ⟨TT22, List.forall_mem_cons.2  ⟨TT23, List.forall_mem_cons.2  ⟨TT25, List.forall_mem_cons.2  ⟨TT26, List.forall_mem_cons.2  ⟨TT27, List.forall_mem_cons.2  ⟨TT28, List.forall_mem_cons.2  ⟨TT29, List.forall_mem_cons.2  ⟨TT30, List.forall_mem_cons.2  ⟨TT32, List.forall_mem_cons.2  ⟨TT41, List.forall_mem_cons.2  ⟨TT42, List.forall_mem_cons.2  ⟨TT43, List.forall_mem_cons.2  ⟨TT49, List.forall_mem_cons.2  ⟨TT50, List.forall_mem_cons.2  ⟨TT51, List.forall_mem_cons.2  ⟨TT52, List.forall_mem_cons.2  ⟨TT53, List.forall_mem_cons.2  ⟨TT54, List.forall_mem_cons.2  ⟨TT55, List.forall_mem_cons.2  ⟨TT71, List.forall_mem_cons.2  ⟨TT72, List.forall_mem_cons.2  ⟨TT85, List.forall_mem_cons.2  ⟨TT100, List.forall_mem_cons.2  ⟨TT105, List.forall_mem_cons.2  ⟨TT106, List.forall_mem_cons.2  ⟨TT115, List.forall_mem_cons.2  ⟨TT126, List.forall_mem_cons.2  ⟨TT130, List.forall_mem_cons.2  ⟨TT134, List.forall_mem_cons.2 ⟨TT148, fun _ h => (List.not_mem_nil h).elim⟩⟩⟩⟩⟩⟩⟩⟩⟩⟩⟩⟩⟩⟩⟩⟩⟩⟩⟩⟩⟩⟩⟩⟩⟩⟩⟩⟩⟩⟩⟩⟩⟩⟩⟩⟩⟩)

end
end Go.Proofs.Ytcdeiegpeiodjaa

set_option linter.unusedSimpArgs false
namespace Go.AL
open Go Go.RowKit

def mkT : List (Nat × AV) → Nat → AV
  | [], _ => .any
  | (k, v) :: l, j => bif Nat.beq j k then v else mkT l j
def mkH : List (Nat × LB) → Nat → Option LB
  | [], _ => none
  | (k, v) :: l, j => bif Nat.beq j k then some v else mkH l j
/-- A state in full. -/
def mkS (ts : List (Nat × AV)) (hs : List (Nat × LB)) (n m : Nat) : St := ⟨mkT ts, mkH hs, n, m⟩

/-- Live blocks under their elder numbers. -/
def AV.rn1 (σ : Nat → Nat) : AV → AV
  | .own id o l => .own (σ id) o l
  | .lp id c => .lp (σ id) c
  | .li id r c => .li (σ id) r c
  | .it id => .it (σ id)
  | x => x
def AV.rn (σ : Nat → Nat) : AV → AV
  | .agg cs => .agg (cs.map (AV.rn1 σ))
  | .clo f cs => .clo f (cs.map (AV.rn1 σ))
  | x => x.rn1 σ
/-- Only block numbers below n. -/
def AV.lt1 (n : Nat) : AV → Bool
  | .own id _ _ => Nat.blt id n
  | .lp id _ => Nat.blt id n
  | .li id _ _ => Nat.blt id n
  | .it id => Nat.blt id n
  | .agg _ => false
  | .tup _ => false
  | .clo _ _ => false
  | _ => true
def AV.lt (n : Nat) : AV → Bool
  | .agg cs => cs.all (AV.lt1 n)
  | .clo _ cs => cs.all (AV.lt1 n)
  | x => x.lt1 n

def LB.rn (σ : Nat → Nat) : LB → LB
  | .cells sz rows => .cells sz (rows.map (List.map (AV.rn1 σ)))
  | x => x
def LB.lt (n : Nat) : LB → Bool
  | .cells _ rows => rows.all (List.all · (AV.lt1 n))
  | _ => true
def LB.NoIds : LB → Prop
  | .cells _ rows => ∀ r ∈ rows, ∀ x ∈ r, NoId x
  | _ => True

def σf : List (Nat × Nat) → Nat → Nat
  | [], j => j
  | (k, v) :: l, j => bif Nat.beq j k then v else σf l j

def okT (s : St) (σ : Nat → Nat) (n : Nat) : List (Nat × AV) → Prop
  | [] => True
  | (k, v) :: l => (s.t k = v.rn σ ∧ v.lt n = true) ∧ okT s σ n l
/-- A block is as it was, and names no block; or its cells' block numbers are told. -/
def okB (s : St) (σ : Nat → Nat) (n : Nat) (k : Nat) (lb : LB) : Prop :=
  Nat.blt k n = true ∧ ((s.h (σ k) = some lb ∧ lb.NoIds) ∨ (s.h (σ k) = some (lb.rn σ) ∧ lb.lt n = true))
def okH (s : St) (σ : Nat → Nat) (n : Nat) : List (Nat × LB) → Prop
  | [] => True
  | (k, lb) :: l => okB s σ n k lb ∧ okH s σ n l

def distinct : List Nat → Bool
  | [] => true
  | x :: l => l.all (fun y => !Nat.beq x y) && distinct l

section
variable {gh : Array Value} {w0 w : World} {F0 F : Nat → Prop} {ρ : Nat → Option BI} {s : St} {a : Act}

def rnρ (ρ : Nat → Option BI) (σ : Nat → Nat) (n : Nat) : Nat → Option BI := fun id => if id < n then ρ (σ id) else none

theorem VR.rn1 {σ : Nat → Nat} {n : Nat} {v : Value} {x : AV} (hx : x.lt1 n = true) (h : VR w F ρ v (x.rn1 σ)) : VR w F (rnρ ρ σ n) v x := by
  have key : ∀ {id : Nat} {bi : BI}, Nat.blt id n = true → ρ (σ id) = some bi → rnρ ρ σ n id = some bi := by
    intro id bi hlt hr
    simp only [rnρ, Nat.blt_eq.mp hlt, if_true, hr]
  cases x with
  | any => exact .any v
  | val u => cases h; exact .val _
  | agg cs => cases hx
  | tup cs => cases hx
  | sl sz rows t =>
    cases h with
    | sl A m c _ _ _ b o vals hn hc ht hw hA h0 h1 h2 hno => exact .sl A m c sz rows t b o vals hn hc ht hw hA h0 h1 (fun j y hy => (h2 j y hy).noid (hno j y hy)) hno
  | fp row c =>
    cases h with
    | fp _ _ b o vals hF h0 h1 h2 hno => exact .fp row c b o vals hF h0 h1 (fun j y hy => (h2 j y hy).noid (hno j y hy)) hno
  | own id o l =>
    cases h with
    | own A _ _ _ cap bi hr hl hA => exact .own A id o l cap bi (key hx hr) hl hA
  | lp id c => cases h with | lp _ _ bi hr => exact .lp id c bi (key hx hr)
  | li id r c => cases h with | li _ _ _ bi hr => exact .li id r c bi (key hx hr)
  | it id => cases h with | it _ bi hr => exact .it id bi (key hx hr)
  | clo f cs => cases hx

theorem VR.rn {σ : Nat → Nat} {n : Nat} {v : Value} {x : AV} (hx : x.lt n = true) (h : VR w F ρ v (x.rn σ)) : VR w F (rnρ ρ σ n) v x := by
  cases x with
  | agg cs =>
    cases h with
    | agg vs _ hl h1 h2 =>
      have get : ∀ (i : Nat) (y : AV), cs[i]? = some y → (cs.map (AV.rn1 σ))[i]? = some (y.rn1 σ) := fun i y hy => by rw [List.getElem?_map, hy]; rfl
      exact .agg vs cs (by simpa using hl) (fun i y hy => h1 i _ (get i y hy)) (fun i y hy => (h2 i _ (get i y hy)).rn1 (List.all_eq_true.1 hx y (List.mem_of_getElem? hy)))
  | clo f cs =>
    cases h with
    | clo _ vs _ hl h2 =>
      have get : ∀ (i : Nat) (y : AV), cs[i]? = some y → (cs.map (AV.rn1 σ))[i]? = some (y.rn1 σ) := fun i y hy => by rw [List.getElem?_map, hy]; rfl
      exact .clo f vs cs (by simpa using hl) (fun i y hy => (h2 i _ (get i y hy)).rn1 (List.all_eq_true.1 hx y (List.mem_of_getElem? hy)))
  | _ => exact VR.rn1 hx h

theorem okT_at {σ : Nat → Nat} {n : Nat} : ∀ (ts : List (Nat × AV)), okT s σ n ts → ∀ k, mkT ts k = .any ∨ (s.t k = (mkT ts k).rn σ ∧ (mkT ts k).lt n = true)
  | [], _, k => .inl rfl
  | (j, v) :: l, h, k => by
    unfold mkT
    cases hb : Nat.beq k j with
    | true =>
      have e := Nat.eq_of_beq_eq_true hb
      subst e
      exact .inr h.1
    | false => exact okT_at l h.2 k

theorem okH_at {σ : Nat → Nat} {n : Nat} : ∀ (hs : List (Nat × LB)), okH s σ n hs → ∀ k lb, mkH hs k = some lb → okB s σ n k lb ∧ k ∈ hs.map (·.1)
  | [], _, k, lb, h => by cases h
  | (j, v) :: l, h, k, lb, hk => by
    unfold mkH at hk
    cases hb : Nat.beq k j with
    | true =>
      have e := Nat.eq_of_beq_eq_true hb
      subst e
      rw [hb] at hk
      injection hk with hk
      subst hk
      exact ⟨h.1, by simp⟩
    | false =>
      rw [hb] at hk
      have := okH_at l h.2 k lb hk
      exact ⟨this.1, by simp [this.2]⟩

theorem distinct_inj : ∀ (l : List Nat) (σ : Nat → Nat), distinct (l.map σ) = true → ∀ i ∈ l, ∀ j ∈ l, i ≠ j → σ i ≠ σ j
  | [], _, _, i, hi => by cases hi
  | x :: l, σ, h, i, hi => by
    intro j hj hne
    simp only [List.map_cons, distinct, Bool.and_eq_true, List.all_eq_true] at h
    have hx : ∀ y ∈ l, σ x ≠ σ y := fun y hy e => by
      have := h.1 (σ y) (List.mem_map.2 ⟨y, hy, rfl⟩)
      rw [e] at this
      simp [Nat.beq_refl] at this
    rcases List.mem_cons.1 hi with rfl | hi'
    · rcases List.mem_cons.1 hj with rfl | hj'
      · exact absurd rfl hne
      · exact hx j hj'
    · rcases List.mem_cons.1 hj with rfl | hj'
      · exact (hx i hi').symm
      · exact distinct_inj l σ h.2 i hi' j hj' hne

/-- A state in full, weaker than another one. -/
theorem Wk.of (σ : Nat → Nat) (ts : List (Nat × AV)) (hs : List (Nat × LB)) (n m : Nat) (hm : s.m = m) (ht : okT s σ n ts) (hh : okH s σ n hs) (hd : distinct ((hs.map (·.1)).map σ) = true) : Wk s (mkS ts hs n m) := by
  intro gh w0 F0 a w ⟨F, ρ, hR⟩
  refine ⟨F, rnρ ρ σ n, hR.defers, by rw [hR.size, hm]; rfl, (by show m ≤ 1000000; rw [← hm]; exact hR.mle), hR.below, hR.Fb, hR.F0F, hR.Fnew, fun t => ?_, fun id lb hl => ?_, fun id id' bi bi' h1 h2 r1 r2 p1 p2 hne => ?_, fun id hid => ?_⟩
  · show VR w F _ _ (mkT ts t)
    rcases okT_at ts ht t with h | ⟨h1, h2⟩
    · rw [h]; exact .any _
    · have := hR.vals t
      rw [h1] at this
      exact this.rn h2
  · obtain ⟨⟨hlt, hb⟩, _⟩ := okH_at hs hh id lb hl
    have hlt' : id < n := Nat.blt_eq.mp hlt
    rcases hb with ⟨hb, hno⟩ | ⟨hb, hltb⟩
    · obtain ⟨bi, q1, q2, q3⟩ := hR.blks _ _ hb
      refine ⟨bi, by simp [rnρ, hlt', q1], ?_, q3⟩
      cases lb with
      | iter sv pos => exact q2
      | cells sz rows =>
        obtain ⟨c1, c2, c3, c4⟩ := q2
        refine ⟨c1, c2, c3, fun hp => ?_⟩
        obtain ⟨cs, ty, d1, d2, d3, d4⟩ := c4 hp
        exact ⟨cs, ty, d1, d2, d3, fun j x hx => ⟨(d4 j x hx).1, (d4 j x hx).2.noid (mem_flat hno hx)⟩⟩
    · obtain ⟨bi, q1, q2, q3⟩ := hR.blks _ _ hb
      refine ⟨bi, by simp [rnρ, hlt', q1], ?_, q3⟩
      cases lb with
      | iter sv pos => exact q2
      | cells sz rows =>
        obtain ⟨c1, c2, c3, c4⟩ := q2
        have hfl : (rows.map (List.map (AV.rn1 σ))).flatten = rows.flatten.map (AV.rn1 σ) := by rw [List.map_flatten]
        have hltr : ∀ x ∈ rows.flatten, x.lt1 n = true := fun x hx => by
          obtain ⟨r, hr, hxr⟩ := List.mem_flatten.1 hx
          exact List.all_eq_true.1 (List.all_eq_true.1 hltb r hr) x hxr
        refine ⟨c1, fun r hr => ?_, fun h0 => ?_, fun hp => ?_⟩
        · have := c2 (r.map (AV.rn1 σ)) (List.mem_map.2 ⟨r, hr, rfl⟩)
          simpa using this
        · have := c3 h0
          rw [hfl] at this
          exact List.map_eq_nil_iff.1 this
        · obtain ⟨cs, ty, d1, d2, d3, d4⟩ := c4 hp
          refine ⟨cs, ty, d1, d2, by simpa using d3, fun j x hx => ?_⟩
          have hx' : (rows.map (List.map (AV.rn1 σ))).flatten[j]? = some (x.rn1 σ) := by rw [hfl, List.getElem?_map, hx]; rfl
          exact ⟨(d4 j _ hx').1, (d4 j _ hx').2.rn1 (hltr x (List.mem_of_getElem? hx))⟩
  · obtain ⟨l1, g1⟩ := Option.isSome_iff_exists.1 h1
    obtain ⟨l2, g2⟩ := Option.isSome_iff_exists.1 h2
    obtain ⟨⟨hlt1, hb1⟩, hm1⟩ := okH_at hs hh id l1 g1
    obtain ⟨⟨hlt2, hb2⟩, hm2⟩ := okH_at hs hh id' l2 g2
    have e1 : id < n := Nat.blt_eq.mp hlt1
    have e2 : id' < n := Nat.blt_eq.mp hlt2
    simp only [rnρ, e1, e2, if_true] at r1 r2
    have hs1 : (s.h (σ id)).isSome = true := by rcases hb1 with h | h <;> rw [h.1] <;> rfl
    have hs2 : (s.h (σ id')).isSome = true := by rcases hb2 with h | h <;> rw [h.1] <;> rfl
    exact hR.inj _ _ bi bi' hs1 hs2 r1 r2 p1 p2 (distinct_inj _ σ hd id hm1 id' hm2 hne)
  · have hid' : n ≤ id := hid
    simp only [rnρ]
    rw [if_neg (by omega)]

end

theorem SW.awp {P : Program} {TT : Nat → Option TI} (hT : TTok P TT) {c : Code} {Q : Exit → St → Prop} {s : St} (h : AL.awp P TT c Q s) : SW P c Q s := awp_sound hT c Q s h

theorem irows_noid (k : IntKind) (ns : List Int) : ∀ r ∈ irows k ns, ∀ x ∈ r, NoId x := by
  intro r hr x hx
  obtain ⟨n, _, rfl⟩ := List.mem_map.1 hr
  simp at hx
  subst hx
  exact .val _
theorem irows_len (k : IntKind) (ns : List Int) : (irows k ns).length = ns.length := by simp [irows]
theorem irows_get (k : IntKind) (ns : List Int) {i : Nat} {n : Int} (h : ns[i]? = some n) : (irows k ns)[i]? = some [.val (.int k n)] := by simp [irows, h]
theorem irows_set (k : IntKind) (ns : List Int) (i : Nat) (n : Int) : (irows k ns).set i [.val (.int k n)] = irows k (ns.set i n) := by simp [irows, List.map_set]
theorem irows_take (k : IntKind) (ns : List Int) (i : Nat) : (irows k ns).take i = irows k (ns.take i) := by simp [irows]
theorem irows_drop (k : IntKind) (ns : List Int) (i : Nat) : (irows k ns).drop i = irows k (ns.drop i) := by simp [irows]
theorem irows_append (k : IntKind) (a b : List Int) : irows k a ++ irows k b = irows k (a ++ b) := by simp [irows]
theorem irows_rep (k : IntKind) (n : Nat) (v : Int) : List.replicate n [AV.val (.int k v)] = irows k (List.replicate n v) := by simp [irows]

end Go.AL

set_option linter.unusedSimpArgs false
namespace Go.AL
open Go Go.RowKit

/-- The live blocks that a value names. -/
def ids1 : AV → List Nat
  | .own id _ _ => [id]
  | .lp id _ => [id]
  | .li id _ _ => [id]
  | .it id => [id]
  | _ => []
def idsOf : AV → List Nat
  | .agg cs => cs.flatMap ids1
  | .tup _ => []
  | .clo _ cs => cs.flatMap ids1
  | x => ids1 x
def opIds (o : Oper) (ev : Operand → AV) : List Nat := o.op.operands.toList.flatMap fun x => idsOf (ev x)
/-- May it change a live block? -/
def isW : Op → Bool
  | .store .. | .next .. | .call _ | .buildSlice .. => true
  | _ => false

section
variable {TT : Nat → Option TI} {ev ev' : Operand → AV} {h h' : Nat → Option LB} {b : Nat}

theorem mem_opIds {o : Oper} {x : Operand} {id : Nat} (hx : x ∈ o.op.operands) (hid : id ∈ idsOf (ev x)) : id ∈ opIds o ev :=
  List.mem_flatMap.2 ⟨x, by simpa using hx, hid⟩

theorem rload_local {i : TI} {x : AV} (hh : ∀ id ∈ idsOf x, h id = h' id) : rload i h x = rload i h' x := by
  cases x with
  | lp id c => simp only [rload, hh id (by simp [idsOf, ids1])]
  | li id r c => simp only [rload, hh id (by simp [idsOf, ids1])]
  | _ => rfl
theorem rstore_local {i : TI} {xs : List AV} {x : AV} (hh : ∀ id ∈ idsOf x, h id = h' id) : rstore i h xs x = rstore i h' xs x := by
  cases x with
  | lp id c => simp only [rstore, hh id (by simp [idsOf, ids1])]
  | li id r c => simp only [rstore, hh id (by simp [idsOf, ids1])]
  | _ => rfl
theorem rslice_local {i : TI} {x : AV} {lo hi mx : Option AV} (hh : ∀ id ∈ idsOf x, h id = h' id) : rslice i TT h x lo hi mx = rslice i TT h' x lo hi mx := by
  unfold rslice
  cases x with
  | own id o l =>
    have e := hh id (by simp [idsOf, ids1])
    cases i.d <;> simp only [e]
  | val v => cases i.d <;> cases v <;> rfl
  | _ => cases i.d <;> rfl
theorem rindexAddr_local {j : TI} {i : Int} {x : AV} (hh : ∀ id ∈ idsOf x, h id = h' id) : rindexAddr j h i x = rindexAddr j h' i x := by
  cases x with
  | own id o l => simp only [rindexAddr, hh id (by simp [idsOf, ids1])]
  | _ => rfl
theorem rconv_local {p q : TI} {x : AV} (hh : ∀ id ∈ idsOf x, h id = h' id) : rconv TT b h p q x = rconv TT b h' p q x := by
  unfold rconv
  cases x with
  | own id o l =>
    have e := hh id (by simp [idsOf, ids1])
    cases q.d <;> simp only [e]
  | val v => cases q.d <;> cases v <;> rfl
  | _ => cases q.d <;> rfl
theorem rsrc_local {x : AV} (hh : ∀ id ∈ idsOf x, h id = h' id) : rsrc h x = rsrc h' x := by
  cases x with
  | own id o l => simp only [rsrc, hh id (by simp [idsOf, ids1])]
  | val v => cases v <;> rfl
  | _ => rfl
theorem rappend_local {j : TI} {x y : AV} (hx : ∀ id ∈ idsOf x, h id = h' id) (hy : ∀ id ∈ idsOf y, h id = h' id) : rappend j b h x y = rappend j b h' x y := by
  unfold rappend
  rw [rsrc_local hy]
  cases x with
  | own id o l => simp only [hx id (by simp [idsOf, ids1])]
  | sl a b t => cases t <;> rfl
  | _ => rfl
theorem rcopy_local {j : TI} {x y : AV} (hx : ∀ id ∈ idsOf x, h id = h' id) (hy : ∀ id ∈ idsOf y, h id = h' id) : rcopy j h x y = rcopy j h' x y := by
  unfold rcopy
  rw [rsrc_local hy]
  generalize rsrc h' y = z
  cases z with
  | none => cases x <;> rfl
  | some z =>
    obtain ⟨sz', ys, ps, acc⟩ := z
    cases x with
    | own id o l => simp only [hx id (by simp [idsOf, ids1])]
    | _ => rfl

theorem updsH_agree : ∀ (u : Ups) (h h' : Nat → Option LB) (id : Nat), h id = h' id → updsH h u id = updsH h' u id
  | [], h, h', id, he => he
  | (d, v) :: u, h, h', id, he => by
    refine updsH_agree u _ _ id ?_
    unfold updH
    rw [he]

theorem frz_local {x : AV} (hh : ∀ id ∈ ids1 x, h id = h' id) : frz h x = frz h' x := by
  cases x with
  | own id o l => simp only [frz, hh id (by simp [ids1])]
  | _ => rfl
theorem frzL_local : ∀ (xs : List AV) (h h' : Nat → Option LB), (∀ id ∈ xs.flatMap ids1, h id = h' id) → frzL h xs = frzL h' xs
  | [], _, _, _ => rfl
  | x :: xs, h, h', hh => by
    simp only [frzL]
    rw [frz_local (h := h) (h' := h') (fun id hid => hh id (by simp [hid]))]
    cases hf : frz h' x with
    | none => rfl
    | some q =>
      obtain ⟨x', p, u, a⟩ := q
      simp only
      rw [frzL_local xs (updsH h u) (updsH h' u) (fun id hid => updsH_agree u h h' id (hh id (by simp only [List.flatMap_cons, List.mem_append]; exact .inr hid)))]
theorem frzA_local : ∀ (xs : List AV) (h h' : Nat → Option LB), (∀ id ∈ xs.flatMap idsOf, h id = h' id) → frzA h xs = frzA h' xs
  | [], _, _, _ => rfl
  | x :: xs, h, h', hh => by
    have hx : ∀ id ∈ idsOf x, h id = h' id := fun id hid => hh id (by simp only [List.flatMap_cons, List.mem_append]; exact .inl hid)
    have hxs : ∀ u : Ups, frzA (updsH h u) xs = frzA (updsH h' u) xs := fun u =>
      frzA_local xs (updsH h u) (updsH h' u) (fun id hid => updsH_agree u h h' id (hh id (by simp only [List.flatMap_cons, List.mem_append]; exact .inr hid)))
    cases x with
    | agg cs =>
      simp only [frzA]
      rw [frzL_local cs h h' hx]
      cases frzL h' cs with
      | none => rfl
      | some q => obtain ⟨x', p, u, a⟩ := q; simp only; rw [hxs u]
    | tup cs =>
      simp only [frzA, frz]
      rw [hxs []]
    | any => simp only [frzA, frz]; rw [hxs []]
    | val v => simp only [frzA, frz]; rw [hxs []]
    | sl a b c => simp only [frzA, frz]; rw [hxs []]
    | fp a b => simp only [frzA, frz]; rw [hxs []]
    | own id o l =>
      simp only [frzA]
      rw [frz_local (h := h) (h' := h') (x := .own id o l) hx]
      cases frz h' (.own id o l) with
      | none => rfl
      | some q => obtain ⟨x', p, u, a⟩ := q; simp only; rw [hxs u]
    | lp id c => rfl
    | li id r c => rfl
    | it id => rfl
    | clo f cs => rfl

theorem rcall_local {c : Call} (hh : ∀ x ∈ c.args.toList, ∀ id ∈ idsOf (ev x), h id = h' id) : rcall TT ev h b c = rcall TT ev h' b c := by
  unfold rcall
  cases c.callee with
  | builtin bb =>
    have two : ∀ {x y : AV}, c.args.toList.map ev = [x, y] → (∀ id ∈ idsOf x, h id = h' id) ∧ (∀ id ∈ idsOf y, h id = h' id) := by
      intro x y he
      obtain ⟨p, q, hpq, rfl, rfl⟩ := args_two he
      have e : c.args.toList = [p, q] := by rw [hpq]
      exact ⟨hh p (by simp [e]), hh q (by simp [e])⟩
    cases bb <;> try rfl
    · -- append
      rcases hl : c.args.toList.map ev with _ | ⟨x, _ | ⟨y, _ | ⟨z, l⟩⟩⟩ <;> try rfl
      obtain ⟨h1, h2⟩ := two hl
      have e : ∀ j, rappend j b h x y = rappend j b h' x y := fun j => rappend_local h1 h2
      rcases c.argTypes.toList with _ | ⟨t, _ | ⟨u, _ | ⟨z, l⟩⟩⟩ <;> first | rfl | simp only [e]
    · -- cap
      rcases hl : c.args.toList.map ev with _ | ⟨x, _ | ⟨y, l⟩⟩ <;> rcases c.argTypes.toList with _ | ⟨t, l⟩ <;> rfl
    · -- copy
      rcases hl : c.args.toList.map ev with _ | ⟨x, _ | ⟨y, _ | ⟨z, l⟩⟩⟩ <;> try rfl
      obtain ⟨h1, h2⟩ := two hl
      have e : ∀ j, rcopy j h x y = rcopy j h' x y := fun j => rcopy_local h1 h2
      rcases c.argTypes.toList with _ | ⟨t, l⟩ <;> first | rfl | simp only [e]
    · rcases hl : c.args.toList.map ev with _ | ⟨x, _ | ⟨y, l⟩⟩ <;> rcases c.argTypes.toList with _ | ⟨t, l⟩ <;> rfl
  | value f =>
    simp only
    rw [frzA_local _ h h' (fun id hid => by
      obtain ⟨y, hy, hid⟩ := List.mem_flatMap.1 hid
      obtain ⟨x, hx, rfl⟩ := List.mem_map.1 hy
      exact hh x hx id hid)]
  | invoke _ _ => rfl

theorem aop_local {o : Oper} (hh : ∀ id ∈ opIds o ev, h id = h' id) : aop TT o ev h b = aop TT o ev h' b := by
  have at_ : ∀ x ∈ o.op.operands, ∀ id ∈ idsOf (ev x), h id = h' id := fun x hx id hid => hh id (mem_opIds hx hid)
  obtain ⟨dst, op, ty, pos, after, guard⟩ := o
  cases op <;> try rfl
  case buildSlice t n ps =>
    simp only [aop]
    rw [frzA_local _ h h' (fun id hid => by
      obtain ⟨y, hy, hid⟩ := List.mem_flatMap.1 hid
      obtain ⟨x, hx, rfl⟩ := List.mem_map.1 hy
      exact at_ x.2 (by simp only [Op.operands]; simpa using ⟨x.1, by simpa using hx⟩) id hid)]
  case load t x =>
    have e : ∀ i, rload i h (ev x) = rload i h' (ev x) := fun i => rload_local (at_ x (by simp [Op.operands]))
    simp only [aop, e]
  case store t x y =>
    have e : ∀ i xs, rstore i h xs (ev x) = rstore i h' xs (ev x) := fun i xs => rstore_local (at_ x (by simp [Op.operands]))
    simp only [aop, e]
  case convert s d x =>
    have e : ∀ p q, rconv TT b h p q (ev x) = rconv TT b h' p q (ev x) := fun p q => rconv_local (at_ x (by simp [Op.operands]))
    simp only [aop, e]
  case slice t x lo hi mx =>
    have e : ∀ i l u m, rslice i TT h (ev x) l u m = rslice i TT h' (ev x) l u m := fun i l u m => rslice_local (at_ x (by simp [Op.operands]))
    simp only [aop, e]
  case indexAddr t x ix =>
    have e : ∀ j i, rindexAddr j h i (ev x) = rindexAddr j h' i (ev x) := fun j i => rindexAddr_local (at_ x (by simp [Op.operands]))
    simp only [aop, e]
  case makeFunc fn first caps =>
    cases fn <;> try rfl
    obtain ⟨l⟩ := first
    cases l <;> rfl
  case next x k =>
    cases k with
    | false => rfl
    | true =>
      simp only [aop]
      have hx := at_ x (by simp [Op.operands])
      cases he : ev x with
      | it id => rw [he] at hx; simp only; rw [hx id (by simp [idsOf, ids1])]
      | _ => rfl
  case call c =>
    simp only [aop]
    exact rcall_local (fun x hx => at_ x (by simp only [Op.operands, Call.operands, Array.mem_append]; right; simpa using hx))

theorem aop_congr {o : Oper} (he : ∀ x ∈ o.op.operands, ev x = ev' x) : aop TT o ev h b = aop TT o ev' h b := by
  obtain ⟨dst, op, ty, pos, after, guard⟩ := o
  have pairs : ∀ ps : Array (Nat × Operand), (∀ x ∈ (ps.toList.map (·.2)).toArray, ev x = ev' x) → (ps.toList.map fun p => (p.1, ev p.2)) = (ps.toList.map fun p => (p.1, ev' p.2)) := fun ps hp =>
    List.map_congr_left fun p hm => by rw [hp p.2 (by simpa using ⟨p.1, by simpa using hm⟩)]
  cases op <;> try rfl
  all_goals simp only [Op.operands] at he
  case build t ps => simp only [aop]; rw [pairs ps he]
  case buildSlice t n ps =>
    have e2 : (ps.toList.map fun p => ev p.2) = (ps.toList.map fun p => ev' p.2) := List.map_congr_left fun p hm => by rw [he p.2 (by simpa using ⟨p.1, by simpa using hm⟩)]
    simp only [aop]; rw [pairs ps he, e2]
  case call c =>
    simp only [aop]
    have hargs : c.args.toList.map ev = c.args.toList.map ev' := List.map_congr_left fun x hx => he x (by simp only [Call.operands, Array.mem_append]; right; simpa using hx)
    unfold rcall
    rw [hargs]
    cases hc : c.callee with
    | value f => simp only [he f (by simp [Call.operands, hc])]
    | _ => rfl
  case slice t x lo hi mx =>
    simp only [aop]
    have hx := he x (by simp)
    have hl : lo.map ev = lo.map ev' := by cases lo with | none => rfl | some y => simp [he y (by simp)]
    have hh : hi.map ev = hi.map ev' := by cases hi with | none => rfl | some y => simp [he y (by simp)]
    have hm : mx.map ev = mx.map ev' := by cases mx with | none => rfl | some y => simp [he y (by simp)]
    rw [hx, hl, hh, hm]
  case pick c a b => simp only [aop]; rw [he c (by simp), he a (by simp), he b (by simp)]
  case store t x y => simp only [aop]; rw [he x (by simp), he y (by simp)]
  case binOp p t x y u => simp only [aop]; rw [he x (by simp), he y (by simp)]
  case makeSlice t x y => simp only [aop]; rw [he x (by simp), he y (by simp)]
  case indexAddr t x y => simp only [aop]; rw [he x (by simp), he y (by simp)]
  case index t x y => simp only [aop]; rw [he x (by simp), he y (by simp)]
  case next x k =>
    cases k with
    | false => rfl
    | true => simp only [aop]; rw [he x (by simp)]
  case move x => simp only [aop, he x (by simp)]
  case assign x => simp only [aop, he x (by simp)]
  case box e x => simp only [aop, he x (by simp)]
  case load t x => simp only [aop, he x (by simp)]
  case nilCheck x => simp only [aop, he x (by simp)]
  case unOp p t x => simp only [aop, he x (by simp)]
  case convert s d x => simp only [aop, he x (by simp)]
  case fieldAddr s x f => simp only [aop, he x (by simp)]
  case field s x f => simp only [aop, he x (by simp)]
  case range t x => simp only [aop, he x (by simp)]
  case extract x i => simp only [aop, he x (by simp)]
  case makeFunc fn first caps =>
    cases fn <;> try rfl
    rename_i f
    obtain ⟨l⟩ := first
    cases l with
    | nil =>
      have e : caps.toList.map ev = caps.toList.map ev' := List.map_congr_left fun x hx => he x (by simpa using hx)
      simp only [aop]
      rw [e]
    | cons y l => rfl
end

end Go.AL

set_option linter.unusedSimpArgs false
namespace Go.AL
open Go Go.RowKit

theorem frz_ups {h : Nat → Option LB} {x x' : AV} {ps : List Prop} {u : Ups} {acc : Accs} (hf : frz h x = some (x', ps, u, acc)) : ∀ p ∈ u, p.1 ∈ ids1 x := by
  cases x with
  | own id o l =>
    simp only [frz] at hf
    split at hf
    · rename_i sz rows _
      cases hz : Nat.beq sz 0 with
      | true => simp [hz] at hf
      | false =>
        simp only [hz, cond_false, Option.some.injEq, Prod.mk.injEq] at hf
        obtain ⟨_, _, rfl, _⟩ := hf
        intro p hp
        simp at hp
        simp [hp, ids1]
    · cases hf
  | lp _ _ => cases hf
  | li _ _ _ => cases hf
  | it _ => cases hf
  | clo _ _ => cases hf
  | _ =>
    simp only [frz, Option.some.injEq, Prod.mk.injEq] at hf
    obtain ⟨_, _, rfl, _⟩ := hf
    intro p hp; cases hp

theorem frzL_ups : ∀ (xs : List AV) (h : Nat → Option LB) (xs' : List AV) (ps : List Prop) (u : Ups) (acc : Accs), frzL h xs = some (xs', ps, u, acc) → ∀ p ∈ u, p.1 ∈ xs.flatMap ids1
  | [], h, xs', ps, u, acc, hf => by
    simp only [frzL, Option.some.injEq, Prod.mk.injEq] at hf
    obtain ⟨_, _, rfl, _⟩ := hf
    intro p hp; cases hp
  | x :: xs, h, xs', ps, u, acc, hf => by
    simp only [frzL] at hf
    cases h1 : frz h x with
    | none => simp [h1] at hf
    | some q =>
      obtain ⟨x1, p1, u1, a1⟩ := q
      simp only [h1] at hf
      cases h2 : frzL (updsH h u1) xs with
      | none => simp [h2] at hf
      | some q =>
        obtain ⟨xs2, p2, u2, a2⟩ := q
        simp only [h2, Option.some.injEq, Prod.mk.injEq] at hf
        obtain ⟨_, _, rfl, _⟩ := hf
        intro p hp
        rw [List.flatMap_cons, List.mem_append]
        rcases List.mem_append.1 hp with hp | hp
        · exact .inl (frz_ups h1 p hp)
        · exact .inr (frzL_ups xs _ _ _ _ _ h2 p hp)

theorem frzA_ups : ∀ (xs : List AV) (h : Nat → Option LB) (xs' : List AV) (ps : List Prop) (u : Ups) (acc : Accs), frzA h xs = some (xs', ps, u, acc) → ∀ p ∈ u, p.1 ∈ xs.flatMap idsOf
  | [], h, xs', ps, u, acc, hf => by
    simp only [frzA, Option.some.injEq, Prod.mk.injEq] at hf
    obtain ⟨_, _, rfl, _⟩ := hf
    intro p hp; cases hp
  | x :: xs, h, xs', ps, u, acc, hf => by
    have step : ∀ (x1 : AV) (p1 : List Prop) (u1 : Ups) (a1 : Accs), (∀ p ∈ u1, p.1 ∈ idsOf x) →
        (match frzA (updsH h u1) xs with
          | some (xs2, p2, u2, a2) => some (x1 :: xs2, p1 ++ p2, u1 ++ u2, a1 ++ a2)
          | none => none) = some (xs', ps, u, acc) → ∀ p ∈ u, p.1 ∈ (x :: xs).flatMap idsOf := by
      intro x1 p1 u1 a1 hone hf
      cases h2 : frzA (updsH h u1) xs with
      | none => simp [h2] at hf
      | some q =>
        obtain ⟨xs2, p2, u2, a2⟩ := q
        simp only [h2, Option.some.injEq, Prod.mk.injEq] at hf
        obtain ⟨_, _, rfl, _⟩ := hf
        intro p hp
        rw [List.flatMap_cons, List.mem_append]
        rcases List.mem_append.1 hp with hp | hp
        · exact .inl (hone p hp)
        · exact .inr (frzA_ups xs _ _ _ _ _ h2 p hp)
    have two : ∀ (hne : ∀ cs, x ≠ .agg cs), (match frz h x with
        | some (x', p, u, a) => match frzA (updsH h u) xs with
          | some (xs', p', u', a') => some (x' :: xs', p ++ p', u ++ u', a ++ a')
          | none => none
        | none => none) = some (xs', ps, u, acc) → ∀ p ∈ u, p.1 ∈ (x :: xs).flatMap idsOf := by
      intro hne hf
      cases h1 : frz h x with
      | none => simp [h1] at hf
      | some q =>
        obtain ⟨x1, p1, u1, a1⟩ := q
        simp only [h1] at hf
        refine step x1 p1 u1 a1 (fun p hp => ?_) hf
        have hm := frz_ups h1 p hp
        cases x with
        | agg cs => exact absurd rfl (hne cs)
        | tup cs => exact absurd hm (by simp [ids1])
        | clo f cs => exact absurd hm (by simp [ids1])
        | _ => exact hm
    cases x with
    | agg cs =>
      simp only [frzA] at hf
      cases h1 : frzL h cs with
      | none => simp [h1] at hf
      | some q =>
        obtain ⟨x1, p1, u1, a1⟩ := q
        simp only [h1] at hf
        exact step (.agg x1) p1 u1 a1 (fun p hp => frzL_ups cs h _ _ _ _ h1 p hp) hf
    | _ => exact two (fun cs e => by cases e) hf

/-- What an operation changes: live blocks that its operands name, if it may; or new ones. -/
def UpsOk (o : Oper) (ev : Operand → AV) (b : Nat) (u : Ups) : Prop := ∀ p ∈ u, (p.1 ∈ opIds o ev ∧ isW o.op = true) ∨ (b ≤ p.1 ∧ p.1 < b + 8)

theorem AStep_ups {P : Program} {TT : Nat → Option TI} {o : Oper} {t : Nat → AV} {h : Nat → Option LB} {b : Nat} {v : AV} {u : Ups} {acc : Accs} (hs : AStep P TT o t h b v u acc) : UpsOk o (aval t) b u := by
  rcases hs with hg | ⟨f, args, ps, u0, r, hg, hp, hA, rfl, rfl⟩
  · have new : ∀ {x : Option LB}, UpsOk o (aval t) b [(b, x)] := fun {x} p hp => by simp at hp; subst hp; exact .inr ⟨Nat.le_refl _, by show b < b + 8; omega⟩
    have nil : UpsOk o (aval t) b [] := fun p hp => by cases hp
    unfold aop at hg
    split at hg
    case h_9 t' x y ho =>
      split at hg
      · rename_i i xs hi hy
        cases hc : (Nat.beq xs.length i.size && !Nat.beq i.size 0) with
        | false => simp [hc] at hg; exact hg.elim
        | true =>
          simp only [hc, cond_true] at hg
          have hw : isW o.op = true := by rw [ho]; rfl
          have main : ∀ p ∈ u, p.1 ∈ idsOf (aval t x) := by
            cases hx : aval t x with
            | lp id c =>
              rw [hx] at hg
              simp only [rstore] at hg
              split at hg
              · rename_i sz row hl
                cases hc2 : (Nat.ble (c + i.size) row.length) with
                | false => simp [hc2] at hg; exact hg.elim
                | true =>
                  simp only [hc2, cond_true] at hg
                  obtain ⟨_, rfl, _⟩ := hg
                  intro p hp; simp at hp; simp [hp, idsOf, ids1]
              · exact hg.elim
            | li id r c =>
              rw [hx] at hg
              simp only [rstore] at hg
              split at hg
              · rename_i sz rows hl
                cases hc2 : (Nat.beq i.size sz && Nat.beq c 0) with
                | true =>
                  simp only [hc2, cond_true] at hg
                  obtain ⟨_, _, rfl, _⟩ := hg
                  intro p hp; simp at hp; simp [hp, idsOf, ids1]
                | false =>
                  simp only [hc2, cond_false] at hg
                  cases hc3 : (Nat.ble (c + i.size) sz) with
                  | false => simp [hc3] at hg; exact hg.elim
                  | true =>
                    simp only [hc3, cond_true] at hg
                    obtain ⟨row, _, _, rfl, _⟩ := hg
                    intro p hp; simp at hp; simp [hp, idsOf, ids1]
              · exact hg.elim
            | _ => rw [hx] at hg; exact hg.elim
          exact fun p hp => .inl ⟨mem_opIds (by rw [ho]; simp [Op.operands]) (main p hp), hw⟩
      · exact hg.elim
    case h_21 x ho =>
      split at hg
      · rename_i id hx
        split at hg
        · rename_i sv pos hl
          have hid : id ∈ opIds o (aval t) := mem_opIds (x := x) (by rw [ho]; simp [Op.operands]) (by rw [hx]; simp [idsOf, ids1])
          rcases hg with ⟨_, _, rfl, _⟩ | ⟨_, _, rfl, _⟩
          · intro p hp; simp at hp; subst hp; exact .inl ⟨hid, by rw [ho]; rfl⟩
          · exact nil
        · exact hg.elim
      · exact hg.elim
    case h_23 c ho =>
      have hw : isW o.op = true := by rw [ho]; rfl
      unfold rcall at hg
      split at hg
      · rename_i bb hc
        split at hg
        · split at hg
          · unfold rlen at hg
            split at hg <;> first | exact hg.elim | (obtain ⟨_, rfl, _⟩ := hg; exact nil)
          · exact hg.elim
        · split at hg
          · unfold rcap at hg
            split at hg <;> first | exact hg.elim | (obtain ⟨_, rfl, _⟩ := hg; exact nil)
          · exact hg.elim
        · rename_i x y t0 u' hargs htys
          obtain ⟨p, q, hpq, rfl, rfl⟩ := args_two hargs
          have hmem : ∀ id ∈ idsOf (aval t p), id ∈ opIds o (aval t) := fun id hid => mem_opIds (x := p) (by rw [ho]; simp [Op.operands, Call.operands, hpq]) hid
          have main : ∀ j, (rappend j b h (aval t p) (aval t q)).gives v u acc → UpsOk o (aval t) b u := by
            intro j hg
            unfold rappend at hg
            split at hg
            · rename_i sz' ys ps acc' hsrc
              cases hc1 : ((Nat.beq j.size sz' || Nat.beq ys.length 0) && !Nat.beq j.bytes 0) with
              | false => simp [hc1] at hg; exact hg.elim
              | true =>
                simp only [hc1, cond_true] at hg
                split at hg
                · rename_i sz rows hx
                  cases hc2 : (Nat.beq j.size sz || Nat.beq rows.length 0) with
                  | false => simp [hc2] at hg; exact hg.elim
                  | true =>
                    simp only [hc2, cond_true] at hg
                    obtain ⟨_, _, rfl, _⟩ := hg
                    exact new
                · rename_i id off len hx
                  split at hg
                  · rename_i sz rows hlb
                    cases hc2 : (Nat.beq j.size sz) with
                    | false => simp [hc2] at hg; exact hg.elim
                    | true =>
                      simp only [hc2, cond_true] at hg
                      obtain ⟨_, _, rfl, _⟩ := hg
                      intro pp hpp
                      rcases List.mem_cons.1 hpp with rfl | hpp
                      · exact .inl ⟨hmem id (by rw [hx]; simp [idsOf, ids1]), hw⟩
                      · simp at hpp; subst hpp; exact .inr ⟨Nat.le_refl _, by show b < b + 8; omega⟩
                  · exact hg.elim
                · exact hg.elim
            · exact hg.elim
          split at hg
          · split at hg
            · split at hg
              · split at hg
                · exact main _ hg
                · exact main _ hg
                · unfold rgrow at hg
                  split at hg
                  · rename_i sz rows n hx hy
                    simp only [cond_eq_ite] at hg
                    split at hg
                    · obtain ⟨_, _, rfl, _⟩ := hg
                      exact new
                    · exact hg.elim
                  · exact hg.elim
                · exact hg.elim
              · exact hg.elim
            · exact hg.elim
          · exact hg.elim
        · rename_i x y t0 _ hargs htys
          obtain ⟨p, q, hpq, rfl, rfl⟩ := args_two hargs
          have hmem : ∀ id ∈ idsOf (aval t p), id ∈ opIds o (aval t) := fun id hid => mem_opIds (x := p) (by rw [ho]; simp [Op.operands, Call.operands, hpq]) hid
          split at hg
          · split at hg
            · split at hg
              · rename_i j hj
                unfold rcopy at hg
                split at hg
                · rename_i sz' ys ps acc' id off len hsrc hx
                  split at hg
                  · rename_i sz rows hlb
                    cases hc1 : (Nat.beq j.size sz' && Nat.beq j.size sz) with
                    | false => simp [hc1] at hg; exact hg.elim
                    | true =>
                      simp only [hc1, cond_true] at hg
                      obtain ⟨_, _, rfl, _⟩ := hg
                      intro pp hpp; simp at hpp; subst hpp
                      exact .inl ⟨hmem id (by rw [hx]; simp [idsOf, ids1]), hw⟩
                  · exact hg.elim
                · exact hg.elim
              · exact hg.elim
            · exact hg.elim
          · exact hg.elim
        · unfold rmin at hg
          split at hg
          · rename_i k m k' n hl
            cases hk : ikeq k k' with
            | false => simp [hk] at hg; exact hg.elim
            | true => simp only [hk, cond_true] at hg; obtain ⟨_, rfl, _⟩ := hg; exact nil
          · exact hg.elim
        · unfold rmax at hg
          split at hg
          · rename_i k m k' n hl
            cases hk : ikeq k k' with
            | false => simp [hk] at hg; exact hg.elim
            | true => simp only [hk, cond_true] at hg; obtain ⟨_, rfl, _⟩ := hg; exact nil
          · exact hg.elim
        · exact hg.elim
      · split at hg
        · split at hg
          · exact hg.elim
          · exact hg.elim
        · exact hg.elim
      · exact hg.elim
    case h_3 c x y ho =>
      split at hg
      · rcases hg with ⟨_, _, rfl, _⟩ | ⟨_, _, rfl, _⟩ <;> exact nil
      · exact hg.elim
    case h_7 t' len parts ho =>
      have hw : isW o.op = true := by rw [ho]; rfl
      split at hg
      · split at hg
        · split at hg
          · simp only [cond_eq_ite] at hg
            split at hg
            · split at hg
              · rename_i xs p ps u1 a1 hfz
                split at hg
                · obtain ⟨_, _, rfl, _⟩ := hg
                  intro q hq
                  rcases List.mem_append.1 hq with hq | hq
                  · have := frzA_ups _ _ _ _ _ _ hfz q hq
                    obtain ⟨y, hy, hid⟩ := List.mem_flatMap.1 this
                    obtain ⟨x, hx, rfl⟩ := List.mem_map.1 hy
                    exact .inl ⟨mem_opIds (x := x.2) (by rw [ho]; simp only [Op.operands]; simpa using ⟨x.1, by simpa using hx⟩) hid, hw⟩
                  · exact new q hq
                · exact hg.elim
              · split at hg
                · obtain ⟨_, rfl, _⟩ := hg
                  exact new
                · exact hg.elim
            · exact hg.elim
          · exact hg.elim
        · exact hg.elim
      · exact hg.elim
    case h_8 t' x ho =>
      split at hg
      · obtain ⟨row, c, ⟨_, rfl⟩, _⟩ := rload_inv hg
        exact nil
      · exact hg.elim
    all_goals
      revert hg
      (try unfold rbin)
      (try unfold reqs)
      (try unfold runop)
      (try unfold rslice)
      (try unfold rindexAddr)
      (try unfold rconv)
      (try simp only [cond_eq_ite])
      repeat' split
      all_goals
        intro hg
        first
          | exact hg.elim
          | (obtain ⟨_, rfl, _⟩ := hg; first | exact nil | exact new)
          | (obtain ⟨_, _, rfl, _⟩ := hg; first | exact nil | exact new)
          | (obtain ⟨_, _, _, rfl, _⟩ := hg; first | exact nil | exact new)
          | (rcases hg with ⟨_, _, rfl, _⟩ | ⟨_, _, rfl, _⟩ <;> first | exact nil | exact new)
  · obtain ⟨c, ho, hc⟩ := aop_call hg
    obtain ⟨g, hcal, hev, hfz⟩ := rcall_inv hc
    intro p hp
    rcases List.mem_append.1 hp with hp | hp
    · left
      refine ⟨?_, by rw [ho]; rfl⟩
      have := frzA_ups _ _ _ _ _ _ hfz p hp
      obtain ⟨y, hy, hid⟩ := List.mem_flatMap.1 this
      obtain ⟨x, hx, rfl⟩ := List.mem_map.1 hy
      exact mem_opIds (x := x) (by rw [ho]; simp only [Op.operands, Call.operands, Array.mem_append]; right; simpa using hx) hid
    · right
      cases r with
      | pure v => cases hp
      | fresh sz rows => simp [AR.u] at hp; subst hp; exact ⟨Nat.le_refl _, by show b < b + 8; omega⟩

end Go.AL

set_option linter.unusedSimpArgs false
namespace Go.AL
open Go Go.RowKit

/-- 0: no live block; 1: whether there is one, and how wide its rows are; 2: all. -/
def dep : Op → Nat
  | .move _ | .assign _ | .pick .. | .alloc _ | .box .. | .build .. | .nilCheck _ | .binOp .. | .unOp .. | .makeSlice .. | .fieldAddr .. | .field .. | .index .. | .range .. | .extract .. => 0
  | .indexAddr .. | .slice .. => 1
  | _ => 2
def isStore : Op → Bool
  | .store .. => true
  | _ => false

/-- A block's shape. -/
def shp : Option LB → Option (Option Nat)
  | none => none
  | some (.cells sz _) => some (some sz)
  | some (.iter _ _) => some none

section
variable {P : Program} {TT : Nat → Option TI} {ev : Operand → AV} {h h' : Nat → Option LB} {b : Nat}

theorem aop_dep0 {o : Oper} (hd : dep o.op = 0) : aop TT o ev h b = aop TT o ev h' b := by
  obtain ⟨dst, op, ty, pos, after, guard⟩ := o
  cases op <;> first | rfl | (simp [dep] at hd)

theorem rslice_shape {i : TI} {x : AV} {lo hi mx : Option AV} (hh : ∀ id ∈ idsOf x, shp (h id) = shp (h' id)) : rslice i TT h x lo hi mx = rslice i TT h' x lo hi mx := by
  unfold rslice
  cases x with
  | own id o l =>
    have e := hh id (by simp [idsOf, ids1])
    cases i.d <;> try rfl
    rename_i el
    simp only
    cases TT el with
    | none => rfl
    | some j =>
      cases h1 : h id with
      | none => cases h2 : h' id with
        | none => rfl
        | some lb => rw [h1, h2] at e; cases lb <;> simp [shp] at e
      | some lb => cases h2 : h' id with
        | none => rw [h1, h2] at e; cases lb <;> simp [shp] at e
        | some lb' =>
          rw [h1, h2] at e
          cases lb <;> cases lb' <;> simp [shp] at e
          · subst e; rfl
          · rfl
  | val v => cases i.d <;> cases v <;> rfl
  | _ => cases i.d <;> rfl

theorem rindexAddr_shape {j : TI} {i : Int} {x : AV} (hh : ∀ id ∈ idsOf x, shp (h id) = shp (h' id)) : rindexAddr j h i x = rindexAddr j h' i x := by
  cases x with
  | own id o l =>
    have e := hh id (by simp [idsOf, ids1])
    simp only [rindexAddr]
    cases h1 : h id with
    | none => cases h2 : h' id with
      | none => rfl
      | some lb => rw [h1, h2] at e; cases lb <;> simp [shp] at e
    | some lb => cases h2 : h' id with
      | none => rw [h1, h2] at e; cases lb <;> simp [shp] at e
      | some lb' =>
        rw [h1, h2] at e
        cases lb <;> cases lb' <;> simp [shp] at e
        · subst e; rfl
        · rfl
  | _ => rfl

theorem aop_dep1 {o : Oper} (hd : dep o.op = 1) (hh : ∀ id ∈ opIds o ev, shp (h id) = shp (h' id)) : aop TT o ev h b = aop TT o ev h' b := by
  have at_ : ∀ x ∈ o.op.operands, ∀ id ∈ idsOf (ev x), shp (h id) = shp (h' id) := fun x hx id hid => hh id (mem_opIds hx hid)
  obtain ⟨dst, op, ty, pos, after, guard⟩ := o
  cases op <;> try (simp [dep] at hd)
  case slice t x lo hi mx =>
    have e : ∀ i l u m, rslice i TT h (ev x) l u m = rslice i TT h' (ev x) l u m := fun i l u m => rslice_shape (at_ x (by simp [Op.operands]))
    simp only [aop, e]
  case indexAddr t x ix =>
    have e : ∀ j i, rindexAddr j h i (ev x) = rindexAddr j h' i (ev x) := fun j i => rindexAddr_shape (at_ x (by simp [Op.operands]))
    simp only [aop, e]

theorem rstore_shape {i : TI} {xs : List AV} {x : AV} {v : AV} {u : Ups} {acc : Accs} (hg : (rstore i h xs x).gives v u acc) : ∀ p ∈ u, shp p.2 = shp (h p.1) := by
  unfold rstore at hg
  split at hg
  · rename_i id c
    split at hg
    · rename_i sz row hl
      cases hc : (Nat.ble (c + i.size) row.length) with
      | false => simp [hc] at hg; exact hg.elim
      | true =>
        simp only [hc, cond_true] at hg
        obtain ⟨_, rfl, _⟩ := hg
        intro p hp; simp at hp; subst hp; simp [hl, shp]
    · exact hg.elim
  · rename_i id r c
    split at hg
    · rename_i sz rows hl
      cases hc : (Nat.beq i.size sz && Nat.beq c 0) with
      | true =>
        simp only [hc, cond_true] at hg
        obtain ⟨_, _, rfl, _⟩ := hg
        intro p hp; simp at hp; subst hp; simp [hl, shp]
      | false =>
        simp only [hc, cond_false] at hg
        cases hc2 : (Nat.ble (c + i.size) sz) with
        | false => simp [hc2] at hg; exact hg.elim
        | true =>
          simp only [hc2, cond_true] at hg
          obtain ⟨row, _, _, rfl, _⟩ := hg
          intro p hp; simp at hp; subst hp; simp [hl, shp]
    · exact hg.elim
  · exact hg.elim

theorem AStep_store {o : Oper} {t : Nat → AV} {v : AV} {u : Ups} {acc : Accs} (hw : isStore o.op = true) (hs : AStep P TT o t h b v u acc) : ∀ p ∈ u, shp p.2 = shp (h p.1) := by
  obtain ⟨dst, op, ty, pos, after, guard⟩ := o
  cases op <;> try (simp [isStore] at hw)
  case store t' x y =>
    rcases hs with hg | ⟨f, args, ps, u0, r, hg, _⟩
    · simp only [aop] at hg
      split at hg
      · rename_i i xs hi hy
        cases hc : (Nat.beq xs.length i.size && !Nat.beq i.size 0) with
        | false => simp [hc] at hg; exact hg.elim
        | true =>
          simp only [hc, cond_true] at hg
          exact rstore_shape hg
      · exact hg.elim
    · obtain ⟨c, ho, _⟩ := aop_call hg
      cases ho

theorem updsH_shape : ∀ (u : Ups) (h : Nat → Option LB), (∀ p ∈ u, shp p.2 = shp (h p.1)) → ∀ id, shp (updsH h u id) = shp (h id)
  | [], h, _, id => rfl
  | (d, v) :: u, h, hh, id => by
    have hd : shp v = shp (h d) := hh (d, v) (by simp)
    have one : ∀ k, shp (updH h d v k) = shp (h k) := by
      intro k
      by_cases e : k = d
      · subst e; rw [updH_same]; exact hd
      · rw [updH_ne _ _ e]
    simp only [updsH]
    rw [updsH_shape u (updH h d v) (fun p hp => by rw [one]; exact hh p (by simp [hp])) id, one]

/-- What an operation looks at stands the same in both. -/
def DepOk (o : Op) (ids : List Nat) (h h' : Nat → Option LB) : Prop := dep o = 0 ∨ (dep o = 1 ∧ ∀ id ∈ ids, shp (h id) = shp (h' id)) ∨ ∀ id ∈ ids, h id = h' id

theorem aop_dep {o : Oper} {ids : List Nat} (hi : opIds o ev = ids) (hd : DepOk o.op ids h h') : aop TT o ev h b = aop TT o ev h' b := by
  subst hi
  rcases hd with hd | ⟨hd, hh⟩ | hh
  · exact aop_dep0 hd
  · exact aop_dep1 hd hh
  · exact aop_local hh

end
end Go.AL

set_option linter.unusedSimpArgs false
namespace Go.AL
open Go Go.RowKit

theorem updsH_not : ∀ (u : Ups) (h : Nat → Option LB) (id : Nat), (∀ p ∈ u, p.1 ≠ id) → updsH h u id = h id
  | [], h, id, _ => rfl
  | (d, v) :: u, h, id, hn => by
    simp only [updsH]
    rw [updsH_not u _ id (fun p hp => hn p (by simp [hp])), updH_ne _ _ (fun e => hn (d, v) (by simp) e.symm)]
theorem updsH_in : ∀ (u : Ups) (h h' : Nat → Option LB) (id : Nat), (∃ p ∈ u, p.1 = id) → updsH h u id = updsH h' u id
  | [], h, h', id, hm => by obtain ⟨p, hp, _⟩ := hm; cases hp
  | (d, v) :: u, h, h', id, hm => by
    simp only [updsH]
    by_cases hu : ∃ p ∈ u, p.1 = id
    · exact updsH_in u _ _ id hu
    · have hn : ∀ p ∈ u, p.1 ≠ id := fun p hp e => hu ⟨p, hp, e⟩
      rw [updsH_not u _ id hn, updsH_not u _ id hn]
      obtain ⟨p, hp, e⟩ := hm
      rcases List.mem_cons.1 hp with rfl | hp
      · have e' : d = id := e
        subst e'; rw [updH_same, updH_same]
      · exact absurd e (hn p hp)
theorem updsH_comm (u u' : Ups) (h : Nat → Option LB) (hd : ∀ p ∈ u, ∀ q ∈ u', p.1 ≠ q.1) : updsH (updsH h u) u' = updsH (updsH h u') u := by
  funext id
  by_cases h1 : ∃ p ∈ u, p.1 = id
  · obtain ⟨p, hp, rfl⟩ := h1
    rw [updsH_not u' _ _ (fun q hq e => hd p hp q hq e.symm)]
    exact updsH_in u _ _ _ ⟨p, hp, rfl⟩
  · have hn : ∀ p ∈ u, p.1 ≠ id := fun p hp e => h1 ⟨p, hp, e⟩
    rw [updsH_not u (updsH h u') id hn]
    by_cases h2 : ∃ q ∈ u', q.1 = id
    · exact updsH_in u' _ _ _ h2
    · have hn' : ∀ q ∈ u', q.1 ≠ id := fun q hq e => h2 ⟨q, hq, e⟩
      rw [updsH_not u' _ id hn', updsH_not u _ id hn, updsH_not u' _ id hn']

/-- What an operation does in a region: its value, what it changes, whether its guard lets it by. -/
structure Ev where
  v : AV
  u : Ups
  skip : Bool

def Ev.val (e : Ev) : AV := bif e.skip then .val undef else e.v

def gdA (ops : Array Oper) (o : Oper) (t : Nat → AV) (yes : Bool) : Prop :=
  match o.guard with
  | none => yes = true
  | some (g, want) => ∃ d x, ((ops[g]?).bind (·.dst) = some d ∧ d < 1000000) ∧ t d = .val x ∧ (yv x == some want) = yes

/-- Operation i, at such slots and live blocks. -/
def CondE (P : Program) (TT : Nat → Option TI) (ops : Array Oper) (n : Nat) (i : Nat) (o : Oper) (ids : List Nat) (e : Ev) (t : Nat → AV) (h : Nat → Option LB) : Prop :=
  (e.skip = false ∧ gdA ops o t true ∧ opIds o (aval t) = ids ∧ ∃ acc, AStep P TT o t h (n + 8 * i) e.v e.u acc) ∨ (e.skip = true ∧ gdA ops o t false ∧ e.u = [])

/-- An operation of a region, with what it does. -/
structure Ent where
  i : Nat
  ids : List Nat
  ev : Ev

/-- A chain of operations. -/
inductive Cn (P : Program) (TT : Nat → Option TI) (ops : Array Oper) (n m : Nat) : List Ent → (Nat → AV) → (Nat → Option LB) → (Nat → AV) → (Nat → Option LB) → Prop
  | nil (t : Nat → AV) (h : Nat → Option LB) : Cn P TT ops n m [] t h t h
  | cons (x : Ent) (l : List Ent) (o : Oper) (t : Nat → AV) (h : Nat → Option LB) (t' : Nat → AV) (h' : Nat → Option LB) (ho : ops[x.i]? = some o) (hd : dstOk o.dst m = true)
      (hc : CondE P TT ops n x.i o x.ids x.ev t h) (hl : Cn P TT ops n m l (putT t o.dst x.ev.val) (updsH h x.ev.u) t' h') : Cn P TT ops n m (x :: l) t h t' h'

section
variable {P : Program} {TT : Nat → Option TI} {ops : Array Oper} {n m : Nat} {i j : Nat} {oi oj o : Oper} {idi idj ids : List Nat} {ei ej e : Ev} {t t' t1 : Nat → AV} {h h' h1 : Nat → Option LB}

theorem aval_agree {x : Operand} (hx : ∀ d, x = .tmp d → t d = t' d) : aval t x = aval t' x := by
  cases x with
  | tmp d =>
    show (bif Nat.blt d 1000000 then t d else .val undef) = (bif Nat.blt d 1000000 then t' d else .val undef)
    rw [hx d rfl]
  | _ => rfl

theorem CondE.move (hc : CondE P TT ops n i o ids e t h) (ht : ∀ d ∈ o.looksAt ops, t d = t' d) (hh : DepOk o.op ids h h') : CondE P TT ops n i o ids e t' h' := by
  have hop : ∀ x ∈ o.op.operands, aval t x = aval t' x := fun x hx => aval_agree fun d hd => ht d (by
    subst hd
    exact List.mem_append_left _ (List.mem_filterMap.2 ⟨.tmp d, by simpa using hx, rfl⟩))
  have hgd : ∀ yes, gdA ops o t yes → gdA ops o t' yes := by
    intro yes hg
    unfold gdA at *
    cases hgu : o.guard with
    | none => rw [hgu] at hg; exact hg
    | some gw =>
      obtain ⟨g, want⟩ := gw
      rw [hgu] at hg
      obtain ⟨d, x, h1, h2, h3⟩ := hg
      refine ⟨d, x, h1, ?_, h3⟩
      rw [← ht d (by simp [Oper.looksAt, hgu, h1.1])]
      exact h2
  have hids : opIds o (aval t) = opIds o (aval t') := by
    unfold opIds
    rw [List.flatMap_def, List.flatMap_def]
    refine congrArg List.flatten (List.map_congr_left ?_)
    intro x hx
    simp only [hop x (by simpa using hx)]
  rcases hc with ⟨h1, h2, h3, acc, hs⟩ | ⟨h1, h2, h3⟩
  · refine .inl ⟨h1, hgd _ h2, by rw [← hids]; exact h3, acc, ?_⟩
    have hl : aop TT o (aval t') h' (n + 8 * i) = aop TT o (aval t) h (n + 8 * i) := by
      rw [← aop_congr hop]
      exact (aop_dep h3 hh).symm
    unfold AStep at *
    rw [hl]
    exact hs
  · exact .inr ⟨h1, hgd _ h2, h3⟩

theorem CondE.ups (hc : CondE P TT ops n i o ids e t h) : ∀ p ∈ e.u, (p.1 ∈ ids ∧ isW o.op = true) ∨ (n + 8 * i ≤ p.1 ∧ p.1 < n + 8 * i + 8) := by
  rcases hc with ⟨h1, h2, h3, acc, hs⟩ | ⟨h1, h2, h3⟩
  · intro p hp
    have := AStep_ups hs p hp
    rwa [h3] at this
  · intro p hp; rw [h3] at hp; cases hp

def disj (a b : List Nat) : Bool := a.all fun x => b.all fun y => !Nat.beq x y
/-- What the second one looks at is nothing that the first one changes. -/
def calm (x y : Op) : Bool := !isW x || Nat.beq (dep y) 0 || (isStore x && Nat.ble (dep y) 1)
/-- Two operations that do not look at what the other one does. -/
def idsOk (n i j : Nat) (oi oj : Oper) (idi idj : List Nat) : Bool :=
  (disj idi idj || (calm oi.op oj.op && calm oj.op oi.op && !(isW oi.op && isW oj.op))) &&
  (idj.all fun y => Nat.blt y (n + 8 * i) || Nat.ble (n + 8 * i + 8) y) && (idi.all fun x => Nat.blt x (n + 8 * j) || Nat.ble (n + 8 * j + 8) x)

theorem disj_spec {a b : List Nat} (h : disj a b = true) : ∀ x ∈ a, ∀ y ∈ b, x ≠ y := by
  intro x hx y hy e
  simp only [disj, List.all_eq_true, Bool.not_eq_true'] at h
  have := h x hx y hy
  rw [e, Nat.beq_refl] at this
  cases this

theorem rd (hi : CondE P TT ops n i oi idi ei t h) (hk : disj idi idj = true ∨ calm oi.op oj.op = true) (k2 : ∀ y ∈ idj, ¬ (n + 8 * i ≤ y ∧ y < n + 8 * i + 8)) : DepOk oj.op idj (updsH h ei.u) h := by
  rcases hk with hk | hk
  · refine .inr (.inr fun id hid => updsH_not _ _ _ (fun p hp e => ?_))
    rcases hi.ups p hp with ⟨q1, q2⟩ | q
    · exact disj_spec hk p.1 q1 id hid e
    · rw [e] at q; exact k2 id hid q
  · simp only [calm, Bool.or_eq_true, Bool.and_eq_true, Bool.not_eq_true'] at hk
    rcases hk with (hk | hk) | ⟨hk, hk2⟩
    · refine .inr (.inr fun id hid => updsH_not _ _ _ (fun p hp e => ?_))
      rcases hi.ups p hp with ⟨q1, q2⟩ | q
      · rw [hk] at q2; cases q2
      · rw [e] at q; exact k2 id hid q
    · exact .inl (Nat.eq_of_beq_eq_true hk)
    · have hs : ∀ p ∈ ei.u, shp p.2 = shp (h p.1) := by
        rcases hi with ⟨_, _, _, acc, hs⟩ | ⟨_, _, h3⟩
        · exact AStep_store hk hs
        · intro p hp; rw [h3] at hp; cases hp
      have hle := Nat.ble_eq.mp hk2
      by_cases h0 : dep oj.op = 0
      · exact .inl h0
      · exact .inr (.inl ⟨by omega, fun id _ => updsH_shape _ _ hs id⟩)

theorem putT_comm {di dj : Option Nat} (v w : AV) (hd : ∀ d, di = some d → dj ≠ some d) : putT (putT t di v) dj w = putT (putT t dj w) di v := by
  cases di with
  | none => rfl
  | some a =>
    cases dj with
    | none => rfl
    | some b =>
      have hne : a ≠ b := fun e => hd a rfl (by rw [e])
      funext k
      simp only [putT, upd]
      cases h1 : Nat.beq k a <;> cases h2 : Nat.beq k b <;> simp [h1, h2]
      exact absurd ((Nat.eq_of_beq_eq_true h1).symm.trans (Nat.eq_of_beq_eq_true h2)) hne

theorem putT_other {di : Option Nat} {v : AV} {d : Nat} (hd : di ≠ some d) : putT t di v d = t d := by
  cases di with
  | none => rfl
  | some a => exact upd_ne _ _ (fun e => hd (by rw [e]))

theorem swap (hij : i ≠ j) (hap : oi.apart ops oj = true) (hok : idsOk n i j oi oj idi idj = true) (hi : CondE P TT ops n i oi idi ei t h)
    (hj : CondE P TT ops n j oj idj ej (putT t oi.dst ei.val) (updsH h ei.u)) :
    CondE P TT ops n j oj idj ej t h ∧ CondE P TT ops n i oi idi ei (putT t oj.dst ej.val) (updsH h ej.u) ∧
      putT (putT t oi.dst ei.val) oj.dst ej.val = putT (putT t oj.dst ej.val) oi.dst ei.val ∧ updsH (updsH h ei.u) ej.u = updsH (updsH h ej.u) ei.u := by
  obtain ⟨a1, a2, a3⟩ := Oper.apart_spec hap
  simp only [idsOk, Bool.and_eq_true, Bool.or_eq_true, List.all_eq_true, Bool.not_eq_true'] at hok
  obtain ⟨⟨k1, k2⟩, k3⟩ := hok
  have r2 : ∀ y ∈ idj, ¬ (n + 8 * i ≤ y ∧ y < n + 8 * i + 8) := fun y hy hc => by
    rcases k2 y hy with h | h
    · have := Nat.blt_eq.mp h; omega
    · have := Nat.ble_eq.mp h; omega
  have r3 : ∀ x ∈ idi, ¬ (n + 8 * j ≤ x ∧ x < n + 8 * j + 8) := fun x hx hc => by
    rcases k3 x hx with h | h
    · have := Nat.blt_eq.mp h; omega
    · have := Nat.ble_eq.mp h; omega
  have hd1 : disj idi idj = true ∨ calm oi.op oj.op = true := k1.imp id (fun h => h.1.1)
  have hd2 : disj idj idi = true ∨ calm oj.op oi.op = true := by
    rcases k1 with h | h
    · left
      simp only [disj, List.all_eq_true, Bool.not_eq_true']
      intro x hx y hy
      have := disj_spec h y hy x hx
      cases hb : Nat.beq x y with
      | false => rfl
      | true => exact absurd (Nat.eq_of_beq_eq_true hb).symm this
    · exact .inr h.1.2
  have r1 : isW oi.op = true → isW oj.op = true → ∀ x ∈ idi, ∀ y ∈ idj, x ≠ y := by
    intro hw hw'
    rcases k1 with h | h
    · exact disj_spec h
    · have := h.2; rw [hw, hw'] at this; cases this
  have hj' : CondE P TT ops n j oj idj ej t h := hj.move (fun d hd => putT_other (fun e => a1 d e hd)) (rd hi hd1 r2)
  have hi' : CondE P TT ops n i oi idi ei (putT t oj.dst ej.val) (updsH h ej.u) := hi.move (fun d hd => (putT_other (fun e => a3 d e hd)).symm) (by
    rcases rd hj' hd2 r3 with h | ⟨h, h'⟩ | h
    · exact .inl h
    · exact .inr (.inl ⟨h, fun id hid => (h' id hid).symm⟩)
    · exact .inr (.inr fun id hid => (h id hid).symm))
  refine ⟨hj', hi', putT_comm _ _ (fun d h1 h2 => a2 d h1 h2), updsH_comm _ _ _ (fun p hp q hq e => ?_)⟩
  rcases hi.ups p hp with ⟨p1, p2⟩ | p1 <;> rcases hj'.ups q hq with ⟨q1, q2⟩ | q1
  · exact r1 p2 q2 p.1 p1 q.1 q1 e
  · rw [← e] at q1; exact r3 p.1 p1 q1
  · rw [e] at p1; exact r2 q.1 q1 p1
  · rw [e] at p1; omega

def waits (o : Oper) (i : Nat) : Bool := o.after.toList.any fun e => Region.binds .any e && Nat.beq e.on i
/-- Of two operations the later one waits for the earlier one, or they have nothing to do with each other. -/
def pairOk (ops : Array Oper) (n i j : Nat) (oi oj : Oper) (idi idj : List Nat) : Bool := waits oj i || (oi.apart ops oj && idsOk n i j oi oj idi idj)

theorem Cn.bubble {y : Ent} : ∀ (l1 l2 : List Ent) (t : Nat → AV) (h : Nat → Option LB) (t' : Nat → AV) (h' : Nat → Option LB), Cn P TT ops n m (l1 ++ y :: l2) t h t' h' →
    (∀ x ∈ l1, x.i ≠ y.i ∧ ∀ oi oj, ops[x.i]? = some oi → ops[y.i]? = some oj → oi.apart ops oj = true ∧ idsOk n x.i y.i oi oj x.ids y.ids = true) → Cn P TT ops n m (y :: (l1 ++ l2)) t h t' h'
  | [], l2, t, h, t', h', hc, _ => hc
  | x :: l1, l2, t, h, t', h', hc, hk => by
    cases hc with
    | cons _ _ oi _ _ _ _ hoi hdi hci hl =>
      have hb := Cn.bubble l1 l2 _ _ _ _ hl (fun k hk' => hk k (by simp [hk']))
      cases hb with
      | cons _ _ oj _ _ _ _ hoj hdj hcj hl' =>
        obtain ⟨hne, hkk⟩ := hk x (by simp)
        obtain ⟨h1, h2⟩ := hkk oi oj hoi hoj
        obtain ⟨c1, c2, c3, c4⟩ := swap hne h1 h2 hci hcj
        refine .cons y _ oj t h t' h' hoj hdj c1 (.cons x _ oi _ _ _ _ hoi hdi c2 ?_)
        rw [← c3, ← c4]
        exact hl'

end
end Go.AL

set_option linter.unusedSimpArgs false
namespace Go.AL
open Go Go.RowKit

/-- As `aops`, with the live blocks that each operation looks at. -/
def aopsD (P : Program) (TT : Nat → Option TI) (all : List Oper) : List Oper → Nat → List (List Nat) → (List (List Nat) → St → Prop) → St → Prop
  | [], _, acc, K, s => K acc s
  | o :: rest, i, acc, K, s => match o.guard with
    | none => aopK P TT o (s.n + 8 * i) (aopsD P TT all rest (i + 1) (opIds o (aval s.t) :: acc) K) s
    | some (g, want) => match gdst all g, dstOk o.dst s.m with
      | some d, true => match s.t d with
        | .val (.bool x) => match want with
          | true => match x with
            | true => aopK P TT o (s.n + 8 * i) (aopsD P TT all rest (i + 1) (opIds o (aval s.t) :: acc) K) { s with t := upd s.t d (.val (.bool true)) }
            | false => aopsD P TT all rest (i + 1) ([] :: acc) K { s with t := putT (upd s.t d (.val (.bool false))) o.dst (.val undef) }
          | false => match x with
            | true => aopsD P TT all rest (i + 1) ([] :: acc) K { s with t := putT (upd s.t d (.val (.bool true))) o.dst (.val undef) }
            | false => aopK P TT o (s.n + 8 * i) (aopsD P TT all rest (i + 1) (opIds o (aval s.t) :: acc) K) { s with t := upd s.t d (.val (.bool false)) }
        | .val (.tuple _) => aopsD P TT all rest (i + 1) ([] :: acc) K { s with t := putT s.t o.dst (.val undef) }
        | _ => False
      | _, _ => False

def entries : List Oper → Nat → List (List Nat) → List (Nat × Oper × List Nat)
  | o :: os, i, x :: xs => (i, o, x) :: entries os (i + 1) xs
  | _, _, _ => []
def edgesOk (i : Nat) (o : Oper) : Bool := o.after.toList.all fun e => !Region.binds .any e || Nat.blt e.on i
def pairsOk (ops : Array Oper) (n : Nat) : List (Nat × Oper × List Nat) → Bool
  | [] => true
  | x :: l => (edgesOk x.1 x.2.1 && l.all fun y => pairOk ops n x.1 y.1 x.2.1 y.2.1 x.2.2 y.2.2) && pairsOk ops n l
/-- No order changes anything. -/
def indOK (P : Program) (ops : Array Oper) (n : Nat) (ids : List (List Nat)) : Bool := P.follows .mixedOrders && pairsOk ops n (entries ops.toList 0 ids)

section
variable {P : Program} {TT : Nat → Option TI} {ops : Array Oper} {n m : Nat} {t t' : Nat → AV} {h h' : Nat → Option LB}

theorem chain_of {K : List (List Nat) → St → Prop} : ∀ (rest : List Oper) (i : Nat) (s : St) (acc : List (List Nat)), ops.toList.drop i = rest → i + rest.length = ops.toList.length → s.n = n → s.m = m →
    aopsD P TT ops.toList rest i acc K s → ∃ (l : List Ent) (t' : Nat → AV) (h' : Nat → Option LB), l.map (·.i) = List.range' i rest.length ∧ Cn P TT ops n m l s.t s.h t' h' ∧ K ((l.map (·.ids)).reverse ++ acc) { s with t := t', h := h' }
  | [], i, s, acc, hd, hl, hn, hm, h => ⟨[], s.t, s.h, rfl, .nil _ _, h⟩
  | o :: rest, i, s, acc, hd, hl, hn, hm, h => by
    have ho : ops[i]? = some o := by
      have : (ops.toList.drop i)[0]? = some o := by rw [hd]; rfl
      rw [List.getElem?_drop] at this
      simpa using this
    have hd' : ops.toList.drop (i + 1) = rest := by rw [← List.drop_drop, hd]; rfl
    simp only [List.length_cons] at hl
    have go : ∀ (e : Ev) (ids : List Nat), dstOk o.dst m = true → CondE P TT ops n i o ids e s.t s.h →
        aopsD P TT ops.toList rest (i + 1) (ids :: acc) K { s with t := putT s.t o.dst e.val, h := updsH s.h e.u } →
        ∃ (l : List Ent) (t' : Nat → AV) (h' : Nat → Option LB), l.map (·.i) = List.range' i (o :: rest).length ∧ Cn P TT ops n m l s.t s.h t' h' ∧ K ((l.map (·.ids)).reverse ++ acc) { s with t := t', h := h' } := by
      intro e ids hdst hc hk
      obtain ⟨l, t', h', h1, h2, h3⟩ := chain_of rest (i + 1) { s with t := putT s.t o.dst e.val, h := updsH s.h e.u } (ids :: acc) hd' (by omega) hn hm hk
      refine ⟨⟨i, ids, e⟩ :: l, t', h', ?_, .cons ⟨i, ids, e⟩ l o _ _ _ _ ho hdst hc h2, ?_⟩
      · simp [List.range'_succ, h1]
      · simpa using h3
    have perf : ∀ (K' : St → Prop), (gdA ops o s.t true) → K' = aopsD P TT ops.toList rest (i + 1) (opIds o (aval s.t) :: acc) K → aopK P TT o (s.n + 8 * i) K' s →
        ∃ (l : List Ent) (t' : Nat → AV) (h' : Nat → Option LB), l.map (·.i) = List.range' i (o :: rest).length ∧ Cn P TT ops n m l s.t s.h t' h' ∧ K ((l.map (·.ids)).reverse ++ acc) { s with t := t', h := h' } := by
      intro K' hg e hk
      subst e
      unfold aopK at hk
      split at hk
      · rename_i hdst
        obtain ⟨v, u, acc', hs, hk⟩ := run_step hk
        exact go ⟨v, u, false⟩ _ (by rw [← hm]; exact hdst) (.inl ⟨rfl, hg, rfl, acc', by rw [← hn]; exact hs⟩) hk
      · exact hk.elim
    unfold aopsD at h
    split at h
    · rename_i hg
      exact perf _ (by simp [gdA, hg]) rfl h
    · rename_i g want hg
      split at h
      · rename_i d hgd hdst
        have hgd' : (ops[g]?).bind (·.dst) = some d ∧ d < 1000000 := gdst_bind hgd
        split at h
        · rename_i x hx
          by_cases hxw : x = want
          · have hgA : gdA ops o s.t true := by
              simp only [gdA, hg]
              exact ⟨d, _, hgd', hx, by rw [hxw]; simp [yv]⟩
            subst hxw
            refine perf _ hgA rfl ?_
            cases x <;> (simp only [upd_self hx] at h; exact h)
          · have hgA : gdA ops o s.t false := by
              simp only [gdA, hg]
              exact ⟨d, _, hgd', hx, by simp [yv, hxw]⟩
            refine go ⟨.any, [], true⟩ [] (by rw [← hm]; exact hdst) (.inr ⟨rfl, hgA, rfl⟩) ?_
            cases x <;> cases want <;> first | exact absurd rfl hxw | (simp only [upd_self hx] at h; exact h)
        · rename_i vs hx
          have hgA : gdA ops o s.t false := by
            simp only [gdA, hg]
            exact ⟨d, _, hgd', hx, by simp [yv]⟩
          exact go ⟨.any, [], true⟩ [] (by rw [← hm]; exact hdst) (.inr ⟨rfl, hgA, rfl⟩) h
        · exact h.elim
      · exact h.elim

/-- Two entries: the later one waits, or they have nothing to do with each other. -/
def PR (ops : Array Oper) (n : Nat) (x y : Ent) : Prop := x.i < y.i ∧ ∀ oi oj, ops[x.i]? = some oi → ops[y.i]? = some oj → pairOk ops n x.i y.i oi oj x.ids y.ids = true

theorem ent_mem : ∀ (rest : List Oper) (i : Nat) (l : List Ent), ops.toList.drop i = rest → l.map (·.i) = List.range' i rest.length → ∀ y ∈ l, ∃ o, ops[y.i]? = some o ∧ i ≤ y.i ∧ (y.i, o, y.ids) ∈ entries rest i (l.map (·.ids))
  | [], i, l, hd, hl, y, hy => by
    have : l = [] := by simpa using hl
    rw [this] at hy; cases hy
  | o :: rest, i, l, hd, hl, y, hy => by
    have ho : ops[i]? = some o := by
      have : (ops.toList.drop i)[0]? = some o := by rw [hd]; rfl
      rw [List.getElem?_drop] at this
      simpa using this
    have hd' : ops.toList.drop (i + 1) = rest := by rw [← List.drop_drop, hd]; rfl
    cases l with
    | nil => cases hy
    | cons x l =>
      simp only [List.map_cons, List.length_cons, List.range'_succ, List.cons.injEq] at hl
      rcases List.mem_cons.1 hy with rfl | hy
      · exact ⟨o, by rw [hl.1]; exact ho, by omega, by simp [entries, hl.1]⟩
      · obtain ⟨o', h1, h2, h3⟩ := ent_mem rest (i + 1) l hd' hl.2 y hy
        exact ⟨o', h1, by omega, by simp only [List.map_cons, entries]; exact List.mem_cons_of_mem _ h3⟩

theorem pairs_of : ∀ (rest : List Oper) (i : Nat) (l : List Ent), ops.toList.drop i = rest → l.map (·.i) = List.range' i rest.length → pairsOk ops n (entries rest i (l.map (·.ids))) = true →
    l.Pairwise (PR ops n) ∧ ∀ x ∈ l, ∃ o, ops[x.i]? = some o ∧ ∀ e ∈ o.after, Region.binds .any e = true → e.on < x.i
  | [], i, l, hd, hl, hp => by
    have : l = [] := by simpa using hl
    subst this
    exact ⟨.nil, fun x hx => nomatch hx⟩
  | o :: rest, i, l, hd, hl, hp => by
    have ho : ops[i]? = some o := by
      have : (ops.toList.drop i)[0]? = some o := by rw [hd]; rfl
      rw [List.getElem?_drop] at this
      simpa using this
    have hd' : ops.toList.drop (i + 1) = rest := by rw [← List.drop_drop, hd]; rfl
    cases l with
    | nil => exact ⟨.nil, fun x hx => nomatch hx⟩
    | cons x l =>
      simp only [List.map_cons, List.length_cons, List.range'_succ, List.cons.injEq] at hl
      simp only [List.map_cons, entries, pairsOk, Bool.and_eq_true, List.all_eq_true] at hp
      obtain ⟨⟨p1, p2⟩, p3⟩ := hp
      obtain ⟨h1, h2⟩ := pairs_of rest (i + 1) l hd' hl.2 p3
      refine ⟨.cons (fun y hy => ?_) h1, fun y hy => ?_⟩
      · obtain ⟨oy, q1, q2, q3⟩ := ent_mem rest (i + 1) l hd' hl.2 y hy
        refine ⟨by omega, fun oi oj hoi hoj => ?_⟩
        rw [hl.1, ho] at hoi
        rw [q1] at hoj
        injection hoi with hoi
        injection hoj with hoj
        subst hoi; subst hoj
        rw [hl.1]
        exact p2 _ q3
      · rcases List.mem_cons.1 hy with rfl | hy
        · refine ⟨o, by rw [hl.1]; exact ho, fun e he hb => ?_⟩
          simp only [edgesOk, List.all_eq_true] at p1
          have := p1 e (by simpa using he)
          rw [hb] at this
          rw [hl.1]
          simpa [Nat.blt_eq] using this
        · exact h2 y hy

def frL (n : Nat) (N : Nat) (l : List Ent) (id : Nat) : Prop := (∃ x ∈ l, n + 8 * x.i ≤ id ∧ id < n + 8 * x.i + 8) ∨ n + 8 * N ≤ id

theorem yielded_gd {gh : Array Value} {w0 w : World} {F0 F : Nat → Prop} {ρ : Nat → Option BI} {fr : Nat → Prop} {s : St} {a : Act} (hR : Rel gh w0 F0 F ρ fr s a w) {o : Oper} {yes : Bool} (hg : gdA ops o s.t yes) : Region.wanted o (yielded ops a.tmps) = yes := by
  unfold gdA at hg
  unfold Region.wanted
  cases hgu : o.guard with
  | none => rw [hgu] at hg; exact hg.symm
  | some gw =>
    obtain ⟨g, want⟩ := gw
    rw [hgu] at hg
    obtain ⟨d, x, h1, h2, h3⟩ := hg
    have hy := yielded_of hR h1 h2
    simp only [hy]
    exact h3

theorem any_sound (hT : TTok P TT) {gh : Array Value} {w0 : World} {F0 : Nat → Prop} {Q : Exit → Act → World → Prop}
    (hQ : ∀ a' w', (∃ F ρ, Rel gh w0 F0 F ρ (fun id => n + 8 * ops.size ≤ id) ⟨t', h', n, m⟩ a' w') → Q .normal a' w') :
    ∀ (fuel : Nat) (l : List Ent) (listed : Array Bool) (t : Nat → AV) (h : Nat → Option LB) (a : Act) (w : World) (F : Nat → Prop) (ρ : Nat → Option BI), l.length = fuel → listed.size = ops.size →
      (∀ j, j < ops.size → (listed.getD j true = false ↔ ∃ x ∈ l, x.i = j)) → l.Pairwise (PR ops n) → (∀ x ∈ l, ∃ o, ops[x.i]? = some o ∧ ∀ e ∈ o.after, Region.binds .any e = true → e.on < x.i) →
      Cn P TT ops n m l t h t' h' → Rel gh w0 F0 F ρ (frL n ops.size l) ⟨t, h, n, m⟩ a w → wpAny P .any ops Q fuel listed a w
  | 0, l, listed, t, h, a, w, F, ρ, hl, hz, hli, hp, he, hc, hR => by
    have : l = [] := List.eq_nil_of_length_eq_zero hl
    subst this
    cases hc
    refine ⟨List.eq_nil_iff_forall_not_mem.2 fun j hj => ?_, hQ _ _ ⟨F, ρ, hR.mono_fr fun id hid => .inr hid⟩⟩
    obtain ⟨h1, o, ho, _⟩ := mem_ready.1 hj
    obtain ⟨x, hx, _⟩ := (hli j (Array.getElem?_eq_some_iff.1 ho).1).1 h1
    cases hx
  | fuel + 1, [], listed, t, h, a, w, F, ρ, hl, hz, hli, hp, he, hc, hR => by cases hl
  | fuel + 1, x :: l, listed, t, h, a, w, F, ρ, hl, hz, hli, hp, he, hc, hR => by
    constructor
    · intro hnil
      exfalso
      obtain ⟨o, ho, hed⟩ := he x (by simp)
      have hlt := (Array.getElem?_eq_some_iff.1 ho).1
      have : x.i ∈ Region.ready .any ops listed := mem_ready.2 ⟨(hli _ hlt).2 ⟨x, by simp, rfl⟩, o, ho, fun e hee hb => by
        have h1 := hed e hee hb
        have h2 : ¬ listed.getD e.on true = false := fun hf => by
          obtain ⟨y, hy, hye⟩ := (hli e.on (by omega)).1 hf
          rcases List.mem_cons.1 hy with rfl | hy
          · omega
          · have := ((List.pairwise_cons.1 hp).1 y hy).1
            omega
        have hlt' : e.on < listed.size := by omega
        simp [hlt'] at h2 ⊢
        exact h2⟩
      rw [hnil] at this
      cases this
    · intro j hj
      obtain ⟨h1, oj, hoj, hall⟩ := mem_ready.1 hj
      have hjlt := (Array.getElem?_eq_some_iff.1 hoj).1
      obtain ⟨y, hy, rfl⟩ := (hli j hjlt).1 h1
      obtain ⟨l1, l2, hsplit⟩ := List.append_of_mem hy
      rw [hsplit] at hp hc hR he hli
      have hpa := List.pairwise_append.1 hp
      have hb := Cn.bubble l1 l2 t h t' h' hc (fun k hk => by
        have hkk := hpa.2.2 k hk y (by simp)
        refine ⟨Nat.ne_of_lt hkk.1, fun oi oj' hoi hoj' => ?_⟩
        have hpo := hkk.2 oi oj' hoi hoj'
        rw [hoj] at hoj'
        injection hoj' with hoj'
        subst hoj'
        simp only [pairOk, Bool.or_eq_true, Bool.and_eq_true] at hpo
        rcases hpo with hw | hw
        · exfalso
          simp only [waits, List.any_eq_true, Bool.and_eq_true] at hw
          obtain ⟨e, hee, hb, hon⟩ := hw
          have g1 := hall e (by simpa using hee) hb
          have hon' : e.on = k.i := Nat.eq_of_beq_eq_true hon
          have hklt : k.i < ops.size := (Array.getElem?_eq_some_iff.1 hoi).1
          have g2 := (hli k.i hklt).2 ⟨k, by simp [hk], rfl⟩
          rw [hon'] at g1
          have hlt' : k.i < listed.size := by omega
          simp [hlt'] at g1 g2
          rw [g1] at g2
          cases g2
        · exact hw)
      have hnd : ∀ k ∈ l1 ++ l2, k.i ≠ y.i := by
        intro k hk
        rcases List.mem_append.1 hk with hk | hk
        · exact Nat.ne_of_lt (hpa.2.2 k hk y (by simp)).1
        · exact fun e => by have := ((List.pairwise_cons.1 hpa.2.1).1 k hk).1; omega
      have hsub : ∀ k ∈ l1 ++ l2, k ∈ l1 ++ y :: l2 := by
        intro k hk
        rcases List.mem_append.1 hk with hk | hk <;> simp [hk]
      cases hb with
      | cons _ _ oj' _ _ _ _ hoj' hdj hcj hl' =>
        rw [hoj] at hoj'
        injection hoj' with hoj'
        subst hoj'
        have hnext : ∀ (F' : Nat → Prop) (ρ' : Nat → Option BI) (a' : Act) (w' : World),
            Rel gh w0 F0 F' ρ' (frL n ops.size (l1 ++ l2)) ⟨putT t oj.dst y.ev.val, updsH h y.ev.u, n, m⟩ a' w' → wpAny P .any ops Q fuel (listed.setIfInBounds y.i true) a' w' := by
          intro F' ρ' a' w' hR'
          refine any_sound hT hQ fuel (l1 ++ l2) _ _ _ a' w' F' ρ' ?_ (by simpa using hz) ?_ ?_ (fun k hk => he k (hsub k hk)) hl' hR'
          · have := congrArg List.length hsplit
            simp at this hl ⊢
            omega
          · intro k hk
            by_cases hky : y.i = k
            · subst hky
              have hlt' : y.i < listed.size := by omega
              simp [hlt']
              intro k hk
              exact hnd k (by simpa using hk)
            · rw [getD_set_ne true hky, hli k hk]
              constructor
              · rintro ⟨x, hx, rfl⟩
                refine ⟨x, ?_, rfl⟩
                rcases List.mem_append.1 hx with hx | hx
                · simp [hx]
                · rcases List.mem_cons.1 hx with rfl | hx
                  · exact absurd rfl hky
                  · simp [hx]
              · rintro ⟨x, hx, rfl⟩
                exact ⟨x, hsub x hx, rfl⟩
          · refine List.pairwise_append.2 ⟨hpa.1, (List.pairwise_cons.1 hpa.2.1).2, fun a ha b hb => hpa.2.2 a ha b (by simp [hb])⟩
        have hfr : ∀ id, frL n ops.size (l1 ++ l2) id → frL n ops.size (l1 ++ y :: l2) id ∧ ¬ (n + 8 * y.i ≤ id ∧ id < n + 8 * y.i + 8) := by
          rintro id (⟨k, hk, h1, h2⟩ | h1)
          · refine ⟨.inl ⟨k, hsub k hk, h1, h2⟩, fun hc => ?_⟩
            have := hnd k hk
            omega
          · exact ⟨.inr h1, fun hc => by omega⟩
        unfold wpOp
        simp only [hoj]
        rcases hcj with ⟨c1, c2, c3, acc, c4⟩ | ⟨c1, c2, c3⟩
        · rw [if_pos (yielded_gd hR c2)]
          refine .inl (step_sound hT hR (fun k hk => .inl ⟨y, by simp, by omega, by omega⟩) c4 hdj (fun a' w' ⟨F', ρ', hR'⟩ => ?_))
          refine hnext F' ρ' a' w' ?_
          have e : y.ev.val = y.ev.v := by simp [Ev.val, c1]
          rw [e]
          exact hR'.mono_fr hfr
        · have hw : ¬ Region.wanted oj (yielded ops a.tmps) = true := by rw [yielded_gd hR c2]; decide
          rw [if_neg hw]
          refine hnext F ρ _ w ?_
          have e : y.ev.val = .val undef := by simp [Ev.val, c1]
          rw [e, c3]
          exact (hR.putd (.val undef) oj.dst hdj).mono_fr (fun id hid => (hfr id hid).1)

theorem Rel.drawn {gh : Array Value} {w0 w : World} {F0 F : Nat → Prop} {ρ : Nat → Option BI} {fr : Nat → Prop} {s : St} {a : Act} (hR : Rel gh w0 F0 F ρ fr s a w) : Rel gh w0 F0 F ρ fr s a { w with drawn := w.drawn + 1 } where
  defers := hR.defers
  size := hR.size
  below := ⟨hR.below.os, hR.below.tape, hR.below.output, hR.below.size, hR.below.block⟩
  Fb := hR.Fb
  F0F := hR.F0F
  Fnew := hR.Fnew
  mle := hR.mle
  vals := fun t => VR.mono (w := w) (w' := { w with drawn := w.drawn + 1 }) (fun _ h => h) (fun _ _ => rfl) (fun _ _ h => h) (hR.vals t)
  blks := fun id lb hl => by
    obtain ⟨bi, h1, h2, h3⟩ := hR.blks id lb hl
    exact ⟨bi, h1, BR.mono (w := w) (w' := { w with drawn := w.drawn + 1 }) (fun _ h => h) (fun _ _ => rfl) (fun _ _ h => h) (fun _ => rfl) h2, h3⟩
  inj := hR.inj
  fresh := hR.fresh

/-- A region that draws its order. -/
theorem SW.regionD {Q : Exit → St → Prop} {s : St} (hT : TTok P TT) {id : Nat}
    (h : aopsD P TT ops.toList ops.toList 0 [] (fun acc s' => indOK P ops s'.n acc.reverse = true ∧ Q .normal { s' with n := s'.n + 8 * ops.toList.length }) s) : SW P (.region id ops true) Q s := by
  unfold SW
  intro gh w0 F0 a w hR
  obtain ⟨F, ρ, hR'⟩ := hR
  obtain ⟨l, t', h', h1, h2, h3, h4⟩ := chain_of (n := s.n) (m := s.m) ops.toList 0 s [] rfl (by simp) rfl rfl h
  simp only [List.append_nil, List.reverse_reverse, indOK, Bool.and_eq_true] at h3
  obtain ⟨hm, hpo⟩ := h3
  obtain ⟨q1, q2⟩ := pairs_of ops.toList 0 l rfl h1 hpo
  have hlen : l.length = ops.size := by have := congrArg List.length h1; simpa using this
  refine wp_region_any hm ?_
  refine any_sound (t' := t') (h' := h') (n := s.n) (m := s.m) (gh := gh) (w0 := w0) (F0 := F0) hT (fun a' w' hx => ?_) ops.size l _ s.t s.h a _ F ρ hlen (by simp) ?_ q1 q2 h2 ?_
  · obtain ⟨F, ρ, hR⟩ := hx
    exact ⟨_, h4, rfl, F, ρ, by simpa using hR.setN _⟩
  · intro j hj
    have : (Array.replicate ops.size false).getD j true = false := by simp [hj]
    simp only [this, true_iff]
    have hmem : j ∈ l.map (·.i) := by rw [h1]; simp [List.mem_range'_1, hj]
    obtain ⟨x, hx, rfl⟩ := List.mem_map.1 hmem
    exact ⟨x, hx, rfl⟩
  · exact hR'.drawn.mono_fr (fun id hid => by
      rcases hid with ⟨x, hx, h1, h2⟩ | h1 <;> omega)

end
end Go.AL

set_option linter.unusedSimpArgs false
namespace Go.AL
open Go Go.RowKit

/-- A value, brought to its head. -/
def AV.force {α : Sort _} (k : AV → α) : AV → α
  | .any => k .any
  | .val v => k (.val v)
  | .agg l => k (.agg l)
  | .tup l => k (.tup l)
  | .sl a b c => k (.sl a b c)
  | .fp a b => k (.fp a b)
  | .own a b c => k (.own a b c)
  | .lp a b => k (.lp a b)
  | .li a b c => k (.li a b c)
  | .it a => k (.it a)
  | .clo f cs => k (.clo f cs)
theorem AV.force_eq {α : Sort _} (k : AV → α) (v : AV) : v.force k = k v := by cases v <;> rfl

def Ups.force {α : Sort _} (k : Ups → α) : Ups → α
  | [] => k []
  | [(i, b)] => k [(i, b)]
  | (i, b) :: (j, c) :: l => k ((i, b) :: (j, c) :: l)
theorem Ups.force_eq {α : Sort _} (k : Ups → α) (u : Ups) : Ups.force k u = k u := by
  rcases u with _ | ⟨⟨i, b⟩, _ | ⟨⟨j, c⟩, l⟩⟩ <;> rfl

def putK (d : Option Nat) (t : Nat → AV) (h : Nat → Option LB) (n m : Nat) (K : St → Prop) (v : AV) (u : Ups) : Prop :=
  match d with
  | some d => v.force fun v => Ups.force (fun u => match u with | [] => K ⟨upd t d v, h, n, m⟩ | u => K ⟨upd t d v, updsH h u, n, m⟩) u
  | none => Ups.force (fun u => match u with | [] => K ⟨t, h, n, m⟩ | u => K ⟨t, updsH h u, n, m⟩) u
theorem putK_eq (d : Option Nat) (t : Nat → AV) (h : Nat → Option LB) (n m : Nat) (K : St → Prop) (v : AV) (u : Ups) : putK d t h n m K v u = K ⟨putT t d v, updsH h u, n, m⟩ := by
  unfold putK
  cases d <;> simp only [AV.force_eq, Ups.force_eq] <;> cases u <;> rfl

def aopKF (P : Program) (TT : Nat → Option TI) (o : Oper) (b : Nat) (K : St → Prop) (t : Nat → AV) (h : Nat → Option LB) (n m : Nat) : Prop :=
  match dstOk o.dst m with
  | true => (aop TT o (aval t) h b).run P b fun v u _ => putK o.dst t h n m K v u
  | false => False
theorem aopKF_eq (P : Program) (TT : Nat → Option TI) (o : Oper) (b : Nat) (K : St → Prop) (t : Nat → AV) (h : Nat → Option LB) (n m : Nat) : aopKF P TT o b K t h n m = aopK P TT o b K ⟨t, h, n, m⟩ := by
  unfold aopKF aopK
  simp only [putK_eq] <;> rfl

/-- The operations of a region, in the text's order. -/
def aopsF (P : Program) (TT : Nat → Option TI) (all : List Oper) : List Oper → Nat → (St → Prop) → St → Prop
  | [], _, K, s => K s
  | o :: rest, i, K, ⟨t, h, n, m⟩ => match o.guard with
    | none => aopKF P TT o (n + 8 * i) (aopsF P TT all rest (i + 1) K) t h n m
    | some (g, want) => match gdst all g, dstOk o.dst m with
      | some d, true => match t d with
        | .val (.bool x) => match want with
          | true => match x with
            | true => aopKF P TT o (n + 8 * i) (aopsF P TT all rest (i + 1) K) (upd t d (.val (.bool true))) h n m
            | false => aopsF P TT all rest (i + 1) K ⟨putT (upd t d (.val (.bool false))) o.dst (.val undef), h, n, m⟩
          | false => match x with
            | true => aopsF P TT all rest (i + 1) K ⟨putT (upd t d (.val (.bool true))) o.dst (.val undef), h, n, m⟩
            | false => aopKF P TT o (n + 8 * i) (aopsF P TT all rest (i + 1) K) (upd t d (.val (.bool false))) h n m
        | .val (.tuple _) => aopsF P TT all rest (i + 1) K ⟨putT t o.dst (.val undef), h, n, m⟩
        | _ => False
      | _, _ => False

theorem aopsF_eq (P : Program) (TT : Nat → Option TI) (all : List Oper) : ∀ (rest : List Oper) (i : Nat) (K : St → Prop), aopsF P TT all rest i K = aops P TT all rest i K
  | [], i, K => rfl
  | o :: rest, i, K => by
    funext ⟨t, h, n, m⟩
    unfold aopsF aops
    simp only [aopsF_eq P TT all rest (i + 1) K, aopKF_eq] <;> rfl

def stepDF (P : Program) (TT : Nat → Option TI) (all : List Oper) (o : Oper) (ih : Nat → List (List Nat) → (List (List Nat) → St → Prop) → St → Prop) (i : Nat) (acc : List (List Nat)) (K : List (List Nat) → St → Prop) : St → Prop
  | ⟨t, h, n, m⟩ => match o.guard with
    | none => aopKF P TT o (n + 8 * i) (ih (i + 1) (opIds o (aval t) :: acc) K) t h n m
    | some (g, want) => match gdst all g, dstOk o.dst m with
      | some d, true => match t d with
        | .val (.bool x) => match want with
          | true => match x with
            | true => aopKF P TT o (n + 8 * i) (ih (i + 1) (opIds o (aval t) :: acc) K) (upd t d (.val (.bool true))) h n m
            | false => ih (i + 1) ([] :: acc) K ⟨putT (upd t d (.val (.bool false))) o.dst (.val undef), h, n, m⟩
          | false => match x with
            | true => ih (i + 1) ([] :: acc) K ⟨putT (upd t d (.val (.bool true))) o.dst (.val undef), h, n, m⟩
            | false => aopKF P TT o (n + 8 * i) (ih (i + 1) (opIds o (aval t) :: acc) K) (upd t d (.val (.bool false))) h n m
        | .val (.tuple _) => ih (i + 1) ([] :: acc) K ⟨putT t o.dst (.val undef), h, n, m⟩
        | _ => False
      | _, _ => False
def aopsDF (P : Program) (TT : Nat → Option TI) (all : List Oper) (l : List Oper) : Nat → List (List Nat) → (List (List Nat) → St → Prop) → St → Prop :=
  List.rec (motive := fun _ => Nat → List (List Nat) → (List (List Nat) → St → Prop) → St → Prop) (fun _ acc K s => K acc s) (fun o _ ih => stepDF P TT all o ih) l
theorem aopsDF_cons (P : Program) (TT : Nat → Option TI) (all : List Oper) (o : Oper) (rest : List Oper) : aopsDF P TT all (o :: rest) = stepDF P TT all o (aopsDF P TT all rest) := rfl

theorem aopsDF_eq (P : Program) (TT : Nat → Option TI) (all : List Oper) : ∀ (rest : List Oper) (i : Nat) (acc : List (List Nat)) (K : List (List Nat) → St → Prop), aopsDF P TT all rest i acc K = aopsD P TT all rest i acc K
  | [], i, acc, K => rfl
  | o :: rest, i, acc, K => by
    funext ⟨t, h, n, m⟩
    rw [aopsDF_cons]
    unfold stepDF aopsD
    simp only [aopsDF_eq P TT all rest (i + 1), aopKF_eq]
    try rfl

def bumpN (K : St → Prop) (k : Nat) : St → Prop
  | ⟨t, h, n, m⟩ => K ⟨t, h, n + k, m⟩
def bumpD (P : Program) (ops : Array Oper) (K : St → Prop) (k : Nat) (acc : List (List Nat)) : St → Prop
  | ⟨t, h, n, m⟩ => indOK P ops n acc.reverse = true ∧ K ⟨t, h, n + k, m⟩

/-- Symbolic execution: what does not loop is gone through at once. -/
def axp (P : Program) (TT : Nat → Option TI) : Code → (Exit → St → Prop) → St → Prop
  | .skip, Q, s => Q .normal s
  | .label _, Q, s => Q .normal s
  | .region id ops draw, Q, s => match draw with
    | false => aopsF P TT ops.toList ops.toList 0 (bumpN (Q .normal) (8 * ops.toList.length)) s
    | true => aopsDF P TT ops.toList ops.toList 0 [] (bumpD P ops (Q .normal) (8 * ops.toList.length)) s
  | .seq a b, Q, s => axp P TT a (fun e s' => match e with | .normal => axp P TT b Q s' | e => Q e s') s
  | .cond c x y, Q, ⟨t, h, n, m⟩ => match aval t c with
    | .val (.bool b) => match b with
      | true => axp P TT x Q ⟨t, h, n, m⟩
      | false => axp P TT y Q ⟨t, h, n, m⟩
    | _ => False
  | .block id c, Q, s => axp P TT c (fun e s' => match e with | .exit id' => bif Nat.beq id' id then Q .normal s' else Q (.exit id') s' | e => Q e s') s
  | .exit id, Q, s => Q (.exit id) s
  | .ret, Q, s => Q .ret s
  | c, Q, s => SW P c Q s

theorem axp_sound {P : Program} {TT : Nat → Option TI} (hT : TTok P TT) (c : Code) : ∀ (Q : Exit → St → Prop) (s : St), axp P TT c Q s → SW P c Q s := by
  induction c with
  | skip => exact fun Q s h => SW.skip h
  | label l => exact fun Q s h => SW.label h
  | region id ops draw =>
    intro Q s h
    cases draw with
    | false =>
      refine SW.region hT ?_
      have h' : aopsF P TT ops.toList ops.toList 0 (bumpN (Q .normal) (8 * ops.toList.length)) s := h
      rw [aopsF_eq] at h'
      exact h'
    | true =>
      refine SW.regionD hT ?_
      have h' : aopsDF P TT ops.toList ops.toList 0 [] (bumpD P ops (Q .normal) (8 * ops.toList.length)) s := h
      rw [aopsDF_eq] at h'
      exact h'
  | seq a b iha ihb =>
    intro Q s h
    refine SW.seq ((iha _ s h).mono fun e s' hq => ?_)
    cases e with
    | normal => exact ihb Q s' hq
    | _ => exact hq
  | cond c x y ihx ihy =>
    intro Q ⟨t, h, n, m⟩ hh
    unfold axp at hh
    split at hh
    · rename_i b hc
      exact SW.cond hc (fun hb => ihx Q _ (by subst hb; exact hh)) (fun hb => ihy Q _ (by subst hb; exact hh))
    · exact hh.elim
  | block id c ih =>
    intro Q s h
    refine SW.block ((ih _ s h).mono fun e s' hq => ?_)
    cases e with
    | exit id' => exact hq
    | _ => exact hq
  | exit id => exact fun Q s h => SW.exit h
  | ret => exact fun Q s h => SW.ret h
  | loop c ih => exact fun Q s h => h
  | rangeFunc f ps a b _ _ => exact fun Q s h => h
  | scope c _ => exact fun Q s h => h
  | goto l => exact fun Q s h => h
  | refuse w => exact fun Q s h => h

theorem SW.go {P : Program} {TT : Nat → Option TI} (hT : TTok P TT) {c : Code} {Q : Exit → St → Prop} {s : St} (h : axp P TT c Q s) : SW P c Q s := axp_sound hT c Q s h

/-- A function's contract out of its body's symbolic execution. -/
theorem AC.of_body {P : Program} {TT : Nat → Option TI} {f : FuncId} {fn : Func} {c : Code} {args : List AV} {r : AR} (hT : TTok P TT) (hf : P.funcs[f]? = some fn) (hb : fn.body = some c)
    (henter : ∀ (vals : Array Value) (w : World), (callFunc f vals).run P w = .ok (.enter f vals) w) (hA : ∀ x ∈ args, NoId x)
    (hr : match r with | .pure v => NoId v | .fresh _ rows => ∀ r ∈ rows, ∀ x ∈ r, NoId x) (hm : (fn.ntmps - 1000000) * 1000000000 + args.length ≤ fn.ntmps)
    (h : axp P TT c (retQ TT fn.results.toList r) ⟨getA args, fun _ => none, 0, fn.ntmps⟩) : AC P f args r :=
  AC.of_sw hT hf hb henter hA hr hm (axp_sound hT c _ _ h)

end Go.AL

set_option linter.unusedSimpArgs false
namespace Go.AL
open Go Go.RowKit

/-- A loop: the slots and live blocks that matter, told by an x; J: what holds of x; μ: what falls. -/
theorem SW.loopM {P : Program} {TT : Nat → Option TI} (hT : TTok P TT) {α : Type} {c : Code} {Q : Exit → St → Prop} {s : St} (ts : α → List (Nat × AV)) (hs : α → List (Nat × LB)) (n m : Nat) (hm : s.m = m)
    (μ : α → Nat) (J : α → Prop) (x0 : α) (σ0 : List (Nat × Nat)) (h0 : J x0) (e1 : okT s (σf σ0) n (ts x0)) (e2 : okH s (σf σ0) n (hs x0)) (e3 : distinct (((hs x0).map (·.1)).map (σf σ0)) = true)
    (round : ∀ x, J x → axp P TT c (loopQ Q fun s2 => ∃ (x' : α) (σ : List (Nat × Nat)), μ x' < μ x ∧ J x' ∧ okT s2 (σf σ) n (ts x') ∧ okH s2 (σf σ) n (hs x') ∧ distinct (((hs x').map (·.1)).map (σf σ)) = true) (mkS (ts x) (hs x) n m)) : SW P (.loop c) Q s := by
  refine SW.loop (fun k s1 => ∃ x, μ x = k ∧ J x ∧ s1 = mkS (ts x) (hs x) n m) (μ x0) (mkS (ts x0) (hs x0) n m) (Wk.of _ _ _ _ _ hm e1 e2 e3) hm.symm ⟨x0, rfl, h0, rfl⟩ ?_
  rintro k s1 hm1 ⟨x, rfl, hJ, rfl⟩
  refine ((axp_sound hT _ _ _ (round x hJ)).keep).mono fun e s' hq => ?_
  obtain ⟨hq, hms⟩ := hq
  cases e with
  | normal =>
    obtain ⟨x', σ, g1, g2, g3, g4, g5⟩ := hq
    exact ⟨μ x', mkS (ts x') (hs x') n m, g1, Wk.of _ _ _ _ _ (by rw [hms]; rfl) g3 g4 g5, (by rw [hms]; rfl), x', rfl, g2, rfl⟩
  | _ => exact hq

theorem valI {k : IntKind} {a b : Int} (h : a = b) : AV.val (.int k a) = AV.val (.int k b) := by rw [h]
theorem valB {a b : Bool} (h : a = b) : AV.val (.bool a) = AV.val (.bool b) := by rw [h]
theorem slE {sz : Nat} {a b : List (List AV)} {t : Bool} (h : a = b) : AV.sl sz a t = AV.sl sz b t := by rw [h]
theorem celE {sz : Nat} {a b : List (List AV)} (h : a = b) : some (LB.cells sz a) = some (LB.cells sz b) := by rw [h]
theorem ownE {id a b c d : Nat} (h1 : a = c) (h2 : b = d) : AV.own id a b = AV.own id c d := by rw [h1, h2]
theorem strE {a b : ByteArray} (h : a = b) : AV.val (.string a) = AV.val (.string b) := by rw [h]

theorem beqD {a b : Int} {p : Prop} [Decidable p] (h : a = b ↔ p) : (a == b) = decide p := by
  by_cases hp : p
  · rw [decide_eq_true hp]; exact beq_iff_eq.2 (h.2 hp)
  · rw [decide_eq_false hp]; exact beq_eq_false_iff_ne.2 (fun e => hp (h.1 e))
/-- A number's bits above those of another one. -/
theorem or_add (w : Nat) (a b : Nat) (k : Nat) (hb : b < 2 ^ k) (ha : a * 2 ^ k + b < 2 ^ w) : (BitVec.ofInt w ((a * 2 ^ k : Nat) : Int) ||| BitVec.ofInt w (b : Int)).toNat = a * 2 ^ k + b := by
  have h1 : (BitVec.ofInt w ((a * 2 ^ k : Nat) : Int)).toNat = a * 2 ^ k := by
    rw [BitVec.toNat_ofInt]
    have : ((a * 2 ^ k : Nat) : Int) % ((2 ^ w : Nat) : Int) = ((a * 2 ^ k : Nat) : Int) := Int.emod_eq_of_lt (by omega) (by omega)
    rw [this]; exact Int.toNat_natCast _
  have h2 : (BitVec.ofInt w (b : Int)).toNat = b := by
    rw [BitVec.toNat_ofInt]
    have : (b : Int) % ((2 ^ w : Nat) : Int) = (b : Int) := Int.emod_eq_of_lt (by omega) (by omega)
    rw [this]; exact Int.toNat_natCast _
  rw [BitVec.toNat_or, h1, h2, Nat.mul_comm, ← Nat.two_pow_add_eq_or_of_lt hb]

theorem or_add' (w : Nat) (a b : Nat) (k : Nat) (hb : b < 2 ^ k) (ha : a * 2 ^ k + b < 2 ^ w) : (BitVec.ofInt w (b : Int) ||| BitVec.ofInt w ((a * 2 ^ k : Nat) : Int)).toNat = a * 2 ^ k + b := by
  rw [BitVec.or_comm, or_add w a b k hb ha]
theorem tup2 {a b c d : AV} (h1 : a = c) (h2 : b = d) : AV.tup [a, b] = AV.tup [c, d] := by rw [h1, h2]
theorem tup3 {a b c d e f : AV} (h1 : a = c) (h2 : b = d) (h3 : e = f) : AV.tup [a, b, e] = AV.tup [c, d, f] := by rw [h1, h2, h3]

end Go.AL

namespace NM

def val : List Int → Nat
  | [] => 0
  | x :: l => x.toNat + 4294967296 * val l

/-- All limbs are limbs. -/
def Lim (l : List Int) : Prop := ∀ x ∈ l, 0 ≤ x ∧ x < 4294967296

def limbs (n : Nat) : List Int :=
  if h : n = 0 then [] else ((n % 4294967296 : Nat) : Int) :: limbs (n / 4294967296)
termination_by n
decreasing_by omega

theorem limbs_zero : limbs 0 = [] := by rw [limbs]; simp
theorem limbs_pos {n : Nat} (h : 0 < n) : limbs n = ((n % 4294967296 : Nat) : Int) :: limbs (n / 4294967296) := by
  rw [limbs, dif_neg (by omega)]

theorem limbs_lim (n : Nat) : Lim (limbs n) := by
  induction n using Nat.strongRecOn with
  | _ n ih =>
    by_cases h : n = 0
    · subst h; rw [limbs_zero]; intro x hx; cases hx
    · rw [limbs_pos (by omega)]
      intro x hx
      rcases List.mem_cons.1 hx with rfl | hx
      · omega
      · exact ih _ (by omega) x hx

theorem val_limbs (n : Nat) : val (limbs n) = n := by
  induction n using Nat.strongRecOn with
  | _ n ih =>
    by_cases h : n = 0
    · subst h; rw [limbs_zero]; rfl
    · rw [limbs_pos (by omega), val, ih _ (by omega)]
      omega

theorem Lim.cons {x : Int} {l : List Int} (h : Lim (x :: l)) : (0 ≤ x ∧ x < 4294967296) ∧ Lim l := ⟨h x (by simp), fun y hy => h y (by simp [hy])⟩

theorem val_append (a b : List Int) : val (a ++ b) = val a + 4294967296 ^ a.length * val b := by
  induction a with
  | nil => simp [val]
  | cons x a ih =>
    simp only [List.cons_append, val, ih, List.length_cons, Nat.pow_succ, Nat.mul_add]
    rw [Nat.mul_comm (4294967296 ^ a.length) 4294967296, Nat.mul_assoc]
    omega

theorem val_pos {l : List Int} (h : Lim l) (hne : l ≠ []) (hl : l.getLast hne ≠ 0) : 0 < val l := by
  induction l with
  | nil => exact absurd rfl hne
  | cons x l ih =>
    obtain ⟨hx, hl'⟩ := h.cons
    by_cases e : l = []
    · subst e
      simp at hl
      simp only [val]
      omega
    · have := ih hl' e (by rwa [List.getLast_cons e] at hl)
      simp only [val]
      omega

theorem limbs_val {l : List Int} (h : Lim l) (hn : ∀ hne : l ≠ [], l.getLast hne ≠ 0) : limbs (val l) = l := by
  induction l with
  | nil => exact limbs_zero
  | cons x l ih =>
    obtain ⟨hx, hl'⟩ := h.cons
    have hp := val_pos h (by simp) (hn (by simp))
    rw [limbs_pos hp]
    have ih' := ih hl' (fun e => by have := hn (by simp); rwa [List.getLast_cons e] at this)
    have h1 : val (x :: l) % 4294967296 = x.toNat := by simp only [val]; omega
    have h2 : val (x :: l) / 4294967296 = val l := by simp only [val]; omega
    rw [h1, h2, ih']
    congr 1
    omega

theorem val_lt {l : List Int} (h : Lim l) : val l < 4294967296 ^ l.length := by
  induction l with
  | nil => simp [val]
  | cons x l ih =>
    obtain ⟨hx, hl'⟩ := h.cons
    have := ih hl'
    simp only [val, List.length_cons, Nat.pow_succ]
    omega

theorem val_dropLast {l : List Int} (hne : l ≠ []) (hz : l.getLast hne = 0) : val l.dropLast = val l := by
  have := List.dropLast_concat_getLast hne
  conv => rhs; rw [← this]
  rw [val_append, hz]
  simp [val]

theorem limbs_len_le {n k : Nat} (h : n < 4294967296 ^ k) : (limbs n).length ≤ k := by
  induction k generalizing n with
  | zero => simp at h; subst h; rw [limbs_zero]; simp
  | succ k ih =>
    by_cases h0 : n = 0
    · subst h0; rw [limbs_zero]; simp
    · rw [limbs_pos (by omega)]
      simp only [List.length_cons]
      have := ih (n := n / 4294967296) (by rw [Nat.pow_succ] at h; omega)
      omega

theorem limbs_last (n : Nat) (hne : limbs n ≠ []) : (limbs n).getLast hne ≠ 0 := by
  induction n using Nat.strongRecOn with
  | _ n ih =>
    by_cases h : n = 0
    · subst h; exact absurd limbs_zero hne
    · have e := limbs_pos (show 0 < n by omega)
      by_cases h2 : n / 4294967296 = 0
      · have e2 : limbs n = [((n % 4294967296 : Nat) : Int)] := by rw [e, h2, limbs_zero]
        simp only [e2, List.getLast_singleton]
        omega
      · have hne2 : limbs (n / 4294967296) ≠ [] := by rw [limbs_pos (by omega)]; simp
        have := ih _ (by omega) hne2
        simp only [e, List.getLast_cons hne2]
        exact this

theorem limbs_nil (n : Nat) : limbs n = [] ↔ n = 0 := by
  constructor
  · intro h
    have := val_limbs n
    rw [h] at this
    exact this.symm
  · rintro rfl; exact limbs_zero

theorem limbs_cases (n : Nat) : (limbs n = [] ∧ n = 0) ∨ ∃ (x : Int) (l : List Int), limbs n = x :: l ∧ n = x.toNat + 4294967296 * val l ∧ 0 ≤ x ∧ x < 4294967296 ∧ Lim l := by
  cases h : limbs n with
  | nil => exact .inl ⟨rfl, (limbs_nil n).1 h⟩
  | cons x l =>
    have hv := val_limbs n
    have hx := limbs_lim n
    rw [h] at hv hx
    simp only [val] at hv
    exact .inr ⟨x, l, rfl, hv.symm, (hx.cons).1.1, (hx.cons).1.2, hx.cons.2⟩

/-- Division by one limb, the greatest limb first. -/
def sdiv (d : Nat) : List Int → List Int × Nat
  | [] => ([], 0)
  | x :: l => (((((sdiv d l).2 * 4294967296 + x.toNat) / d : Nat) : Int) :: (sdiv d l).1, ((sdiv d l).2 * 4294967296 + x.toNat) % d)

theorem sdiv_len (d : Nat) : ∀ l : List Int, (sdiv d l).1.length = l.length
  | [] => rfl
  | x :: l => by simp [sdiv, sdiv_len d l]

theorem sdiv_val (d : Nat) (hd : 0 < d) : ∀ (l : List Int), Lim l → val (sdiv d l).1 = val l / d ∧ (sdiv d l).2 = val l % d ∧ Lim (sdiv d l).1
  | [], _ => ⟨by simp [sdiv, val], by simp [sdiv, val], by intro x hx; cases hx⟩
  | x :: l, h => by
    obtain ⟨hx, hl⟩ := h.cons
    obtain ⟨h1, h2, h3⟩ := sdiv_val d hd l hl
    have hr : (sdiv d l).2 < d := by rw [h2]; exact Nat.mod_lt _ hd
    have e : (sdiv d l).2 * 4294967296 + x.toNat + 4294967296 * (val l / d) * d = val l * 4294967296 + x.toNat := by
      have := Nat.mod_add_div (val l) d
      rw [h2]
      have h4 : 4294967296 * (val l / d) * d = 4294967296 * (d * (val l / d)) := by rw [Nat.mul_assoc, Nat.mul_comm (val l / d) d]
      omega
    have hv : val (x :: l) = (sdiv d l).2 * 4294967296 + x.toNat + 4294967296 * (val l / d) * d := by simp only [val]; omega
    refine ⟨?_, ?_, ?_⟩
    · rw [hv, Nat.add_mul_div_right _ _ hd]
      simp only [sdiv, val, h1, Int.toNat_natCast]
    · rw [hv, Nat.add_mul_mod_self_right]
      simp only [sdiv]
    · intro y hy
      simp only [sdiv, List.mem_cons] at hy
      rcases hy with rfl | hy
      · refine ⟨Int.natCast_nonneg _, ?_⟩
        have : ((sdiv d l).2 * 4294967296 + x.toNat) / d < 4294967296 := by
          clear h1 h2 hv e
          rw [Nat.div_lt_iff_lt_mul hd]
          have h5 : ((sdiv d l).2 + 1) * 4294967296 ≤ d * 4294967296 := Nat.mul_le_mul_right _ hr
          rw [Nat.mul_comm d] at h5
          omega
        exact Int.ofNat_lt.2 this
      · exact h3 y hy

theorem quo_lt {r x d : Nat} (hr : r < d) (hx : x < 4294967296) : (r * 4294967296 + x) / d < 4294967296 := by
  rw [Nat.div_lt_iff_lt_mul (by omega)]
  have h5 : (r + 1) * 4294967296 ≤ d * 4294967296 := Nat.mul_le_mul_right _ hr
  rw [Nat.mul_comm d] at h5
  omega
theorem drop_pred {l : List Int} {k : Nat} (h0 : 0 < k) (hk : k ≤ l.length) : l.drop (k - 1) = l[k - 1]'(by omega) :: l.drop k := by
  have := List.drop_eq_getElem_cons (l := l) (i := k - 1) (by omega)
  rwa [show k - 1 + 1 = k by omega] at this
theorem rep_set {k : Nat} (h0 : 0 < k) (z v : Int) (q : List Int) : (List.replicate k z ++ q).set (k - 1) v = List.replicate (k - 1) z ++ v :: q := by
  obtain ⟨j, rfl⟩ : ∃ j, k = j + 1 := ⟨k - 1, by omega⟩
  rw [Nat.add_sub_cancel, List.replicate_succ', List.append_assoc, List.set_append_right _ _ (by simp)]
  simp

theorem limbs_len_mono {a b : Nat} (h : a ≤ b) : (limbs a).length ≤ (limbs b).length := by
  refine limbs_len_le (Nat.lt_of_le_of_lt h ?_)
  have := val_lt (limbs_lim b)
  rwa [val_limbs] at this

end NM

namespace Go.Proofs.Ytcdeiegpeiodjaa
open Go Go.AL NM
section
def natA (n : Nat) : AV := .agg [.sl 1 (irows .u32 (limbs n)) false]
theorem noid_sl (k : IntKind) (l : List Int) (t : Bool) : NoId (.sl 1 (irows k l) t) := .sl _ _ _ (irows_noid k l)
theorem natA_noid (n : Nat) : NoId (natA n) := .agg _ (by intro x hx; simp at hx; subst hx; exact noid_sl _ _ _)
theorem noid1 {x : AV} (h : NoId x) : ∀ y ∈ [x], NoId y := by intro y hy; simp at hy; subst hy; exact h
theorem noid2 {x y : AV} (h : NoId x) (h' : NoId y) : ∀ z ∈ [x, y], NoId z := by
  intro z hz; simp at hz; rcases hz with rfl | rfl; exact h; exact h'
theorem trim_ok (l : List Int) (hl : Lim l) (hb : l.length < 4294967296) : AC Try.prog 73 [.sl 1 (irows .u32 l) false] (.pure (natA (val l))) := by
  refine AC.of_body TTok Try.func73 rfl (enter_of Try.func73 (by kernel_rfl) (by kernel_rfl)) (noid1 (noid_sl _ _ _)) (natA_noid _) (Nat.le_of_ble_eq_true rfl) ?_
  conv => whnf
  refine SW.loopM TTok (fun l' : List Int => [(0, .sl 1 (irows .u32 l') false), (2, .lp 0 0)]) (fun _ => [(0, .cells 1 [[.sl 0 [] true]])]) 8 22 rfl List.length
    (fun l' => l'.length < 4294967296 ∧ Lim l' ∧ val l' = val l) l [] ⟨hb, hl, rfl⟩ ⟨⟨rfl, rfl⟩, ⟨rfl, rfl⟩, trivial⟩ ⟨⟨rfl, .inr ⟨rfl, rfl⟩⟩, trivial⟩ rfl ?_
  rintro l' ⟨hb', hl', hv⟩
  conv => whnf
  refine caseb (fun h1 => ?_) (fun h1 => ?_)
  · have h0 : 0 < l'.length := by have := of_decide_eq_true h1; rw [irows_len] at this; omega
    obtain ⟨x, hx⟩ : ∃ x, l'[l'.length - 1]? = some x := ⟨l'[l'.length - 1], List.getElem?_eq_getElem (by omega)⟩
    have e1 : IntKind.i64.wrap (((irows .u32 l').length : Int) - 1) = ((l'.length - 1 : Nat) : Int) := by rw [irows_len, IntWalk.i64_in _ (by omega)]; omega
    conv => whnf
    refine ⟨[.val (.int .u32 x)], ⟨by rw [e1]; omega, by rw [e1]; exact irows_get _ _ hx⟩, ?_⟩
    conv => whnf
    refine caseb (fun h2 => ?_) (fun h2 => ?_)
    · conv => whnf
      refine ⟨by rw [e1, irows_len]; omega, ?_⟩
      have hx0 : x = 0 := by simpa using h2
      have hne : l' ≠ [] := by intro e; subst e; simp at h0
      have hlast : l'.getLast hne = 0 := by rw [← hx0, List.getLast_eq_getElem]; exact (List.getElem?_eq_some_iff.1 hx).2
      refine ⟨l'.dropLast, [], by simp; omega, ⟨by simp; omega, fun y hy => hl' y (List.dropLast_subset _ hy), by rw [val_dropLast hne hlast, hv]⟩, ⟨⟨slE ?_, rfl⟩, ⟨rfl, rfl⟩, trivial⟩, ⟨⟨rfl, .inr ⟨rfl, rfl⟩⟩, trivial⟩, rfl⟩
      conv => lhs; whnf
      rw [e1, irows_take, List.dropLast_eq_take]; rfl
    · conv => whnf
      have hx0 : x ≠ 0 := by simpa using h2
      show AV.agg [.sl 1 (irows .u32 l') false] = _
      unfold natA
      rw [← hv, limbs_val hl' (fun hne => by rw [List.getLast_eq_getElem]; intro e; apply hx0; rw [← e]; exact ((List.getElem?_eq_some_iff.1 hx).2).symm)]
  · conv => whnf
    have h0 : l' = [] := by
      have := of_decide_eq_false h1
      rw [irows_len] at this
      exact List.eq_nil_of_length_eq_zero (by omega)
    subst h0
    show AV.agg [.sl 1 (irows .u32 []) false] = _
    unfold natA
    rw [← hv]
    show _ = AV.agg [.sl 1 (irows .u32 (limbs 0)) false]
    rw [limbs_zero]

theorem Of_ok (n : Nat) (hn : n < 18446744073709551616) : AC Try.prog 45 [.val (.int .u64 n)] (.pure (natA n)) := by
  refine AC.of_body TTok Try.func45 rfl (enter_of Try.func45 (by kernel_rfl) (by kernel_rfl)) (noid1 (.val _)) (natA_noid _) (Nat.le_of_ble_eq_true rfl) ?_
  have ea : IntKind.u32.wrap (n : Int) = ((n % 4294967296 : Nat) : Int) := by rw [IntKind.wrap_u32]; omega
  have eb : IntKind.u32.wrap ((n : Int).fdiv (2 ^ (min (32 : Int).toNat IntKind.u64.bits))) = ((n / 4294967296 : Nat) : Int) := by
    rw [IntKind.wrap_u32]
    show (n : Int).fdiv 4294967296 % 4294967296 = _
    rw [Int.fdiv_eq_ediv_of_nonneg _ (by decide)]
    omega
  have hl : Lim [((n % 4294967296 : Nat) : Int), ((n / 4294967296 : Nat) : Int)] := by
    intro x hx
    simp at hx
    rcases hx with rfl | rfl <;> omega
  have hv : val [((n % 4294967296 : Nat) : Int), ((n / 4294967296 : Nat) : Int)] = n := by simp only [val]; omega
  conv => whnf
  refine ⟨by decide, ?_⟩
  conv => whnf
  refine ⟨Nat.le_of_ble_eq_true rfl, .pure (natA n), ?_, ?_⟩
  · have := trim_ok _ hl (by simp)
    rw [hv, ← ea, ← eb] at this
    exact this
  conv => whnf
  exact rfl

theorem Zero_ok (n : Nat) : AC Try.prog 91 [natA n] (.pure (.val (.bool (decide (n = 0))))) := by
  refine AC.of_body TTok Try.func91 rfl (enter_of Try.func91 (by kernel_rfl) (by kernel_rfl)) (noid1 (natA_noid n)) (.val _) (Nat.le_of_ble_eq_true rfl) ?_
  conv => whnf
  refine valB ?_
  show ((((irows .u32 (limbs n)).length : Nat) : Int) == 0) = _
  rw [irows_len, Bool.eq_iff_iff]
  simp [limbs_nil]
theorem One_ok (n : Nat) : AC Try.prog 76 [natA n] (.pure (.val (.bool (decide (n = 1))))) := by
  refine AC.of_body TTok Try.func76 rfl (enter_of Try.func76 (by kernel_rfl) (by kernel_rfl)) (noid1 (natA_noid n)) (.val _) (Nat.le_of_ble_eq_true rfl) ?_
  unfold natA
  rcases limbs_cases n with ⟨e, hn⟩ | ⟨x, l, e, hn, hx0, hx1, hl⟩
  · rw [e]
    conv => whnf
    refine valB ?_
    show false = _
    rw [hn]
    rfl
  · rw [e]
    have hlast := limbs_last n
    rw [e] at hlast
    conv => whnf
    refine caseb (fun h1 => ?_) (fun h1 => ?_)
    · have h1' : ((irows .u32 (x :: l)).length : Int) = 1 := of_decide_eq_true h1
      clear h1
      rw [irows_len, List.length_cons] at h1'
      have hl0 : l = [] := List.eq_nil_of_length_eq_zero (by omega)
      conv => whnf
      refine ⟨[.val (.int .u32 x)], ⟨Int.le_refl 0, rfl⟩, ?_⟩
      conv => whnf
      refine valB ?_
      show (x == 1) = _
      refine beqD ?_
      rw [hn, hl0]
      simp only [val]
      omega
    · have h1' : ¬ ((irows .u32 (x :: l)).length : Int) = 1 := of_decide_eq_false h1
      clear h1
      rw [irows_len, List.length_cons] at h1'
      have hl0 : l ≠ [] := by intro e; rw [e] at h1'; exact h1' rfl
      have hp : 0 < val l := val_pos hl hl0 (by rw [← List.getLast_cons (a := x) hl0]; exact hlast (by simp))
      conv => whnf
      refine valB ?_
      show false = _
      symm
      rw [decide_eq_false_iff_not]
      omega

theorem Uint_ok (n : Nat) : AC Try.prog 77 [natA n] (.pure (.tup [.val (.int .u64 (if n < 18446744073709551616 then n else 0)), .val (.bool (decide (n < 18446744073709551616)))])) := by
  refine AC.of_body TTok Try.func77 rfl (enter_of Try.func77 (by kernel_rfl) (by kernel_rfl)) (noid1 (natA_noid n)) (.tup _ (noid2 (.val _) (.val _))) (Nat.le_of_ble_eq_true rfl) ?_
  unfold natA
  have hlast := limbs_last n
  have hv := val_limbs n
  have hL := limbs_lim n
  generalize limbs n = l at *
  rcases l with _ | ⟨x, _ | ⟨y, _ | ⟨z, l⟩⟩⟩
  · have h0 : n = 0 := hv.symm
    rw [h0]
    conv => whnf
    exact rfl
  · have hx := hL x (by simp)
    simp only [val] at hv
    rw [if_pos (show n < 18446744073709551616 by omega), decide_eq_true (show n < 18446744073709551616 by omega)]
    conv => whnf
    refine ⟨[.val (.int .u32 x)], ⟨Int.le_refl 0, rfl⟩, ?_⟩
    conv => whnf
    refine tup2 (valI ?_) rfl
    rw [IntKind.wrap_u64]
    omega
  · have hx := hL x (by simp)
    have hy := hL y (by simp)
    simp only [val] at hv
    rw [if_pos (show n < 18446744073709551616 by omega), decide_eq_true (show n < 18446744073709551616 by omega)]
    conv => whnf
    refine ⟨[.val (.int .u32 x)], ⟨Int.le_refl 0, rfl⟩, ?_⟩
    conv => whnf
    refine ⟨[.val (.int .u32 y)], ⟨by decide, rfl⟩, ?_⟩
    conv => whnf
    refine ⟨by decide, ?_⟩
    conv => whnf
    refine ⟨by kernel_rfl, ?_⟩
    conv => whnf
    refine tup2 (valI ?_) rfl
    have e1 : IntKind.u64.wrap x = ((x.toNat : Nat) : Int) := by rw [IntKind.wrap_u64]; omega
    have e2 : IntKind.u64.wrap (IntKind.u64.wrap y * 2 ^ (min (32 : Int).toNat IntKind.u64.bits)) = ((y.toNat * 2 ^ 32 : Nat) : Int) := by
      show IntKind.u64.wrap (IntKind.u64.wrap y * 4294967296) = _
      rw [IntKind.wrap_u64, IntKind.wrap_u64]
      omega
    have h3 := or_add' 64 y.toNat x.toNat 32 (by omega) (by omega)
    show IntKind.u64.wrap ((BitVec.ofInt 64 (IntKind.u64.wrap x) ||| BitVec.ofInt 64 (IntKind.u64.wrap (IntKind.u64.wrap y * 2 ^ (min (32 : Int).toNat IntKind.u64.bits)))).toNat : Int) = _
    rw [e1, e2, h3, IntKind.wrap_u64]
    omega
  · have hp : 0 < val (z :: l) := val_pos (fun a ha => hL a (by simp at ha ⊢; exact .inr (.inr ha))) (by simp) (by have := hlast (by simp); rwa [List.getLast_cons (by simp), List.getLast_cons (by simp)] at this)
    have hx := hL x (by simp)
    have hy := hL y (by simp)
    simp only [val] at hv hp
    have hge : ¬ n < 18446744073709551616 := by omega
    rw [if_neg hge, decide_eq_false hge]
    conv => whnf
    exact rfl

end
section

theorem small_ok (n d : Nat) (hd : 0 < d) (hd' : d < 4294967296) (hb : (limbs n).length < 4294967296) : AC Try.prog 92 [natA n, .val (.int .u32 d)] (.pure (.tup [natA (n / d), .val (.int .u32 (n % d : Nat))])) := by
  refine AC.of_body TTok Try.func92 rfl (enter_of Try.func92 (by kernel_rfl) (by kernel_rfl)) (noid2 (natA_noid n) (.val _)) (.tup _ (noid2 (natA_noid _) (.val _))) (Nat.le_of_ble_eq_true rfl) ?_
  unfold natA
  have hv := val_limbs n
  have hL := limbs_lim n
  generalize limbs n = l at *
  subst hv
  conv => whnf
  refine ⟨⟨?_, ?_, ?_⟩, ?_⟩
  · rw [irows_len]; omega
  · rw [irows_len]; omega
  · rw [irows_len]; show (l.length : Int) * 4 ≤ _; omega
  conv => whnf
  refine SW.loopM TTok (fun k : Nat => [(1, .val (.int .u32 d)), (2, .lp 0 0), (4, .lp 8 0), (6, .own 48 0 l.length), (7, .val (.int .u64 (sdiv d (l.drop k)).2)), (8, .val (.int .i64 ((k : Int) - 1)))])
    (fun k => [(0, .cells 1 [[.sl 1 (irows .u32 l) false]]), (8, .cells 1 [[.sl 0 [] true]]), (48, .cells 1 (irows .u32 (List.replicate k 0 ++ (sdiv d (l.drop k)).1)))]) 112 47 rfl id
    (fun k => k ≤ l.length) l.length [] (Nat.le_refl _) ⟨⟨rfl, rfl⟩, ⟨rfl, rfl⟩, ⟨rfl, rfl⟩, ⟨ownE rfl ?_, rfl⟩, ⟨valI ?_, rfl⟩, ⟨valI ?_, rfl⟩, trivial⟩
    ⟨⟨rfl, .inr ⟨rfl, rfl⟩⟩, ⟨rfl, .inr ⟨rfl, rfl⟩⟩, ⟨rfl, .inl ⟨celE ?_, irows_noid _ _⟩⟩, trivial⟩ rfl ?_
  · rw [irows_len]; omega
  · rw [List.drop_length]; rfl
  · rw [irows_len, IntWalk.i64_in _ (by omega)]
  · rw [irows_len, List.drop_length]
    show List.replicate ((l.length : Int).toNat) [AV.val (.int .u32 0)] = _
    rw [Int.toNat_natCast, irows_rep]
    simp [sdiv]
  intro k hk
  conv => whnf
  refine caseb (fun h1 => ?_) (fun h1 => ?_)
  · have h1' : (k : Int) - 1 ≥ 0 := of_decide_eq_true h1
    clear h1
    conv => whnf
    refine ⟨by decide, ?_⟩
    conv => whnf
    refine ⟨[.val (.int .u32 (l[k - 1]'(by omega)))], ⟨h1', ?_⟩, ?_⟩
    · rw [show ((k : Int) - 1).toNat = k - 1 by omega]
      exact irows_get _ _ (List.getElem?_eq_getElem (by omega))
    conv => whnf
    have hx := hL (l[k - 1]'(by omega)) (List.getElem_mem _)
    have hr : (sdiv d (l.drop k)).2 < d := by
      rw [(sdiv_val d hd (l.drop k) (fun y hy => hL y (List.mem_of_mem_drop hy))).2.1]
      exact Nat.mod_lt _ hd
    have ht : IntKind.u64.wrap ((BitVec.ofInt IntKind.u64.bits (IntKind.u64.wrap (((sdiv d (l.drop k)).2 : Nat) * 2 ^ (min (32 : Int).toNat IntKind.u64.bits))) ||| BitVec.ofInt IntKind.u64.bits (IntKind.u64.wrap (l[k - 1]'(by omega)))).toNat : Int) =
        (((sdiv d (l.drop k)).2 * 4294967296 + (l[k - 1]'(by omega)).toNat : Nat) : Int) := by
      have e1 : IntKind.u64.wrap (((sdiv d (l.drop k)).2 : Nat) * 2 ^ (min (32 : Int).toNat IntKind.u64.bits)) = (((sdiv d (l.drop k)).2 * 2 ^ 32 : Nat) : Int) := by
        show IntKind.u64.wrap ((((sdiv d (l.drop k)).2 : Nat) : Int) * 4294967296) = _
        rw [IntKind.wrap_u64]; omega
      have e2 : IntKind.u64.wrap (l[k - 1]'(by omega)) = (((l[k - 1]'(by omega)).toNat : Nat) : Int) := by rw [IntKind.wrap_u64]; omega
      rw [e1, e2]
      show IntKind.u64.wrap ((BitVec.ofInt 64 _ ||| BitVec.ofInt 64 _).toNat : Int) = _
      rw [or_add 64 _ _ 32 (by omega) (by omega), IntKind.wrap_u64]
      omega
    have hq : sdiv d (l.drop (k - 1)) = sdiv d (l[k - 1]'(by omega) :: l.drop k) := by rw [drop_pred (by omega) hk]
    have hd64 : IntKind.u64.wrap (d : Int) = d := by rw [IntKind.wrap_u64]; omega
    refine ⟨by rw [hd64]; omega, ?_⟩
    conv => whnf
    refine ⟨by rw [hd64]; omega, ?_⟩
    conv => whnf
    refine ⟨⟨h1', by omega⟩, ?_⟩
    conv => whnf
    refine ⟨by rw [irows_len, List.length_append, List.length_replicate, sdiv_len, List.length_drop]; omega, ?_⟩
    conv => whnf
    refine ⟨by kernel_rfl, ?_⟩
    conv => whnf
    refine ⟨k - 1, [], (by show k - 1 < k; omega), (by show k - 1 ≤ l.length; omega), ⟨⟨rfl, rfl⟩, ⟨rfl, rfl⟩, ⟨rfl, rfl⟩, ⟨rfl, rfl⟩, ⟨valI ?_, rfl⟩, ⟨valI ?_, rfl⟩, trivial⟩,
      ⟨⟨rfl, .inr ⟨rfl, rfl⟩⟩, ⟨rfl, .inr ⟨rfl, rfl⟩⟩, ⟨rfl, .inl ⟨celE ?_, irows_noid _ _⟩⟩, trivial⟩, rfl⟩
    · rw [hd64, ht, hq]
      show ((((sdiv d (l.drop k)).2 * 4294967296 + (l[k - 1]'(by omega)).toNat : Nat) : Int)).tmod d = _
      rw [Int.tmod_eq_emod_of_nonneg (Int.natCast_nonneg _)]
      rfl
    · rw [IntWalk.i64_in _ (by omega)]; omega
    · rw [hd64, ht, hq, show 0 + ((k : Int) - 1).toNat = k - 1 by omega, irows_set, rep_set (by omega)]
      congr 3
      show IntKind.u32.wrap (IntKind.u64.wrap ((((sdiv d (l.drop k)).2 * 4294967296 + (l[k - 1]'(by omega)).toNat : Nat) : Int).tdiv d)) = ((((sdiv d (l.drop k)).2 * 4294967296 + (l[k - 1]'(by omega)).toNat) / d : Nat) : Int)
      rw [Int.tdiv_eq_ediv_of_nonneg (Int.natCast_nonneg _), ← Int.natCast_ediv]
      have hlt := quo_lt hr (show (l[k - 1]'(by omega)).toNat < 4294967296 by omega)
      generalize ((sdiv d (l.drop k)).2 * 4294967296 + (l[k - 1]'(by omega)).toNat) / d = q at *
      rw [IntKind.wrap_u64, IntKind.wrap_u32]
      omega
  · have h1' : ¬ (k : Int) - 1 ≥ 0 := of_decide_eq_false h1
    have hk0 : k = 0 := by omega
    subst hk0
    have hs := sdiv_val d hd l hL
    conv => whnf
    refine ⟨?_, .pure (natA (val l / d)), ?_, ?_⟩
    · show 0 + l.length ≤ (irows .u32 (List.replicate 0 0 ++ (sdiv d (l.drop 0)).1)).length
      rw [irows_len, List.drop_zero, List.replicate_zero, List.nil_append, sdiv_len]; omega
    · have := trim_ok (sdiv d l).1 hs.2.2 (by rw [sdiv_len]; exact hb)
      rw [hs.1] at this
      have e : List.take l.length (List.drop 0 (irows .u32 (List.replicate 0 0 ++ (sdiv d (l.drop 0)).1))) = irows .u32 (sdiv d l).1 := by
        rw [List.drop_zero, List.drop_zero, List.replicate_zero, List.nil_append]
        exact List.take_of_length_le (by rw [irows_len, sdiv_len]; exact Nat.le_refl _)
      rw [e]
      exact this
    conv => whnf
    refine tup2 rfl (valI ?_)
    show IntKind.u32.wrap (((sdiv d (l.drop 0)).2 : Nat) : Int) = _
    rw [List.drop_zero, hs.2.1, IntKind.wrap_u32]
    have : val l % d < d := Nat.mod_lt _ hd
    omega

end
end Go.Proofs.Ytcdeiegpeiodjaa

set_option linter.unusedSimpArgs false
namespace Go.AL
open Go Go.RowKit

/-- Bytes. -/
def Byt (l : List Int) : Prop := ∀ x ∈ l, 0 ≤ x ∧ x < 256

theorem Byt.cons {x : Int} {l : List Int} (h : Byt (x :: l)) : (0 ≤ x ∧ x < 256) ∧ Byt l := ⟨h x (by simp), fun y hy => h y (by simp [hy])⟩
theorem Byt.append {a b : List Int} (ha : Byt a) (hb : Byt b) : Byt (a ++ b) := fun x hx => (List.mem_append.1 hx).elim (ha x) (hb x)
theorem Byt.take {l : List Int} (h : Byt l) (k : Nat) : Byt (l.take k) := fun x hx => h x (List.mem_of_mem_take hx)
theorem Byt.drop {l : List Int} (h : Byt l) (k : Nat) : Byt (l.drop k) := fun x hx => h x (List.mem_of_mem_drop hx)
theorem Byt.reverse {l : List Int} (h : Byt l) : Byt l.reverse := fun x hx => h x (by simpa using hx)

theorem byte_of {x : Int} (h : 0 ≤ x ∧ x < 256) : ((UInt8.ofNat x.toNat).toNat : Int) = x := by
  rw [UInt8.toNat_ofNat']
  omega

theorem strL_size (l : List Int) : (strL l).size = l.length := by
  show (strL l).data.size = _
  unfold strL
  simp

theorem byteAt_strL {l : List Int} (h : Byt l) {i : Int} (h0 : 0 ≤ i) {x : Int} (hx : l[i.toNat]? = some x) : byteAt (strL l) i = x := by
  unfold byteAt strL
  simp only [List.getD, List.getElem?_map, hx, Option.map_some, Option.getD_some]
  exact byte_of (h x (List.mem_of_getElem? hx))

theorem strL_extract (l : List Int) (a b : Nat) : (strL l).extract a b = strL ((l.take b).drop a) := by
  apply ByteArray.ext
  rw [ByteArray.data_extract]
  unfold strL
  simp [List.map_take, List.map_drop, List.extract_eq_take_drop, List.drop_take]

end Go.AL

set_option linter.unusedSimpArgs false
namespace Go.AL
open Go Go.RowKit

theorem Wk.nil {s : St} (d sz : Nat) {sz0 : Nat} (h : s.t d = .sl sz0 [] true) : Wk s ⟨upd s.t d (.own s.n 0 0), updH s.h s.n (some (.cells sz [])), s.n + 8, s.m⟩ := by
  intro gh w0 F0 a w ⟨F, ρ, hR⟩
  have h1 := hR.name s.n (Nat.le_refl _) ⟨0, 0, sz, 0⟩ (.cells sz []) ⟨rfl, (fun r hr => (nomatch hr)), fun _ => rfl, fun h => absurd h (Nat.lt_irrefl 0)⟩ (fun h => absurd h (Nat.lt_irrefl 0)) (fun h => absurd h (Nat.lt_irrefl 0))
  refine ⟨F, _, { h1 with vals := fun t => ?_, fresh := fun id hid => h1.fresh id ⟨by have : s.n + 8 ≤ id := hid; show s.n ≤ id; omega, by have : s.n + 8 ≤ id := hid; omega⟩ }⟩
  show VR w F _ _ (upd s.t d (.own s.n 0 0) t)
  by_cases e : t = d
  · subst e
    rw [upd_same]
    have hv := hR.vals t
    rw [h] at hv
    generalize gval a gh t = v at hv
    cases hv with
    | sl A n c _ _ _ b o vals hn hc ht hw hA h0 h1 h2 hno =>
      have hn0 : n = 0 := hn
      have hc0 : c = 0 := by rw [ht rfl, hn0]
      subst hn0
      subst hc0
      exact .own A s.n 0 0 0 ⟨0, 0, sz, 0⟩ (by simp [putρ]) (Nat.le_refl _) (fun h => absurd h (Nat.lt_irrefl 0))
  · rw [upd_ne _ _ e]
    exact h1.vals t

/-- The empty slice of a slot is taken as a live block. -/
theorem SW.nil {P : Program} {c : Code} {Q : Exit → St → Prop} {s : St} (d sz : Nat) {sz0 : Nat} (h : s.t d = .sl sz0 [] true)
    (hs : SW P c Q ⟨upd s.t d (.own s.n 0 0), updH s.h s.n (some (.cells sz [])), s.n + 8, s.m⟩) : SW P c Q s := SW.weak (Wk.nil d sz h) rfl hs

end Go.AL

namespace NM

/-- The digits as characters, the least one first. -/
def decR (n : Nat) : List Int :=
  if h : n = 0 then [] else ((48 + n % 10 : Nat) : Int) :: decR (n / 10)
termination_by n
decreasing_by omega

theorem decR_zero : decR 0 = [] := by rw [decR]; simp
theorem decR_pos {n : Nat} (h : 0 < n) : decR n = ((48 + n % 10 : Nat) : Int) :: decR (n / 10) := by
  rw [decR, dif_neg (by omega)]

/-- The digits as characters. -/
def decL (n : Nat) : List Int := if n = 0 then [48] else (decR n).reverse

theorem decR_byt (n : Nat) : ∀ x ∈ decR n, 48 ≤ x ∧ x < 58 := by
  induction n using Nat.strongRecOn with
  | _ n ih =>
    by_cases h : n = 0
    · subst h; rw [decR_zero]; intro x hx; cases hx
    · rw [decR_pos (by omega)]
      intro x hx
      rcases List.mem_cons.1 hx with rfl | hx
      · omega
      · exact ih _ (by omega) x hx

theorem decR_nil (n : Nat) : decR n = [] ↔ n = 0 := by
  constructor
  · intro h
    by_cases h0 : n = 0
    · exact h0
    · rw [decR_pos (by omega)] at h; cases h
  · rintro rfl; exact decR_zero

/-- The value of digits, the least one first. -/
def valR : List Int → Nat
  | [] => 0
  | x :: l => (x - 48).toNat + 10 * valR l

def Dig (l : List Int) : Prop := ∀ x ∈ l, 48 ≤ x ∧ x < 58

theorem Dig.cons {x : Int} {l : List Int} (h : Dig (x :: l)) : (48 ≤ x ∧ x < 58) ∧ Dig l := ⟨h x (by simp), fun y hy => h y (by simp [hy])⟩

theorem valR_pos {l : List Int} (h : Dig l) (hne : l ≠ []) (hl : l.getLast hne ≠ 48) : 0 < valR l := by
  induction l with
  | nil => exact absurd rfl hne
  | cons x l ih =>
    obtain ⟨hx, hl'⟩ := h.cons
    by_cases e : l = []
    · subst e
      simp at hl
      simp only [valR]
      omega
    · have := ih hl' e (by rwa [List.getLast_cons e] at hl)
      simp only [valR]
      omega

/-- Digits without noughts at the end are the digits of their value. -/
theorem decR_valR {l : List Int} (h : Dig l) (hn : ∀ hne : l ≠ [], l.getLast hne ≠ 48) : decR (valR l) = l := by
  induction l with
  | nil => exact decR_zero
  | cons x l ih =>
    obtain ⟨hx, hl'⟩ := h.cons
    have hp := valR_pos h (by simp) (hn (by simp))
    rw [decR_pos hp]
    have ih' := ih hl' (fun e => by have := hn (by simp); rwa [List.getLast_cons e] at this)
    have h1 : valR (x :: l) % 10 = (x - 48).toNat := by simp only [valR]; omega
    have h2 : valR (x :: l) / 10 = valR l := by simp only [valR]; omega
    rw [h1, h2, ih']
    congr 1
    omega

theorem valR_append (a b : List Int) : valR (a ++ b) = valR a + 10 ^ a.length * valR b := by
  induction a with
  | nil => simp [valR]
  | cons x a ih =>
    simp only [List.cons_append, valR, ih, List.length_cons, Nat.pow_succ, Nat.mul_add]
    rw [Nat.mul_comm (10 ^ a.length) 10, Nat.mul_assoc]
    omega

/-- The value of digits, the greatest one first. -/
def valL (l : List Int) : Nat := valR l.reverse

theorem valL_cons (x : Int) (l : List Int) : valL (x :: l) = (x - 48).toNat * 10 ^ l.length + valL l := by
  unfold valL
  rw [List.reverse_cons, valR_append]
  simp only [valR, List.length_reverse, Nat.mul_zero, Nat.add_zero]
  rw [Nat.mul_comm]
  omega
/-- Digits without noughts ahead, or just one digit, are those of their value. -/
theorem decL_valL {l : List Int} (h : Dig l) (hne : l ≠ []) (hn : l.length = 1 ∨ l.head hne ≠ 48) : decL (valL l) = l := by
  by_cases h48 : l.head hne = 48
  · rcases hn with hn | hn
    · match l, hn with
      | [x], _ =>
        simp at h48
        subst h48
        rfl
    · exact absurd h48 hn
  · have hr : Dig l.reverse := fun x hx => h x (by simpa using hx)
    have hner : l.reverse ≠ [] := by simpa using hne
    have hlast : l.reverse.getLast hner ≠ 48 := by rw [List.getLast_reverse]; exact h48
    have hp : 0 < valL l := valR_pos hr hner hlast
    unfold decL
    rw [if_neg (by omega)]
    unfold valL
    rw [decR_valR hr (fun _ => hlast), List.reverse_reverse]

theorem decR_len {n k : Nat} (h : n < 10 ^ k) : (decR n).length ≤ k := by
  induction k generalizing n with
  | zero => simp at h; subst h; rw [decR_zero]; simp
  | succ k ih =>
    by_cases h0 : n = 0
    · subst h0; rw [decR_zero]; simp
    · rw [decR_pos (by omega)]
      simp only [List.length_cons]
      have := ih (n := n / 10) (by rw [Nat.pow_succ] at h; omega)
      omega

/-- One digit off a number whose lowest k digits are r. -/
theorem decR_step {k r q : Nat} (h : 0 < r ∨ 0 < q) : decR (r + 10 ^ (k + 1) * q) = ((48 + r % 10 : Nat) : Int) :: decR (r / 10 + 10 ^ k * q) := by
  have hp : 0 < r + 10 ^ (k + 1) * q := by
    rcases h with h | h
    · omega
    · have : 0 < 10 ^ (k + 1) * q := Nat.mul_pos (Nat.pow_pos (by decide)) h
      omega
  rw [decR_pos hp]
  have e : r + 10 ^ (k + 1) * q = r + 10 * (10 ^ k * q) := by rw [Nat.pow_succ, Nat.mul_comm (10 ^ k) 10, Nat.mul_assoc]
  rw [e, Nat.add_mul_mod_self_left, Nat.add_mul_div_left _ _ (by decide)]

/-- A list whose first i and last i ones have changed their places. -/
def swp (l : List Int) (i : Nat) : List Int := (List.range l.length).map fun k => if k < i ∨ l.length ≤ k + i then l.getD (l.length - 1 - k) 0 else l.getD k 0

theorem swp_len (l : List Int) (i : Nat) : (swp l i).length = l.length := by simp [swp]
theorem swp_zero (l : List Int) : swp l 0 = l := by
  apply List.ext_getElem (by simp [swp])
  intro k h1 h2
  simp only [swp, List.getElem_map, List.getElem_range]
  rw [if_neg (by omega)]
  simp [List.getD, List.getElem?_eq_getElem h2]
theorem swp_done (l : List Int) (i : Nat) (h : l.length ≤ 2 * i + 1) : swp l i = l.reverse := by
  apply List.ext_getElem (by simp [swp])
  intro k h1 h2
  simp only [swp, List.getElem_map, List.getElem_range, List.getElem_reverse]
  simp at h2
  split
  · simp [List.getD, List.getElem?_eq_getElem (show l.length - 1 - k < l.length by omega)]
  · have : l.length - 1 - k = k := by omega
    simp [List.getD, List.getElem?_eq_getElem h2, this]
theorem swp_get {l : List Int} {i k : Nat} (hk : k < l.length) (h : ¬ (k < i ∨ l.length ≤ k + i)) : (swp l i)[k]? = l[k]? := by
  simp only [swp, List.getElem?_map, List.getElem?_range hk, Option.map_some]
  rw [if_neg h]
  simp [List.getD, List.getElem?_eq_getElem hk]
theorem swp_step {l : List Int} {i : Nat} (h : 2 * i + 1 < l.length) : ((swp l i).set i (l.getD (l.length - 1 - i) 0)).set (l.length - 1 - i) (l.getD i 0) = swp l (i + 1) := by
  apply List.ext_getElem (by simp [swp])
  intro k h1 h2
  simp [swp] at h2
  rw [List.getElem_set]
  split
  · rename_i e
    simp only [swp, List.getElem_map, List.getElem_range]
    rw [if_pos (by omega), show l.length - 1 - k = i by omega]
  · rw [List.getElem_set]
    split
    · rename_i e
      subst e
      simp only [swp, List.getElem_map, List.getElem_range]
      rw [if_pos (by omega)]
    · simp only [swp, List.getElem_map, List.getElem_range]
      by_cases hc : k < i ∨ l.length ≤ k + i
      · rw [if_pos hc, if_pos (by omega)]
      · rw [if_neg hc, if_neg (by omega)]

end NM

namespace Go.Proofs.Ytcdeiegpeiodjaa
open Go Go.AL NM
section

def decS (n : Nat) : ByteArray := strL (decL n)
theorem Dig.byt {l : List Int} (h : Dig l) : Byt l := fun x hx => by have := h x hx; omega
theorem getD_eq {l : List Int} {i : Nat} (h : i < l.length) : l[i]? = some (l.getD i 0) := by
  rw [List.getD, List.getElem?_eq_getElem h]; rfl

theorem decR_limbs (n : Nat) : (decR n).length ≤ 10 * (limbs n).length := by
  refine decR_len (Nat.lt_of_lt_of_le (m := 4294967296 ^ (limbs n).length) ?_ ?_)
  · have := val_lt (limbs_lim n)
    rwa [val_limbs] at this
  · rw [Nat.pow_mul]
    exact Nat.pow_le_pow_left (by decide) _

theorem Text_ok (n : Nat) (hb : (limbs n).length < 4294967296) : AC Try.prog 82 [natA n] (.pure (.val (.string (decS n)))) := by
  refine AC.of_body TTok Try.func82 rfl (enter_of Try.func82 (by kernel_rfl) (by kernel_rfl)) (noid1 (natA_noid n)) (.val _) (Nat.le_of_ble_eq_true rfl) ?_
  by_cases hn0 : n = 0
  · subst hn0
    unfold natA
    rw [limbs_zero]
    conv => whnf
    exact rfl
  have hne : limbs n ≠ [] := fun e => hn0 ((limbs_nil n).1 e)
  have hlen : 0 < (limbs n).length := List.length_pos_iff.2 hne
  conv => whnf
  refine caseb (fun h1 => ?_) (fun h1 => ?_)
  · have h1' : ((irows .u32 (limbs n)).length : Int) = 0 := of_decide_eq_true h1
    rw [irows_len] at h1'
    omega
  clear h1
  conv => whnf
  have hdl := decR_limbs n
  refine SW.nil 3 1 rfl ?_
  refine SW.loopM TTok (fun x : Nat × List Int => [(1, .lp 0 0), (3, .own 56 0 x.2.length)])
    (fun x => [(0, .cells 1 [[.sl 1 (irows .u32 (limbs x.1)) false]]), (56, .cells 1 (irows .u8 x.2))]) 64 70 rfl (fun x => x.1)
    (fun x => x.1 ≤ n ∧ x.2 ++ decR x.1 = decR n) (n, []) [] ⟨Nat.le_refl _, rfl⟩ ⟨⟨rfl, rfl⟩, ⟨rfl, rfl⟩, trivial⟩
    ⟨⟨rfl, .inr ⟨rfl, rfl⟩⟩, ⟨rfl, .inr ⟨rfl, rfl⟩⟩, trivial⟩ rfl ?_
  rintro ⟨q, out⟩ ⟨hq, ho⟩
  have hq : q ≤ n := hq
  have ho : out ++ decR q = decR n := ho
  conv => whnf
  refine ⟨.pure (.val (.bool (decide (q = 0)))), Zero_ok q, ?_⟩
  conv => whnf
  refine caseb (fun h1 => ?_) (fun h1 => ?_)
  · have hq0 : q ≠ 0 := of_decide_eq_false (by simpa using h1)
    conv => whnf
    have hsm := small_ok q 1000000000 (by decide) (by decide) (by have := limbs_len_mono hq; omega)
    have hdm := Nat.mod_add_div q 1000000000
    have hml := Nat.mod_lt q (show 1000000000 > 0 by decide)
    generalize q / 1000000000 = q' at *
    generalize q % 1000000000 = r' at *
    refine ⟨.pure (.tup [natA q', .val (.int .u32 (r' : Nat))]), hsm, ?_⟩
    conv => whnf
    refine SW.loopM TTok (fun x : Nat × Nat × List Int => [(1, .lp 0 0), (3, .own 56 0 x.2.2.length), (4, .lp 128 0), (5, .val (.int .u32 x.2.1)), (6, .val (.int .i64 x.1))])
      (fun x => [(0, .cells 1 [[.sl 1 (irows .u32 (limbs q)) false]]), (56, .cells 1 (irows .u8 x.2.2)), (128, .cells 1 [[.sl 1 (irows .u32 (limbs (q'))) false]])]) 160 70 rfl (fun x => 9 - x.1)
      (fun x => x.1 ≤ 9 ∧ x.2.1 < 10 ^ (9 - x.1) ∧ x.2.2 ++ decR (x.2.1 + 10 ^ (9 - x.1) * (q')) = decR n) (0, r', out) [] ⟨Nat.zero_le _, ?_, ?_⟩
      ⟨⟨rfl, rfl⟩, ⟨rfl, rfl⟩, ⟨rfl, rfl⟩, ⟨rfl, rfl⟩, ⟨rfl, rfl⟩, trivial⟩
      ⟨⟨rfl, .inr ⟨rfl, rfl⟩⟩, ⟨rfl, .inl ⟨rfl, irows_noid _ _⟩⟩, ⟨rfl, .inr ⟨rfl, rfl⟩⟩, trivial⟩ rfl ?_
    · exact hml
    · rw [← ho]
      show out ++ decR (r' + 1000000000 * q') = out ++ decR q
      rw [hdm]
    rintro ⟨i, r, out⟩ ⟨hi, hr, ho⟩
    have hi : i ≤ 9 := hi
    have hr : r < 10 ^ (9 - i) := hr
    have ho : out ++ decR (r + 10 ^ (9 - i) * q') = decR n := ho
    have hol : out.length ≤ (decR n).length := by rw [← ho]; simp
    have hr9 : r < 1000000000 := Nat.lt_of_lt_of_le hr (Nat.le_trans (Nat.pow_le_pow_right (by decide) (show 9 - i ≤ 9 by omega)) (by decide))
    conv => whnf
    refine caseb (fun h2 => ?_) (fun h2 => ?_)
    · have hi9 : i < 9 := by have h2' : (i : Int) < 9 := of_decide_eq_true h2; omega
      have hk : 9 - i = 9 - (i + 1) + 1 := by omega
      conv => whnf
      refine caseb (fun h3 => ?_) (fun h3 => ?_)
      · have hr0 : 0 < r := by have h3' : (r : Int) > 0 := of_decide_eq_true h3; omega
        have hrq : 0 < r ∨ 0 < q' := .inl hr0
        conv => whnf
        refine ⟨by decide, ?_⟩
        conv => whnf
        refine ⟨⟨by rw [irows_len]; omega, by show ((out.length : Nat) + 1) * 1 ≤ 140737488355328; omega, Nat.le_of_ble_eq_true rfl⟩, ?_⟩
        conv => whnf
        refine ⟨by decide, ?_⟩
        conv => whnf
        refine ⟨(i + 1, r / 10, out ++ [((48 + r % 10 : Nat) : Int)]), [(56, 296)], (by show 9 - (i + 1) < 9 - i; omega), ⟨(by show i + 1 ≤ 9; omega), ?_, ?_⟩,
          ⟨⟨rfl, rfl⟩, ⟨ownE rfl ?_, rfl⟩, ⟨rfl, rfl⟩, ⟨valI ?_, rfl⟩, ⟨valI ?_, rfl⟩, trivial⟩, ⟨⟨rfl, .inr ⟨rfl, rfl⟩⟩, ⟨rfl, .inl ⟨celE ?_, irows_noid _ _⟩⟩, ⟨rfl, .inr ⟨rfl, rfl⟩⟩, trivial⟩, rfl⟩
        · show r / 10 < 10 ^ (9 - (i + 1))
          rw [hk, Nat.pow_succ] at hr
          exact Nat.div_lt_of_lt_mul (by rw [Nat.mul_comm]; exact hr)
        · show (out ++ [((48 + r % 10 : Nat) : Int)]) ++ decR (r / 10 + 10 ^ (9 - (i + 1)) * q') = decR n
          rw [← ho, hk, decR_step hrq, List.append_assoc]
          rfl
        · show out.length + 1 = (out ++ [((48 + r % 10 : Nat) : Int)]).length
          simp
        · show IntKind.u32.wrap ((r : Int).tdiv 10) = ((r / 10 : Nat) : Int)
          rw [Int.tdiv_eq_ediv_of_nonneg (Int.natCast_nonneg _), IntKind.wrap_u32]
          omega
        · show IntKind.i64.wrap ((i : Int) + 1) = ((i + 1 : Nat) : Int)
          rw [IntWalk.i64_in _ (by omega)]; omega
        · show List.take out.length (List.drop 0 (irows .u8 out)) ++ [[AV.val (.int .u8 (IntKind.u8.wrap (IntKind.u32.wrap (48 + (r : Int).tmod 10))))]] = irows .u8 (out ++ [((48 + r % 10 : Nat) : Int)])
          have e : IntKind.u8.wrap (IntKind.u32.wrap (48 + (r : Int).tmod 10)) = ((48 + r % 10 : Nat) : Int) := by
            rw [Int.tmod_eq_emod_of_nonneg (Int.natCast_nonneg _), IntKind.wrap_u32, IntKind.wrap_u8]
            omega
          rw [e, List.drop_zero, List.take_of_length_le (by rw [irows_len]; exact Nat.le_refl _), ← irows_append]
          rfl
      · have hr0 : r = 0 := by have h3' : ¬ (r : Int) > 0 := of_decide_eq_false h3; omega
        conv => whnf
        refine ⟨.pure (.val (.bool (decide (q' = 0)))), Zero_ok q', ?_⟩
        conv => whnf
        refine caseb (fun h4 => ?_) (fun h4 => ?_)
        · have hq0' : q' ≠ 0 := of_decide_eq_false (by simpa using h4)
          have hrq : 0 < r ∨ 0 < q' := .inr (by omega)
          conv => whnf
          refine ⟨by decide, ?_⟩
          conv => whnf
          refine ⟨⟨by rw [irows_len]; omega, by show ((out.length : Nat) + 1) * 1 ≤ 140737488355328; omega, Nat.le_of_ble_eq_true rfl⟩, ?_⟩
          conv => whnf
          refine ⟨by decide, ?_⟩
          conv => whnf
          refine ⟨(i + 1, r / 10, out ++ [((48 + r % 10 : Nat) : Int)]), [(56, 296)], (by show 9 - (i + 1) < 9 - i; omega), ⟨(by show i + 1 ≤ 9; omega), ?_, ?_⟩,
            ⟨⟨rfl, rfl⟩, ⟨ownE rfl ?_, rfl⟩, ⟨rfl, rfl⟩, ⟨valI ?_, rfl⟩, ⟨valI ?_, rfl⟩, trivial⟩, ⟨⟨rfl, .inr ⟨rfl, rfl⟩⟩, ⟨rfl, .inl ⟨celE ?_, irows_noid _ _⟩⟩, ⟨rfl, .inr ⟨rfl, rfl⟩⟩, trivial⟩, rfl⟩
          · show r / 10 < 10 ^ (9 - (i + 1))
            rw [hk, Nat.pow_succ] at hr
            exact Nat.div_lt_of_lt_mul (by rw [Nat.mul_comm]; exact hr)
          · show (out ++ [((48 + r % 10 : Nat) : Int)]) ++ decR (r / 10 + 10 ^ (9 - (i + 1)) * q') = decR n
            rw [← ho, hk, decR_step hrq, List.append_assoc]
            rfl
          · show out.length + 1 = (out ++ [((48 + r % 10 : Nat) : Int)]).length
            simp
          · show IntKind.u32.wrap ((r : Int).tdiv 10) = ((r / 10 : Nat) : Int)
            rw [Int.tdiv_eq_ediv_of_nonneg (Int.natCast_nonneg _), IntKind.wrap_u32]
            omega
          · show IntKind.i64.wrap ((i : Int) + 1) = ((i + 1 : Nat) : Int)
            rw [IntWalk.i64_in _ (by omega)]; omega
          · show List.take out.length (List.drop 0 (irows .u8 out)) ++ [[AV.val (.int .u8 (IntKind.u8.wrap (IntKind.u32.wrap (48 + (r : Int).tmod 10))))]] = irows .u8 (out ++ [((48 + r % 10 : Nat) : Int)])
            have e : IntKind.u8.wrap (IntKind.u32.wrap (48 + (r : Int).tmod 10)) = ((48 + r % 10 : Nat) : Int) := by
              rw [Int.tmod_eq_emod_of_nonneg (Int.natCast_nonneg _), IntKind.wrap_u32, IntKind.wrap_u8]
              omega
            rw [e, List.drop_zero, List.take_of_length_le (by rw [irows_len]; exact Nat.le_refl _), ← irows_append]
            rfl
        · have hq0' : q' = 0 := of_decide_eq_true (by simpa using h4)
          conv => whnf
          have e0 : r = 0 := hr0
          refine ⟨(q', out), [(0, 0)], (by show q' < q; omega), ⟨(by show q' ≤ n; omega), ?_⟩, ⟨⟨rfl, rfl⟩, ⟨rfl, rfl⟩, trivial⟩,
            ⟨⟨rfl, .inr ⟨rfl, rfl⟩⟩, ⟨rfl, .inl ⟨rfl, irows_noid _ _⟩⟩, trivial⟩, rfl⟩
          show out ++ decR q' = decR n
          rw [← ho, e0]
          rw [hq0', Nat.mul_zero]
    · have hi9 : i = 9 := by have h2' : ¬ (i : Int) < 9 := of_decide_eq_false h2; omega
      conv => whnf
      have e0 : r = 0 := by rw [hi9] at hr; simpa using hr
      refine ⟨(q', out), [(0, 0)], (by show q' < q; omega), ⟨(by show q' ≤ n; omega), ?_⟩, ⟨⟨rfl, rfl⟩, ⟨rfl, rfl⟩, trivial⟩,
        ⟨⟨rfl, .inr ⟨rfl, rfl⟩⟩, ⟨rfl, .inl ⟨rfl, irows_noid _ _⟩⟩, trivial⟩, rfl⟩
      show out ++ decR q' = decR n
      rw [← ho, e0]
      rw [hi9]; simp
  · have hq0 : q = 0 := of_decide_eq_true (by simpa using h1)
    conv => whnf
    have hL : out = decR n := by rw [← ho, hq0, decR_zero, List.append_nil]
    have hB : Byt (decR n) := fun x hx => by have := decR_byt n x hx; omega
    have hpos : 0 < (decR n).length := List.length_pos_iff.2 (fun e => hn0 ((decR_nil n).1 e))
    subst hL
    refine SW.loopM TTok (fun i : Nat => [(3, .own 56 0 (decR n).length), (7, .val (.int .i64 i)), (8, .val (.int .i64 (((decR n).length - 1 - i : Nat) : Int)))])
      (fun i => [(56, .cells 1 (irows .u8 (swp (decR n) i)))]) 128 70 rfl (fun i => (decR n).length - i)
      (fun i => 2 * i ≤ (decR n).length) 0 [] (Nat.zero_le _) ⟨⟨rfl, rfl⟩, ⟨rfl, rfl⟩, ⟨valI ?_, rfl⟩, trivial⟩
      ⟨⟨rfl, .inl ⟨celE ?_, irows_noid _ _⟩⟩, trivial⟩ rfl ?_
    · show IntKind.i64.wrap ((((decR n).length : Nat) : Int) - 1) = _
      rw [IntWalk.i64_in _ (by omega)]; omega
    · rw [swp_zero]
    intro i hi
    conv => whnf
    refine caseb (fun h2 => ?_) (fun h2 => ?_)
    · have h2' : (i : Int) < (((decR n).length - 1 - i : Nat) : Int) := of_decide_eq_true h2
      have hlt : 2 * i + 1 < (decR n).length := by omega
      have hsl := swp_len (decR n) i
      have hg1 : (irows .u8 (swp (decR n) i))[0 + (((decR n).length - 1 - i : Nat) : Int).toNat]? = some [.val (.int .u8 ((decR n).getD ((decR n).length - 1 - i) 0))] := by
        rw [Nat.zero_add, Int.toNat_natCast]
        refine irows_get _ _ ?_
        rw [swp_get (by omega) (by omega)]
        exact getD_eq (by omega)
      have hg2 : (irows .u8 (swp (decR n) i))[0 + (i : Int).toNat]? = some [.val (.int .u8 ((decR n).getD i 0))] := by
        rw [Nat.zero_add, Int.toNat_natCast]
        refine irows_get _ _ ?_
        rw [swp_get (by omega) (by omega)]
        exact getD_eq (by omega)
      conv => whnf
      refine ⟨⟨by omega, by omega⟩, ?_⟩
      conv => whnf
      refine ⟨_, hg1, ?_⟩
      conv => whnf
      refine ⟨⟨by omega, by omega⟩, ?_⟩
      conv => whnf
      refine ⟨_, hg2, ?_⟩
      conv => whnf
      refine ⟨⟨by omega, by omega⟩, ?_⟩
      conv => whnf
      refine ⟨by rw [irows_len, hsl]; omega, ?_⟩
      conv => whnf
      refine ⟨⟨by omega, by omega⟩, ?_⟩
      conv => whnf
      refine ⟨by rw [List.length_set, irows_len, hsl]; omega, ?_⟩
      conv => whnf
      refine ⟨by kernel_rfl, ?_⟩
      conv => whnf
      refine ⟨i + 1, [], (by show (decR n).length - (i + 1) < (decR n).length - i; omega), (by show 2 * (i + 1) ≤ (decR n).length; omega), ⟨⟨rfl, rfl⟩, ⟨valI ?_, rfl⟩, ⟨valI ?_, rfl⟩, trivial⟩,
        ⟨⟨rfl, .inl ⟨celE ?_, irows_noid _ _⟩⟩, trivial⟩, rfl⟩
      · show IntKind.i64.wrap ((i : Int) + 1) = ((i + 1 : Nat) : Int)
        rw [IntWalk.i64_in _ (by omega)]; omega
      · show IntKind.i64.wrap ((((decR n).length - 1 - i : Nat) : Int) - 1) = (((decR n).length - 1 - (i + 1) : Nat) : Int)
        rw [IntWalk.i64_in _ (by omega)]; omega
      · rw [← swp_step hlt, ← irows_set, ← irows_set, Nat.zero_add, Nat.zero_add, Int.toNat_natCast, Int.toNat_natCast]
    · have h2' : ¬ (i : Int) < (((decR n).length - 1 - i : Nat) : Int) := of_decide_eq_false h2
      conv => whnf
      refine ⟨(decR n).reverse, ⟨?_, ?_⟩, ?_⟩
      · show 0 + (decR n).length ≤ (irows .u8 (swp (decR n) i)).length
        rw [irows_len, swp_len]; omega
      · show List.take (decR n).length (List.drop 0 (irows .u8 (swp (decR n) i))) = _
        rw [List.drop_zero, List.take_of_length_le (by rw [irows_len, swp_len]; exact Nat.le_refl _), swp_done _ _ (by omega)]
      conv => whnf
      refine strE ?_
      show strL (decR n).reverse = decS n
      unfold decS decL
      rw [if_neg hn0]

end
section

theorem valL_zero (l : List Int) : valL (48 :: l) = valL l := by rw [valL_cons]; simp

theorem Trim_ok (l : List Int) (hd : Dig l) (hne : l ≠ []) (hb : l.length < 4294967296) : AC Try.prog 96 [.val (.string (strL l))] (.pure (.val (.string (decS (valL l))))) := by
  refine AC.of_body TTok Try.func96 rfl (enter_of Try.func96 (by kernel_rfl) (by kernel_rfl)) (noid1 (.val _)) (.val _) (Nat.le_of_ble_eq_true rfl) ?_
  conv => whnf
  refine SW.loopM TTok (fun x : List Int => [(0, .val (.string (strL x)))]) (fun x => []) 8 14 rfl List.length (fun x => Dig x ∧ x ≠ [] ∧ valL x = valL l ∧ x.length < 4294967296) l [] ⟨hd, hne, rfl, hb⟩ ⟨⟨rfl, rfl⟩, trivial⟩ trivial rfl ?_
  rintro x ⟨hx, hxne, hv, hxb⟩
  have hsz := strL_size x
  have hdone : x.length = 1 ∨ x.head hxne ≠ 48 → strL x = decS (valL l) := fun h => by
    unfold decS
    rw [← hv, decL_valL hx hxne h]
  have hby : byteAt (strL x) 0 = x.head hxne := byteAt_strL (Dig.byt hx) (Int.le_refl 0) (by
    show x[0]? = _
    rw [List.head_eq_getElem]
    exact List.getElem?_eq_getElem _)
  conv => whnf
  refine caseb (fun h1 => ?_) (fun h1 => ?_)
  · have h1' : ((strL x).size : Int) > 1 := of_decide_eq_true h1
    rw [hsz] at h1'
    conv => whnf
    refine ⟨⟨Int.le_refl 0, by rw [hsz]; omega⟩, ?_⟩
    conv => whnf
    refine caseb (fun h2 => ?_) (fun h2 => ?_)
    · have h2' : byteAt (strL x) 0 = 48 := of_decide_eq_true h2
      rw [hby] at h2'
      conv => whnf
      refine ⟨⟨by decide, by rw [hsz]; omega⟩, ?_⟩
      conv => whnf
      have hx1 : x = 48 :: x.tail := by rw [← h2']; exact (List.cons_head_tail hxne).symm
      have hlen : x.tail.length = x.length - 1 := by simp
      refine ⟨x.tail, [], (by show x.tail.length < x.length; omega), ⟨fun y hy => hx y (List.mem_of_mem_tail hy), ?_, ?_, by omega⟩, ⟨⟨strE ?_, rfl⟩, trivial⟩, trivial, rfl⟩
      · intro e; rw [e] at hlen; simp at hlen; omega
      · rw [← hv]; conv => rhs; rw [hx1, valL_zero]
      · rw [strL_extract, hsz, List.take_of_length_le (Nat.le_refl _)]
        show strL (x.drop 1) = _
        rw [List.drop_one]
    · have h2' : ¬ byteAt (strL x) 0 = 48 := of_decide_eq_false h2
      rw [hby] at h2'
      conv => whnf
      exact strE (hdone (.inr h2'))
  · have h1' : ¬ ((strL x).size : Int) > 1 := of_decide_eq_false h1
    rw [hsz] at h1'
    have := List.length_pos_iff.2 hxne
    conv => whnf
    exact strE (hdone (.inl (by omega)))

/-- Digits as characters. -/
def chr (l : List Int) : List Int := l.map (48 + ·)
def Dg (l : List Int) : Prop := ∀ x ∈ l, 0 ≤ x ∧ x ≤ 9
theorem chr_dig {l : List Int} (h : Dg l) : Dig (chr l) := by
  intro x hx
  obtain ⟨y, hy, rfl⟩ := List.mem_map.1 hx
  have := h y hy
  omega
theorem chr_len (l : List Int) : (chr l).length = l.length := by simp [chr]
/-- The value of digits, the least one first. -/
def valD : List Int → Nat
  | [] => 0
  | x :: l => x.toNat + 10 * valD l
theorem valR_chr (l : List Int) : valR (chr l) = valD l := by
  induction l with
  | nil => rfl
  | cons x l ih =>
    show (48 + x - 48).toNat + 10 * valR (chr l) = _
    rw [ih, valD]
    congr 2
    omega
theorem chr_rev_drop {l : List Int} {k : Nat} (h0 : 0 < k) (hk : k ≤ l.length) : chr (l.drop (k - 1)).reverse = chr (l.drop k).reverse ++ [48 + l[k - 1]'(by omega)] := by
  rw [drop_pred h0 hk, List.reverse_cons]
  simp [chr]

theorem written_ok (l : List Int) (hd : Dg l) (hb : l.length < 4000000000) : AC Try.prog 93 [.sl 1 (irows .i64 l) false] (.pure (.val (.string (decS (valD l))))) := by
  refine AC.of_body TTok Try.func93 rfl (enter_of Try.func93 (by kernel_rfl) (by kernel_rfl)) (noid1 (noid_sl _ _ _)) (.val _) (Nat.le_of_ble_eq_true rfl) ?_
  have e1 : IntKind.i64.wrap (((irows .i64 l).length : Int) + 1) = ((l.length + 1 : Nat) : Int) := by rw [irows_len, IntWalk.i64_in _ (by omega)]; omega
  conv => whnf
  refine ⟨⟨by decide, by rw [e1]; omega, ?_⟩, ?_⟩
  · rw [e1]; show ((l.length + 1 : Nat) : Int) * 1 ≤ _; omega
  conv => whnf
  refine SW.loopM TTok (fun k : Nat => [(0, .sl 1 (irows .i64 l) false), (3, .own 32 0 (l.length - k)), (4, .val (.int .i64 ((k : Int) - 1)))])
    (fun k => [(32, .cells 1 (irows .u8 (chr (l.drop k).reverse)))]) 80 31 rfl id
    (fun k => k ≤ l.length) l.length [] (Nat.le_refl _) ⟨⟨rfl, rfl⟩, ⟨ownE rfl ?_, rfl⟩, ⟨valI ?_, rfl⟩, trivial⟩
    ⟨⟨rfl, .inl ⟨celE ?_, irows_noid _ _⟩⟩, trivial⟩ rfl ?_
  · show 0 = l.length - l.length
    omega
  · rw [irows_len, IntWalk.i64_in _ (by omega)]
  · rw [List.drop_length]; rfl
  intro k hk
  have hk : k ≤ l.length := hk
  have hcl : (irows .u8 (chr (l.drop k).reverse)).length = l.length - k := by rw [irows_len, chr_len]; simp
  conv => whnf
  refine caseb (fun h1 => ?_) (fun h1 => ?_)
  · have h1' : (k : Int) - 1 ≥ 0 := of_decide_eq_true h1
    have hx := hd (l[k - 1]'(by omega)) (List.getElem_mem _)
    conv => whnf
    refine ⟨[.val (.int .i64 (l[k - 1]'(by omega)))], ⟨h1', ?_⟩, ?_⟩
    · rw [show ((k : Int) - 1).toNat = k - 1 by omega]
      exact irows_get _ _ (List.getElem?_eq_getElem (by omega))
    conv => whnf
    refine ⟨⟨by rw [hcl]; omega, by show ((l.length - k) + 1) * 1 ≤ 140737488355328; omega, Nat.le_of_ble_eq_true rfl⟩, ?_⟩
    conv => whnf
    refine ⟨k - 1, [(32, 160)], (by show k - 1 < k; omega), (by show k - 1 ≤ l.length; omega), ⟨⟨rfl, rfl⟩, ⟨ownE rfl ?_, rfl⟩, ⟨valI ?_, rfl⟩, trivial⟩,
      ⟨⟨rfl, .inl ⟨celE ?_, irows_noid _ _⟩⟩, trivial⟩, rfl⟩
    · show l.length - k + 1 = l.length - (k - 1)
      omega
    · rw [IntWalk.i64_in _ (by omega)]; omega
    · show List.take (l.length - k) (List.drop 0 (irows .u8 (chr (l.drop k).reverse))) ++ [[AV.val (.int .u8 (IntKind.u8.wrap (IntKind.i64.wrap (48 + l[k - 1]'(by omega)))))]] = _
      have e : IntKind.u8.wrap (IntKind.i64.wrap (48 + l[k - 1]'(by omega))) = 48 + l[k - 1]'(by omega) := by
        rw [IntWalk.i64_in _ (by omega), IntKind.wrap_u8]; omega
      rw [e, List.drop_zero, List.take_of_length_le (by rw [hcl]; exact Nat.le_refl _), chr_rev_drop (by omega) hk, ← irows_append]
      rfl
  · have h1' : ¬ (k : Int) - 1 ≥ 0 := of_decide_eq_false h1
    have hk0 : k = 0 := by omega
    subst hk0
    conv => whnf
    refine caseb (fun h2 => ?_) (fun h2 => ?_)
    · have h2' : ((l.length - 0 : Nat) : Int) = 0 := of_decide_eq_true h2
      have hl : l = [] := List.eq_nil_of_length_eq_zero (by omega)
      subst hl
      conv => whnf
      exact rfl
    · have h2' : ¬ ((l.length - 0 : Nat) : Int) = 0 := of_decide_eq_false h2
      have hrev : chr (l.drop 0).reverse = (chr l).reverse := by simp [chr]
      have hne : (chr l).reverse ≠ [] := by
        intro e
        have := congrArg List.length e
        simp [chr] at this
        rw [this] at h2'
        exact h2' rfl
      conv => whnf
      refine ⟨(chr l).reverse, ⟨?_, ?_⟩, ?_⟩
      · rw [hcl]; omega
      · rw [List.drop_zero, List.take_of_length_le (by rw [hcl]; exact Nat.le_refl _), hrev]
      have ht := Trim_ok (chr l).reverse (fun x hx => chr_dig hd x (by simpa using hx)) hne (by rw [List.length_reverse, chr_len]; omega)
      have hv : valL (chr l).reverse = valD l := by unfold valL; rw [List.reverse_reverse, valR_chr]
      rw [hv] at ht
      conv => whnf
      refine ⟨_, ht, ?_⟩
      conv => whnf
      exact rfl

theorem valD_snoc (l : List Int) (x : Nat) : valD (l ++ [(x : Int)]) = valD l + 10 ^ l.length * x := by
  induction l with
  | nil => simp [valD]
  | cons y l ih =>
    simp only [List.cons_append, valD, ih, List.length_cons, Nat.pow_succ]
    rw [Nat.mul_add, Nat.mul_comm (10 ^ l.length) 10, Nat.mul_assoc]
    omega

theorem ROf_ok (n : Nat) (hn : n < 18446744073709551616) : AC Try.prog 83 [.val (.int .u64 n)] (.pure (.val (.string (decS n)))) := by
  refine AC.of_body TTok Try.func83 rfl (enter_of Try.func83 (by kernel_rfl) (by kernel_rfl)) (noid1 (.val _)) (.val _) (Nat.le_of_ble_eq_true rfl) ?_
  conv => whnf
  refine caseb (fun h1 => ?_) (fun h1 => ?_)
  · have h1' : (n : Int) = 0 := of_decide_eq_true h1
    have h0 : n = 0 := by omega
    subst h0
    conv => whnf
    exact rfl
  · have h1' : ¬ (n : Int) = 0 := of_decide_eq_false h1
    conv => whnf
    refine SW.nil 3 1 rfl ?_
    refine SW.loopM TTok (fun x : Nat × Nat × List Int => [(0, .val (.int .u64 x.2.1)), (3, .own 40 0 x.2.2.length), (4, .val (.int .i64 x.1))])
      (fun x => [(40, .cells 1 (irows .i64 x.2.2))]) 48 25 rfl (fun x => 20 - x.1)
      (fun x => x.1 ≤ 20 ∧ x.2.1 < 10 ^ (20 - x.1) ∧ Dg x.2.2 ∧ x.2.2.length = x.1 ∧ valD x.2.2 + 10 ^ x.1 * x.2.1 = n) (0, n, []) [] ⟨Nat.zero_le _, Nat.lt_of_lt_of_le hn (by show 18446744073709551616 ≤ 10 ^ 20; exact Nat.le_of_ble_eq_true rfl), (fun x hx => (nomatch hx)), rfl, by simp [valD]⟩
      ⟨⟨rfl, rfl⟩, ⟨rfl, rfl⟩, ⟨rfl, rfl⟩, trivial⟩ ⟨⟨rfl, .inr ⟨rfl, rfl⟩⟩, trivial⟩ rfl ?_
    rintro ⟨i, m, out⟩ ⟨hi, hm, hD, hl, hv⟩
    have hi : i ≤ 20 := hi
    have hm : m < 10 ^ (20 - i) := hm
    have hD : Dg out := hD
    have hl : out.length = i := hl
    have hv : valD out + 10 ^ i * m = n := hv
    have hmn : m ≤ n := by
      have : m ≤ 10 ^ i * m := Nat.le_mul_of_pos_left _ (Nat.pow_pos (by decide))
      omega
    have fin : m = 0 → ∃ r, AC Try.prog 93 [.sl 1 ((irows .i64 out).take out.length) false] (.pure r) ∧ r = .val (.string (decS n)) := fun h0 => by
      refine ⟨_, ?_, rfl⟩
      have := written_ok out hD (by omega)
      rw [show valD out = n by rw [← hv, h0]; simp] at this
      rw [List.take_of_length_le (by rw [irows_len]; exact Nat.le_refl _)]
      exact this
    have hle : 0 + out.length ≤ (irows .i64 out).length := by rw [irows_len]; omega
    conv => whnf
    refine caseb (fun h2 => ?_) (fun h2 => ?_)
    · have h2' : (i : Int) < 20 := of_decide_eq_true h2
      conv => whnf
      refine caseb (fun h3 => ?_) (fun h3 => ?_)
      · have h3' : (m : Int) > 0 := of_decide_eq_true h3
        conv => whnf
        refine ⟨by decide, ?_⟩
        conv => whnf
        refine ⟨⟨hle, by show (out.length + 1) * 8 ≤ 140737488355328; omega, Nat.le_of_ble_eq_true rfl⟩, ?_⟩
        conv => whnf
        refine ⟨by decide, ?_⟩
        conv => whnf
        have e : IntKind.i64.wrap ((m : Int).tmod 10) = ((m % 10 : Nat) : Int) := by
          rw [Int.tmod_eq_emod_of_nonneg (Int.natCast_nonneg _), IntWalk.i64_in _ (by omega)]; omega
        refine ⟨(i + 1, m / 10, out ++ [((m % 10 : Nat) : Int)]), [(40, 136)], (by show 20 - (i + 1) < 20 - i; omega), ⟨(by show i + 1 ≤ 20; omega), ?_, ?_, ?_, ?_⟩,
          ⟨⟨valI ?_, rfl⟩, ⟨ownE rfl ?_, rfl⟩, ⟨valI ?_, rfl⟩, trivial⟩, ⟨⟨rfl, .inl ⟨celE ?_, irows_noid _ _⟩⟩, trivial⟩, rfl⟩
        · show m / 10 < 10 ^ (20 - (i + 1))
          rw [show 20 - i = 20 - (i + 1) + 1 by omega, Nat.pow_succ] at hm
          exact Nat.div_lt_of_lt_mul (by rw [Nat.mul_comm]; exact hm)
        · intro x hx
          rcases List.mem_append.1 hx with hx | hx
          · exact hD x hx
          · simp at hx; omega
        · show (out ++ [((m % 10 : Nat) : Int)]).length = i + 1
          simp [hl]
        · show valD (out ++ [((m % 10 : Nat) : Int)]) + 10 ^ (i + 1) * (m / 10) = n
          rw [valD_snoc, hl, ← hv, Nat.pow_succ, Nat.mul_assoc, Nat.add_assoc, ← Nat.mul_add]
          congr 2
          omega
        · show IntKind.u64.wrap ((m : Int).tdiv 10) = ((m / 10 : Nat) : Int)
          rw [Int.tdiv_eq_ediv_of_nonneg (Int.natCast_nonneg _), IntKind.wrap_u64]
          omega
        · show out.length + 1 = (out ++ [((m % 10 : Nat) : Int)]).length
          simp
        · show IntKind.i64.wrap ((i : Int) + 1) = ((i + 1 : Nat) : Int)
          rw [IntWalk.i64_in _ (by omega)]; omega
        · show List.take out.length (List.drop 0 (irows .i64 out)) ++ [[AV.val (.int .i64 (IntKind.i64.wrap ((m : Int).tmod 10)))]] = _
          rw [e, List.drop_zero, List.take_of_length_le (by rw [irows_len]; exact Nat.le_refl _), ← irows_append]
          rfl
      · have h3' : ¬ (m : Int) > 0 := of_decide_eq_false h3
        obtain ⟨r, hr, rfl⟩ := fin (by omega)
        conv => whnf
        refine ⟨hle, _, hr, ?_⟩
        conv => whnf
        exact rfl
    · have h2' : ¬ (i : Int) < 20 := of_decide_eq_false h2
      have hi20 : i = 20 := by omega
      obtain ⟨r, hr, rfl⟩ := fin (by rw [hi20] at hm; simpa using hm)
      conv => whnf
      refine ⟨hle, _, hr, ?_⟩
      conv => whnf
      exact rfl

end
end Go.Proofs.Ytcdeiegpeiodjaa

namespace NM

theorem val_set : ∀ (l : List Int) (k : Nat) (v : Int) (hk : k < l.length), val (l.set k v) + (l[k]).toNat * 4294967296 ^ k = val l + v.toNat * 4294967296 ^ k
  | [], k, v, hk => absurd hk (Nat.not_lt_zero _)
  | x :: l, 0, v, hk => by simp [val]; omega
  | x :: l, k + 1, v, hk => by
    have := val_set l k v (by simpa using hk)
    simp only [List.set_cons_succ, val, List.getElem_cons_succ, Nat.pow_succ]
    rw [← Nat.mul_assoc, ← Nat.mul_assoc]
    omega

theorem Lim.set {l : List Int} (h : Lim l) {k : Nat} {v : Int} (hv : 0 ≤ v ∧ v < 4294967296) : Lim (l.set k v) := by
  intro x hx
  rcases List.mem_or_eq_of_mem_set hx with hx | rfl
  · exact h x hx
  · exact hv

theorem val_take_succ {l : List Int} {k : Nat} (hk : k < l.length) : val (l.take (k + 1)) = val (l.take k) + (l[k]).toNat * 4294967296 ^ k := by
  rw [List.take_succ_eq_append_getElem hk, val_append]
  simp only [val, List.length_take, Nat.mul_zero, Nat.add_zero]
  rw [Nat.min_eq_left (by omega), Nat.mul_comm]

theorem val_rep (k : Nat) : val (List.replicate k 0) = 0 := by
  induction k with
  | zero => rfl
  | succ k ih => rw [List.replicate_succ, val, ih]; rfl

theorem Lim.rep (k : Nat) : Lim (List.replicate k 0) := by
  intro x hx
  have := List.eq_of_mem_replicate hx
  omega

/-- One step of a row of a product. -/
theorem mul_step {out : List Int} {p c t A : Nat} (hp : p < out.length) (hv : val out + c * 4294967296 ^ p = A) {z : Nat} (ht : t = z + (out[p]).toNat + c) :
    val (out.set p ((t % 4294967296 : Nat) : Int)) + t / 4294967296 * 4294967296 ^ (p + 1) = A + z * 4294967296 ^ p := by
  have hs := val_set out p ((t % 4294967296 : Nat) : Int) hp
  have hd := Nat.mod_add_div t 4294967296
  rw [Int.toNat_natCast] at hs
  generalize val (out.set p ((t % 4294967296 : Nat) : Int)) = V at *
  generalize (out[p]).toNat = o at *
  rw [Nat.pow_succ, ← Nat.mul_assoc]
  generalize 4294967296 ^ p = B at *
  have e1 : t / 4294967296 * B * 4294967296 = 4294967296 * (t / 4294967296) * B := by rw [Nat.mul_comm (t / 4294967296 * B), Nat.mul_assoc]
  have e2 : t * B = t % 4294967296 * B + 4294967296 * (t / 4294967296) * B := by rw [← Nat.add_mul, hd]
  have e3 : t * B = z * B + o * B + c * B := by rw [ht, Nat.add_mul, Nat.add_mul]
  omega

theorem len_lt {n m : Nat} (h : (limbs n).length < (limbs m).length) : n < m := by
  rcases Nat.lt_or_ge n m with h' | h'
  · exact h'
  · exact absurd (limbs_len_mono h') (by omega)

theorem cmp_lt {a b : List Int} (ha : Lim a) (hb : Lim b) {k : Nat} (hk : k < a.length) (hk' : k < b.length) (hd : a.drop (k + 1) = b.drop (k + 1)) (hlt : a[k] < b[k]) : val a < val b := by
  have e1 : val a = val (a.take k) + 4294967296 ^ k * ((a[k]).toNat + 4294967296 * val (a.drop (k + 1))) := by
    conv => lhs; rw [← List.take_append_drop k a, val_append, List.length_take, Nat.min_eq_left (by omega), List.drop_eq_getElem_cons hk]
    rfl
  have e2 : val b = val (b.take k) + 4294967296 ^ k * ((b[k]).toNat + 4294967296 * val (b.drop (k + 1))) := by
    conv => lhs; rw [← List.take_append_drop k b, val_append, List.length_take, Nat.min_eq_left (by omega), List.drop_eq_getElem_cons hk']
    rfl
  have h1 := val_lt (l := a.take k) (fun x hx => ha x (List.mem_of_mem_take hx))
  rw [List.length_take, Nat.min_eq_left (by omega)] at h1
  have hx := ha a[k] (List.getElem_mem _)
  have h2 : 4294967296 ^ k * ((a[k]).toNat + 1 + 4294967296 * val (a.drop (k + 1))) ≤ 4294967296 ^ k * ((b[k]).toNat + 4294967296 * val (b.drop (k + 1))) := by
    rw [hd]
    exact Nat.mul_le_mul_left _ (by omega)
  rw [e1, e2]
  have h3 : 4294967296 ^ k * ((a[k]).toNat + 1 + 4294967296 * val (a.drop (k + 1))) = 4294967296 ^ k * ((a[k]).toNat + 4294967296 * val (a.drop (k + 1))) + 4294967296 ^ k := by
    rw [show (a[k]).toNat + 1 + 4294967296 * val (a.drop (k + 1)) = (a[k]).toNat + 4294967296 * val (a.drop (k + 1)) + 1 by omega, Nat.mul_add, Nat.mul_one]
  omega

end NM

namespace Go.Proofs.Ytcdeiegpeiodjaa
open Go Go.AL NM
section

theorem Mul_ok (n m : Nat) (hb : (limbs n).length + (limbs m).length < 4000000000) : AC Try.prog 89 [natA n, natA m] (.pure (natA (n * m))) := by
  refine AC.of_body TTok Try.func89 rfl (enter_of Try.func89 (by kernel_rfl) (by kernel_rfl)) (noid2 (natA_noid n) (natA_noid m)) (natA_noid _) (Nat.le_of_ble_eq_true rfl) ?_
  unfold natA
  have hva := val_limbs n
  have hvb := val_limbs m
  have hLa := limbs_lim n
  have hLb := limbs_lim m
  generalize limbs n = a at *
  generalize limbs m = b at *
  subst hva
  subst hvb
  have e1 : IntKind.i64.wrap (((irows .u32 a).length : Int) + ((irows .u32 b).length : Int)) = ((a.length + b.length : Nat) : Int) := by rw [irows_len, irows_len, IntWalk.i64_in _ (by omega)]; omega
  conv => whnf
  refine ⟨⟨by rw [e1]; omega, by rw [e1]; omega, ?_⟩, ?_⟩
  · rw [e1]; show ((a.length + b.length : Nat) : Int) * 4 ≤ _; omega
  conv => whnf
  refine SW.loopM TTok (fun x : Nat × List Int => [(2, .lp 0 0), (3, .lp 8 0), (4, .lp 16 0), (5, .own 80 0 (a.length + b.length)), (21, .sl 1 (irows .u32 a) false), (22, .val (.int .i64 a.length)), (23, .val (.int .i64 x.1))])
    (fun x => [(0, .cells 1 [[.sl 1 (irows .u32 a) false]]), (8, .cells 1 [[.sl 1 (irows .u32 b) false]]), (16, .cells 1 [[.sl 0 [] true]]), (80, .cells 1 (irows .u32 x.2))]) 128 73 rfl (fun x => a.length - x.1)
    (fun x => x.1 ≤ a.length ∧ x.2.length = a.length + b.length ∧ Lim x.2 ∧ val x.2 = val (a.take x.1) * val b ∧ ∀ k, x.1 + b.length ≤ k → k < x.2.length → x.2[k]? = some 0)
    (0, List.replicate (a.length + b.length) 0) [] ⟨Nat.zero_le _, by simp, Lim.rep _, by simp [val_rep, val], fun k _ hk => by simp at hk; simp [hk]⟩
    ⟨⟨rfl, rfl⟩, ⟨rfl, rfl⟩, ⟨rfl, rfl⟩, ⟨ownE rfl ?_, rfl⟩, ⟨rfl, rfl⟩, ⟨valI ?_, rfl⟩, ⟨rfl, rfl⟩, trivial⟩
    ⟨⟨rfl, .inr ⟨rfl, rfl⟩⟩, ⟨rfl, .inr ⟨rfl, rfl⟩⟩, ⟨rfl, .inr ⟨rfl, rfl⟩⟩, ⟨rfl, .inl ⟨celE ?_, irows_noid _ _⟩⟩, trivial⟩ rfl ?_
  · rw [e1]; omega
  · rw [irows_len]
  · rw [e1, Int.toNat_natCast, ← irows_rep]; rfl
  rintro ⟨i, out⟩ ⟨hi, hl, hL, hv, hz⟩
  have hi : i ≤ a.length := hi
  have hl : out.length = a.length + b.length := hl
  have hL : Lim out := hL
  have hv : val out = val (a.take i) * val b := hv
  have hz : ∀ k, i + b.length ≤ k → k < out.length → out[k]? = some 0 := hz
  conv => whnf
  refine caseb (fun h1 => ?_) (fun h1 => ?_)
  · have h1' : (i : Int) < (a.length : Int) := of_decide_eq_true h1
    have hlt : i < a.length := by clear hv hz hL hl; omega
    have hx := hLa (a[i]'hlt) (List.getElem_mem _)
    conv => whnf
    refine ⟨[.val (.int .u32 (a[i]'hlt))], ⟨by omega, irows_get _ _ (List.getElem?_eq_getElem (by omega))⟩, ?_⟩
    conv => whnf
    refine SW.loopM TTok (fun x : Nat × Nat × List Int => [(2, .lp 0 0), (3, .lp 8 0), (4, .lp 16 0), (5, .own 80 0 (a.length + b.length)), (21, .sl 1 (irows .u32 a) false), (22, .val (.int .i64 a.length)), (23, .val (.int .i64 i)),
        (6, .val (.int .i64 i)), (7, .val (.int .u32 (a[i]'hlt))), (8, .val (.int .u64 x.2.1)), (29, .sl 1 (irows .u32 b) false), (30, .val (.int .i64 b.length)), (31, .val (.int .i64 x.1))])
      (fun x => [(0, .cells 1 [[.sl 1 (irows .u32 a) false]]), (8, .cells 1 [[.sl 1 (irows .u32 b) false]]), (16, .cells 1 [[.sl 0 [] true]]), (80, .cells 1 (irows .u32 x.2.2))]) 216 73 rfl (fun x => b.length - x.1)
      (fun x => x.1 ≤ b.length ∧ x.2.1 < 4294967296 ∧ x.2.2.length = a.length + b.length ∧ Lim x.2.2 ∧
        val x.2.2 + x.2.1 * 4294967296 ^ (i + x.1) = val (a.take i) * val b + (a[i]'hlt).toNat * val (b.take x.1) * 4294967296 ^ i ∧ ∀ k, i + b.length ≤ k → k < x.2.2.length → x.2.2[k]? = some 0)
      (0, 0, out) [] ⟨Nat.zero_le _, (by decide : 0 < 4294967296), hl, hL, (by show val out + 0 * _ = _; rw [hv]; simp [val]), hz⟩
      ⟨⟨rfl, rfl⟩, ⟨rfl, rfl⟩, ⟨rfl, rfl⟩, ⟨rfl, rfl⟩, ⟨rfl, rfl⟩, ⟨rfl, rfl⟩, ⟨rfl, rfl⟩, ⟨rfl, rfl⟩, ⟨rfl, rfl⟩, ⟨rfl, rfl⟩, ⟨rfl, rfl⟩, ⟨valI ?_, rfl⟩, ⟨rfl, rfl⟩, trivial⟩
      ⟨⟨rfl, .inr ⟨rfl, rfl⟩⟩, ⟨rfl, .inr ⟨rfl, rfl⟩⟩, ⟨rfl, .inr ⟨rfl, rfl⟩⟩, ⟨rfl, .inl ⟨rfl, irows_noid _ _⟩⟩, trivial⟩ rfl ?_
    · rw [irows_len]
    clear hl hL hv hz
    rintro ⟨j, c, out⟩ ⟨hj, hc, hl, hL, hv, hz⟩
    have hj : j ≤ b.length := hj
    have hc : c < 4294967296 := hc
    have hl : out.length = a.length + b.length := hl
    have hL : Lim out := hL
    have hv : val out + c * 4294967296 ^ (i + j) = val (a.take i) * val b + (a[i]'hlt).toNat * val (b.take j) * 4294967296 ^ i := hv
    have hz : ∀ k, i + b.length ≤ k → k < out.length → out[k]? = some 0 := hz
    conv => whnf
    refine caseb (fun h2 => ?_) (fun h2 => ?_)
    · have h2' : (j : Int) < (b.length : Int) := of_decide_eq_true h2
      have hjlt : j < b.length := by omega
      have hklt : i + j < out.length := by omega
      have hy := hLb (b[j]'hjlt) (List.getElem_mem _)
      have ho := hL (out[i + j]'hklt) (List.getElem_mem _)
      have ew : IntKind.i64.wrap ((i : Int) + (j : Int)) = ((i + j : Nat) : Int) := by rw [IntWalk.i64_in _ (by omega)]; omega
      conv => whnf
      refine ⟨[.val (.int .u32 (b[j]'hjlt))], ⟨by omega, irows_get _ _ (List.getElem?_eq_getElem (by omega))⟩, ?_⟩
      conv => whnf
      refine ⟨⟨by rw [ew]; omega, by rw [ew]; omega⟩, ?_⟩
      conv => whnf
      refine ⟨[.val (.int .u32 (out[i + j]'hklt))], (by rw [ew, Nat.zero_add, Int.toNat_natCast]; exact irows_get _ _ (List.getElem?_eq_getElem (by omega))), ?_⟩
      conv => whnf
      refine ⟨by decide, ?_⟩
      conv => whnf
      refine ⟨⟨by rw [ew]; omega, by rw [ew]; omega⟩, ?_⟩
      conv => whnf
      refine ⟨by rw [ew, irows_len, hl]; omega, ?_⟩
      conv => whnf
      have hxy : (a[i]'hlt).toNat * (b[j]'hjlt).toNat ≤ 4294967295 * 4294967295 := Nat.mul_le_mul (by omega) (by omega)
      have et : IntKind.u64.wrap (IntKind.u64.wrap (IntKind.u64.wrap (IntKind.u64.wrap (a[i]'hlt) * IntKind.u64.wrap (b[j]'hjlt)) + IntKind.u64.wrap (out[i + j]'hklt)) + (c : Int)) =
          (((a[i]'hlt).toNat * (b[j]'hjlt).toNat + (out[i + j]'hklt).toNat + c : Nat) : Int) := by
        have e1 : IntKind.u64.wrap (a[i]'hlt) = ((a[i]'hlt).toNat : Int) := by rw [IntKind.wrap_u64]; omega
        have e2 : IntKind.u64.wrap (b[j]'hjlt) = ((b[j]'hjlt).toNat : Int) := by rw [IntKind.wrap_u64]; omega
        have e3 : IntKind.u64.wrap (out[i + j]'hklt) = ((out[i + j]'hklt).toNat : Int) := by rw [IntKind.wrap_u64]; omega
        rw [e1, e2, e3, ← Int.natCast_mul]
        generalize (a[i]'hlt).toNat * (b[j]'hjlt).toNat = P at *
        simp only [IntKind.wrap_u64]
        omega
      have hstep := mul_step (out := out) (p := i + j) hklt hv (z := (a[i]'hlt).toNat * (b[j]'hjlt).toNat) rfl
      generalize htt : (a[i]'hlt).toNat * (b[j]'hjlt).toNat + (out[i + j]'hklt).toNat + c = t at *
      have htb : t < 18446744073709551616 := by rw [← htt]; omega
      refine ⟨(j + 1, t / 4294967296, out.set (i + j) ((t % 4294967296 : Nat) : Int)), [], (by show b.length - (j + 1) < b.length - j; omega), ⟨(by show j + 1 ≤ b.length; omega), ?_, ?_, ?_, ?_, ?_⟩,
        ⟨⟨rfl, rfl⟩, ⟨rfl, rfl⟩, ⟨rfl, rfl⟩, ⟨rfl, rfl⟩, ⟨rfl, rfl⟩, ⟨rfl, rfl⟩, ⟨rfl, rfl⟩, ⟨rfl, rfl⟩, ⟨rfl, rfl⟩, ⟨valI ?_, rfl⟩, ⟨rfl, rfl⟩, ⟨rfl, rfl⟩, ⟨valI ?_, rfl⟩, trivial⟩,
        ⟨⟨rfl, .inr ⟨rfl, rfl⟩⟩, ⟨rfl, .inr ⟨rfl, rfl⟩⟩, ⟨rfl, .inr ⟨rfl, rfl⟩⟩, ⟨rfl, .inl ⟨celE ?_, irows_noid _ _⟩⟩, trivial⟩, rfl⟩
      · show t / 4294967296 < 4294967296
        omega
      · show (out.set (i + j) ((t % 4294967296 : Nat) : Int)).length = _
        rw [List.length_set, hl]
      · exact hL.set ⟨by omega, by omega⟩
      · show val (out.set (i + j) ((t % 4294967296 : Nat) : Int)) + t / 4294967296 * 4294967296 ^ (i + (j + 1)) = val (a.take i) * val b + (a[i]'hlt).toNat * val (b.take (j + 1)) * 4294967296 ^ i
        rw [← Nat.add_assoc i j 1, hstep, val_take_succ hjlt, Nat.mul_add, Nat.add_mul, Nat.pow_add]
        have : (a[i]'hlt).toNat * (b[j]'hjlt).toNat * (4294967296 ^ i * 4294967296 ^ j) = (a[i]'hlt).toNat * ((b[j]'hjlt).toNat * 4294967296 ^ j) * 4294967296 ^ i := by
          rw [Nat.mul_comm (4294967296 ^ i), ← Nat.mul_assoc, Nat.mul_assoc (a[i]'hlt).toNat]
        rw [this]
        omega
      · show ∀ k, i + b.length ≤ k → k < (out.set (i + j) ((t % 4294967296 : Nat) : Int)).length → (out.set (i + j) ((t % 4294967296 : Nat) : Int))[k]? = some 0
        intro k hk1 hk2
        rw [List.length_set] at hk2
        rw [List.getElem?_set_ne (by omega)]
        exact hz k hk1 hk2
      · rw [et]
        show ((t : Nat) : Int).fdiv 4294967296 = _
        rw [Int.fdiv_eq_ediv_of_nonneg _ (by decide)]
        show ((t : Nat) : Int) / 4294967296 = ((t / 4294967296 : Nat) : Int)
        omega
      · show IntKind.i64.wrap ((j : Int) + 1) = ((j + 1 : Nat) : Int)
        rw [IntWalk.i64_in _ (by omega)]; omega
      · rw [et, ew, Nat.zero_add, Int.toNat_natCast, ← irows_set]
        have : IntKind.u32.wrap ((t : Nat) : Int) = ((t % 4294967296 : Nat) : Int) := by rw [IntKind.wrap_u32]; omega
        rw [this]
    · have h2' : ¬ (j : Int) < (b.length : Int) := of_decide_eq_false h2
      have hjb : j = b.length := by omega
      have ew : IntKind.i64.wrap ((i : Int) + ((irows .u32 b).length : Int)) = ((i + b.length : Nat) : Int) := by rw [irows_len, IntWalk.i64_in _ (by omega)]; omega
      have ho := hz (i + b.length) (Nat.le_refl _) (by omega)
      conv => whnf
      refine ⟨⟨by rw [ew]; omega, by rw [ew]; omega⟩, ?_⟩
      conv => whnf
      refine ⟨by rw [ew, irows_len, hl]; omega, ?_⟩
      conv => whnf
      refine ⟨(i + 1, out.set (i + b.length) (c : Int)), [], (by show a.length - (i + 1) < a.length - i; omega), ⟨(by show i + 1 ≤ a.length; omega), ?_, ?_, ?_, ?_⟩,
        ⟨⟨rfl, rfl⟩, ⟨rfl, rfl⟩, ⟨rfl, rfl⟩, ⟨rfl, rfl⟩, ⟨rfl, rfl⟩, ⟨rfl, rfl⟩, ⟨valI ?_, rfl⟩, trivial⟩,
        ⟨⟨rfl, .inr ⟨rfl, rfl⟩⟩, ⟨rfl, .inr ⟨rfl, rfl⟩⟩, ⟨rfl, .inr ⟨rfl, rfl⟩⟩, ⟨rfl, .inl ⟨celE ?_, irows_noid _ _⟩⟩, trivial⟩, rfl⟩
      · show (out.set (i + b.length) (c : Int)).length = _
        rw [List.length_set, hl]
      · exact hL.set ⟨by omega, by omega⟩
      · show val (out.set (i + b.length) (c : Int)) = val (a.take (i + 1)) * val b
        have hs := val_set out (i + b.length) (c : Int) (by omega)
        have h0 : out[i + b.length]'(by omega) = 0 := by
          have := List.getElem?_eq_getElem (l := out) (i := i + b.length) (by omega)
          rw [ho] at this
          injection this with this
          exact this.symm
        rw [h0] at hs
        rw [val_take_succ (by omega), Nat.add_mul]
        rw [hjb, List.take_of_length_le (Nat.le_refl _)] at hv
        simp only [Int.toNat_zero, Nat.zero_mul, Nat.add_zero, Int.toNat_natCast] at hs
        rw [hs, hv]
        congr 1
        rw [Nat.mul_assoc, Nat.mul_comm (val b), ← Nat.mul_assoc]
      · show ∀ k, i + 1 + b.length ≤ k → k < (out.set (i + b.length) (c : Int)).length → (out.set (i + b.length) (c : Int))[k]? = some 0
        intro k hk1 hk2
        rw [List.length_set] at hk2
        rw [List.getElem?_set_ne (by omega)]
        exact hz k (by omega) hk2
      · show IntKind.i64.wrap ((i : Int) + 1) = ((i + 1 : Nat) : Int)
        rw [IntWalk.i64_in _ (by omega)]; omega
      · rw [ew, Nat.zero_add, Int.toNat_natCast, ← irows_set]
        have : IntKind.u32.wrap ((c : Nat) : Int) = (c : Int) := by rw [IntKind.wrap_u32]; omega
        rw [this]
  · have h1' : ¬ (i : Int) < (a.length : Int) := of_decide_eq_false h1
    have hia : i = a.length := by omega
    conv => whnf
    have ht := trim_ok out hL (by omega)
    rw [hv, hia, List.take_of_length_le (Nat.le_refl _)] at ht
    refine ⟨by show 0 + (a.length + b.length) ≤ (irows .u32 out).length; rw [irows_len]; omega, .pure (natA (val a * val b)), ?_, ?_⟩
    · show AC Try.prog 73 [.sl 1 (List.take (a.length + b.length) (List.drop 0 (irows .u32 out))) false] _
      rw [List.drop_zero, List.take_of_length_le (by rw [irows_len, hl]; exact Nat.le_refl _)]
      exact ht
    conv => whnf
    exact rfl

end
section

end
end Go.Proofs.Ytcdeiegpeiodjaa

set_option linter.unusedSimpArgs false
namespace Go.AL
open Go Go.RowKit

/-- What is known of a value may be less. -/
inductive AVle : AV → AV → Prop
  | refl (x : AV) : AVle x x
  | sl (a b : Nat) (t : Bool) : AVle (.sl a [] t) (.sl b [] false)
  | agg (xs ys : List AV) (hl : xs.length = ys.length) (h : ∀ (i : Nat) (x y : AV), xs[i]? = some x → ys[i]? = some y → AVle x y) : AVle (.agg xs) (.agg ys)
  | tup (xs ys : List AV) (hl : xs.length = ys.length) (h : ∀ (i : Nat) (x y : AV), xs[i]? = some x → ys[i]? = some y → AVle x y) : AVle (.tup xs) (.tup ys)

section
variable {w : World} {F : Nat → Prop} {ρ : Nat → Option BI}

theorem VR.le {x y : AV} (hle : AVle x y) : ∀ {v : Value}, VR w F ρ v x → VR w F ρ v y := by
  induction hle with
  | refl x => exact fun h => h
  | sl a b t =>
    intro v h
    cases h with
    | sl A n c _ _ _ bl o vals hn hc ht hw hA h0 h1 h2 hno =>
      exact .sl A n c b [] false bl o vals hn hc (fun h => by cases h) (fun r hr => (nomatch hr)) (fun h => absurd rfl h) (fun j x hx => by simp at hx) (fun j x hx => by simp at hx) (fun j x hx => by simp at hx) (fun j x hx => by simp at hx)
  | agg xs ys hl h ih =>
    intro v hv
    cases hv with
    | agg vs _ hs h1 h2 =>
      have get : ∀ (i : Nat) (y : AV), ys[i]? = some y → ∃ x, xs[i]? = some x := fun i y hy => by
        have := (List.getElem?_eq_some_iff.1 hy).1
        exact ⟨xs[i], List.getElem?_eq_getElem (by omega)⟩
      exact .agg vs ys (by omega) (fun i y hy => by obtain ⟨x, hx⟩ := get i y hy; exact h1 i x hx) (fun i y hy => by obtain ⟨x, hx⟩ := get i y hy; exact ih i x y hx hy (h2 i x hx))
  | tup xs ys hl h ih =>
    intro v hv
    cases hv with
    | tup vs _ hs h2 =>
      have get : ∀ (i : Nat) (y : AV), ys[i]? = some y → ∃ x, xs[i]? = some x := fun i y hy => by
        have := (List.getElem?_eq_some_iff.1 hy).1
        exact ⟨xs[i], List.getElem?_eq_getElem (by omega)⟩
      exact .tup vs ys (by omega) (fun i y hy => by obtain ⟨x, hx⟩ := get i y hy; exact ih i x y hx hy (h2 i x hx))

end

theorem AVle.agg1 {x y : AV} (h : AVle x y) : AVle (.agg [x]) (.agg [y]) := .agg _ _ rfl (fun i a b ha hb => by
  rcases i with _ | i
  · simp at ha hb; subst ha; subst hb; exact h
  · simp at ha)
theorem AVle.tup2 {x y x' y' : AV} (h : AVle x y) (h' : AVle x' y') : AVle (.tup [x, x']) (.tup [y, y']) := .tup _ _ rfl (fun i a b ha hb => by
  rcases i with _ | _ | i
  · simp at ha hb; subst ha; subst hb; exact h
  · simp at ha hb; subst ha; subst hb; exact h'
  · simp at ha)
theorem AVle.tup3 {x y x' y' x'' y'' : AV} (h : AVle x y) (h' : AVle x' y') (h'' : AVle x'' y'') : AVle (.tup [x, x', x'']) (.tup [y, y', y'']) := .tup _ _ rfl (fun i a b ha hb => by
  rcases i with _ | _ | _ | i
  · simp at ha hb; subst ha; subst hb; exact h
  · simp at ha hb; subst ha; subst hb; exact h'
  · simp at ha hb; subst ha; subst hb; exact h''
  · simp at ha)

section
variable {P : Program} {f : FuncId}

/-- A contract for arguments of which more is known. -/
theorem AC.le_args {args args' : List AV} {r : AR} (h : AC P f args r) (hl : args'.length = args.length) (hle : ∀ (i : Nat) (x y : AV), args'[i]? = some x → args[i]? = some y → AVle x y) (hno : ∀ x ∈ args', NoId x) : AC P f args' r where
  noid := hno
  enter := h.enter
  calls := fun w F vals hF hs hv => h.calls w F vals hF (by omega) (fun i y hy => by
    have hlt := (List.getElem?_eq_some_iff.1 hy).1
    have hx : args'[i]? = some (args'[i]'(by omega)) := List.getElem?_eq_getElem (by omega)
    exact (hv i _ hx).le (hle i _ y hx hy))

/-- A contract that tells less of its result. -/
theorem AC.le_res {args : List AV} {v v' : AV} (h : AC P f args (.pure v)) (hle : AVle v v') (hno : NoId v') : AC P f args (.pure v') where
  noid := h.noid
  enter := h.enter
  calls := fun w F vals hF hs hv => (h.calls w F vals hF hs hv).mono (fun e w' ⟨x, h1, h2, h3, F', g1, g2, g3, g4⟩ => ⟨x, h1, h2, hno, F', g1, g2, g3, g4.le hle⟩)

end

/-- Less is known of a slot. -/
theorem Wk.le {s : St} (d : Nat) {x y : AV} (h : s.t d = x) (hle : AVle x y) : Wk s ⟨upd s.t d y, s.h, s.n, s.m⟩ := by
  intro gh w0 F0 a w ⟨F, ρ, hR⟩
  refine ⟨F, ρ, { hR with vals := fun t => ?_ }⟩
  show VR w F ρ _ (upd s.t d y t)
  by_cases e : t = d
  · subst e
    rw [upd_same]
    have := hR.vals t
    rw [h] at this
    exact this.le hle
  · rw [upd_ne _ _ e]; exact hR.vals t

end Go.AL

namespace Go.Proofs.Ytcdeiegpeiodjaa
open Go Go.AL NM
section

def cmpN (n m : Nat) : Int := if n < m then -1 else if n = m then 0 else 1
theorem cmpN_lt {n m : Nat} (h : n < m) : cmpN n m = -1 := by unfold cmpN; rw [if_pos h]
theorem cmpN_gt {n m : Nat} (h : m < n) : cmpN n m = 1 := by unfold cmpN; rw [if_neg (by omega), if_neg (by omega)]
theorem cmpN_eq (n : Nat) : cmpN n n = 0 := by unfold cmpN; rw [if_neg (by omega), if_pos rfl]

theorem Cmp_ok (n m : Nat) (hb : (limbs n).length < 4000000000) (hb' : (limbs m).length < 4000000000) : AC Try.prog 90 [natA n, natA m] (.pure (.val (.int .i64 (cmpN n m)))) := by
  refine AC.of_body TTok Try.func90 rfl (enter_of Try.func90 (by kernel_rfl) (by kernel_rfl)) (noid2 (natA_noid n) (natA_noid m)) (.val _) (Nat.le_of_ble_eq_true rfl) ?_
  have hlen1 : (limbs n).length < (limbs m).length → n < m := len_lt
  have hlen2 : (limbs m).length < (limbs n).length → m < n := len_lt
  unfold natA
  have hva := val_limbs n
  have hvb := val_limbs m
  have hLa := limbs_lim n
  have hLb := limbs_lim m
  generalize limbs n = a at *
  generalize limbs m = b at *
  conv => whnf
  refine caseb (fun h1 => ?_) (fun h1 => ?_)
  · have h1' : ((irows .u32 a).length : Int) ≠ ((irows .u32 b).length : Int) := bne_iff_ne.1 h1
    rw [irows_len, irows_len] at h1'
    conv => whnf
    refine caseb (fun h2 => ?_) (fun h2 => ?_)
    · have h2' : ((irows .u32 a).length : Int) < ((irows .u32 b).length : Int) := of_decide_eq_true h2
      rw [irows_len, irows_len] at h2'
      conv => whnf
      refine valI ?_
      rw [cmpN_lt (hlen1 (by omega))]
    · have h2' : ¬ ((irows .u32 a).length : Int) < ((irows .u32 b).length : Int) := of_decide_eq_false h2
      rw [irows_len, irows_len] at h2'
      conv => whnf
      refine valI ?_
      rw [cmpN_gt (hlen2 (by omega))]
  · have h1' : ((irows .u32 a).length : Int) = ((irows .u32 b).length : Int) := by
      have : ¬ ((irows .u32 a).length : Int) ≠ ((irows .u32 b).length : Int) := fun h => by
        have := bne_iff_ne.2 h
        rw [show ((((irows .u32 a).length : Nat) : Int) != (((irows .u32 b).length : Nat) : Int)) = false from h1] at this
        cases this
      exact Decidable.byContradiction this
    rw [irows_len, irows_len] at h1'
    have hab : a.length = b.length := by omega
    conv => whnf
    refine SW.loopM TTok (fun k : Nat => [(2, .lp 0 0), (3, .lp 8 0), (5, .val (.int .i64 ((k : Int) - 1)))])
      (fun k => [(0, .cells 1 [[.sl 1 (irows .u32 a) false]]), (8, .cells 1 [[.sl 1 (irows .u32 b) false]])]) 120 50 rfl id
      (fun k => k ≤ a.length ∧ a.drop k = b.drop k) a.length [] ⟨Nat.le_refl _, by rw [List.drop_length, hab, List.drop_length]⟩
      ⟨⟨rfl, rfl⟩, ⟨rfl, rfl⟩, ⟨valI ?_, rfl⟩, trivial⟩ ⟨⟨rfl, .inr ⟨rfl, rfl⟩⟩, ⟨rfl, .inr ⟨rfl, rfl⟩⟩, trivial⟩ rfl ?_
    · rw [irows_len, IntWalk.i64_in _ (by omega)]
    rintro k ⟨hk, hd⟩
    conv => whnf
    refine caseb (fun h2 => ?_) (fun h2 => ?_)
    · have h2' : (k : Int) - 1 ≥ 0 := of_decide_eq_true h2
      have hka : k - 1 < a.length := by omega
      have hkb : k - 1 < b.length := by omega
      have ga : 0 ≤ (k : Int) - 1 ∧ (irows .u32 a)[((k : Int) - 1).toNat]? = some [.val (.int .u32 (a[k - 1]'hka))] :=
        ⟨h2', by rw [show ((k : Int) - 1).toNat = k - 1 by omega]; exact irows_get _ _ (List.getElem?_eq_getElem hka)⟩
      have gb : 0 ≤ (k : Int) - 1 ∧ (irows .u32 b)[((k : Int) - 1).toNat]? = some [.val (.int .u32 (b[k - 1]'hkb))] :=
        ⟨h2', by rw [show ((k : Int) - 1).toNat = k - 1 by omega]; exact irows_get _ _ (List.getElem?_eq_getElem hkb)⟩
      conv => whnf
      refine ⟨_, ga, ?_⟩
      conv => whnf
      refine ⟨_, gb, ?_⟩
      conv => whnf
      refine ⟨by kernel_rfl, ?_⟩
      conv => whnf
      refine caseb (fun h3 => ?_) (fun h3 => ?_)
      · have h3' : a[k - 1]'hka ≠ b[k - 1]'hkb := bne_iff_ne.1 h3
        conv => whnf
        refine ⟨_, ga, ?_⟩
        conv => whnf
        refine ⟨_, gb, ?_⟩
        conv => whnf
        refine ⟨by kernel_rfl, ?_⟩
        conv => whnf
        refine caseb (fun h4 => ?_) (fun h4 => ?_)
        · have h4' : a[k - 1]'hka < b[k - 1]'hkb := of_decide_eq_true h4
          conv => whnf
          refine valI ?_
          rw [cmpN_lt]
          rw [← hva, ← hvb]
          exact cmp_lt hLa hLb hka hkb (by rw [show k - 1 + 1 = k by omega]; exact hd) h4'
        · have h4' : ¬ a[k - 1]'hka < b[k - 1]'hkb := of_decide_eq_false h4
          conv => whnf
          refine valI ?_
          rw [cmpN_gt]
          rw [← hva, ← hvb]
          exact cmp_lt hLb hLa hkb hka (by rw [show k - 1 + 1 = k by omega]; exact hd.symm) (by omega)
      · have h3' : a[k - 1]'hka = b[k - 1]'hkb := by
          refine Decidable.byContradiction fun h => ?_
          have := bne_iff_ne.2 h
          rw [show ((a[k - 1]'hka) != (b[k - 1]'hkb)) = false from h3] at this
          cases this
        conv => whnf
        refine ⟨k - 1, [], (by show k - 1 < k; omega), ⟨(by omega), ?_⟩, ⟨⟨rfl, rfl⟩, ⟨rfl, rfl⟩, ⟨valI ?_, rfl⟩, trivial⟩,
          ⟨⟨rfl, .inr ⟨rfl, rfl⟩⟩, ⟨rfl, .inr ⟨rfl, rfl⟩⟩, trivial⟩, rfl⟩
        · rw [drop_pred (by omega) hk, drop_pred (by omega) (by omega), hd, h3']
        · rw [IntWalk.i64_in _ (by omega)]; omega
    · have h2' : ¬ (k : Int) - 1 ≥ 0 := of_decide_eq_false h2
      have hk0 : k = 0 := by omega
      subst hk0
      have hab : n = m := by
        have : a = b := hd
        rw [← hva, ← hvb, this]
      conv => whnf
      refine valI ?_
      rw [hab, cmpN_eq]

end
section

theorem zero_le : AVle (.agg [.sl 0 [] true]) (natA 0) := by
  unfold natA
  rw [limbs_zero]
  exact .agg1 (.sl _ _ _)
theorem noid3 {x y z : AV} (h : NoId x) (h' : NoId y) (h'' : NoId z) : ∀ u ∈ [x, y, z], NoId u := by
  intro u hu; simp at hu; rcases hu with rfl | rfl | rfl; exact h; exact h'; exact h''
end
section

theorem valL_lt {l : List Int} (h : Dig l) : valL l < 10 ^ l.length := by
  induction l with
  | nil => decide
  | cons x l ih =>
    have := ih h.cons.2
    have hx := h.cons.1
    rw [valL_cons, List.length_cons, Nat.pow_succ]
    have h2 : (x - 48).toNat * 10 ^ l.length ≤ 9 * 10 ^ l.length := Nat.mul_le_mul_right _ (by omega)
    omega
theorem Dig.take {l : List Int} (h : Dig l) (k : Nat) : Dig (l.take k) := fun x hx => h x (List.mem_of_mem_take hx)
theorem Dig.drop {l : List Int} (h : Dig l) (k : Nat) : Dig (l.drop k) := fun x hx => h x (List.mem_of_mem_drop hx)
end
section

/-- How many bits a number has. -/
def blen (n : Nat) : Nat := if n = 0 then 0 else Nat.log2 n + 1
def lenTab : ByteArray := { data := (([0, 1, 2, 2, 3, 3, 3, 3, 4, 4, 4, 4, 4, 4, 4, 4, 5, 5, 5, 5, 5, 5, 5, 5, 5, 5, 5, 5, 5, 5, 5, 5, 6, 6, 6, 6, 6, 6, 6, 6, 6, 6, 6, 6, 6, 6, 6, 6, 6, 6, 6, 6, 6, 6, 6, 6, 6, 6, 6, 6, 6, 6, 6, 6].append [7, 7, 7, 7, 7, 7, 7, 7, 7, 7, 7, 7, 7, 7, 7, 7, 7, 7, 7, 7, 7, 7, 7, 7, 7, 7, 7, 7, 7, 7, 7, 7, 7, 7, 7, 7, 7, 7, 7, 7, 7, 7, 7, 7, 7, 7, 7, 7, 7, 7, 7, 7, 7, 7, 7, 7, 7, 7, 7, 7, 7, 7, 7, 7]).append ([8, 8, 8, 8, 8, 8, 8, 8, 8, 8, 8, 8, 8, 8, 8, 8, 8, 8, 8, 8, 8, 8, 8, 8, 8, 8, 8, 8, 8, 8, 8, 8, 8, 8, 8, 8, 8, 8, 8, 8, 8, 8, 8, 8, 8, 8, 8, 8, 8, 8, 8, 8, 8, 8, 8, 8, 8, 8, 8, 8, 8, 8, 8, 8].append [8, 8, 8, 8, 8, 8, 8, 8, 8, 8, 8, 8, 8, 8, 8, 8, 8, 8, 8, 8, 8, 8, 8, 8, 8, 8, 8, 8, 8, 8, 8, 8, 8, 8, 8, 8, 8, 8, 8, 8, 8, 8, 8, 8, 8, 8, 8, 8, 8, 8, 8, 8, 8, 8, 8, 8, 8, 8, 8, 8, 8, 8, 8, 8])).toArray }
end
section

theorem decL_one (d : Nat) (h : d < 10) : decL d = [((48 + d : Nat) : Int)] := by
  have := decL_valL (l := [((48 + d : Nat) : Int)]) (by intro x hx; simp at hx; omega) (by simp) (.inl rfl)
  rw [show valL [((48 + d : Nat) : Int)] = d by simp [valL, valR]; omega] at this
  exact this
end
section

def isDig (x : Int) : Bool := decide (48 ≤ x ∧ x < 58)
/-- Digits, from one to 2000. -/
def right (l : List Int) : Bool := decide (1 ≤ l.length ∧ l.length ≤ 2000) && l.all isDig
theorem right_dig {l : List Int} (h : right l = true) : Dig l ∧ l ≠ [] ∧ l.length ≤ 2000 := by
  simp only [right, Bool.and_eq_true, decide_eq_true_eq, List.all_eq_true] at h
  refine ⟨fun x hx => by have := h.2 x hx; simpa [isDig] using this, fun e => by rw [e] at h; simp at h, h.1.2⟩
end
section

end
section

end
section

end
section

/-- A digit from the end on; 0: there is none. -/
def digE (l : List Int) (i : Nat) : Int := if i < l.length then l.reverse.getD i 0 - 48 else 0
end
section

end
section

end
section

end
section

end
section

end
section

end
end Go.Proofs.Ytcdeiegpeiodjaa

set_option linter.unusedSimpArgs false
namespace Go.AL
open Go Go.RowKit

theorem Wk.refl (s : St) : Wk s s := fun _ _ _ _ _ h => h
theorem Wk.trans {s s' s'' : St} (h1 : Wk s s') (h2 : Wk s' s'') : Wk s s'' := fun gh w0 F0 a w h => h2 gh w0 F0 a w (h1 gh w0 F0 a w h)

/-- A live block that stands in a slot is frozen there. -/
theorem Wk.frz {s : St} (d id off len sz : Nat) {rows : List (List AV)} (h1 : s.t d = .own id off len) (h2 : s.h id = some (.cells sz rows)) (hz : 0 < sz) (hl : off + len ≤ rows.length)
    (hno : NoId (.sl sz ((rows.drop off).take len) false)) : Wk s ⟨upd s.t d (.sl sz ((rows.drop off).take len) false), updH s.h id none, s.n, s.m⟩ := by
  intro gh w0 F0 a w ⟨F, ρ, hR⟩
  have hv := hR.vals d
  rw [h1] at hv
  have hf : AL.frz s.h (.own id off len) = some (.sl sz ((rows.drop off).take len) false, [off + len ≤ rows.length], [(id, none)], [(id, true)]) := by
    unfold AL.frz
    simp only [h2]
    cases sz with
    | zero => exact absurd hz (Nat.lt_irrefl 0)
    | succ k => rfl
  obtain ⟨F', hF, hR', hv'⟩ := frz_ok hR hv hf hl hno
  refine ⟨F', ρ, { hR' with vals := fun t => ?_ }⟩
  show VR w F' ρ _ (upd s.t d _ t)
  by_cases e : t = d
  · subst e
    rw [upd_same]
    exact hv'
  · rw [upd_ne _ _ e]
    exact hR'.vals t

end Go.AL

namespace NM

/-- The value of groups of nine digits, the greatest one first. -/
def valG (l : List Int) : Nat := l.foldl (fun a x => a * 1000000000 + x.toNat) 0
def Gd (l : List Int) : Prop := ∀ x ∈ l, 0 ≤ x ∧ x < 1000000000
end NM
namespace NM
/-- One digit more: how many digits are left, the group begun, the groups done. -/
def gstep (s : Nat × Nat × List Int) (c : Int) : Nat × Nat × List Int :=
  if (s.1 - 1) % 9 = 0 then (s.1 - 1, 0, s.2.2 ++ [((s.2.1 * 10 + (c - 48).toNat : Nat) : Int)]) else (s.1 - 1, s.2.1 * 10 + (c - 48).toNat, s.2.2)
def gat (l : List Int) (i : Nat) : Nat × Nat × List Int := (l.take i).foldl gstep (l.length, 0, [])
def grp (l : List Int) : List Int := (gat l l.length).2.2
end NM
namespace NM
/-- One group more of what is divided by 65536: what is left, the quotient's groups. -/
def dstep (s : Nat × List Int) (g : Int) : Nat × List Int :=
  ((s.1 * 1000000000 + g.toNat) % 65536, if 0 < s.2.length ∨ 0 < (s.1 * 1000000000 + g.toNat) / 65536 then s.2 ++ [(((s.1 * 1000000000 + g.toNat) / 65536 : Nat) : Int)] else s.2)
def dat (l : List Int) (i : Nat) : Nat × List Int := (l.take i).foldl dstep (0, [])
end NM

namespace Go.Proofs.Ytcdeiegpeiodjaa
open Go Go.AL NM
section

end
section

end
end Go.Proofs.Ytcdeiegpeiodjaa

namespace NM

/-- Limbs shifted to the right by fewer bits than a limb has. -/
def srl (b : Nat) : List Int → List Int
  | [] => []
  | x :: l => (((x.toNat + 4294967296 * (l.headD 0).toNat) / 2 ^ b % 4294967296 : Nat) : Int) :: srl b l
end NM

namespace Go.Proofs.Ytcdeiegpeiodjaa
open Go Go.AL NM
section

end
section

end
end Go.Proofs.Ytcdeiegpeiodjaa

namespace NM

/-- The value of digits, the least one first. -/
def dval : List Int → Nat
  | [] => 0
  | x :: l => x.toNat + 10 * dval l
end NM

namespace Go.Proofs.Ytcdeiegpeiodjaa
open Go Go.AL NM
section

end
section

theorem decS_one : decS 1 = ({ data := #[49] } : ByteArray) := by unfold decS; rw [decL_one 1 (by decide)]; rfl
end
section

theorem limbs_mul (x y : Nat) : (limbs (x * y)).length ≤ (limbs x).length + (limbs y).length := by
  apply limbs_len_le
  have h1 := val_lt (limbs_lim x)
  have h2 := val_lt (limbs_lim y)
  rw [val_limbs] at h1 h2
  rw [Nat.pow_add]
  exact Nat.mul_lt_mul'' h1 h2
theorem limbs_1 : (limbs 1).length = 1 := by rw [limbs_pos (by decide), show 1 / 4294967296 = 0 from rfl, limbs_zero]; rfl

end
section

/-- A whole number: as the program has it, as the document's answer has it. -/
def WI (a : Int) : AV := .agg [.sl 1 (irows .u32 (limbs a.natAbs)) false, .val (.bool (decide (a < 0)))]
def WR (a : Int) : AV := .agg [.val (.bool (decide (a < 0))), .val (.string (decS a.natAbs))]
theorem WI_noid (a : Int) : NoId (WI a) := .agg _ (noid2 (noid_sl _ _ _) (.val _))
theorem WR_noid (a : Int) : NoId (WR a) := .agg _ (noid2 (.val _) (.val _))
def sgn (s : Bool) (n : Nat) : Int := if s then -(n : Int) else n
theorem sgn_abs (s : Bool) (n : Nat) : (sgn s n).natAbs = n := by cases s <;> simp [sgn]
theorem sgn_neg (s : Bool) (n : Nat) : decide (sgn s n < 0) = (s && !decide (n = 0)) := by
  cases s
  · simp [sgn]
  · simp only [sgn, if_true, Bool.true_and]
    by_cases h : n = 0
    · subst h; rfl
    · rw [decide_eq_true (by omega), decide_eq_false h]; rfl
theorem sgn_self (a : Int) : sgn (decide (a < 0)) a.natAbs = a := by
  unfold sgn
  by_cases h : a < 0
  · rw [decide_eq_true h, if_pos rfl]; omega
  · rw [decide_eq_false h, if_neg (by decide)]; omega

theorem agg2 {a b c d : AV} (h1 : a = c) (h2 : b = d) : AV.agg [a, b] = AV.agg [c, d] := by rw [h1, h2]

theorem WOf_ok (s : Bool) (n : Nat) : AC Try.prog 88 [.val (.bool s), natA n] (.pure (WI (sgn s n))) := by
  refine AC.of_body TTok Try.func88 rfl (enter_of Try.func88 (by kernel_rfl) (by kernel_rfl)) (noid2 (.val _) (natA_noid n)) (WI_noid _) (Nat.le_of_ble_eq_true rfl) ?_
  have hz := Zero_ok n
  unfold WI
  rw [sgn_abs, sgn_neg]
  unfold natA at hz ⊢
  cases s
  · conv => whnf
    refine ⟨by kernel_rfl, ?_⟩
    conv => whnf
    exact agg2 rfl rfl
  · conv => whnf
    refine ⟨_, hz, ?_⟩
    conv => whnf
    refine ⟨by kernel_rfl, ?_⟩
    conv => whnf
    exact agg2 rfl rfl

/-- A sign ahead of digits. -/
def digs (a : Int) (s : ByteArray) : ByteArray := if a < 0 then s ++ decS a.natAbs else decS a.natAbs
theorem NegW_ok (a : Int) : AC Try.prog 81 [WI a] (.pure (.val (.bool (decide (a < 0))))) := by
  refine AC.of_body TTok Try.func81 rfl (enter_of Try.func81 (by kernel_rfl) (by kernel_rfl)) (noid1 (WI_noid a)) (.val _) (Nat.le_of_ble_eq_true rfl) ?_
  conv => whnf
  exact rfl
def sigW (a : Int) : Int := if a = 0 then 0 else if a < 0 then -1 else 1
end
section

theorem neg64 {n : Int} (h0 : n < 0) (h1 : -9223372036854775808 ≤ n) : IntKind.u64.wrap (IntKind.u64.wrap (IntKind.i64.wrap (0 - (IntKind.i64.wrap (n + 1)))) + 1) = ((n.natAbs : Nat) : Int) := by
  rw [IntWalk.i64_in (n + 1) (by omega), IntWalk.i64_in _ (by omega)]
  simp only [IntKind.wrap_u64]
  omega
theorem pos64 {n : Int} (h0 : ¬ n < 0) (h1 : n < 9223372036854775808) : IntKind.u64.wrap n = ((n.natAbs : Nat) : Int) := by
  simp only [IntKind.wrap_u64]
  omega

theorem From_ok (n : Int) (hn : -9223372036854775808 ≤ n ∧ n < 9223372036854775808) : AC Try.prog 44 [.val (.int .i64 n)] (.pure (WI n)) := by
  refine AC.of_body TTok Try.func44 rfl (enter_of Try.func44 (by kernel_rfl) (by kernel_rfl)) (noid1 (.val _)) (WI_noid _) (Nat.le_of_ble_eq_true rfl) ?_
  have hO := Of_ok n.natAbs (by omega)
  unfold WI natA at *
  conv => whnf
  refine caseb (fun h1 => ?_) (fun h1 => ?_)
  · have h1' : n < 0 := of_decide_eq_true h1
    rw [← neg64 h1' hn.1] at hO
    rw [decide_eq_true h1']
    conv => whnf
    refine ⟨_, hO, ?_⟩
    conv => whnf
    exact rfl
  · have h1' : ¬ n < 0 := of_decide_eq_false h1
    rw [← pos64 h1' hn.2] at hO
    rw [decide_eq_false h1']
    conv => whnf
    refine ⟨_, hO, ?_⟩
    conv => whnf
    exact rfl
theorem RFrom_ok (n : Int) (hn : -9223372036854775808 ≤ n ∧ n < 9223372036854775808) : AC Try.prog 63 [.val (.int .i64 n)] (.pure (WR n)) := by
  refine AC.of_body TTok Try.func63 rfl (enter_of Try.func63 (by kernel_rfl) (by kernel_rfl)) (noid1 (.val _)) (WR_noid _) (Nat.le_of_ble_eq_true rfl) ?_
  have hO := ROf_ok n.natAbs (by omega)
  unfold WR at *
  conv => whnf
  refine caseb (fun h1 => ?_) (fun h1 => ?_)
  · have h1' : n < 0 := of_decide_eq_true h1
    rw [← neg64 h1' hn.1] at hO
    rw [decide_eq_true h1']
    conv => whnf
    refine ⟨_, hO, ?_⟩
    conv => whnf
    exact rfl
  · have h1' : ¬ n < 0 := of_decide_eq_false h1
    rw [← pos64 h1' hn.2] at hO
    rw [decide_eq_false h1']
    conv => whnf
    refine ⟨_, hO, ?_⟩
    conv => whnf
    exact rfl

def fit (a : Int) : Prop := -9223372036854775808 ≤ a ∧ a < 9223372036854775808
instance (a : Int) : Decidable (fit a) := inferInstanceAs (Decidable (_ ∧ _))
theorem IntW_ok (a : Int) : AC Try.prog 53 [WI a] (.pure (.tup [.val (.int .i64 (if fit a then a else 0)), .val (.bool (decide (fit a)))])) := by
  refine AC.of_body TTok Try.func53 rfl (enter_of Try.func53 (by kernel_rfl) (by kernel_rfl)) (noid1 (WI_noid a)) (.tup _ (noid2 (.val _) (.val _))) (Nat.le_of_ble_eq_true rfl) ?_
  have hU := Uint_ok a.natAbs
  by_cases h64 : a.natAbs < 18446744073709551616
  · rw [if_pos h64, decide_eq_true h64] at hU
    obtain ⟨n, hn⟩ : ∃ n, n = a.natAbs := ⟨_, rfl⟩
    unfold WI natA at *
    rw [← hn] at hU ⊢
    conv => whnf
    refine ⟨_, hU, ?_⟩
    conv => whnf
    refine caseb (fun h1 => ?_) (fun h1 => ?_)
    · have h1' : (n : Int) > 9223372036854775808 := of_decide_eq_true h1
      have hf : ¬ fit a := fun h => by unfold fit at h; omega
      rw [if_neg hf, decide_eq_false hf]
      conv => whnf
      exact rfl
    have h1' : ¬ (n : Int) > 9223372036854775808 := of_decide_eq_false h1
    by_cases ha : a < 0
    · have hf : fit a := by unfold fit; omega
      rw [if_pos hf, decide_eq_true hf, decide_eq_true ha]
      have e : IntKind.i64.wrap (IntKind.i64.wrap (0 - (IntKind.i64.wrap (IntKind.u64.wrap ((n : Int) - 1)))) - 1) = a := by
        simp only [IntKind.wrap_u64]
        rw [IntWalk.i64_in (((n : Int) - 1) % 18446744073709551616) (by omega), IntWalk.i64_in (0 - (((n : Int) - 1) % 18446744073709551616)) (by omega), IntWalk.i64_in _ (by omega)]
        omega
      conv => whnf
      refine caseb (fun h2 => ?_) (fun h2 => ?_)
      · conv => whnf
        exact tup2 (valI e) rfl
      · conv => whnf
        exact tup2 (valI e) rfl
    · rw [decide_eq_false ha]
      conv => whnf
      refine caseb (fun h2 => ?_) (fun h2 => ?_)
      · have h2' : (n : Int) = 9223372036854775808 := by simpa using h2
        have hf : ¬ fit a := fun h => by unfold fit at h; omega
        rw [if_neg hf, decide_eq_false hf]
        conv => whnf
        exact rfl
      · have h2' : ¬ (n : Int) = 9223372036854775808 := by simpa using h2
        have hf : fit a := by unfold fit; omega
        rw [if_pos hf, decide_eq_true hf]
        conv => whnf
        refine tup2 (valI ?_) rfl
        show IntKind.i64.wrap (n : Int) = a
        rw [IntWalk.i64_in _ (by omega)]; omega
  · rw [if_neg h64, decide_eq_false h64] at hU
    have hf : ¬ fit a := fun h => by unfold fit at h; omega
    rw [if_neg hf, decide_eq_false hf]
    unfold WI natA at *
    conv => whnf
    refine ⟨_, hU, ?_⟩
    conv => whnf
    exact rfl

end
section

def cmpZ (a b : Int) : Int := if a < b then -1 else if a = b then 0 else 1
theorem cmpN_Z (n m : Nat) : cmpN n m = cmpZ n m := by
  unfold cmpN cmpZ
  repeat' split
  all_goals omega
theorem cmpZ_pp {a b : Int} (ha : ¬ a < 0) (hb : ¬ b < 0) : cmpN a.natAbs b.natAbs = cmpZ a b := by
  rw [cmpN_Z, show ((a.natAbs : Nat) : Int) = a by omega, show ((b.natAbs : Nat) : Int) = b by omega]
theorem cmpZ_nn {a b : Int} (ha : a < 0) (hb : b < 0) : cmpN b.natAbs a.natAbs = cmpZ a b := by
  unfold cmpN cmpZ
  repeat' split
  all_goals omega

theorem CmpW_ok (a b : Int) (ha : (limbs a.natAbs).length < 4000000000) (hb : (limbs b.natAbs).length < 4000000000) : AC Try.prog 72 [WI a, WI b] (.pure (.val (.int .i64 (cmpZ a b)))) := by
  refine AC.of_body TTok Try.func72 rfl (enter_of Try.func72 (by kernel_rfl) (by kernel_rfl)) (noid2 (WI_noid a) (WI_noid b)) (.val _) (Nat.le_of_ble_eq_true rfl) ?_
  have h1 := Cmp_ok a.natAbs b.natAbs ha hb
  have h2 := Cmp_ok b.natAbs a.natAbs hb ha
  unfold natA at h1 h2
  unfold WI
  by_cases na : a < 0
  · by_cases nb : b < 0
    · rw [cmpZ_nn na nb] at h2
      rw [decide_eq_true na, decide_eq_true nb]
      conv => whnf
      refine ⟨_, h2, ?_⟩
      conv => whnf
      exact rfl
    · rw [decide_eq_true na, decide_eq_false nb, show cmpZ a b = -1 from if_pos (by omega)]
      conv => whnf
      exact rfl
  · by_cases nb : b < 0
    · rw [decide_eq_false na, decide_eq_true nb, show cmpZ a b = 1 by unfold cmpZ; rw [if_neg (by omega), if_neg (by omega)]]
      conv => whnf
      exact rfl
    · rw [cmpZ_pp na nb] at h1
      rw [decide_eq_false na, decide_eq_false nb]
      conv => whnf
      refine ⟨_, h1, ?_⟩
      conv => whnf
      exact rfl

end
section

def rowW (b : Int) : List AV := [.sl 1 (irows .u32 (limbs b.natAbs)) false, .val (.bool (decide (b < 0)))]
theorem rowW_noid (b : Int) : ∀ x ∈ rowW b, NoId x := noid2 (noid_sl _ _ _) (.val _)
theorem rowsW_noid (l : List Int) : ∀ r ∈ l.map rowW, ∀ x ∈ r, NoId x := by
  intro r hr
  obtain ⟨b, _, rfl⟩ := List.mem_map.1 hr
  exact rowW_noid b

theorem sgn_mul (a b : Int) : sgn (!(decide (a < 0) == decide (b < 0))) (a.natAbs * b.natAbs) = a * b := by
  have h : ∀ x : Int, x = sgn (decide (x < 0)) x.natAbs := fun x => (sgn_self x).symm
  rw [h a, h b, sgn_abs, sgn_abs]
  generalize a.natAbs = n
  generalize b.natAbs = m
  cases decide (a < 0) <;> cases decide (b < 0)
  all_goals
    rw [sgn_neg, sgn_neg]
    by_cases h1 : n = 0
    · subst h1; simp [sgn]
    · by_cases h2 : m = 0
      · subst h2; simp [sgn]
      · simp [sgn, h1, h2, Int.neg_mul, Int.mul_neg]

theorem Times_ok (a : Int) (l : List Int) (f : Nat → Int) (h0 : f 0 = a) (hf : ∀ k (h : k < l.length), f (k + 1) = f k * l[k]) (hl : l.length < 1000)
    (hb : ∀ k, k ≤ l.length → (limbs (f k).natAbs).length < 1000000000) (hbl : ∀ k (h : k < l.length), (limbs (l[k]).natAbs).length < 1000000000) :
    AC Try.prog 70 [WI a, .sl 2 (l.map rowW) false] (.pure (WI (f l.length))) := by
  refine AC.of_body TTok Try.func70 rfl (enter_of Try.func70 (by kernel_rfl) (by kernel_rfl)) (noid2 (WI_noid a) (.sl _ _ _ (rowsW_noid l))) (WI_noid _) (Nat.le_of_ble_eq_true rfl) ?_
  conv => whnf
  refine SW.loopM TTok (fun k : Nat => [(2, .lp 0 0), (4, .lp 8 0), (7, .sl 2 (l.map rowW) false), (8, .val (.int .i64 l.length)), (9, .val (.int .i64 k))])
    (fun k => [(0, .cells 2 [rowW (f k)]), (8, .cells 2 [[.sl 0 [] true, .val (.bool false)]])]) 40 26 rfl (fun k => l.length - k) (fun k => k ≤ l.length) 0 [] (Nat.zero_le _)
    ⟨⟨rfl, rfl⟩, ⟨rfl, rfl⟩, ⟨rfl, rfl⟩, ⟨valI (by simp), rfl⟩, ⟨rfl, rfl⟩, trivial⟩ ⟨⟨rfl, .inl ⟨?_, ?_⟩⟩, ⟨rfl, .inr ⟨rfl, rfl⟩⟩, trivial⟩ rfl ?_
  · rw [h0]; rfl
  · intro r hr; simp at hr; subst hr; exact rowW_noid _
  intro k hk
  have hk : k ≤ l.length := hk
  conv => whnf
  refine caseb (fun h1 => ?_) (fun h1 => ?_)
  · have h1' : (k : Int) < (l.length : Int) := of_decide_eq_true h1
    have hlt : k < l.length := by omega
    have hM := Mul_ok (f k).natAbs (l[k]).natAbs (by have := hb k hk; have := hbl k hlt; omega)
    have hP := WOf_ok (!(decide (f k < 0) == decide (l[k] < 0))) ((f k).natAbs * (l[k]).natAbs)
    rw [sgn_mul, ← hf k hlt] at hP
    unfold natA at hM hP
    conv => whnf
    refine ⟨rowW l[k], ⟨by omega, by rw [List.getElem?_map, show ((k : Int)).toNat = k by omega, List.getElem?_eq_getElem hlt]; rfl⟩, ?_⟩
    conv => whnf
    refine ⟨_, hM, ?_⟩
    conv => whnf
    refine ⟨_, hP, ?_⟩
    conv => whnf
    refine ⟨by kernel_rfl, ?_⟩
    conv => whnf
    refine ⟨k + 1, [], (by show l.length - (k + 1) < l.length - k; omega), (by show k + 1 ≤ l.length; omega), ⟨⟨rfl, rfl⟩, ⟨rfl, rfl⟩, ⟨rfl, rfl⟩, ⟨rfl, rfl⟩, ⟨valI ?_, rfl⟩, trivial⟩, ⟨⟨rfl, .inl ⟨rfl, fun r hr => by simp at hr; subst hr; exact rowW_noid _⟩⟩, ⟨rfl, .inr ⟨rfl, rfl⟩⟩, trivial⟩, rfl⟩
    show IntKind.i64.wrap ((k : Int) + 1) = ((k + 1 : Nat) : Int)
    rw [IntWalk.i64_in _ (by omega)]; omega
  · have h1' : ¬ (k : Int) < (l.length : Int) := of_decide_eq_false h1
    have hkl : k = l.length := by omega
    conv => whnf
    show WI (f k) = _
    rw [hkl]

end
section

def flS (a b : Int) : Bool := decide (decide (a < 0) = decide (b < 0) ∨ a.natAbs % b.natAbs = 0)
def flQ (a b : Int) : Int := if flS a b then sgn (!(decide (a < 0) == decide (b < 0))) (a.natAbs / b.natAbs) else sgn true (a.natAbs / b.natAbs + 1)
def flR (a b : Int) : Int := if flS a b then sgn (decide (b < 0)) (a.natAbs % b.natAbs) else sgn (decide (b < 0)) (b.natAbs - a.natAbs % b.natAbs)

/-- The whole number that a text is. -/
def parseW (l : List Int) : Option Int :=
  match l with
  | [] => none
  | x :: r => if x = 45 then (if right r = true then some (sgn true (valL r)) else none) else (if right (x :: r) = true then some (sgn false (valL (x :: r))) else none)

end
section

end
section

theorem Times1 (a b : Int) (ha : (limbs a.natAbs).length < 100000) (hb : (limbs b.natAbs).length < 100000) (hs : (limbs (a * b).natAbs).length < 100000) : AC Try.prog 70 [WI a, .sl 2 [rowW b] false] (.pure (WI (a * b))) :=
  Times_ok a [b] (fun k => if k = 0 then a else a * b) rfl (fun k h => by
    have hk : k = 0 := by simp at h; omega
    subst hk; rfl) (by simp) (fun k hk => by
    show (limbs (if k = 0 then a else a * b).natAbs).length < _
    split <;> omega) (fun k h => by
    have hk : k = 0 := by simp at h; omega
    subst hk
    show (limbs b.natAbs).length < _
    omega)
theorem limbs_abs_mul (a b : Int) : (limbs (a * b).natAbs).length ≤ (limbs a.natAbs).length + (limbs b.natAbs).length := by
  rw [Int.natAbs_mul]
  exact limbs_mul a.natAbs b.natAbs

end
end Go.Proofs.Ytcdeiegpeiodjaa

namespace NM

end NM

set_option linter.unusedSimpArgs false
namespace Go.AL
open Go Go.RowKit

/-- A region's first operations, in the text's order. -/
theorem aops_pre {P : Program} {TT : Nat → Option TI} (hT : TTok P TT) {gh : Array Value} {w0 : World} {F0 : Nat → Prop} {ops : Array Oper} {K : St → Prop} {Q : Exit → Act → World → Prop} (n m : Nat) (tail : List Oper)
    (hQ : ∀ i s' a' w', i + tail.length = ops.toList.length → K s' → s'.n = n → s'.m = m → (∃ F ρ, Rel gh w0 F0 F ρ (fun id => n + 8 * i ≤ id) s' a' w') → wpOps P ops Q (List.range' i tail.length) a' w') :
    ∀ (rest : List Oper) (i : Nat) (s : St) (a : Act) (w : World) (F : Nat → Prop) (ρ : Nat → Option BI), ops.toList.drop i = rest ++ tail → i + rest.length + tail.length = ops.toList.length → s.n = n → s.m = m → aops P TT ops.toList rest i K s →
      Rel gh w0 F0 F ρ (fun id => n + 8 * i ≤ id) s a w → wpOps P ops Q (List.range' i (rest.length + tail.length)) a w
  | [], i, s, a, w, F, ρ, hd, hl, hn, hm, h, hR => by
    simp only [List.length_nil, Nat.add_zero] at hl
    rw [List.length_nil, Nat.zero_add]
    exact hQ i s a w hl h hn hm ⟨F, ρ, hR⟩
  | o :: rest, i, s, a, w, F, ρ, hd, hl, hn, hm, h, hR => by
    have ho : ops[i]? = some o := by
      have : (ops.toList.drop i)[0]? = some o := by rw [hd]; rfl
      rw [List.getElem?_drop] at this
      simpa using this
    have hd' : ops.toList.drop (i + 1) = rest ++ tail := by rw [← List.drop_drop, hd]; rfl
    simp only [List.length_cons] at hl
    have ih := aops_pre hT n m tail hQ rest (i + 1)
    have perf : aopK P TT o (s.n + 8 * i) (aops P TT ops.toList rest (i + 1) K) s → o.wp P a w (wpOps P ops Q (List.range' (i + 1) (rest.length + tail.length))) Q := by
      intro hk
      unfold aopK at hk
      split at hk
      · rename_i hdst
        obtain ⟨v, u, acc, hs, hk⟩ := run_step hk
        refine step_sound hT hR (fun k hk => by rw [hn]; omega) hs hdst (fun a' w' ⟨F', ρ', hR'⟩ => ?_)
        exact ih { s with t := putT s.t o.dst v, h := updsH s.h u } a' w' F' ρ' hd' (by omega) hn hm hk (hR'.mono_fr (fun id hid => ⟨by omega, by rw [hn]; omega⟩))
      · exact hk.elim
    rw [List.length_cons, show rest.length + 1 + tail.length = rest.length + tail.length + 1 by omega, List.range'_succ]
    simp only [wpOps, ho]
    unfold aops at h
    split at h
    · rename_i hg
      have hw : Region.wanted o (yielded ops a.tmps) = true := by simp [Region.wanted, hg]
      rw [if_pos hw]
      exact .inl (perf h)
    · rename_i g want hg
      split at h
      · rename_i d hgd hdst
        split at h
        · rename_i x hx
          have hy : yielded ops a.tmps g = some x := yielded_of hR (gdst_bind hgd) hx
          by_cases hxw : x = want
          · have hw : Region.wanted o (yielded ops a.tmps) = true := by simp [Region.wanted, hg, hy, hxw]
            rw [if_pos hw]
            refine .inl (perf ?_)
            subst hxw
            cases x <;> (simp only [upd_self hx] at h; exact h)
          · have hw : ¬ Region.wanted o (yielded ops a.tmps) = true := by simp [Region.wanted, hg, hy, hxw]
            rw [if_neg hw]
            have hk : aops P TT ops.toList rest (i + 1) K { s with t := putT s.t o.dst (.val undef) } := by
              cases x <;> cases want <;> first | exact absurd rfl hxw | (simp only [upd_self hx] at h; exact h)
            exact ih { s with t := putT s.t o.dst (.val undef) } _ w F ρ hd' (by omega) hn hm hk ((hR.putd (.val undef) o.dst hdst).mono_fr (fun id hid => by omega))
        · rename_i vs hx
          have hy : yielded ops a.tmps g = none := yielded_of hR (gdst_bind hgd) hx
          have hw : ¬ Region.wanted o (yielded ops a.tmps) = true := by simp [Region.wanted, hg, hy]
          rw [if_neg hw]
          exact ih { s with t := putT s.t o.dst (.val undef) } _ w F ρ hd' (by omega) hn hm h ((hR.putd (.val undef) o.dst hdst).mono_fr (fun id hid => by omega))
        · exact h.elim
      · exact h.elim

/-- All slots of a caller, as the ghosts of its callee. -/
def ghosts (a : Act) (gh : Array Value) : Array Value := Array.ofFn (n := 1000000 + gh.size) fun i => gval a gh i
theorem ghosts_get (a : Act) (gh : Array Value) (j : Nat) : (ghosts a gh).getD j undef = gval a gh j := by
  unfold ghosts
  rw [Array.getD_eq_getD_getElem?, Array.getElem?_ofFn]
  split
  · rfl
  · unfold gval
    rw [if_neg (by omega), Array.getD_eq_getD_getElem?, Array.getElem?_eq_none (by omega)]

/-- The slots that a callee begins with: its arguments; from 1000000 on its caller's. -/
def inT (args : List AV) (t : Nat → AV) : Nat → AV := fun k => bif Nat.blt k 1000000 then getA args k else t (k - 1000000)
/-- The slots that its caller goes on with. -/
def outT (t : Nat → AV) : Nat → AV := fun j => t (1000000 + j)

end Go.AL
namespace Go.AL
open Go Go.RowKit
end Go.AL

set_option linter.unusedSimpArgs false
namespace Go.AL
open Go Go.RowKit

/-- A loop as in loopM; the round is told of the code itself. -/
theorem SW.loopS {P : Program} {TT : Nat → Option TI} (hT : TTok P TT) {α : Type} {c : Code} {Q : Exit → St → Prop} {s : St} (ts : α → List (Nat × AV)) (hs : α → List (Nat × LB)) (n m : Nat) (hm : s.m = m)
    (μ : α → Nat) (J : α → Prop) (x0 : α) (σ0 : List (Nat × Nat)) (h0 : J x0) (e1 : okT s (σf σ0) n (ts x0)) (e2 : okH s (σf σ0) n (hs x0)) (e3 : distinct (((hs x0).map (·.1)).map (σf σ0)) = true)
    (round : ∀ x, J x → SW P c (loopQ Q fun s2 => ∃ (x' : α) (σ : List (Nat × Nat)), μ x' < μ x ∧ J x' ∧ okT s2 (σf σ) n (ts x') ∧ okH s2 (σf σ) n (hs x') ∧ distinct (((hs x').map (·.1)).map (σf σ)) = true) (mkS (ts x) (hs x) n m)) : SW P (.loop c) Q s := by
  refine SW.loop (fun k s1 => ∃ x, μ x = k ∧ J x ∧ s1 = mkS (ts x) (hs x) n m) (μ x0) (mkS (ts x0) (hs x0) n m) (Wk.of _ _ _ _ _ hm e1 e2 e3) hm.symm ⟨x0, rfl, h0, rfl⟩ ?_
  rintro k s1 hm1 ⟨x, rfl, hJ, rfl⟩
  refine ((round x hJ).keep).mono fun e s' hq => ?_
  obtain ⟨hq, hms⟩ := hq
  cases e with
  | normal =>
    obtain ⟨x', σ, g1, g2, g3, g4, g5⟩ := hq
    exact ⟨μ x', mkS (ts x') (hs x') n m, g1, Wk.of _ _ _ _ _ (by rw [hms]; rfl) g3 g4 g5, (by rw [hms]; rfl), x', rfl, g2, rfl⟩
  | _ => exact hq

end Go.AL

namespace Go.Proofs.Ytcdeiegpeiodjaa
open Go Go.AL NM
section

end
section

def cAt : Code → List Nat → Code
  | c, [] => c
  | .seq a b, 0 :: l => cAt a l
  | .seq a b, _ :: l => cAt b l
  | .block _ c, _ :: l => cAt c l
  | .loop c, _ :: l => cAt c l
  | .cond _ x y, 0 :: l => cAt x l
  | .cond _ x y, _ :: l => cAt y l
  | c, _ => c
end
section

end
section

end
section

end
section

end
section

end
end Go.Proofs.Ytcdeiegpeiodjaa

namespace Go.AL.NM

def euc (n m : Nat) : Nat → Nat
  | 0 => n
  | 1 => m
  | (i + 2) => euc n m i % euc n m (i + 1)

/-- What the sequence's place i knows of its length. -/
def eucJ (f : Nat → Nat) (i : Nat) : Prop := i = 0 ∨ (f (i + 1) ≤ f i ∧ f i * f (i + 1) * 2 ^ (i - 1) ≤ f 0 * f 1)

end Go.AL.NM

namespace Go.Proofs.Ytcdeiegpeiodjaa
open Go Go.AL NM
section

end
section

end
section

theorem sgn_num (x y : Int) (hy : y ≠ 0) : (Rat.divInt x y).num = sgn (!(decide (x < 0) == decide (y < 0))) (x.natAbs / Nat.gcd x.natAbs y.natAbs) := by
  rw [Rat.num_divInt]
  have hg : Int.gcd y x = Nat.gcd x.natAbs y.natAbs := by rw [Nat.gcd_comm]; rfl
  rw [hg]
  have hd : Nat.gcd x.natAbs y.natAbs ∣ x.natAbs := Nat.gcd_dvd_left _ _
  revert hd
  generalize Nat.gcd x.natAbs y.natAbs = g
  intro hd
  obtain ⟨k, hk⟩ := hd
  rcases Nat.eq_zero_or_pos g with h0 | h0
  · subst h0
    simp [sgn]
  rw [hk, Nat.mul_div_cancel_left _ h0]
  have e1 : ∀ z : Int, ((g : Int) * z) / (g : Int) = z := fun z => Int.mul_ediv_cancel_left _ (by omega)
  have key : ∀ s : Bool, (y.sign * x) = (g : Int) * sgn s k → (y.sign * x) / (g : Int) = sgn s k := fun s h => by rw [h, e1]
  refine key _ ?_
  have hm : ((g * k : Nat) : Int) = (g : Int) * (k : Int) := Int.natCast_mul _ _
  rcases Int.lt_trichotomy y 0 with h | h | h
  · rw [Int.sign_eq_neg_one_of_neg h, decide_eq_true h]
    by_cases hx : x < 0
    · rw [decide_eq_true hx]
      show -1 * x = (g : Int) * (k : Int)
      omega
    · rw [decide_eq_false hx]
      show -1 * x = (g : Int) * -(k : Int)
      rw [Int.mul_neg]
      omega
  · exact absurd h hy
  · rw [Int.sign_eq_one_of_pos h, decide_eq_false (by omega : ¬ y < 0)]
    by_cases hx : x < 0
    · rw [decide_eq_true hx]
      show 1 * x = (g : Int) * -(k : Int)
      rw [Int.mul_neg]
      omega
    · rw [decide_eq_false hx]
      show 1 * x = (g : Int) * (k : Int)
      omega
theorem sgn_den (x y : Int) (hy : y ≠ 0) : (Rat.divInt x y).den = y.natAbs / Nat.gcd x.natAbs y.natAbs := by
  rw [Rat.den_divInt, if_neg hy]
  have hg : Int.gcd y x = Nat.gcd x.natAbs y.natAbs := by rw [Nat.gcd_comm]; rfl
  rw [hg]

/-- The order of two numbers. -/
def cmpQ (a b : Rat) : Int := if a < b then -1 else if a = b then 0 else 1
theorem cmpZ_Q (a b : Rat) : cmpZ (a.num * (b.den : Int)) (b.num * (a.den : Int)) = cmpQ a b := by
  unfold cmpZ cmpQ
  by_cases h : a < b
  · rw [if_pos h, if_pos ((Rat.lt_iff a b).1 h)]
  · rw [if_neg h, if_neg (fun e => h ((Rat.lt_iff a b).2 e))]
    by_cases he : a = b
    · rw [if_pos he, if_pos (Rat.eq_iff_mul_eq_mul.1 he)]
    · rw [if_neg he, if_neg (fun e => he (Rat.eq_iff_mul_eq_mul.2 e))]
theorem cmpQ_self (a : Rat) : cmpQ a a = 0 := by
  unfold cmpQ
  rw [if_neg Rat.lt_irrefl, if_pos rfl]
/-- How many limbs a number has, above and below the line. -/
def Sz (q : Rat) (k : Nat) : Prop := (limbs q.num.natAbs).length ≤ k ∧ (limbs q.den).length ≤ k
theorem Sz.mono {q : Rat} {i j : Nat} (h : Sz q i) (hij : i ≤ j) : Sz q j := ⟨Nat.le_trans h.1 hij, Nat.le_trans h.2 hij⟩
theorem limbs_num_den (a b : Rat) : (limbs (a.num * (b.den : Int)).natAbs).length ≤ (limbs a.num.natAbs).length + (limbs b.den).length := by
  have := limbs_abs_mul a.num (b.den : Int)
  rwa [Int.natAbs_natCast] at this
theorem Sz_int {n : Int} {k : Nat} (h1 : 1 ≤ k) (h : (limbs n.natAbs).length ≤ k) : Sz (n : Rat) k := ⟨by rw [Rat.num_intCast]; exact h, by rw [Rat.den_intCast, limbs_1]; exact h1⟩
end
section

/-- A ratio: as the program has it, as the document's answer has it. -/
def RA (t : Int) (d : Nat) : AV := .agg [.sl 1 (irows .u32 (limbs t.natAbs)) false, .val (.bool (decide (t < 0))), .sl 1 (irows .u32 (limbs d)) false]
def RN (t : Int) (d : Nat) : AV := .agg [.val (.bool (decide (t < 0))), .val (.string (decS t.natAbs)), .val (.string (decS d))]
theorem RA_noid (t : Int) (d : Nat) : NoId (RA t d) := .agg _ (noid3 (noid_sl _ _ _) (.val _) (noid_sl _ _ _))
theorem RN_noid (t : Int) (d : Nat) : NoId (RN t d) := .agg _ (noid3 (.val _) (.val _) (.val _))
/-- What stands below the line: 1 if there is nothing. -/
def dn (d : Nat) : Nat := if d = 0 then 1 else d
theorem down_ok (t : Int) (d : Nat) : AC Try.prog 75 [RA t d] (.pure (natA (dn d))) := by
  refine AC.of_body TTok Try.func75 rfl (enter_of Try.func75 (by kernel_rfl) (by kernel_rfl)) (noid1 (RA_noid t d)) (natA_noid _) (Nat.le_of_ble_eq_true rfl) ?_
  have hz := Zero_ok d
  have h1 := Of_ok 1 (by decide)
  unfold dn
  by_cases h : d = 0
  · rw [decide_eq_true h] at hz
    rw [if_pos h]
    unfold RA natA at *
    repeat
      conv => whnf
      first
        | refine ⟨_, by assumption, ?_⟩
        | refine ⟨(Nat.le_of_ble_eq_true rfl), _, by assumption, ?_⟩
        | refine ⟨by kernel_rfl, ?_⟩
        | exact rfl
        | exact ⟨Nat.le_of_ble_eq_true rfl, rfl⟩
        | refine ⟨by decide, ?_⟩
  · rw [decide_eq_false h] at hz
    rw [if_neg h]
    unfold RA natA at *
    repeat
      conv => whnf
      first
        | refine ⟨_, by assumption, ?_⟩
        | refine ⟨(Nat.le_of_ble_eq_true rfl), _, by assumption, ?_⟩
        | refine ⟨by kernel_rfl, ?_⟩
        | exact rfl
        | exact ⟨Nat.le_of_ble_eq_true rfl, rfl⟩
        | refine ⟨by decide, ?_⟩
theorem under_ok (t : Int) (d : Nat) : AC Try.prog 71 [RA t d] (.pure (WI (dn d : Int))) := by
  refine AC.of_body TTok Try.func71 rfl (enter_of Try.func71 (by kernel_rfl) (by kernel_rfl)) (noid1 (RA_noid t d)) (WI_noid _) (Nat.le_of_ble_eq_true rfl) ?_
  have hD := down_ok t d
  have hO := WOf_ok false (dn d)
  rw [show sgn false (dn d) = (dn d : Int) from rfl] at hO
  unfold RA WI natA at *
  repeat
    conv => whnf
    first
      | refine ⟨_, by assumption, ?_⟩
      | refine ⟨(Nat.le_of_ble_eq_true rfl), _, by assumption, ?_⟩
      | refine ⟨by kernel_rfl, ?_⟩
      | exact rfl
      | exact ⟨Nat.le_of_ble_eq_true rfl, rfl⟩
      | refine ⟨by decide, ?_⟩
theorem RatFrom_ok (n : Int) (hn : -9223372036854775808 ≤ n ∧ n < 9223372036854775808) : AC Try.prog 21 [.val (.int .i64 n)] (.pure (RA n 1)) := by
  refine AC.of_body TTok Try.func21 rfl (enter_of Try.func21 (by kernel_rfl) (by kernel_rfl)) (noid1 (.val _)) (RA_noid _ _) (Nat.le_of_ble_eq_true rfl) ?_
  have hF := From_ok n hn
  have h1 := Of_ok 1 (by decide)
  unfold RA WI natA at *
  repeat
    conv => whnf
    first
      | refine ⟨_, by assumption, ?_⟩
      | refine ⟨(Nat.le_of_ble_eq_true rfl), _, by assumption, ?_⟩
      | refine ⟨by kernel_rfl, ?_⟩
      | exact rfl
      | exact ⟨Nat.le_of_ble_eq_true rfl, rfl⟩
      | refine ⟨by decide, ?_⟩
theorem Num_ok (t : Int) (d : Nat) (lt : (limbs t.natAbs).length ≤ 100000) (ld : (limbs (dn d)).length ≤ 100000) : AC Try.prog 62 [RA t d] (.pure (RN t (dn d))) := by
  refine AC.of_body TTok Try.func62 rfl (enter_of Try.func62 (by kernel_rfl) (by kernel_rfl)) (noid1 (RA_noid t d)) (RN_noid _ _) (Nat.le_of_ble_eq_true rfl) ?_
  have hN := NegW_ok t
  have hT := Text_ok t.natAbs (by omega)
  have hD := down_ok t d
  have hT2 := Text_ok (dn d) (by omega)
  unfold RA RN WI natA at *
  repeat
    conv => whnf
    first
      | refine ⟨_, by assumption, ?_⟩
      | refine ⟨(Nat.le_of_ble_eq_true rfl), _, by assumption, ?_⟩
      | refine ⟨by kernel_rfl, ?_⟩
      | exact rfl
      | exact ⟨Nat.le_of_ble_eq_true rfl, rfl⟩
      | refine ⟨by decide, ?_⟩

end
end Go.Proofs.Ytcdeiegpeiodjaa
