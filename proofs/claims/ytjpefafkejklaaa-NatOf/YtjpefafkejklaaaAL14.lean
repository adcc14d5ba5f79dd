/- An abstract program logic over tree values (part 14): calls, regions, code, functions. -/
import Derived.Test.YtjpefafkejklaaaAL13
set_option linter.unusedVariables false
set_option linter.unusedSimpArgs false
namespace Go.AL
open Go Go.RowKit

section
variable {P : Program} {TT : Nat → Option TI} {w0 w : World} {F0 F : Nat → Prop} {ρ : Nat → Option BI} {fr : Nat → Prop} {s : St} {a : Act} {b : Nat}

/-- A pure call. -/
theorem call_sound (hR : Rel w0 F0 F ρ fr s a w) (hfr : ∀ k, k < 8 → fr (b + k)) {o : Oper} {c : Call} (ho : o.op = .call c) {f : Nat} {args : List AV} {ps : List Prop} {u : Ups} {acc : Accs}
    (hg : rcall TT (aval s.t) s.h b c = .call f args ps u acc) (hp : allP ps) {r : AR} (hA : AC P f args r) {K : Act → World → Prop} {Q : Exit → Act → World → Prop}
    (hK : ∀ v w', (∃ F' ρ', Rel w0 F0 F' ρ' (fun j => fr j ∧ ¬ (b ≤ j ∧ j < b + 8)) { s with h := updsH s.h (u ++ r.u b) } a w' ∧ VR w' F' ρ' v (r.v b)) → K (a.put o.dst v) w') :
    o.wp P a w K Q := by
  obtain ⟨g, hc, hev, hfz⟩ := rcall_inv hg
  have hge : a.eval g = .func (.func f) #[] #[] := by have := hR.aval g; rw [hev] at this; exact this.val_inv
  obtain ⟨F1, g1, g2, g3, g4⟩ := frzA_ok (c.args.toList.map (aval s.t)) args (c.args.toList.map a.eval) s F ps u acc hR (by simp) (fun i x hx => by
    rw [List.getElem?_map] at hx
    cases hi : c.args.toList[i]? with
    | none => simp [hi] at hx
    | some y =>
      simp [hi] at hx
      subst hx
      have : (c.args.toList.map a.eval).getD i undef = a.eval y := by simp only [List.getD, List.getElem?_map, hi, Option.map_some, Option.getD_some]
      rw [this]
      exact hR.aval y) hfz hp hA.noid
  have hvals : (c.args.map a.eval).size = args.length := by rw [g3]; simp
  have hcall := hA.calls w F1 (c.args.map a.eval) g2.Fb hvals (fun i x hx => by
    have h1 := g4 i x hx
    have e : (c.args.toList.map a.eval).getD i undef = (c.args.map a.eval).getD i undef := by
      simp only [List.getD, Array.getD_eq_getD_getElem?, List.getElem?_map, Array.getElem?_map, Array.getElem?_toList]
    rw [e] at h1
    exact h1.noid (hA.noid x (List.mem_of_getElem? hx)))
  have hexec : (execOp a.eval o).run P w = .ok (.enter f (c.args.map a.eval)) w := by
    simp [execOp, ho, resolve, hc, Deferred.ofValue, hge, invoke, hA.enter]
  unfold Oper.wp
  rw [hexec]
  simp only [Oper.upon]
  refine hcall.mono ?_
  rintro e w' ⟨v, rfl, hb, hret⟩
  refine hK v w' ?_
  have hw := g2.world hb.size (fun k hk => hb.block k hk) hb.os hb.tape hb.output
  have live : ∀ (F' : Nat → Prop), (∀ b, F' b → F1 b ∨ w.heap.size ≤ b) → ∀ id bi, ((updsH s.h u) id).isSome = true → ρ id = some bi → 0 < bi.csz → ¬ F' bi.blk := by
    intro F' hF' id bi hi hr hp0 hc'
    obtain ⟨lb, hlb⟩ := Option.isSome_iff_exists.1 hi
    obtain ⟨bi', q1, q2, q3⟩ := g2.blks id lb hlb
    rw [hr] at q1; injection q1 with q1; subst q1
    rcases hF' _ hc' with h | h
    · exact (q3 hp0).1 h
    · have := g2.blk_lt hi hr hp0; omega
  cases r with
  | pure r =>
    obtain ⟨hno, F', k1, k2, k3, k4⟩ := hret
    have h3 := hw.growF F' k1 k2 (fun b hb' => by
      rcases k3 b hb' with h | h
      · exact .inl h
      · exact .inr (Nat.le_trans hR.below.size h)) (live F' k3)
    exact ⟨F', ρ, by simpa [AR.u] using h3.mono_fr (fun _ h => h.1), k4.noid hno⟩
  | fresh sz rows =>
    obtain ⟨hno, F', bi, k1, k2, k3, k4, k5, k6⟩ := hret
    have h3 := hw.growF F' k1 k2 (fun b hb' => by
      rcases k3 b hb' with h | h
      · exact .inl h
      · exact .inr (Nat.le_trans hR.below.size h)) (live F' k3)
    have hbr : BR w' F' ρ bi (.cells sz rows) := by
      obtain ⟨c1, c2, c3, c4⟩ := k5
      refine ⟨c1, c2, c3, fun hp0 => ?_⟩
      obtain ⟨cs, ty, d1, d2, d3, d4⟩ := c4 hp0
      exact ⟨cs, ty, d1, d2, d3, fun j x hx => ⟨(d4 j x hx).1, (d4 j x hx).2.noid (mem_flat hno hx)⟩⟩
    have h4 := h3.name b (hfr 0 (by omega)) bi (.cells sz rows) hbr (fun hp0 => ⟨(k6 hp0).1, Nat.le_trans hR.below.size (k6 hp0).2⟩) (fun hp0 id' bi' hi hr hp' he => by
      have h1 : bi'.blk < w.heap.size := g2.blk_lt hi hr hp'
      have := (k6 hp0).2
      omega)
    have h5 := h4.mono_fr (fr' := fun j => fr j ∧ ¬ (b ≤ j ∧ j < b + 8)) (fun j hj => ⟨hj.1, fun e => hj.2 ⟨by omega, by omega⟩⟩)
    refine ⟨F', putρ ρ b bi, by simpa [AR.u, updsH_append, updsH] using h5, ?_⟩
    · simp only [AR.v]
      cases k4 with
      | own A _ _ _ cp bi' hr hl hA' =>
        simp [putρ] at hr
        subst hr
        exact .own A b 0 rows.length cp bi (by simp [putρ]) hl hA'

end

/-- How an operation's answer goes on, if it calls nothing. -/
def Res.run0 : Res → (AV → Ups → Accs → Prop) → Prop
  | .bad, _ => False
  | .ok0 v u a, K => K v u a
  | .ok c v u a, K => c ∧ K v u a
  | .ex p k, K => ∃ x, p x ∧ (k x).run0 K
  | .br b x y, K => match b with
    | true => x.run0 K
    | false => y.run0 K
  | .call _ _ _ _ _, _ => False

def Res.run (P : Program) (base : Nat) (r : Res) (K : AV → Ups → Accs → Prop) : Prop :=
  match r with
  | .call f args [] u a => ∃ r, AC P f args r ∧ K (r.v base) (u ++ r.u base) a
  | .call f args ps u a => allP ps ∧ ∃ r, AC P f args r ∧ K (r.v base) (u ++ r.u base) a
  | r => r.run0 K

/-- An operation's step: what it makes, what it does to the live blocks, what it looks at. -/
def AStep (P : Program) (TT : Nat → Option TI) (o : Oper) (t : Nat → AV) (h : Nat → Option LB) (b : Nat) (v : AV) (u : Ups) (acc : Accs) : Prop :=
  (aop TT o (aval t) h b).gives v u acc ∨ ∃ f args ps u0 r, aop TT o (aval t) h b = .call f args ps u0 acc ∧ allP ps ∧ AC P f args r ∧ v = r.v b ∧ u = u0 ++ r.u b

theorem Res.run0_inv {K : AV → Ups → Accs → Prop} (r : Res) (h : r.run0 K) : ∃ v u acc, r.gives v u acc ∧ K v u acc := by
  induction r with
  | bad => exact h.elim
  | ok0 v u a => exact ⟨v, u, a, ⟨rfl, rfl, rfl⟩, h⟩
  | ok c v u a => exact ⟨v, u, a, ⟨h.1, rfl, rfl, rfl⟩, h.2⟩
  | ex p k ih =>
    obtain ⟨x, hx, h⟩ := h
    obtain ⟨v, u, acc, hg, hk⟩ := ih x h
    exact ⟨v, u, acc, ⟨x, hx, hg⟩, hk⟩
  | br b x y ihx ihy =>
    cases b with
    | true =>
      obtain ⟨v, u, acc, hg, hk⟩ := ihx h
      exact ⟨v, u, acc, .inl ⟨rfl, hg⟩, hk⟩
    | false =>
      obtain ⟨v, u, acc, hg, hk⟩ := ihy h
      exact ⟨v, u, acc, .inr ⟨rfl, hg⟩, hk⟩
  | call f args ps u a => exact h.elim

theorem run_step {P : Program} {TT : Nat → Option TI} {o : Oper} {t : Nat → AV} {h : Nat → Option LB} {b : Nat} {K : AV → Ups → Accs → Prop} (hr : (aop TT o (aval t) h b).run P b K) :
    ∃ v u acc, AStep P TT o t h b v u acc ∧ K v u acc := by
  unfold Res.run at hr
  split at hr
  · rename_i f args u a he
    obtain ⟨r, hA, hk⟩ := hr
    exact ⟨_, _, a, .inr ⟨f, args, [], u, r, he, trivial, hA, rfl, rfl⟩, hk⟩
  · rename_i f args ps u a _ he
    obtain ⟨hp, r, hA, hk⟩ := hr
    exact ⟨_, _, a, .inr ⟨f, args, ps, u, r, he, hp, hA, rfl, rfl⟩, hk⟩
  · obtain ⟨v, u, acc, hg, hk⟩ := Res.run0_inv _ hr
    exact ⟨v, u, acc, .inl hg, hk⟩

theorem aop_call {TT : Nat → Option TI} {o : Oper} {ev : Operand → AV} {h : Nat → Option LB} {b : Nat} {f : Nat} {args : List AV} {ps : List Prop} {u : Ups} {acc : Accs} (hg : aop TT o ev h b = .call f args ps u acc) :
    ∃ c, o.op = .call c ∧ rcall TT ev h b c = .call f args ps u acc := by
  unfold aop at hg
  split at hg
  all_goals first
    | (rename_i c ho; exact ⟨c, ho, hg⟩)
    | (exfalso
       refine not_nc ?_ hg
       (try simp only [cond_eq_ite])
       repeat' (first | trivial | exact rbin_nc _ _ _ _ | exact runop_nc _ _ | exact rload_nc _ _ _ | exact rstore_nc _ _ _ _ | exact rslice_nc _ _ _ _ _ _ _ | exact rindexAddr_nc _ _ _ _ | exact rconv_nc _ _ _ _ _ _ | split))

def dstOk (d : Option Nat) (m : Nat) : Bool :=
  match d with
  | some d => Nat.blt d m
  | none => true

def putT (t : Nat → AV) (d : Option Nat) (v : AV) : Nat → AV :=
  match d with
  | some d => upd t d v
  | none => t

section
variable {P : Program} {TT : Nat → Option TI} {w0 w : World} {F0 F : Nat → Prop} {ρ : Nat → Option BI} {fr : Nat → Prop} {s : St} {a : Act} {b : Nat}

theorem Rel.putd (h : Rel w0 F0 F ρ fr s a w) {v' : Value} {v : AV} (hv : VR w F ρ v' v) (d : Option Nat) (hd : dstOk d s.m = true) :
    Rel w0 F0 F ρ fr { s with t := putT s.t d v } (a.put d v') w := by
  cases d with
  | none => exact h
  | some d => exact h.put hv d (by simpa [dstOk, Nat.blt_eq] using hd)

theorem Post.wp {o : Oper} {s' : St} {v : AV} (hp : Post P o a w w0 F0 fr b s' v) {K : Act → World → Prop} {Q : Exit → Act → World → Prop}
    (hK : ∀ v' w', (∃ F' ρ', Rel w0 F0 F' ρ' (fun j => fr j ∧ ¬ (b ≤ j ∧ j < b + 8)) s' a w' ∧ VR w' F' ρ' v' v) → K (a.put o.dst v') w') : o.wp P a w K Q := by
  obtain ⟨nx, w', v', hr, hn, hrel⟩ := hp
  unfold Oper.wp
  rw [hr]
  rcases hn with rfl | ⟨rfl, rfl⟩
  · exact hK v' w' hrel
  · exact hK _ w' hrel

/-- A step of the abstract state is one of the machine's. -/
theorem step_sound (hT : TTok P TT) (hR : Rel w0 F0 F ρ fr s a w) (hfr : ∀ k, k < 8 → fr (b + k)) {o : Oper} {v : AV} {u : Ups} {acc : Accs} (hs : AStep P TT o s.t s.h b v u acc) (hd : dstOk o.dst s.m = true)
    {K : Act → World → Prop} {Q : Exit → Act → World → Prop}
    (hK : ∀ a' w', (∃ F' ρ', Rel w0 F0 F' ρ' (fun j => fr j ∧ ¬ (b ≤ j ∧ j < b + 8)) { s with t := putT s.t o.dst v, h := updsH s.h u } a' w') → K a' w') : o.wp P a w K Q := by
  rcases hs with hg | ⟨f, args, ps, u0, r, hg, hp, hA, rfl, rfl⟩
  · exact (aop_sound hT hR hfr hg).wp fun v' w' ⟨F', ρ', h1, h2⟩ => hK _ _ ⟨F', ρ', h1.putd h2 o.dst hd⟩
  · obtain ⟨c, ho, hc⟩ := aop_call hg
    exact call_sound hR hfr ho hc hp hA fun v' w' ⟨F', ρ', h1, h2⟩ => hK _ _ ⟨F', ρ', h1.putd h2 o.dst hd⟩

end

theorem upd_self {t : Nat → AV} {d : Nat} {v : AV} (h : t d = v) : upd t d v = t := by
  funext j
  by_cases e : j = d
  · subst e; rw [upd_same, h]
  · rw [upd_ne _ _ e]

def gdst (all : List Oper) (g : Nat) : Option Nat :=
  match all[g]? with
  | some o => o.dst
  | none => none

def aopK (P : Program) (TT : Nat → Option TI) (o : Oper) (b : Nat) (K : St → Prop) (s : St) : Prop :=
  match dstOk o.dst s.m with
  | true => (aop TT o (aval s.t) s.h b).run P b fun v u _ => K { s with t := putT s.t o.dst v, h := updsH s.h u }
  | false => False

/-- The operations of a region, in the text's order. -/
def aops (P : Program) (TT : Nat → Option TI) (all : List Oper) : List Oper → Nat → (St → Prop) → St → Prop
  | [], _, K, s => K s
  | o :: rest, i, K, s => match o.guard with
    | none => aopK P TT o (s.n + 8 * i) (aops P TT all rest (i + 1) K) s
    | some (g, want) => match gdst all g, dstOk o.dst s.m with
      | some d, true => match s.t d with
        | .val (.bool x) => match want with
          | true => match x with
            | true => aopK P TT o (s.n + 8 * i) (aops P TT all rest (i + 1) K) { s with t := upd s.t d (.val (.bool true)) }
            | false => aops P TT all rest (i + 1) K { s with t := putT (upd s.t d (.val (.bool false))) o.dst (.val undef) }
          | false => match x with
            | true => aops P TT all rest (i + 1) K { s with t := putT (upd s.t d (.val (.bool true))) o.dst (.val undef) }
            | false => aopK P TT o (s.n + 8 * i) (aops P TT all rest (i + 1) K) { s with t := upd s.t d (.val (.bool false)) }
        | .val (.tuple _) => aops P TT all rest (i + 1) K { s with t := putT s.t o.dst (.val undef) }
        | _ => False
      | _, _ => False

def RelE (w0 : World) (F0 : Nat → Prop) (s : St) (a : Act) (w : World) : Prop := ∃ F ρ, Rel w0 F0 F ρ (fun id => s.n ≤ id) s a w

/-- What a value yields as a guard. -/
def yv : Value → Option Bool
  | .bool b => some b
  | _ => none

theorem yielded_of {w0 w : World} {F0 F : Nat → Prop} {ρ : Nat → Option BI} {fr : Nat → Prop} {s : St} {a : Act} (hR : Rel w0 F0 F ρ fr s a w) {ops : Array Oper} {g d : Nat} {x : Value} (hdst : (ops[g]?).bind (·.dst) = some d) (hx : s.t d = .val x) :
    yielded ops a.tmps g = yv x := by
  have hv := hR.vals d
  rw [hx] at hv
  have hv' := hv.val_inv
  rw [Array.getD_eq_getD_getElem?] at hv'
  unfold yielded
  rw [hdst, Option.bind_some]
  cases h : a.tmps[d]? with
  | none =>
    rw [h] at hv'
    have e : x = undef := hv'.symm
    rw [e]
    rfl
  | some v =>
    rw [h] at hv'
    have e : v = x := hv'
    subst e
    cases v <;> rfl

theorem gdst_bind {ops : Array Oper} {g d : Nat} (hd : gdst ops.toList g = some d) : (ops[g]?).bind (·.dst) = some d := by
  unfold gdst at hd
  rw [Array.getElem?_toList] at hd
  cases ho : ops[g]? with
  | none => rw [ho] at hd; cases hd
  | some o => rw [ho] at hd; exact hd

theorem aops_sound {P : Program} {TT : Nat → Option TI} (hT : TTok P TT) {w0 : World} {F0 : Nat → Prop} {ops : Array Oper} {K : St → Prop} {Q : Exit → Act → World → Prop} (n m : Nat)
    (hQ : ∀ s' a' w', K s' → s'.n = n → s'.m = m → (∃ F ρ, Rel w0 F0 F ρ (fun id => n + 8 * ops.toList.length ≤ id) s' a' w') → Q .normal a' w') :
    ∀ (rest : List Oper) (i : Nat) (s : St) (a : Act) (w : World) (F : Nat → Prop) (ρ : Nat → Option BI), ops.toList.drop i = rest → i + rest.length = ops.toList.length → s.n = n → s.m = m → aops P TT ops.toList rest i K s →
      Rel w0 F0 F ρ (fun id => n + 8 * i ≤ id) s a w → wpOps P ops Q (List.range' i rest.length) a w
  | [], i, s, a, w, F, ρ, hd, hl, hn, hm, h, hR => by
    simp only [List.length_nil, Nat.add_zero] at hl
    exact hQ s a w h hn hm ⟨F, ρ, by rw [← hl]; exact hR⟩
  | o :: rest, i, s, a, w, F, ρ, hd, hl, hn, hm, h, hR => by
    have ho : ops[i]? = some o := by
      have : (ops.toList.drop i)[0]? = some o := by rw [hd]; rfl
      rw [List.getElem?_drop] at this
      simpa using this
    have hd' : ops.toList.drop (i + 1) = rest := by rw [← List.drop_drop, hd]; rfl
    simp only [List.length_cons] at hl
    have ih := aops_sound hT n m hQ rest (i + 1)
    have perf : aopK P TT o (s.n + 8 * i) (aops P TT ops.toList rest (i + 1) K) s → o.wp P a w (wpOps P ops Q (List.range' (i + 1) rest.length)) Q := by
      intro hk
      unfold aopK at hk
      split at hk
      · rename_i hdst
        obtain ⟨v, u, acc, hs, hk⟩ := run_step hk
        refine step_sound hT hR (fun k hk => by rw [hn]; omega) hs hdst (fun a' w' ⟨F', ρ', hR'⟩ => ?_)
        exact ih { s with t := putT s.t o.dst v, h := updsH s.h u } a' w' F' ρ' hd' (by omega) hn hm hk (hR'.mono_fr (fun id hid => ⟨by omega, by rw [hn]; omega⟩))
      · exact hk.elim
    rw [List.length_cons, List.range'_succ]
    simp only [wpOps, ho]
    unfold aops at h
    split at h
    · rename_i hg
      have hw : Region.wanted o (yielded ops a.tmps) = true := by simp [Region.wanted, hg]
      rw [if_pos hw]
      exact .inl (perf h)
    · rename_i g want hg
      split at h
      · rename_i d hgd hdst
        split at h
        · rename_i x hx
          have hy : yielded ops a.tmps g = some x := yielded_of hR (gdst_bind hgd) hx
          by_cases hxw : x = want
          · have hw : Region.wanted o (yielded ops a.tmps) = true := by simp [Region.wanted, hg, hy, hxw]
            rw [if_pos hw]
            refine .inl (perf ?_)
            subst hxw
            cases x <;> (simp only [upd_self hx] at h; exact h)
          · have hw : ¬ Region.wanted o (yielded ops a.tmps) = true := by simp [Region.wanted, hg, hy, hxw]
            rw [if_neg hw]
            have hk : aops P TT ops.toList rest (i + 1) K { s with t := putT s.t o.dst (.val undef) } := by
              cases x <;> cases want <;> first | exact absurd rfl hxw | (simp only [upd_self hx] at h; exact h)
            exact ih { s with t := putT s.t o.dst (.val undef) } _ w F ρ hd' (by omega) hn hm hk ((hR.putd (.val undef) o.dst hdst).mono_fr (fun id hid => by omega))
        · rename_i vs hx
          have hy : yielded ops a.tmps g = none := yielded_of hR (gdst_bind hgd) hx
          have hw : ¬ Region.wanted o (yielded ops a.tmps) = true := by simp [Region.wanted, hg, hy]
          rw [if_neg hw]
          exact ih { s with t := putT s.t o.dst (.val undef) } _ w F ρ hd' (by omega) hn hm h ((hR.putd (.val undef) o.dst hdst).mono_fr (fun id hid => by omega))
        · exact h.elim
      · exact h.elim

theorem Rel.setN {w0 w : World} {F0 F : Nat → Prop} {ρ : Nat → Option BI} {fr : Nat → Prop} {s : St} {a : Act} (h : Rel w0 F0 F ρ fr s a w) (n : Nat) : Rel w0 F0 F ρ fr { s with n := n } a w := { h with }

/-- The semantic statement about a piece of code. -/
@[irreducible] def SW (P : Program) (c : Code) (Q : Exit → St → Prop) (s : St) : Prop :=
  ∀ w0 F0 a w, RelE w0 F0 s a w → c.wp P (fun e a w => ∃ s', Q e s' ∧ s'.m = s.m ∧ RelE w0 F0 s' a w) a w

section
variable {P : Program} {TT : Nat → Option TI} {Q Q' : Exit → St → Prop} {s : St}

theorem SW.mono {c : Code} (h : SW P c Q s) (hq : ∀ e s', Q e s' → Q' e s') : SW P c Q' s := by
  unfold SW at *
  intro w0 F0 a w hR
  exact wp_mono (h w0 F0 a w hR) (fun e a w ⟨s', h1, h2, h3⟩ => ⟨s', hq _ _ h1, h2, h3⟩)

theorem SW.keep {c : Code} (h : SW P c Q s) : SW P c (fun e s' => Q e s' ∧ s'.m = s.m) s := by
  unfold SW at *
  intro w0 F0 a w hR
  exact wp_mono (h w0 F0 a w hR) (fun e a w ⟨s', h1, h2, h3⟩ => ⟨s', ⟨h1, h2⟩, h2, h3⟩)

def seqQ (P : Program) (y : Code) (Q : Exit → St → Prop) : Exit → St → Prop
  | .normal, s => SW P y Q s
  | e, s => Q e s

theorem SW.seq {x y : Code} (h : SW P x (seqQ P y Q) s) : SW P (.seq x y) Q s := by
  unfold SW
  intro w0 F0 a w hR
  unfold SW at h
  refine wp_seq (wp_mono (h w0 F0 a w hR) ?_)
  rintro e a' w' ⟨s', h1, h2, h3⟩
  cases e with
  | normal =>
    simp only [seqQ] at h1
    unfold SW at h1
    refine wp_mono (h1 w0 F0 a' w' h3) ?_
    rintro e a'' w'' ⟨s'', k1, k2, k3⟩
    exact ⟨s'', k1, by omega, k3⟩
  | _ => exact ⟨s', h1, h2, h3⟩

theorem SW.skip (h : Q .normal s) : SW P .skip Q s := by
  unfold SW
  exact fun w0 F0 a w hR => wp_skip ⟨s, h, rfl, hR⟩
theorem SW.label {l : Nat} (h : Q .normal s) : SW P (.label l) Q s := by
  unfold SW
  exact fun w0 F0 a w hR => wp_label ⟨s, h, rfl, hR⟩
theorem SW.exit {id : Nat} (h : Q (.exit id) s) : SW P (.exit id) Q s := by
  unfold SW
  exact fun w0 F0 a w hR => wp_exit ⟨s, h, rfl, hR⟩
theorem SW.ret (h : Q .ret s) : SW P .ret Q s := by
  unfold SW
  exact fun w0 F0 a w hR => wp_ret ⟨s, h, rfl, hR⟩

theorem SW.cond {c : Operand} {x y : Code} {t : Bool} (hc : aval s.t c = .val (.bool t)) (ht : t = true → SW P x Q s) (hf : t = false → SW P y Q s) : SW P (.cond c x y) Q s := by
  unfold SW
  intro w0 F0 a w hR
  obtain ⟨F, ρ, hR'⟩ := hR
  have he : a.eval c = .bool t := by have := hR'.aval c; rw [hc] at this; exact this.val_inv
  refine wp_cond_split he (fun h => ?_) (fun h => ?_)
  · have := ht h; unfold SW at this; exact this w0 F0 a w ⟨F, ρ, hR'⟩
  · have := hf h; unfold SW at this; exact this w0 F0 a w ⟨F, ρ, hR'⟩

def blockQ (id : Nat) (Q : Exit → St → Prop) : Exit → St → Prop
  | .exit id', s => bif Nat.beq id' id then Q .normal s else Q (.exit id') s
  | e, s => Q e s

theorem SW.block {id : Nat} {c : Code} (h : SW P c (blockQ id Q) s) : SW P (.block id c) Q s := by
  unfold SW
  intro w0 F0 a w hR
  unfold SW at h
  refine wp_block (wp_mono (h w0 F0 a w hR) ?_)
  rintro e a' w' ⟨s', h1, h2, h3⟩
  cases e with
  | exit id' =>
    simp only [blockQ] at h1
    simp only [Exit.inBlock]
    by_cases e : id' = id
    · rw [if_pos e]
      simp [e] at h1
      exact ⟨s', h1, h2, h3⟩
    · rw [if_neg e]
      simp [e] at h1
      exact ⟨s', h1, h2, h3⟩
  | _ => exact ⟨s', h1, h2, h3⟩

/-- What is known may be forgotten, and live blocks may get other numbers. -/
def Wk (s s' : St) : Prop := ∀ w0 F0 a w, RelE w0 F0 s a w → RelE w0 F0 s' a w

theorem SW.weak {c : Code} {s' : St} (hw : Wk s s') (hm : s'.m = s.m) (h : SW P c Q s') : SW P c Q s := by
  unfold SW at *
  intro w0 F0 a w hR
  refine wp_mono (h w0 F0 a w (hw _ _ _ _ hR)) ?_
  rintro e a' w' ⟨s'', h1, h2, h3⟩
  exact ⟨s'', h1, by omega, h3⟩

def loopQ (Q : Exit → St → Prop) (next : St → Prop) : Exit → St → Prop
  | .normal, s => next s
  | e, s => Q e s

theorem exists_min {p : Nat → Prop} : ∀ k, p k → ∃ m, p m ∧ ∀ j, p j → m ≤ j := by
  intro k
  induction k using Nat.strongRecOn with
  | _ k ih =>
    intro hk
    by_cases h : ∃ j, j < k ∧ p j
    · obtain ⟨j, hj, hp⟩ := h
      exact ih j hj hp
    · exact ⟨k, hk, fun j hj => Nat.le_of_not_lt fun hlt => h ⟨j, hlt, hj⟩⟩

/-- A loop: 'I k s': k bounds the rounds that are left. -/
theorem SW.loop {c : Code} (I : Nat → St → Prop) (k0 : Nat) (s0 : St) (hw : Wk s s0) (hm : s0.m = s.m) (h0 : I k0 s0)
    (round : ∀ k s1, s1.m = s.m → I k s1 → SW P c (loopQ Q fun s2 => ∃ k' s3, k' < k ∧ Wk s2 s3 ∧ s3.m = s2.m ∧ I k' s3) s1) : SW P (.loop c) Q s := by
  unfold SW
  intro w0 F0 a w hR
  let J : Act → World → Nat → Prop := fun a w k => ∃ s1, s1.m = s.m ∧ I k s1 ∧ RelE w0 F0 s1 a w
  -- the measure is the least k that fits
  have key : ∀ k a w, J a w k → (Code.loop c).wp P (fun e a w => ∃ s', Q e s' ∧ s'.m = s.m ∧ RelE w0 F0 s' a w) a w := by
    intro k a w hJ
    classical
    let μ : Act → World → Nat := fun a w => if h : ∃ m, J a w m ∧ ∀ j, J a w j → m ≤ j then Classical.choose h else 0
    have hμ : ∀ a w, (∃ k, J a w k) → J a w (μ a w) ∧ ∀ j, J a w j → μ a w ≤ j := by
      intro a w ⟨k, hk⟩
      have h := exists_min k hk
      simp only [μ]
      rw [dif_pos h]
      exact Classical.choose_spec h
    refine wp_loop (fun a w => ∃ k, J a w k) μ ⟨k, hJ⟩ (fun a w hI => ?_)
    obtain ⟨s1, m1, i1, r1⟩ := (hμ a w hI).1
    have hb := round _ s1 m1 i1
    unfold SW at hb
    refine wp_mono (hb w0 F0 a w r1) ?_
    rintro e a' w' ⟨s2, q1, q2, q3⟩
    cases e with
    | normal =>
      obtain ⟨k', s3, g1, g2, g3, g4⟩ := q1
      have hJ' : J a' w' k' := ⟨s3, by omega, g4, g2 _ _ _ _ q3⟩
      exact ⟨⟨k', hJ'⟩, Nat.lt_of_le_of_lt ((hμ a' w' ⟨k', hJ'⟩).2 k' hJ') g1⟩
    | _ => exact ⟨s2, q1, by omega, q3⟩
  exact key k0 a w ⟨s0, hm, h0, hw _ _ _ _ hR⟩

/-- Ways that meet again. -/
theorem SW.cut {x y : Code} (I : St → Prop) (h : SW P x (loopQ Q fun s2 => ∃ s3, Wk s2 s3 ∧ s3.m = s2.m ∧ I s3) s) (hy : ∀ s3, s3.m = s.m → I s3 → SW P y Q s3) : SW P (.seq x y) Q s := by
  unfold SW
  intro w0 F0 a w hR
  unfold SW at h
  refine wp_seq (wp_mono (h w0 F0 a w hR) ?_)
  rintro e a' w' ⟨s', h1, h2, h3⟩
  cases e with
  | normal =>
    obtain ⟨s3, k1, k2, k3⟩ := h1
    have hb := hy s3 (by omega) k3
    unfold SW at hb
    refine wp_mono (hb w0 F0 a' w' (k1 _ _ _ _ h3)) ?_
    rintro e a'' w'' ⟨s'', k1, k2, k3⟩
    exact ⟨s'', k1, by omega, k3⟩
  | _ => exact ⟨s', h1, h2, h3⟩

theorem SW.region (hT : TTok P TT) {id : Nat} {ops : Array Oper} (h : aops P TT ops.toList ops.toList 0 (fun s' => Q .normal { s' with n := s'.n + 8 * ops.toList.length }) s) : SW P (.region id ops false) Q s := by
  unfold SW
  intro w0 F0 a w hR
  obtain ⟨F, ρ, hR'⟩ := hR
  refine wp_region ?_
  have := aops_sound (Q := fun e a w => ∃ s', Q e s' ∧ s'.m = s.m ∧ RelE w0 F0 s' a w) hT (ops := ops) (K := fun s' => Q .normal { s' with n := s'.n + 8 * ops.toList.length }) s.n s.m (fun s' a' w' hk hn hm hx => ⟨{ s' with n := s'.n + 8 * ops.toList.length }, hk, hm, by
    obtain ⟨F, ρ, hR⟩ := hx
    rw [← hn] at hR
    exact ⟨F, ρ, hR.setN _⟩⟩) ops.toList 0 s a w F ρ rfl (by simp) rfl rfl h (by simpa using hR')
  simpa [List.range_eq_range'] using this

end

end Go.AL
