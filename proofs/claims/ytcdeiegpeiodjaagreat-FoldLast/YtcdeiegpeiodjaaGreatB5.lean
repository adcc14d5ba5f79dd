/- An abstract program logic over tree values (part 37): calls of closures, gone through in place; calls that only look at what they are lent. -/
import Derived.Test.YtcdeiegpeiodjaaGreatB4
set_option linter.unusedVariables false
set_option linter.unusedSimpArgs false
namespace Go.AL
open Go Go.RowKit
def Stp (P : Program) (o : Oper) (K' : St → Prop) (s1 : St) (n0 : Nat) : Prop :=
 ∀ (gh : Array Value) (w0 : World) (F0 F1 : Nat → Prop) (ρ1 : Nat → Option BI) (a1 : Act) (w1 : World) (K : Act → World → Prop) (Q : Exit → Act → World → Prop), Rel gh w0 F0 F1 ρ1 (fun id => n0 ≤ id) s1 a1 w1 →
  (∀ s3 a' w', K' s3 → s3.m = s1.m → (∃ F ρ, Rel gh w0 F0 F ρ (fun id => s3.n ≤ id) s3 a' w') → K a' w') → o.wp P a1 w1 K Q
theorem Stp.inn {P : Program} {TT : Nat → Option TI} (hT : TTok P TT) {s1 : St} {n0 : Nat} {o : Oper} {c : Call} {f : Nat} {fn : Func} {body : Code} {K' : St → Prop}
  (ho : o.op = .call c) (hc : c.callee = .value (.func f)) (hf : P.funcs[f]? = some fn) (hb : fn.body = some body)
  (henter : ∀ (vals : Array Value) (w : World), (callFunc f vals).run P w = .ok (.enter f vals) w) (hm : fn.ntmps ≤ 1000000) (ha : c.args.toList.length ≤ fn.ntmps) (hdst : dstOk o.dst s1.m = true)
  (hsw : SW P body (fun e s2 => (e = .ret ∨ e = .normal) ∧ ∃ vs, ares TT s2.t s2.h fn.results.toList = some vs ∧ K' ⟨putT (outT s2.t) o.dst (oneV vs), s2.h, s2.n, s1.m⟩) ⟨inT (c.args.toList.map (aval s1.t)) s1.t, s1.h, n0, fn.ntmps⟩) : Stp P o K' s1 n0 :=
 fun gh w0 F0 F1 ρ1 a1 w1 K Q h1 hK => wp_in hT h1 ho hc hf hb henter hm ha hdst hsw hK
theorem Stp.clo {P : Program} {TT : Nat → Option TI} (hT : TTok P TT) {s1 : St} {n0 : Nat} {o : Oper} {c : Call} {g : Operand} {f : Nat} {cs : List AV} {fn : Func} {body : Code} {K' : St → Prop}
  (ho : o.op = .call c) (hc : c.callee = .value g) (hg : aval s1.t g = .clo f cs) (hf : P.funcs[f]? = some fn) (hb : fn.body = some body)
  (henter : ∀ (vals : Array Value) (w : World), (callFunc f vals).run P w = .ok (.enter f vals) w) (hm : fn.ntmps ≤ 1000000) (ha : c.args.toList.length + cs.length ≤ fn.ntmps) (hdst : dstOk o.dst s1.m = true)
  (hsw : SW P body (fun e s2 => (e = .ret ∨ e = .normal) ∧ ∃ vs, ares TT s2.t s2.h fn.results.toList = some vs ∧ K' ⟨putT (outT s2.t) o.dst (oneV vs), s2.h, s2.n, s1.m⟩) ⟨inT (c.args.toList.map (aval s1.t) ++ cs) s1.t, s1.h, n0, fn.ntmps⟩) : Stp P o K' s1 n0 := by
 intro gh w0 F0 F1 ρ1 a1 w1 K Q h1 hK
 have hv := h1.aval g
 rw [hg] at hv
 generalize hve : a1.eval g = ve at hv
 cases hv with
 | clo _ vs _ hl hcs =>
 have hexec : (execOp a1.eval o).run P w1 = .ok (.enter f (c.args.map a1.eval ++ vs)) w1 := by
  simp [execOp, ho, resolve, hc, hve, Deferred.ofValue, invoke, henter]
 unfold Oper.wp
 rw [hexec]
 simp only [Oper.upon]
 refine calls_of_wp hf hb ?_
 unfold SW at hsw
 have hlen : (c.args.map a1.eval ++ vs).size ≤ fn.ntmps := by
  have : c.args.size + cs.length ≤ fn.ntmps := ha
  simp
  omega
 have h2 : Rel (ghosts a1 gh) w0 F0 F1 ρ1 (fun id => n0 ≤ id) ⟨inT (c.args.toList.map (aval s1.t) ++ cs) s1.t, s1.h, n0, fn.ntmps⟩
   { tmps := (c.args.map a1.eval ++ vs) ++ Array.replicate (fn.ntmps - (c.args.map a1.eval ++ vs).size) undef, defers := [] } w1 := by
  refine ⟨rfl, ?_, hm, h1.below, h1.Fb, h1.F0F, h1.Fnew, fun t => ?_, h1.blks, h1.inj, h1.fresh⟩
  ·rw [Array.size_append, Array.size_replicate]
   show _ = fn.ntmps
   omega
  ·show VR w1 F1 ρ1 _ (bif Nat.blt t 1000000 then getA (c.args.toList.map (aval s1.t) ++ cs) t else s1.t (t - 1000000))
   cases hb : Nat.blt t 1000000 with
   | true =>
    have ht : t < 1000000 := Nat.blt_eq.mp hb
    rw [gval_lt ht]
    show VR w1 F1 ρ1 _ (getA (c.args.toList.map (aval s1.t) ++ cs) t)
    rw [getA_eq]
    have hal : (c.args.toList.map (aval s1.t)).length = c.args.size := by simp
    by_cases hta : t < c.args.size
    ·have e0 : c.args.toList[t]? = some c.args[t] := by rw [Array.getElem?_toList]; exact Array.getElem?_eq_getElem hta
     have e1 : (c.args.toList.map (aval s1.t) ++ cs).getD t .any = aval s1.t c.args[t] := by
      rw [List.getD_eq_getElem?_getD, List.getElem?_append_left (by omega), List.getElem?_map, e0]; rfl
     have e2 : ((c.args.map a1.eval ++ vs) ++ Array.replicate (fn.ntmps - (c.args.map a1.eval ++ vs).size) undef).getD t undef = a1.eval c.args[t] := by
      simp only [Array.getD_eq_getD_getElem?]
      rw [Array.getElem?_append_left (by rw [Array.size_append, Array.size_map]; omega), Array.getElem?_append_left (by rw [Array.size_map]; exact hta)]
      simp [hta]
     rw [e1, e2]
     exact h1.aval _
    ·by_cases htb : t < c.args.size + cs.length
     ·have hi : t - c.args.size < cs.length := by omega
      have e1 : (c.args.toList.map (aval s1.t) ++ cs).getD t .any = cs[t - c.args.size] := by
       rw [List.getD_eq_getElem?_getD, List.getElem?_append_right (by omega), hal, List.getElem?_eq_getElem hi]; rfl
      have e2 : ((c.args.map a1.eval ++ vs) ++ Array.replicate (fn.ntmps - (c.args.map a1.eval ++ vs).size) undef).getD t undef = vs.getD (t - c.args.size) undef := by
       simp only [Array.getD_eq_getD_getElem?]
       rw [Array.getElem?_append_left (by rw [Array.size_append, Array.size_map]; omega), Array.getElem?_append_right (by rw [Array.size_map]; omega), Array.size_map]
      rw [e1, e2]
      exact hcs _ _ (List.getElem?_eq_getElem hi)
     ·have e1 : (c.args.toList.map (aval s1.t) ++ cs).getD t .any = .any := by
       rw [List.getD_eq_getElem?_getD, List.getElem?_eq_none (by rw [List.length_append]; omega)]; rfl
      rw [e1]
      exact .any _
   | false =>
    have ht : ¬ t < 1000000 := fun h => by rw [Nat.blt_eq.mpr h] at hb; cases hb
    have e : ∀ a', gval a' (ghosts a1 gh) t = gval a1 gh (t - 1000000) := fun a' => by
     have hg := ghosts_get a1 gh (t - 1000000)
     rw [← hg]
     exact if_neg ht
    rw [e]
    exact h1.vals _
 refine wp_mono (hsw (ghosts a1 gh) w0 F0 _ w1 ⟨F1, ρ1, h2⟩) ?_
 rintro e a2 w2 ⟨s2, ⟨he, vs2, hvs, hQ⟩, hm2, F2, ρ2, h3⟩
 obtain ⟨vals, g1, g2, g3⟩ := run_results hT h3 fn vs2 hvs
 have h4 : Rel gh w0 F0 F2 ρ2 (fun id => s2.n ≤ id) ⟨outT s2.t, s2.h, s2.n, s1.m⟩ a1 w2 := by
  refine ⟨h1.defers, h1.size, h1.mle, h3.below, h3.Fb, h3.F0F, h3.Fnew, fun t => ?_, h3.blks, h3.inj, h3.fresh⟩
  have hv := h3.vals (1000000 + t)
  rw [gval_ge, ghosts_get] at hv
  exact hv
 have hd := h4.putd (one_ok g2 g3) o.dst hdst
 have fin : a2.defers = [] ∧ ∃ v, (results fn a2.tmps).run P w2 = .ok v w2 ∧ K (a1.put o.dst v) w2 := ⟨h3.defers, _, g1, hK _ _ _ hQ rfl ⟨F2, ρ2, hd⟩⟩
 rcases he with rfl | rfl
 ·exact fin
 ·exact fin
theorem Stp.norm {P : Program} {o : Oper} {K' : St → Prop} {s1 : St} {n0 : Nat} (h : Stp P o (fun s3 => ∃ s4, Wk s3 s4 ∧ s4.m = s3.m ∧ K' s4) s1 n0) : Stp P o K' s1 n0 :=
 fun gh w0 F0 F1 ρ1 a1 w1 K Q h1 hK => h _ _ _ _ _ _ _ _ _ h1 fun s3 a' w' ⟨s4, hw, hm, hk⟩ hm3 hx => hK s4 a' w' hk (hm.trans hm3) (hw _ _ _ _ _ hx)
theorem Stp.cloM {P : Program} {TT : Nat → Option TI} (hT : TTok P TT) {s1 : St} {n0 : Nat} {o : Oper} {c : Call} {g : Operand} {f : Nat} {cs : List AV} {fn : Func} {body : Code} {K' : St → Prop}
  (ho : o.op = .call c) (hc : c.callee = .value g) (hg : aval s1.t g = .clo f cs) (hf : P.funcs[f]? = some fn) (hb : fn.body = some body)
  (henter : ∀ (vals : Array Value) (w : World), (callFunc f vals).run P w = .ok (.enter f vals) w) (hm : fn.ntmps ≤ 1000000) (ha : c.args.toList.length + cs.length ≤ fn.ntmps) (hdst : dstOk o.dst s1.m = true)
  (ts : List (Nat × AV)) (hs : List (Nat × LB)) (n m : Nat) (hmm : fn.ntmps = m) (hin : Wk ⟨inT (c.args.toList.map (aval s1.t) ++ cs) s1.t, s1.h, n0, fn.ntmps⟩ (mkS ts hs n m)) (ts2 : List (Nat × AV)) (hs2 : List (Nat × LB)) (n2 m2 : Nat) (hm2 : s1.m = m2)
  (hrun : SW P body (fun e s2 => (e = .ret ∨ e = .normal) ∧ ∃ vs, ares TT s2.t s2.h fn.results.toList = some vs ∧ Wk ⟨putT (outT s2.t) o.dst (oneV vs), s2.h, s2.n, s1.m⟩ (mkS ts2 hs2 n2 m2)) (mkS ts hs n m)) (hK' : K' (mkS ts2 hs2 n2 m2)) : Stp P o K' s1 n0 :=
 Stp.norm (Stp.clo hT ho hc hg hf hb henter hm ha hdst (SW.weak hin hmm.symm (SW.mono hrun fun e s2 ⟨he, vs, hvs, hW⟩ => ⟨he, vs, hvs, _, hW, hm2.symm, hK'⟩)))
theorem Stp.innM {P : Program} {TT : Nat → Option TI} (hT : TTok P TT) {s1 : St} {n0 : Nat} {o : Oper} {c : Call} {f : Nat} {fn : Func} {body : Code} {K' : St → Prop}
  (ho : o.op = .call c) (hc : c.callee = .value (.func f)) (hf : P.funcs[f]? = some fn) (hb : fn.body = some body)
  (henter : ∀ (vals : Array Value) (w : World), (callFunc f vals).run P w = .ok (.enter f vals) w) (hm : fn.ntmps ≤ 1000000) (ha : c.args.toList.length ≤ fn.ntmps) (hdst : dstOk o.dst s1.m = true)
  (ts : List (Nat × AV)) (hs : List (Nat × LB)) (n m : Nat) (hmm : fn.ntmps = m) (hin : Wk ⟨inT (c.args.toList.map (aval s1.t)) s1.t, s1.h, n0, fn.ntmps⟩ (mkS ts hs n m)) (ts2 : List (Nat × AV)) (hs2 : List (Nat × LB)) (n2 m2 : Nat) (hm2 : s1.m = m2)
  (hrun : SW P body (fun e s2 => (e = .ret ∨ e = .normal) ∧ ∃ vs, ares TT s2.t s2.h fn.results.toList = some vs ∧ Wk ⟨putT (outT s2.t) o.dst (oneV vs), s2.h, s2.n, s1.m⟩ (mkS ts2 hs2 n2 m2)) (mkS ts hs n m)) (hK' : K' (mkS ts2 hs2 n2 m2)) : Stp P o K' s1 n0 :=
 Stp.norm (Stp.inn hT ho hc hf hb henter hm ha hdst (SW.weak hin hmm.symm (SW.mono hrun fun e s2 ⟨he, vs, hvs, hW⟩ => ⟨he, vs, hvs, _, hW, hm2.symm, hK'⟩)))
def flat1 : AV → Bool
 | .val _ => true
 | _ => false
def flat : AV → Bool
 | .tup cs => cs.all flat1
 | x => flat1 x
theorem flat1_vr {w w' : World} {F F' : Nat → Prop} {ρ ρ' : Nat → Option BI} {v : Value} {x : AV} (h : flat1 x = true) (hv : VR w F ρ v x) : VR w' F' ρ' v x := by
 cases x with
 | val u => cases hv; exact .val _
 | _ => cases h
theorem flat_vr {w w' : World} {F F' : Nat → Prop} {ρ ρ' : Nat → Option BI} {v : Value} {x : AV} (h : flat x = true) (hv : VR w F ρ v x) : VR w' F' ρ' v x := by
 cases x with
 | tup cs =>
  cases hv with
  | tup vs _ h1 h2 => exact .tup vs cs h1 fun i x hx => flat1_vr (List.all_eq_true.1 h x (List.mem_of_getElem? hx)) (h2 i x hx)
 | val u => cases hv; exact .val _
 | _ => cases h
theorem Stp.bor {P : Program} {s1 : St} {n0 : Nat} {o : Oper} {c : Call} {f : Nat} {K' : St → Prop} (ho : o.op = .call c) (hc : c.callee = .value (.func f)) {args : List AV} {ps : List Prop} {u : Ups} {acc : Accs}
  (hfz : frzA s1.h (c.args.toList.map (aval s1.t)) = some (args, ps, u, acc)) (hp : allP ps) {r : AV} (hA : AC P f args (.pure r)) (hr : flat r = true) (hdst : dstOk o.dst s1.m = true)
  (hK' : K' ⟨putT s1.t o.dst r, s1.h, n0, s1.m⟩) : Stp P o K' s1 n0 := by
 intro gh w0 F0 F1 ρ1 a1 w1 K Q hR hK
 obtain ⟨F2, g1, g2, g3, g4⟩ := frzA_ok (c.args.toList.map (aval s1.t)) args (c.args.toList.map a1.eval) s1 F1 ps u acc hR (by simp) (fun i x hx => by
  rw [List.getElem?_map] at hx
  cases hi : c.args.toList[i]? with
  | none => simp [hi] at hx
  | some y =>
   simp [hi] at hx
   subst hx
   have : (c.args.toList.map a1.eval).getD i undef = a1.eval y := by simp only [List.getD, List.getElem?_map, hi, Option.map_some, Option.getD_some]
   rw [this]
   exact hR.aval y) hfz hp hA.noid
 have hvals : (c.args.map a1.eval).size = args.length := by rw [g3]; simp
 have hcall := hA.calls w1 F2 (c.args.map a1.eval) g2.Fb hvals (fun i x hx => by
  have h1 := g4 i x hx
  have e : (c.args.toList.map a1.eval).getD i undef = (c.args.map a1.eval).getD i undef := by
   simp only [List.getD, Array.getD_eq_getD_getElem?, List.getElem?_map, Array.getElem?_map, Array.getElem?_toList]
  rw [e] at h1
  exact h1.noid (hA.noid x (List.mem_of_getElem? hx)))
 have hexec : (execOp a1.eval o).run P w1 = .ok (.enter f (c.args.map a1.eval)) w1 := by
  simp [execOp, ho, resolve, hc, Deferred.ofValue, Act.eval, invoke, hA.enter]
 unfold Oper.wp
 rw [hexec]
 simp only [Oper.upon]
 refine hcall.mono ?_
 rintro e w' ⟨v, rfl, hb, hret⟩
 obtain ⟨hno, F', k1, k2, k3, k4⟩ := hret
 have hw := hR.world hb.size (fun k hk => hb.block k hk) hb.os hb.tape hb.output
 exact hK _ _ _ hK' rfl ⟨F1, ρ1, ((hw.setN n0).putd (flat_vr hr k4) o.dst hdst)⟩
theorem SW.regionAt {P : Program} {TT : Nat → Option TI} (hT : TTok P TT) {Q : Exit → St → Prop} {s : St} {id : Nat} {ops : Array Oper} (k : Nat) (o : Oper)
  (hops : ops.toList = ops.toList.take k ++ o :: ops.toList.drop (k + 1)) (hk : (ops.toList.take k).length = k) (hg : o.guard = none)
  (h : aopsF P TT ops.toList (ops.toList.take k) 0 (fun s1 => Stp P o (fun s3 => aopsF P TT ops.toList (ops.toList.drop (k + 1)) (k + 1) (fun s4 => Q .normal ⟨s4.t, s4.h, s4.n + 8 * ops.toList.length, s4.m⟩) s3) s1 (s1.n + 8 * ops.toList.length)) s) : SW P (.region id ops false) Q s := by
 simp only [aopsF_eq] at h
 obtain ⟨l1, hl1⟩ : ∃ l, l = ops.toList.take k := ⟨_, rfl⟩
 obtain ⟨l2, hl2⟩ : ∃ l, l = ops.toList.drop (k + 1) := ⟨_, rfl⟩
 rw [← hl1, ← hl2] at hops h
 rw [← hl1] at hk
 unfold SW
 intro gh w0 F0 a w hR
 obtain ⟨F, ρ, hR'⟩ := hR
 refine wp_region ?_
 have := aops_pre (Q := fun e a w => ∃ s', Q e s' ∧ s'.m = s.m ∧ RelE gh w0 F0 s' a w) hT (ops := ops) s.n s.m (o :: l2) (fun i s1 a1 w1 hi hk1 hn hm1 hx => ?_) l1 0 s a w F ρ (by simpa using hops) (by rw [hops]; simp) rfl rfl h (by simpa using hR')
 ·rw [show l1.length + (o :: l2).length = ops.size by rw [← Array.length_toList, hops]; simp] at this
  simpa [List.range_eq_range'] using this
 obtain ⟨F1, ρ1, h1⟩ := hx
 have hl : i = k := by rw [hops] at hi; simp at hi; omega
 have hoi : ops[i]? = some o := by
  rw [← Array.getElem?_toList, hops, hl, ← hk]
  simp
 rw [List.length_cons, List.range'_succ]
 have hw : Region.wanted o (yielded ops a1.tmps) = true := by simp [Region.wanted, hg]
 simp only [wpOps, hoi]
 rw [if_pos hw]
 refine .inl (hk1 _ _ _ _ _ _ _ _ _ (h1.mono_fr fun id hid => ?_) fun s3 a' w' hQ hm3 hx3 => ?_)
 ·have hid : s1.n + 8 * ops.toList.length ≤ id := hid
  rw [hn] at hid
  show s.n + 8 * i ≤ id
  have : i ≤ ops.toList.length := by omega
  omega
 ·obtain ⟨F2, ρ2, h5⟩ := hx3
  have hend := aops_pre (Q := fun e a w => ∃ s', Q e s' ∧ s'.m = s.m ∧ RelE gh w0 F0 s' a w) hT (ops := ops) s3.n s1.m [] (fun i' s4 a4 w4 hi4 hk4 hn4 hm4 hx4 => by
   obtain ⟨F3, ρ3, h6⟩ := hx4
   show ∃ s', Q .normal s' ∧ s'.m = s.m ∧ RelE gh w0 F0 s' a4 w4
   refine ⟨⟨s4.t, s4.h, s4.n + 8 * ops.toList.length, s4.m⟩, hk4, by rw [← hm1]; exact hm4, F3, ρ3, (h6.setN _).mono_fr fun id hid => ?_⟩
   have hid : s4.n + 8 * ops.toList.length ≤ id := hid
   rw [hn4] at hid
   have : i' ≤ ops.toList.length := by rw [← hi4]; exact Nat.le_add_right _ _
   show s3.n + 8 * i' ≤ id
   omega) l2 (k + 1) s3 a' w' F2 ρ2 (by rw [hops, List.append_nil, ← hk]; simp) (by rw [hops, List.length_append, List.length_cons, List.length_nil]; omega) rfl hm3 hQ (h5.mono_fr fun id hid => by
   have hid : s3.n + 8 * (k + 1) ≤ id := hid
   show s3.n ≤ id
   omega)
  rw [List.length_nil, Nat.add_zero, ← hl] at hend
  exact hend
end Go.AL

namespace Go.Proofs.YtcdeiegpeiodjaaGreat
open Go Go.AL
section
theorem dig_zero : ∀ v : List Int, dig v 0 = List.replicate v.length 0
 | [] => rfl
 | d :: v => by
  show ((0 / pr v : Nat) : Int) :: dig v (0 % pr v) = _
  rw [Nat.zero_div, Nat.zero_mod, dig_zero v]
  rfl
theorem odo_a {i p : Nat} (hm : i % p + 1 = p) : i + 1 = p * (i / p + 1) := by
 have h := Nat.div_add_mod i p
 rw [Nat.mul_add, Nat.mul_one]
 omega
section
variable {s : List Int} {k : Nat} (hk : k < s.length)
include hk
theorem pr_mid : pr s = pr (s.take k) * (s[k].toNat * pr (s.drop (k + 1))) := by
 have h := pr_append (s.take k) (s[k] :: s.drop (k + 1))
 rw [← mid_split hk] at h
 exact h
variable (i : Nat) (hi : i < pr s)
include hi
theorem dig_mid : dig s i = dig (s.take k) (i / pr (s.drop (k + 1)) / s[k].toNat) ++ ((i / pr (s.drop (k + 1)) % s[k].toNat : Nat) : Int) :: dig (s.drop (k + 1)) (i % pr (s.drop (k + 1))) := by
 have e := mid_split hk
 have hi' : i < pr (s.take k ++ s[k] :: s.drop (k + 1)) := by rw [← e]; exact hi
 have h := dig_append (s.take k) (s[k] :: s.drop (k + 1)) i hi'
 rw [← e] at h
 rw [h]
 show dig (s.take k) (i / (s[k].toNat * pr (s.drop (k + 1)))) ++ ((i % (s[k].toNat * pr (s.drop (k + 1))) / pr (s.drop (k + 1)) : Nat) : Int) :: dig (s.drop (k + 1)) (i % (s[k].toNat * pr (s.drop (k + 1))) % pr (s.drop (k + 1))) = _
 rw [Nat.mod_mul_left_mod, Nat.mod_mul_left_div_self, Nat.div_div_eq_div_mul, Nat.mul_comm (pr (s.drop (k + 1)))]
theorem dig_take : (dig s i).take k = dig (s.take k) (i / pr (s.drop (k + 1)) / s[k].toNat) := by
 rw [dig_mid hk i hi]
 exact List.take_left' (by rw [dig_len, List.length_take]; omega)
theorem dig_at (h : k < (dig s i).length) : (dig s i)[k] = ((i / pr (s.drop (k + 1)) % s[k].toNat : Nat) : Int) := by
 have e := dig_mid hk i hi
 have l : (dig (s.take k) (i / pr (s.drop (k + 1)) / s[k].toNat)).length = k := by rw [dig_len, List.length_take]; omega
 have g : (dig s i)[k]? = some ((i / pr (s.drop (k + 1)) % s[k].toNat : Nat) : Int) := by
  rw [e, List.getElem?_append_right (by omega), l, Nat.sub_self]
  rfl
 rw [List.getElem?_eq_getElem h] at g
 exact Option.some.inj g
variable (hm : i % pr (s.drop (k + 1)) + 1 = pr (s.drop (k + 1)))
include hm
theorem odo_next (h : k < (dig s i).length) (hq : (dig s i)[k] + 1 < s[k]) : (dig s i).take k ++ ((dig s i)[k] + 1) :: List.replicate (s.length - (k + 1)) 0 = dig s (i + 1) ∧ i + 1 < pr s := by
 rw [dig_at hk i hi h] at hq ⊢
 rw [dig_take hk i hi]
 have ha := odo_a hm
 have hp := pr_mid hk
 generalize hv : s.drop (k + 1) = v at *
 generalize hd : s[k] = d at *
 generalize hu : s.take k = u at *
 obtain ⟨a, hae⟩ : ∃ a, a = i / pr v := ⟨_, rfl⟩
 rw [← hae] at hq ha ⊢
 have hpv : 0 < pr v := by omega
 have hq' : a % d.toNat + 1 < d.toNat := by omega
 have e1 : (i + 1) / pr v = a + 1 := by rw [ha, Nat.mul_div_cancel_left _ hpv]
 have e2 : (i + 1) % pr v = 0 := by rw [ha, Nat.mul_mod_right]
 have d0 := Nat.div_add_mod a d.toNat
 have e3 : (a + 1) / d.toNat = a / d.toNat := by
  rw [show a + 1 = d.toNat * (a / d.toNat) + (a % d.toNat + 1) by omega, Nat.mul_add_div (by omega), Nat.div_eq_of_lt hq', Nat.add_zero]
 have e4 : (a + 1) % d.toNat = a % d.toNat + 1 := by
  rw [show a + 1 = d.toNat * (a / d.toNat) + (a % d.toNat + 1) by omega, Nat.mul_add_mod, Nat.mod_eq_of_lt hq']
 have hlt : i + 1 < pr s := by
  have h1 : a < pr u * d.toNat := by
   rw [hp, ← Nat.mul_assoc, Nat.mul_comm _ (pr v)] at hi
   rw [hae]
   exact Nat.div_lt_of_lt_mul hi
  have h2 : a / d.toNat < pr u := Nat.div_lt_of_lt_mul (by rw [Nat.mul_comm]; exact h1)
  have h3 : a + 1 < pr u * d.toNat := by
   have : (a / d.toNat + 1) * d.toNat ≤ pr u * d.toNat := Nat.mul_le_mul_right _ h2
   rw [Nat.add_mul, Nat.one_mul, Nat.mul_comm _ d.toNat] at this
   omega
  rw [ha, hp, ← Nat.mul_assoc, Nat.mul_comm _ (pr v)]
  exact Nat.mul_lt_mul_of_pos_left h3 hpv
 refine ⟨?_, hlt⟩
 have g := dig_mid hk (i + 1) hlt
 have lv : v.length = s.length - (k + 1) := by rw [← hv, List.length_drop]
 rw [hv, hd, hu, e1, e2, e3, e4, dig_zero, lv] at g
 exact g.symm
theorem odo_full (h : k < (dig s i).length) (h0 : 0 ≤ s[k]) (hq : ¬ (dig s i)[k] + 1 < s[k]) : i % pr (s.drop k) + 1 = pr (s.drop k) := by
 rw [dig_at hk i hi h] at hq
 have hp := pr_mid hk
 have ev : pr (s.drop k) = s[k].toNat * pr (s.drop (k + 1)) := by rw [List.drop_eq_getElem_cons hk]; rfl
 rw [ev]
 generalize pr (s.drop (k + 1)) = p at *
 generalize hd : s[k] = d at *
 have hd0 : 0 < d.toNat := Nat.pos_of_ne_zero fun e => by rw [hp, e, Nat.zero_mul, Nat.mul_zero] at hi; omega
 have hr := Nat.mod_lt (i / p) hd0
 have hq' : i / p % d.toNat + 1 = d.toNat := by omega
 have hp0 : 0 < p := by omega
 have e := Nat.mod_mul (x := i) (a := p) (b := d.toNat)
 rw [Nat.mul_comm p] at e
 rw [e]
 have : p * (i / p % d.toNat) + p = d.toNat * p := by
  rw [← Nat.mul_succ, show (i / p % d.toNat).succ = d.toNat from hq', Nat.mul_comm]
 omega
end
end
end Go.Proofs.YtcdeiegpeiodjaaGreat

namespace Go.Proofs.YtcdeiegpeiodjaaGreat
open Go Go.AL NM
section
def plT (n : Int) : AV := .tup [.val (.int .i64 (if n = -1 then 0 else n)), .val (.bool (decide (n ≠ -1)))]
theorem ShPlace_ok (s idx : List Int) (hv : vS s) (hl : idx.length = s.length) : AC Tryz.prog 81 [.sl 1 (irows .i64 s) false, .sl 1 (irows .i64 idx) false] (.pure (plT (plS 0 s idx))) := by
 have h8 := hv.1
 have ls := irows_len .i64 s
 have li := irows_len .i64 idx
 have hC := Count_ok s (by omega)
 rw [CNT_good hv, (vS_pr hv).1] at hC
 obtain ⟨res, hres⟩ : ∃ res, res = plS 0 s idx := ⟨_, rfl⟩
 rw [← hres]
 have bad : plT (-1) = .tup [.val (.int .i64 0), .val (.bool false)] := rfl
 refine AC.of_body TTok Tryz.func81 rfl (enter_of Tryz.func81 (by kernel_rfl) (by kernel_rfl)) (noid2 (noid_sl _ _ _) (noid_sl _ _ _)) (.tup _ (noid2 (.val _) (.val _))) (nbq rfl) ?_
 conv => whnf
 refine ⟨_, hC, ?_⟩
 conv => whnf
 first | refine nTq (by omega) ?_ | refine nFq (by omega) ?_
 conv => whnf
 refine SW.loopM TTok (fun x : Nat × Int => [(0, .sl 1 (irows .i64 s) false), (1, .sl 1 (irows .i64 idx) false), (8, .val (.int .i64 x.2)), (25, .sl 1 (irows .i64 s) false), (26, .val (.int .i64 ((irows .i64 s).length : Nat))), (27, .val (.int .i64 (x.1 : Int)))]) (fun _ => []) 176 55 rfl (fun x => s.length - x.1) (fun x => x.1 ≤ s.length ∧ plB s x.1 x.2 ∧ plS x.2 (s.drop x.1) (idx.drop x.1) = res) (0, 0) [] ⟨Nat.zero_le _, ⟨Int.le_refl _, by show (0 : Int) < 1; decide⟩, hres.symm⟩
  ⟨q2r, q2r, q2r, q2r, q2r, q2r, trivial⟩ trivial rfl ?_
 rintro ⟨i, n⟩ ⟨hi, hB, hP⟩
 have hi : i ≤ s.length := hi
 have hP : plS n (s.drop i) (idx.drop i) = res := hP
 have hB : plB s i n := hB
 obtain ⟨b0, b1⟩ := plB_small hv hB
 by_cases hlt : i < s.length
 ·have eI : IntKind.i64.wrap ((i : Int) + 1) = ((i + 1 : Nat) : Int) := by rw [IntWalk.i64_in _ (by omega)]; omega
  have hlx : i < idx.length := by omega
  have hg1 : (irows .i64 s)[i]? = some [.val (.int .i64 s[i])] := irows_get .i64 s (List.getElem?_eq_getElem hlt)
  have hg2 : (irows .i64 idx)[i]? = some [.val (.int .i64 idx[i])] := irows_get .i64 idx (List.getElem?_eq_getElem hlx)
  rw [List.drop_eq_getElem_cons hlt, List.drop_eq_getElem_cons hlx] at hP
  have hd4 := vS_dim hv (List.getElem_mem hlt)
  obtain ⟨a, ha⟩ : ∃ a, a = idx[i] := ⟨_, rfl⟩
  obtain ⟨d, hd⟩ : ∃ d, d = s[i] := ⟨_, rfl⟩
  rw [← ha, ← hd] at hP
  rw [← ha] at hg2
  rw [← hd] at hg1 hd4
  by_cases h0 : a < 0
  ·rw [plS_neg _ _ _ _ _ (.inl h0)] at hP
   rw [← hP, bad]
   conv => whnf
   first | refine oTq (by omega) ?_ | refine oFq (by omega) ?_ | refine oEq (by omega) ?_ | refine oNq (by omega) ?_
   conv => whnf
   refine ⟨_, ⟨by omega, by rw [Int.toNat_natCast]; exact hg1⟩, ?_⟩
   conv => whnf
   refine ⟨_, ⟨by omega, by rw [Int.toNat_natCast]; exact hg2⟩, ?_⟩
   conv => whnf
   first | refine oTq (by omega) ?_ | refine oFq (by omega) ?_ | refine oEq (by omega) ?_ | refine oNq (by omega) ?_
   repeat ((conv => whnf); (first | refine ⟨_, ‹_›, ?_⟩ | refine ⟨nbq rfl, _, ‹_›, ?_⟩ | refine ⟨by kernel_rfl, ?_⟩ | exact rfl | exact ⟨nbq rfl, rfl⟩ | refine ⟨by decide, ?_⟩))
  ·by_cases h1 : d ≤ a
   ·rw [plS_neg _ _ _ _ _ (.inr h1)] at hP
    rw [← hP, bad]
    conv => whnf
    first | refine oTq (by omega) ?_ | refine oFq (by omega) ?_ | refine oEq (by omega) ?_ | refine oNq (by omega) ?_
    conv => whnf
    refine ⟨_, ⟨by omega, by rw [Int.toNat_natCast]; exact hg1⟩, ?_⟩
    conv => whnf
    refine ⟨_, ⟨by omega, by rw [Int.toNat_natCast]; exact hg2⟩, ?_⟩
    conv => whnf
    first | refine oTq (by omega) ?_ | refine oFq (by omega) ?_ | refine oEq (by omega) ?_ | refine oNq (by omega) ?_
    conv => whnf
    refine ⟨_, ⟨by omega, by rw [Int.toNat_natCast]; exact hg2⟩, ?_⟩
    conv => whnf
    first | refine oTq (by omega) ?_ | refine oFq (by omega) ?_ | refine oEq (by omega) ?_ | refine oNq (by omega) ?_
    repeat ((conv => whnf); (first | refine ⟨_, ‹_›, ?_⟩ | refine ⟨nbq rfl, _, ‹_›, ?_⟩ | refine ⟨by kernel_rfl, ?_⟩ | exact rfl | exact ⟨nbq rfl, rfl⟩ | refine ⟨by decide, ?_⟩))
   ·have hst := plB_step hv hlt hB (a := a) (by omega) (by rw [← hd]; omega)
    rw [← hd] at hst
    obtain ⟨c0, c1⟩ := plB_small hv hst
    have m0 : 0 ≤ n * d := Int.mul_nonneg b0 (by omega)
    have eN : IntKind.i64.wrap (IntKind.i64.wrap (n * d) + a) = n * d + a := by rw [IntWalk.i64_in (n * d) (by omega), IntWalk.i64_in _ (by omega)]
    have hP' : (if a < 0 ∨ d ≤ a then -1 else plS (n * d + a) (s.drop (i + 1)) (idx.drop (i + 1))) = res := hP
    rw [if_neg (by omega)] at hP'
    conv => whnf
    first | refine oTq (by omega) ?_ | refine oFq (by omega) ?_ | refine oEq (by omega) ?_ | refine oNq (by omega) ?_
    conv => whnf
    refine ⟨_, ⟨by omega, by rw [Int.toNat_natCast]; exact hg1⟩, ?_⟩
    conv => whnf
    refine ⟨_, ⟨by omega, by rw [Int.toNat_natCast]; exact hg2⟩, ?_⟩
    conv => whnf
    first | refine oTq (by omega) ?_ | refine oFq (by omega) ?_ | refine oEq (by omega) ?_ | refine oNq (by omega) ?_
    conv => whnf
    refine ⟨_, ⟨by omega, by rw [Int.toNat_natCast]; exact hg2⟩, ?_⟩
    conv => whnf
    first | refine oTq (by omega) ?_ | refine oFq (by omega) ?_ | refine oEq (by omega) ?_ | refine oNq (by omega) ?_
    conv => whnf
    refine ⟨_, ⟨by omega, by rw [Int.toNat_natCast]; exact hg2⟩, ?_⟩
    conv => whnf
    exact ⟨(i + 1, n * d + a), [], (by show s.length - (i + 1) < s.length - i; omega), ⟨hlt, hst, hP'⟩, ⟨q2r, q2r, ⟨valI eN, rfl⟩, q2r, q2r, ⟨valI eI, rfl⟩, trivial⟩, trivial, rfl⟩
 ·have hie : i = s.length := by omega
  have e1 : s.drop i = [] := List.drop_of_length_le (by omega)
  have e2 : idx.drop i = [] := List.drop_of_length_le (by omega)
  rw [e1, e2] at hP
  have hP : n = res := hP
  subst hP
  have e : plT n = .tup [.val (.int .i64 n), .val (.bool true)] := by
   unfold plT
   rw [if_neg (by omega), decide_eq_true (by omega)]
  rw [e]
  conv => whnf
  first | refine oTq (by omega) ?_ | refine oFq (by omega) ?_ | refine oEq (by omega) ?_ | refine oNq (by omega) ?_
  repeat ((conv => whnf); (first | refine ⟨_, ‹_›, ?_⟩ | refine ⟨nbq rfl, _, ‹_›, ?_⟩ | refine ⟨by kernel_rfl, ?_⟩ | exact rfl | exact ⟨nbq rfl, rfl⟩ | refine ⟨by decide, ?_⟩))
end
section
abbrev El := Bool × Int × Rat
def numE (q : Rat) : El := (false, 0, q)
def pairE (c most : Int) (x y : El) : Rat × Int := pairV c x.1 y.1 x.2.1 y.2.1 x.2.2 y.2.2 most
def foldE (c most : Int) : List El → El × Int
 | [] => (numE 0, 0)
 | x :: l => match l with
  | [] => (x, 0)
  | _ :: _ => if (foldE c most l).2 ≠ 0 then (numE 0, (foldE c most l).2)
   else if (pairE c most x (foldE c most l).1).2 ≠ 0 then (numE 0, (pairE c most x (foldE c most l).1).2) else (numE (pairE c most x (foldE c most l).1).1, 0)
theorem foldE_one (c most : Int) (x : El) : foldE c most [x] = (x, 0) := by unfold foldE; rfl
theorem foldE_cons (c most : Int) (x : El) {l : List El} (hl : l ≠ []) : foldE c most (x :: l) = if (foldE c most l).2 ≠ 0 then (numE 0, (foldE c most l).2)
   else if (pairE c most x (foldE c most l).1).2 ≠ 0 then (numE 0, (pairE c most x (foldE c most l).1).2) else (numE (pairE c most x (foldE c most l).1).1, 0) := by
 cases l with
 | nil => exact absurd rfl hl
 | cons y l => rw [foldE]
def elA (c : Bool) (tx : List Int) (qs : List Rat) (i : Nat) : El := (c, tx.getD i 0, qs.getD i 0)
def lineE (c : Bool) (tx : List Int) (qs : List Rat) (t n I r : Nat) : List El := (List.range t).map fun i => elA c tx qs ((r / I * n + i) * I + r % I)
theorem lineE_len (c : Bool) (tx : List Int) (qs : List Rat) (t n I r : Nat) : (lineE c tx qs t n I r).length = t := by unfold lineE; rw [List.length_map, List.length_range]
def fst0 : List Int → Int
 | [] => 0
 | e :: l => if e ≠ 0 then e else fst0 l
def rowsE (c most : Int) (L : List (List El)) (i : Nat) : Int := fst0 (L.map fun l => (foldE c most (l.drop i)).2)
def redE (c most : Int) (L : List (List El)) (n : Nat) : Int := fst0 ((List.range (n - 1)).reverse.map (rowsE c most L))
theorem fst0_zero {l : List Int} (h : fst0 l = 0) : ∀ e ∈ l, e = 0 := by
 induction l with
 | nil => intro e he; exact nomatch he
 | cons a l ih =>
  unfold fst0 at h
  by_cases ha : a ≠ 0
  ·rw [if_pos ha] at h; exact absurd h ha
  ·rw [if_neg ha] at h
   intro e he
   rcases List.mem_cons.1 he with rfl | he
   ·exact Decidable.byContradiction ha
   ·exact ih h e he
theorem fst0_of {l : List Int} (h : ∀ e ∈ l, e = 0) : fst0 l = 0 := by
 induction l with
 | nil => rfl
 | cons a l ih =>
  unfold fst0
  rw [if_neg (fun ha => ha (h a List.mem_cons_self))]
  exact ih fun e he => h e (List.mem_cons_of_mem _ he)
theorem fst0_at {l : List Int} {i : Nat} (hi : i < l.length) (hz : ∀ e ∈ l.take i, e = 0) (hne : l[i] ≠ 0) : fst0 l = l[i] := by
 induction l generalizing i with
 | nil => exact absurd hi (Nat.not_lt_zero _)
 | cons a l ih =>
  unfold fst0
  cases i with
  | zero => rw [if_pos (by exact hne)]; rfl
  | succ i =>
   have ha : a = 0 := hz a (by simp)
   rw [if_neg (fun h => h ha)]
   exact ih (by simpa using hi) (fun e he => hz e (by simp [he])) (by simpa using hne)
def unitQ (c : Int) : Option Int :=
 if c = 43 ∨ c = 45 ∨ c = 124 ∨ c = 60 ∨ c = 62 ∨ c = 8800 ∨ c = 8744 then some 0
 else if c = 215 ∨ c = 247 ∨ c = 42 ∨ c = 33 ∨ c = 8804 ∨ c = 61 ∨ c = 8805 ∨ c = 8743 then some 1 else none
theorem redE_from (c most : Int) (L : List (List El)) (n i : Nat) (hi : i + 1 < n) (hz : ∀ j, i < j → j < n → rowsE c most L j = 0) (hne : rowsE c most L i ≠ 0) : redE c most L n = rowsE c most L i := by
 have key : (List.range (n - 1)).reverse[n - 2 - i]? = some i := by
  rw [List.getElem?_reverse (by rw [List.length_range]; omega), List.length_range, List.getElem?_range (by omega)]
  congr 1; omega
 have hlen : n - 2 - i < ((List.range (n - 1)).reverse.map (rowsE c most L)).length := by rw [List.length_map, List.length_reverse, List.length_range]; omega
 have hat : ((List.range (n - 1)).reverse.map (rowsE c most L))[n - 2 - i] = rowsE c most L i := by
  have : ((List.range (n - 1)).reverse.map (rowsE c most L))[n - 2 - i]? = some (rowsE c most L i) := by rw [List.getElem?_map, key]; rfl
  rw [List.getElem?_eq_getElem hlen] at this
  exact Option.some.inj this
 unfold redE
 rw [fst0_at hlen (fun e he => ?_) (by rw [hat]; exact hne), hat]
 rw [← List.map_take] at he
 obtain ⟨j, hj, rfl⟩ := List.mem_map.1 he
 obtain ⟨k, hk, hkj⟩ := List.getElem_of_mem hj
 rw [List.length_take, List.length_reverse, List.length_range] at hk
 rw [List.getElem_take, List.getElem_reverse, List.getElem_range, List.length_range] at hkj
 exact hz j (by omega) (by omega)
theorem redE_zero (c most : Int) (L : List (List El)) (n : Nat) (hz : ∀ j, j + 1 < n → rowsE c most L j = 0) : redE c most L n = 0 := by
 refine fst0_of fun e he => ?_
 obtain ⟨j, hj, rfl⟩ := List.mem_map.1 he
 have := List.mem_range.1 (List.mem_reverse.1 hj)
 exact hz j (by omega)
theorem firstE_fst0 (l : List (Rat × Int)) : firstE l = fst0 (l.map (·.2)) := by
 induction l with
 | nil => rfl
 | cons x l ih =>
  show (if x.2 = 0 then firstE l else x.2) = (if x.2 ≠ 0 then x.2 else fst0 (l.map (·.2)))
  by_cases h : x.2 = 0
  ·rw [if_pos h, if_neg (fun h' => h' h), ih]
  ·rw [if_neg h, if_pos h]
theorem lineE_drop (c : Bool) (tx : List Int) (qs : List Rat) (t n I r i : Nat) (hi : i < t) : (lineE c tx qs t n I r).drop i = elA c tx qs ((r / I * n + i) * I + r % I) :: (lineE c tx qs t n I r).drop (i + 1) := by
 have hlen : i < (lineE c tx qs t n I r).length := by rw [lineE_len]; exact hi
 rw [List.drop_eq_getElem_cons hlen]
 congr 1
 have h : (lineE c tx qs t n I r)[i]? = some (elA c tx qs ((r / I * n + i) * I + r % I)) := by
  unfold lineE
  rw [List.getElem?_map, List.getElem?_range hi]; rfl
 rw [List.getElem?_eq_getElem hlen] at h
 exact Option.some.inj h
theorem lineE_last (c most : Int) (ch : Bool) (tx : List Int) (qs : List Rat) (t n I r : Nat) (hn : 0 < t) : foldE c most ((lineE ch tx qs t n I r).drop (t - 1)) = (elA ch tx qs ((r / I * n + (t - 1)) * I + r % I), 0) := by
 rw [lineE_drop _ _ _ _ _ _ _ _ (by omega), show (lineE ch tx qs t n I r).drop (t - 1 + 1) = [] from List.drop_of_length_le (by rw [lineE_len]; omega), foldE_one]
theorem drop_ne {α : Type} {l : List α} {i : Nat} (h : i < l.length) : l.drop i ≠ [] := fun e => by
 have := congrArg List.length e
 rw [List.length_drop, List.length_nil] at this
 omega
def rowsL (c : Bool) (tx : List Int) (qs : List Rat) (t n I R : Nat) : List (List El) := (List.range R).map (lineE c tx qs t n I)
theorem rows_step (c most : Int) (ch : Bool) (tx : List Int) (qs : List Rat) (t n I R i : Nat) (hi : i + 1 < t) (hz : rowsE c most (rowsL ch tx qs t n I R) (i + 1) = 0) :
  rowsE c most (rowsL ch tx qs t n I R) i = firstE ((List.range R).map fun r => pairE c most (elA ch tx qs ((r / I * n + i) * I + r % I)) (foldE c most ((lineE ch tx qs t n I r).drop (i + 1))).1) ∧
  (rowsE c most (rowsL ch tx qs t n I R) i = 0 → ∀ r, r < R → (foldE c most ((lineE ch tx qs t n I r).drop i)) = (numE (pairE c most (elA ch tx qs ((r / I * n + i) * I + r % I)) (foldE c most ((lineE ch tx qs t n I r).drop (i + 1))).1).1, 0)) := by
 have hz' : ∀ r, r < R → (foldE c most ((lineE ch tx qs t n I r).drop (i + 1))).2 = 0 := fun r hr => by
  refine fst0_zero hz _ ?_
  unfold rowsL
  rw [List.map_map]
  exact List.mem_map.2 ⟨r, List.mem_range.2 hr, rfl⟩
 have hst : ∀ r, r < R → foldE c most ((lineE ch tx qs t n I r).drop i) = if (pairE c most (elA ch tx qs ((r / I * n + i) * I + r % I)) (foldE c most ((lineE ch tx qs t n I r).drop (i + 1))).1).2 ≠ 0 then (numE 0, (pairE c most (elA ch tx qs ((r / I * n + i) * I + r % I)) (foldE c most ((lineE ch tx qs t n I r).drop (i + 1))).1).2) else (numE (pairE c most (elA ch tx qs ((r / I * n + i) * I + r % I)) (foldE c most ((lineE ch tx qs t n I r).drop (i + 1))).1).1, 0) := fun r hr => by
  rw [lineE_drop _ _ _ _ _ _ _ _ (by omega), foldE_cons _ _ _ (drop_ne (by rw [lineE_len]; omega)), if_neg (fun h => h (hz' r hr))]
 have hE : rowsE c most (rowsL ch tx qs t n I R) i = firstE ((List.range R).map fun r => pairE c most (elA ch tx qs ((r / I * n + i) * I + r % I)) (foldE c most ((lineE ch tx qs t n I r).drop (i + 1))).1) := by
  rw [firstE_fst0]
  unfold rowsE rowsL
  rw [List.map_map, List.map_map]
  congr 1
  refine List.map_congr_left fun r hr => ?_
  have hr := List.mem_range.1 hr
  show (foldE c most ((lineE ch tx qs t n I r).drop i)).2 = (pairE c most (elA ch tx qs ((r / I * n + i) * I + r % I)) (foldE c most ((lineE ch tx qs t n I r).drop (i + 1))).1).2
  rw [hst r hr]
  split
  ·rfl
  ·rename_i h; exact (Decidable.byContradiction h).symm
 refine ⟨hE, fun h0 r hr => ?_⟩
 rw [hE, firstE_fst0] at h0
 have := fst0_zero h0 _ (List.mem_map.2 ⟨_, List.mem_map.2 ⟨r, List.mem_range.2 hr, rfl⟩, rfl⟩)
 rw [hst r hr, if_neg (fun h => h this)]
theorem rows_last (c most : Int) (ch : Bool) (tx : List Int) (qs : List Rat) (t n I R : Nat) (hn : 0 < t) : rowsE c most (rowsL ch tx qs t n I R) (t - 1) = 0 := by
 refine fst0_of fun e he => ?_
 unfold rowsL at he
 rw [List.map_map] at he
 obtain ⟨r, _, rfl⟩ := List.mem_map.1 he
 show (foldE c most ((lineE ch tx qs t n I r).drop (t - 1))).2 = 0
 rw [lineE_last _ _ _ _ _ _ _ _ _ hn]
theorem two_szm {c : Int} {p q : Rat} {most : Int} (hm : most ≤ 20) (h : (twoQ c p q most).2 = 0) : Sz (twoQ c p q most).1 20 := by
 unfold twoQ at *
 by_cases h1 : isCmp c
 ·rw [if_pos h1]; exact (tq_sz _).mono (by decide)
 ·rw [if_neg h1] at h ⊢
  by_cases h2 : isJdg c
  ·rw [if_pos h2]
   unfold judgeQ
   split
   ·exact (tq_sz _).mono (by decide)
   ·exact Sz_zero.mono (by decide)
  ·rw [if_neg h2] at h ⊢
   by_cases h3 : ¬ isRec c
   ·rw [if_pos h3]; exact Sz_zero.mono (by decide)
   ·rw [if_neg h3] at h ⊢
    by_cases h4 : (reckonQ c p q most).2 ≠ 0
    ·rw [if_pos h4] at h; exact absurd h h4
    ·rw [if_neg h4] at h ⊢
     by_cases h5 : most < (qLimbs (reckonQ c p q most).1.num (reckonQ c p q most).1.den : Nat)
     ·rw [if_pos h5] at h; exact absurd h (by show ¬ (26 : Int) = 0; decide)
     ·rw [if_neg h5]
      unfold qLimbs at h5
      exact ⟨by show (limbs (reckonQ c p q most).1.num.natAbs).length ≤ 20; omega, by show (limbs (reckonQ c p q most).1.den).length ≤ 20; omega⟩
theorem pair_szm {c most : Int} (hm : most ≤ 20) {x y : El} (h : (pairE c most x y).2 = 0) : Sz (pairE c most x y).1 20 := by
 unfold pairE pairV at *
 split
 ·split
  ·show Sz (if _ then 1 else 0) 20
   split
   ·exact Sz_one.mono (by decide)
   ·exact Sz_zero.mono (by decide)
  ·exact Sz_zero.mono (by decide)
 ·rename_i h1
  rw [if_neg h1] at h
  exact two_szm hm h
def slabL (n I R i : Nat) : List Int := (List.range R).map fun r => (((r / I * n + i) * I + r % I : Nat) : Int)
theorem slabL_len (n I R i : Nat) : (slabL n I R i).length = R := by unfold slabL; rw [List.length_map, List.length_range]
theorem getT_nat (tx : List Int) {k : Nat} (h : k < tx.length) : getT tx (k : Int) = tx.getD k 0 := by
 rw [getT_in h, List.getD_eq_getElem?_getD, List.getElem?_eq_getElem h]; rfl
theorem getQ_nat (qs : List Rat) (k : Nat) : getQ qs (k : Int) = qs.getD k 0 := by
 unfold getQ
 rw [if_pos (by omega), Int.toNat_natCast]
theorem getD_map_slab {β : Type} (f : Int → β) (d : β) (n I R i r : Nat) (hr : r < R) : ((slabL n I R i).map f).getD r d = f (((r / I * n + i) * I + r % I : Nat) : Int) := by
 unfold slabL
 rw [List.getD_eq_getElem?_getD, List.getElem?_map, List.getElem?_map, List.getElem?_range hr]
 rfl
theorem el_slab {c : Bool} {tx : List Int} {qs : List Rat} {n I R i r : Nat} (hr : r < R) (hc : c = true → qs = [] ∧ (r / I * n + i) * I + r % I < tx.length) (hn : c = false → tx = []) :
  elA c (if c then (slabL n I R i).map (getT tx) else []) (if c then [] else (slabL n I R i).map (getQ qs)) r = elA c tx qs ((r / I * n + i) * I + r % I) := by
 cases c
 ·have := hn rfl
  subst this
  unfold elA
  rw [if_neg Bool.false_ne_true, if_neg Bool.false_ne_true, getD_map_slab _ _ _ _ _ _ _ hr, getQ_nat]
  rfl
 ·obtain ⟨h1, h2⟩ := hc rfl
  subst h1
  unfold elA
  rw [if_pos rfl, if_pos rfl, getD_map_slab _ _ _ _ _ _ _ hr, getT_nat _ h2]
  rfl
theorem place_lt {O I n r i : Nat} (hr : r < O * I) (hi : i < n) : (r / I * n + i) * I + r % I < O * (n * I) := by
 have hI : 0 < I := Nat.pos_of_ne_zero fun e => by rw [e] at hr; omega
 have h1 : r / I < O := Nat.div_lt_of_lt_mul (by rw [Nat.mul_comm]; exact hr)
 have h2 : r % I < I := Nat.mod_lt _ hI
 have h3 : r / I * n + i + 1 ≤ O * n := by
  have : (r / I + 1) * n ≤ O * n := Nat.mul_le_mul_right _ h1
  rw [Nat.add_mul, Nat.one_mul] at this
  omega
 have h4 : (r / I * n + i + 1) * I ≤ O * n * I := Nat.mul_le_mul_right _ h3
 rw [Nat.add_mul (r / I * n + i) 1 I, Nat.one_mul, Nat.mul_assoc O] at h4
 omega
end
section
theorem wrap_nat' (a : Nat) (h : a < 9223372036854775808) : IntKind.i64.wrap (a : Int) = (a : Int) := IntWalk.i64_in _ (by omega)
theorem place_wrap (o n K I j q : Nat) (h1 : o * n + K ≤ q) (h2 : q * I + j ≤ 5000) (hI : 0 < I) :
  IntKind.i64.wrap (IntKind.i64.wrap (IntKind.i64.wrap (IntKind.i64.wrap ((o : Int) * (n : Int)) + (K : Int)) * (I : Int)) + (j : Int)) = (((o * n + K) * I + j : Nat) : Int) := by
 have a1 : (o * n + K) * I ≤ q * I := Nat.mul_le_mul_right _ h1
 have a2 : q ≤ q * I := Nat.le_mul_of_pos_right _ hI
 rw [← Int.natCast_mul, wrap_nat' _ (by omega), ← Int.natCast_add, wrap_nat' _ (by omega), ← Int.natCast_mul, wrap_nat' _ (by omega), ← Int.natCast_add, wrap_nat' _ (by omega)]
theorem axis_split {s : List Int} {k : Nat} (hk : k < s.length) (hv : vS s) : ∃ n : Nat, s[k] = (n : Int) ∧ s = s.take k ++ (n : Int) :: s.drop (k + 1) ∧ vS (s.take k ++ s.drop (k + 1)) ∧ pr s = pr (s.take k) * (n * pr (s.drop (k + 1))) ∧ pr (s.take k ++ s.drop (k + 1)) = pr (s.take k) * pr (s.drop (k + 1)) ∧ pr s ≤ 4096 ∧ pr (s.take k) * pr (s.drop (k + 1)) ≤ 4096 ∧ vS (s.take k) ∧ vS (s.drop (k + 1)) := by
 have h0 := hv.2.1 _ (List.getElem_mem hk)
 have hs := mid_split hk
 have hn : s[k] = (s[k].toNat : Int) := (Int.toNat_of_nonneg h0).symm
 have hv' := hv
 rw [hs] at hv'
 have hr : vS (s.take k ++ s.drop (k + 1)) := by
  rw [vS_mid] at hv'
  rw [vS_app]
  obtain ⟨a1, a2, a3, a4, a5⟩ := hv'
  refine ⟨by omega, a2, a4, ?_⟩
  have e0 := pm_pos (s.take k)
  have e1 : pmI (s.drop (k + 1)) ≤ max 1 s[k] * pmI (s.drop (k + 1)) := by
   have e2 := pm_pos (s.drop (k + 1))
   have : 1 * pmI (s.drop (k + 1)) ≤ max 1 s[k] * pmI (s.drop (k + 1)) := Int.mul_le_mul_of_nonneg_right (by omega) (by omega)
   rw [Int.one_mul] at this
   exact this
  have e3 : pmI (s.take k) * pmI (s.drop (k + 1)) ≤ pmI (s.take k) * (max 1 s[k] * pmI (s.drop (k + 1))) := Int.mul_le_mul_of_nonneg_left e1 (by omega)
  omega
 have hp : pr s = pr (s.take k) * (s[k].toNat * pr (s.drop (k + 1))) := by
  conv => lhs; rw [hs]
  rw [pr_append]
  rfl
 have hpr : pr (s.take k ++ s.drop (k + 1)) = pr (s.take k) * pr (s.drop (k + 1)) := pr_append _ _
 refine ⟨s[k].toNat, hn, by rw [← hn]; exact hs, hr, hp, hpr, (vS_pr hv).2, by rw [← hpr]; exact (vS_pr hr).2, (vS_parts hr).1, (vS_parts hr).2⟩
theorem kinds_c {s : List Int} {c : Bool} {a b : Nat} (hv : vS s) (h : kinds s c a b) : (c = true → a = pr s ∧ b = 0) ∧ (c = false → b = pr s ∧ a = 0) := by
 have hc := (vS_pr hv).1
 unfold kinds at h
 rw [hc] at h
 cases c
 ·exact ⟨fun h => Bool.noConfusion h, fun _ => ⟨by have := h.1; omega, h.2⟩⟩
 ·exact ⟨fun _ => ⟨by have := h.1; omega, h.2⟩, fun h => Bool.noConfusion h⟩
set_option maxRecDepth 20000 in
theorem slab_ok (s : List Int) (k : Nat) (c : Bool) (tx : List Int) (na : List (Option (Rat × Nat))) (hk : k < s.length) (hv : vS s) (ka : kinds s c tx.length na.length) (n : Nat) (hn : s[k] = (n : Int)) (i : Nat) (hi : i < n) :
  AC Tryz.prog 86 [AA s c tx na true, .val (.int .i64 (k : Int)), .val (.int .i64 (i : Int))] (.pure (AA (s.take k ++ s.drop (k + 1)) c
   (if c then (slabL n (pr (s.drop (k + 1))) (pr (s.take k) * pr (s.drop (k + 1))) i).map (getT tx) else [])
   (if c then [] else (slabL n (pr (s.drop (k + 1))) (pr (s.take k) * pr (s.drop (k + 1))) i).map (getX na)) true)) := by
 have h8 := hv.1
 obtain ⟨n', hn', _, hr, hp, hpr, p4, r4, vu, vv⟩ := axis_split hk hv
 have : n' = n := by rw [hn] at hn'; omega
 subst this
 have hS := Shape_ok s c tx na (by omega)
 have hSp := Split_ok s k hk hv
 rw [hn] at hSp
 have hWo := Without_ok s k hk (by omega)
 have l2 := (kinds_c hv ka)
 have ltx : tx.length ≤ 4096 ∧ na.length ≤ 4096 := by
  cases c
  ·have := l2.2 rfl; omega
  ·have := l2.1 rfl; omega
 obtain ⟨O, hO⟩ : ∃ O, O = pr (s.take k) := ⟨_, rfl⟩
 obtain ⟨I, hI⟩ : ∃ I, I = pr (s.drop (k + 1)) := ⟨_, rfl⟩
 rw [← hO, ← hI] at hp hpr r4 hSp ⊢
 rw [hp] at p4
 obtain ⟨rest, hrest⟩ : ∃ rest, rest = s.take k ++ s.drop (k + 1) := ⟨_, rfl⟩
 rw [← hrest] at hr hpr hWo ⊢
 have lO : O ≤ 4096 := by rw [hO]; exact (vS_pr vu).2
 have lI : I ≤ 4096 := by rw [hI]; exact (vS_pr vv).2
 have ln : n' ≤ 4096 := by have := vS_dim hv (List.getElem_mem hk); omega
 obtain ⟨Y, hY⟩ : ∃ Y, Y = slabL n' I (O * I) i := ⟨_, rfl⟩
 rw [← hY]
 have lY : Y.length = O * I := by rw [hY]; exact slabL_len _ _ _ _
 have hYr : ∀ r (h : r < O * I), Y[r]'(by omega) = (((r / I * n' + i) * I + r % I : Nat) : Int) := fun r h => by subst hY; unfold slabL; rw [List.getElem_map, List.getElem_range]
 have hc1 : cntI rest = (Y.length : Int) := by rw [(vS_pr hr).1, hpr, lY]
 have lYr := irows_len .i64 Y
 have hP : AC Tryz.prog 66 [AA s c tx na true, .sl 1 (irows .i64 rest) false, .sl 1 (irows .i64 Y) false] (.pure (.tup [AA rest c (if c then Y.map (getT tx) else []) (if c then [] else Y.map (getX na)) true, .val (.bool true)])) := by
  cases c
  ·exact PickN_ok s tx na rest Y hr hc1 (by omega)
  ·exact PickT_ok s tx na rest Y hr hc1 (by omega)
 have eP : irows .i64 Y = List.take (O * I) (List.drop 0 (irows .i64 Y)) := by rw [List.drop_zero, List.take_of_length_le (by omega)]
 rw [eP] at hP
 have eOI : IntKind.i64.wrap ((O : Int) * (I : Int)) = ((O * I : Nat) : Int) := by rw [← Int.natCast_mul, wrap_nat' _ (by omega)]
 refine AC.of_body TTok Tryz.func86 rfl (enter_of Tryz.func86 (by kernel_rfl) (by kernel_rfl)) (noid3 (AA_noid _ _ _ _ _) (.val _) (.val _)) (AA_noid _ _ _ _ _) (nbq rfl) ?_
 unfold AA at *
 conv => whnf
 refine ⟨_, hS, ?_⟩
 conv => whnf
 refine ⟨_, hSp, ?_⟩
 conv => whnf
 refine ⟨⟨by decide, by rw [eOI]; omega, by rw [eOI]; show ((O * I : Nat) : Int) * ((8 : Nat) : Int) ≤ 140737488355328; omega⟩, ?_⟩
 conv => whnf
 refine SW.loopM TTok (fun o : Nat => [(1, .val (.int .i64 (k : Int))), (2, .val (.int .i64 (i : Int))), (3, .lp 0 0), (6, .lp 8 0), (7, .sl 1 (irows .i64 s) false), (9, .val (.int .i64 (n' : Int))), (10, .val (.int .i64 (I : Int))), (12, .own 160 0 (o * I)), (31, .val (.int .i64 (O : Int))), (32, .val (.int .i64 (o : Int)))])
  (fun o => [(0, .cells 5 [[.sl 1 (irows .i64 s) false, .val (.bool c), .sl 1 (irows .i32 tx) false, .sl 3 (na.map rowX) false, .val (.bool true)]]), (8, .cells 5 [[.sl 0 [] true, .val (.bool false), .sl 0 [] true, .sl 0 [] true, .val (.bool false)]]), (160, .cells 1 (irows .i64 (Y.take (o * I))))]) 192 63 rfl (fun o => O - o) (fun o => o ≤ O) 0 [] (Nat.zero_le _)
  ⟨q2r, q2r, q2r, q2r, q2r, q2r, q2r, ⟨ownE rfl (Nat.zero_mul I).symm, rfl⟩, q2r, q2r, trivial⟩ ⟨q3r, q3r, ⟨rfl, .inl ⟨celE (by rw [Nat.zero_mul]; rfl), irows_noid _ _⟩⟩, trivial⟩ rfl ?_
 intro o hJ
 have ho : o ≤ O := hJ
 clear hJ
 by_cases hlt : o < O
 ·have eO : IntKind.i64.wrap ((o : Int) + 1) = ((o + 1 : Nat) : Int) := by rw [IntWalk.i64_in _ (by omega)]; omega
  conv => whnf
  first | refine oTq (by omega) ?_ | refine oFq (by omega) ?_ | refine oEq (by omega) ?_ | refine oNq (by omega) ?_
  conv => whnf
  refine SW.loopM TTok (fun j : Nat => [(1, .val (.int .i64 (k : Int))), (2, .val (.int .i64 (i : Int))), (3, .lp 0 0), (6, .lp 8 0), (7, .sl 1 (irows .i64 s) false), (9, .val (.int .i64 (n' : Int))), (10, .val (.int .i64 (I : Int))), (12, .own 160 0 (o * I + j)), (13, .val (.int .i64 (o : Int))), (31, .val (.int .i64 (O : Int))), (32, .val (.int .i64 (o : Int))), (35, .val (.int .i64 (I : Int))), (36, .val (.int .i64 (j : Int)))])
   (fun j => [(0, .cells 5 [[.sl 1 (irows .i64 s) false, .val (.bool c), .sl 1 (irows .i32 tx) false, .sl 3 (na.map rowX) false, .val (.bool true)]]), (8, .cells 5 [[.sl 0 [] true, .val (.bool false), .sl 0 [] true, .sl 0 [] true, .val (.bool false)]]), (160, .cells 1 (irows .i64 (Y.take (o * I + j))))]) 232 63 rfl (fun j => I - j) (fun j => j ≤ I) 0 [] (Nat.zero_le _)
   ⟨q2r, q2r, q2r, q2r, q2r, q2r, q2r, q2r, q2r, q2r, q2r, q2r, q2r, trivial⟩ ⟨q3r, q3r, ⟨rfl, .inl ⟨rfl, irows_noid _ _⟩⟩, trivial⟩ rfl ?_
  intro j hJ
  have hj : j ≤ I := hJ
  clear hJ
  have hoI : (o + 1) * I ≤ O * I := Nat.mul_le_mul_right _ hlt
  rw [Nat.add_mul, Nat.one_mul] at hoI
  have lr : (irows .i64 (Y.take (o * I + j))).length = o * I + j := by rw [irows_len, List.length_take]; omega
  by_cases hjt : j < I
  ·have eJ : IntKind.i64.wrap ((j : Int) + 1) = ((j + 1 : Nat) : Int) := by rw [IntWalk.i64_in _ (by omega)]; omega
   have hr' : o * I + j < O * I := by omega
   have hpl := place_lt (O := O) (I := I) (n := n') (r := o * I + j) (i := i) hr' hi
   have d1 : (o * I + j) / I = o := by rw [Nat.mul_comm, Nat.mul_add_div (by omega), Nat.div_eq_of_lt hjt, Nat.add_zero]
   have d2 : (o * I + j) % I = j := by rw [Nat.mul_comm, Nat.mul_add_mod, Nat.mod_eq_of_lt hjt]
   have hYj := hYr _ hr'
   rw [d1, d2] at hYj hpl
   have hsn : irows .i64 (Y.take (o * I + j)) ++ [[.val (.int .i64 (((o * n' + i) * I + j : Nat) : Int))]] = irows .i64 (Y.take (o * I + (j + 1))) := by
    rw [show o * I + (j + 1) = o * I + j + 1 by omega, take_snoc (show o * I + j < Y.length by omega), hYj, ← irows_append]; rfl
   have htk : List.take (o * I + j) (List.drop 0 (irows .i64 (Y.take (o * I + j)))) = irows .i64 (Y.take (o * I + j)) := by rw [List.drop_zero, List.take_of_length_le (by omega)]
   have P1 := place_wrap o n' i I j (o * n' + i) (Nat.le_refl _) (by omega) (by omega)
   conv => whnf
   first | refine oTq (by omega) ?_ | refine oFq (by omega) ?_ | refine oEq (by omega) ?_ | refine oNq (by omega) ?_
   conv => whnf
   refine ⟨⟨by show 0 + (o * I + j) ≤ _; omega, by show (o * I + j + 1) * 8 ≤ 140737488355328; omega, nbq rfl⟩, ?_⟩
   conv => whnf
   refine ⟨j + 1, [(160, 344)], (by show I - (j + 1) < I - j; omega), hjt, ⟨q2r, q2r, q2r, q2r, q2r, q2r, q2r, q2r, q2r, q2r, q2r, q2r, ⟨valI eJ, rfl⟩, trivial⟩, ⟨q3r, q3r, ⟨rfl, .inl ⟨celE ?_, irows_noid _ _⟩⟩, trivial⟩, rfl⟩
   rw [← hsn]
   show List.take (o * I + j) (List.drop 0 (irows .i64 (Y.take (o * I + j)))) ++ [[.val (.int .i64 (IntKind.i64.wrap (IntKind.i64.wrap (IntKind.i64.wrap (IntKind.i64.wrap ((o : Int) * (n' : Int)) + (i : Int)) * (I : Int)) + (j : Int))))]] = _
   rw [htk, P1]
  ·have hje : j = I := by omega
   conv => whnf
   first | refine oTq (by omega) ?_ | refine oFq (by omega) ?_ | refine oEq (by omega) ?_ | refine oNq (by omega) ?_
   conv => whnf
   exact ⟨o + 1, [], (by show O - (o + 1) < O - o; omega), hlt, ⟨q2r, q2r, q2r, q2r, q2r, q2r, q2r, ⟨ownE rfl (by rw [hje, Nat.add_mul, Nat.one_mul]), rfl⟩, q2r, ⟨valI eO, rfl⟩, trivial⟩, ⟨q3r, q3r, ⟨rfl, .inl ⟨celE (by rw [hje, Nat.add_mul, Nat.one_mul]), irows_noid _ _⟩⟩, trivial⟩, rfl⟩
 ·have hoe : o = O := by omega
  subst hoe
  have e1 : Y.take (o * I) = Y := List.take_of_length_le (by omega)
  rw [e1]
  conv => whnf
  first | refine oTq (by omega) ?_ | refine oFq (by omega) ?_ | refine oEq (by omega) ?_ | refine oNq (by omega) ?_
  conv => whnf
  refine ⟨_, hWo, ?_⟩
  conv => whnf
  refine ⟨by show 0 + o * I ≤ _; omega, _, hP, ?_⟩
  conv => whnf
  refine ⟨by kernel_rfl, ?_⟩
  repeat ((conv => whnf); (first | refine ⟨_, ‹_›, ?_⟩ | refine ⟨nbq rfl, _, ‹_›, ?_⟩ | refine ⟨by kernel_rfl, ?_⟩ | exact rfl | exact ⟨nbq rfl, rfl⟩ | refine ⟨by decide, ?_⟩))
end
section
def resF (sh : List Int) (ch : Bool) (tx : List Int) (na : List (Option (Rat × Nat))) (E : Int) : AV := if E = 0 then .tup [AA sh ch tx na true, .val (.int .i64 0)] else .tup [AA [] false [] [] false, .val (.int .i64 E)]
theorem resF_noid (sh : List Int) (ch : Bool) (tx : List Int) (na : List (Option (Rat × Nat))) (E : Int) : NoId (resF sh ch tx na E) := by
 unfold resF
 split
 ·exact .tup _ (noid2 (AA_noid _ _ _ _ _) (.val _))
 ·exact .tup _ (noid2 (AA_noid _ _ _ _ _) (.val _))
def StF (c most : Int) (rest : List Int) (ch : Bool) (tx : List Int) (qs : List Rat) (t n I R i : Nat) (x : Bool × List Int × List (Option (Rat × Nat))) : Prop :=
 x.1 = (ch && decide (i + 1 = t)) ∧ kinds rest x.1 x.2.1.length x.2.2.length ∧ (∀ o ∈ x.2.2, okX o) ∧ (∀ q ∈ x.2.2.map valX, Sz q 20) ∧ ∀ r, r < R → elA x.1 x.2.1 (x.2.2.map valX) r = (foldE c most ((lineE ch tx qs t n I r).drop i)).1
def slabX (ch : Bool) (tx : List Int) (na : List (Option (Rat × Nat))) (n I R i : Nat) : Bool × List Int × List (Option (Rat × Nat)) :=
 (ch, if ch then (slabL n I R i).map (getT tx) else [], if ch then [] else (slabL n I R i).map (getX na))
theorem getX_map (na : List (Option (Rat × Nat))) (L : List Int) : (L.map (getX na)).map valX = L.map (getQ (na.map valX)) := by
 rw [List.map_map]
 exact List.map_congr_left fun k _ => getX_val na k
theorem ifnil {c : Bool} {α β : Type} (f : List α → List β) (hf : f [] = []) (l : List α) : f (if c then [] else l) = if c then [] else f l := by
 cases c <;> simp [hf]
theorem slab_el (ch : Bool) (tx : List Int) (na : List (Option (Rat × Nat))) (qs : List Rat) (na1 : na.map valX = qs) (n I O : Nat) (k1 : ch = true → na = [] ∧ tx.length = O * (n * I)) (k2 : ch = false → tx = [] ∧ na.length = O * (n * I)) (i : Nat) (hi : i < n) (r : Nat) (hrr : r < O * I) : elA ch (slabX ch tx na n I (O * I) i).2.1 ((slabX ch tx na n I (O * I) i).2.2.map valX) r = elA ch tx qs ((r / I * n + i) * I + r % I) := by
 have e : (slabX ch tx na n I (O * I) i).2.2.map valX = if ch then [] else (slabL n I (O * I) i).map (getQ qs) := by
  unfold slabX
  show List.map valX (if ch then [] else (slabL n I (O * I) i).map (getX na)) = _
  rw [ifnil (List.map valX) rfl, getX_map, na1]
 rw [e]
 unfold slabX
 refine el_slab hrr (fun h => ?_) (fun h => (k2 h).1)
 obtain ⟨g1, g2⟩ := k1 h
 have := place_lt (n := n) hrr hi
 exact ⟨by rw [← na1, g1]; rfl, by omega⟩
section
variable (c most : Int) (hc : isTwo c) (hm : most ≤ 200) (ch : Bool) (tx : List Int) (na : List (Option (Rat × Nat))) (qs : List Rat) (na1 : na.map valX = qs) (oa : ∀ o ∈ na, okX o) (hQ : ∀ q ∈ qs, Sz q 20) (rest : List Int) (hr : vS rest) (n I O : Nat)
 (hR : pr rest = O * I) (h5 : O * I ≤ 500) (k1 : ch = true → na = [] ∧ tx.length = O * (n * I)) (k2 : ch = false → tx = [] ∧ na.length = O * (n * I))
include na1 oa hQ hr hR k1 k2
theorem slab_kinds (i : Nat) : kinds rest ch (slabX ch tx na n I (O * I) i).2.1.length (slabX ch tx na n I (O * I) i).2.2.length ∧ (∀ o ∈ (slabX ch tx na n I (O * I) i).2.2, okX o) ∧ ∀ q ∈ (slabX ch tx na n I (O * I) i).2.2.map valX, Sz q 20 := by
 have hcn := (vS_pr hr).1
 rw [hR] at hcn
 unfold slabX
 cases ch
 ·refine ⟨?_, ?_, ?_⟩
  ·show ((((slabL n I (O * I) i).map (getX na)).length : Nat) : Int) = cntI rest ∧ (0 = 0)
   rw [List.length_map, slabL_len, hcn]
   exact q2r
  ·intro o ho
   have ho : o ∈ (slabL n I (O * I) i).map (getX na) := ho
   obtain ⟨k, _, rfl⟩ := List.mem_map.1 ho
   exact getX_ok oa k
  ·intro q hq
   have hq : q ∈ ((slabL n I (O * I) i).map (getX na)).map valX := hq
   rw [getX_map, na1] at hq
   obtain ⟨k, _, rfl⟩ := List.mem_map.1 hq
   unfold getQ
   split
   ·exact getD_sz (by decide) hQ _
   ·exact Sz_zero.mono (by decide)
 ·refine ⟨?_, (fun o ho => nomatch ho), (fun q hq => nomatch hq)⟩
  show ((((slabL n I (O * I) i).map (getT tx)).length : Nat) : Int) = cntI rest ∧ (0 = 0)
  rw [List.length_map, slabL_len, hcn]
  exact q2r
theorem StF_base (t : Nat) (h0 : 0 < t) (ht : t ≤ n) : StF c most rest ch tx qs t n I (O * I) (t - 1) (slabX ch tx na n I (O * I) (t - 1)) := by
 obtain ⟨g1, g2, g3⟩ := slab_kinds ch tx na qs na1 oa hQ rest hr n I O hR k1 k2 (t - 1)
 refine ⟨?_, g1, g2, g3, fun r hrr => ?_⟩
 ·show ch = _
  rw [decide_eq_true (by omega), Bool.and_true]
 ·rw [lineE_last _ _ _ _ _ _ _ _ _ h0]
  exact slab_el ch tx na qs na1 n I O k1 k2 (t - 1) (by omega) r hrr
include hc hm h5
theorem StF_step (t : Nat) (ht : t ≤ n) (hb : ∀ i r, r < O * I → (pairE c most (elA ch tx qs ((r / I * n + i) * I + r % I)) (foldE c most ((lineE ch tx qs t n I r).drop (i + 1))).1).2 = 0 → Sz (pairE c most (elA ch tx qs ((r / I * n + i) * I + r % I)) (foldE c most ((lineE ch tx qs t n I r).drop (i + 1))).1).1 20) (i : Nat) (hi : i + 1 < t) (x : Bool × List Int × List (Option (Rat × Nat))) (hx : StF c most rest ch tx qs t n I (O * I) (i + 1) x) (hz : rowsE c most (rowsL ch tx qs t n I (O * I)) (i + 1) = 0) :
  ∃ l : List (Option (Rat × Nat)), (rowsE c most (rowsL ch tx qs t n I (O * I)) i = 0 → StF c most rest ch tx qs t n I (O * I) i (false, [], l)) ∧
   AC Tryz.prog 87 [.val (.int .i32 c), AA rest ch (slabX ch tx na n I (O * I) i).2.1 (slabX ch tx na n I (O * I) i).2.2 true, AA rest x.1 x.2.1 x.2.2 true, .val (.int .i64 most)] (.pure (resA rest (rowsE c most (rowsL ch tx qs t n I (O * I)) i) l)) := by
 obtain ⟨x1, x2, x3, x4, x5⟩ := hx
 obtain ⟨g1, g2, g3⟩ := slab_kinds ch tx na qs na1 oa hQ rest hr n I O hR k1 k2 i
 have hel := slab_el ch tx na qs na1 n I O k1 k2 i (by omega)
 obtain ⟨hs1, hs2⟩ := rows_step c most ch tx qs t n I (O * I) i hi hz
 generalize slabX ch tx na n I (O * I) i = y at *
 obtain ⟨_, ty, ny⟩ := y
 obtain ⟨cb, tb, nb⟩ := x
 have hcn := (vS_pr hr).1
 have la := (kinds_len g1).1
 have lb := (kinds_len x2).1
 rw [hcn, hR] at la lb
 have la' : ty.length + ny.length = O * I := by
  have la : ((ty.length + ny.length : Nat) : Int) = ((O * I : Nat) : Int) := la
  omega
 have lb' : tb.length + nb.length = O * I := by
  have lb : ((tb.length + nb.length : Nat) : Int) = ((O * I : Nat) : Int) := lb
  omega
 have hT := PTwoN_ok c rest rest ch cb ty tb ny nb g2 x3 (ny.map valX) (nb.map valX) rfl rfl most (by omega) hr hr (by rw [List.length_map]; exact g1) (by rw [List.length_map]; exact x2) (by omega) (by omega) (by rw [List.length_map]; omega) (by rw [List.length_map]; omega) g3 x4
 have fit : fitS rest rest (ty.length + (ny.map valX).length) (tb.length + (nb.map valX).length) = (rest, false, false, 0) := if_pos rfl
 have hE : twoE c rest rest ch cb ty tb (ny.map valX) (nb.map valX) most = rowsE c most (rowsL ch tx qs t n I (O * I)) i := by
  unfold twoE
  rw [if_pos hc, fit, if_neg (fun h => h rfl), hs1]
  show firstE ((List.range (cntI rest).toNat).map _) = _
  rw [hcn, hR, Int.toNat_natCast]
  congr 1
  refine List.map_congr_left fun r hrr => ?_
  have hrr := List.mem_range.1 hrr
  rw [← x5 r hrr, ← hel r hrr]
  rfl
 have hV : twoV c rest rest ch cb ty tb (ny.map valX) (nb.map valX) most = (List.range (O * I)).map fun r => (pairE c most (elA ch tx qs ((r / I * n + i) * I + r % I)) (foldE c most ((lineE ch tx qs t n I r).drop (i + 1))).1).1 := by
  unfold twoV
  rw [fit]
  show (List.range (cntI rest).toNat).map _ = _
  rw [hcn, hR, Int.toNat_natCast]
  refine List.map_congr_left fun r hrr => ?_
  have hrr := List.mem_range.1 hrr
  rw [← x5 r hrr, ← hel r hrr]
  rfl
 obtain ⟨l, w1, w2, w3, w4⟩ := hT
 rw [fit, hE] at w4
 rw [hE, hV] at w1
 refine ⟨l, fun h0 => ?_, w4⟩
 have w1 := w1 h0
 have ll : l.length = O * I := by
  have := congrArg List.length w1
  rw [List.length_map, List.length_map, List.length_range] at this
  exact this
 have hs2 := hs2 h0
 refine ⟨?_, ?_, w2, ?_, fun r hrr => ?_⟩
 ·show false = _
  rw [decide_eq_false (by omega), Bool.and_false]
 ·show ((l.length : Nat) : Int) = cntI rest ∧ (0 = 0)
  rw [hcn, hR, ll]
  exact q2r
 ·intro q hq
  have hq : q ∈ l.map valX := hq
  rw [w1] at hq
  obtain ⟨r, hrr, rfl⟩ := List.mem_map.1 hq
  have hrr := List.mem_range.1 hrr
  refine hb i r hrr ?_
  have := hs1
  rw [h0] at this
  have h2 := fst0_zero ((firstE_fst0 _).symm.trans this.symm) _ (List.mem_map.2 ⟨_, List.mem_map.2 ⟨r, List.mem_range.2 hrr, rfl⟩, rfl⟩)
  exact h2
 ·rw [hs2 r hrr]
  show elA false [] (l.map valX) r = _
  rw [w1]
  have hg : ((List.range (O * I)).map fun r => (pairE c most (elA ch tx qs ((r / I * n + i) * I + r % I)) (foldE c most ((lineE ch tx qs t n I r).drop (i + 1))).1).1).getD r 0 = (pairE c most (elA ch tx qs ((r / I * n + i) * I + r % I)) (foldE c most ((lineE ch tx qs t n I r).drop (i + 1))).1).1 := by
   rw [List.getD_eq_getElem?_getD, List.getElem?_map, List.getElem?_range hrr]; rfl
  unfold elA numE at *
  rw [hg]
  rfl
theorem StF_chain (t : Nat) (h0 : 0 < t) (ht : t ≤ n) (hb : ∀ i r, r < O * I → (pairE c most (elA ch tx qs ((r / I * n + i) * I + r % I)) (foldE c most ((lineE ch tx qs t n I r).drop (i + 1))).1).2 = 0 → Sz (pairE c most (elA ch tx qs ((r / I * n + i) * I + r % I)) (foldE c most ((lineE ch tx qs t n I r).drop (i + 1))).1).1 20) : ∀ m, m < t → ∃ f : Nat → Bool × List Int × List (Option (Rat × Nat)), f (t - 1) = slabX ch tx na n I (O * I) (t - 1) ∧
  (∀ i, t - 1 - m ≤ i → i < t → (∀ j, i ≤ j → j < t → rowsE c most (rowsL ch tx qs t n I (O * I)) j = 0) → StF c most rest ch tx qs t n I (O * I) i (f i)) ∧
  (∀ i, t - 1 - m ≤ i → i + 1 < t → (∀ j, i < j → j < t → rowsE c most (rowsL ch tx qs t n I (O * I)) j = 0) → (f i).1 = false ∧ (f i).2.1 = [] ∧
   AC Tryz.prog 87 [.val (.int .i32 c), AA rest ch (slabX ch tx na n I (O * I) i).2.1 (slabX ch tx na n I (O * I) i).2.2 true, AA rest (f (i + 1)).1 (f (i + 1)).2.1 (f (i + 1)).2.2 true, .val (.int .i64 most)] (.pure (resA rest (rowsE c most (rowsL ch tx qs t n I (O * I)) i) (f i).2.2))) := by
 intro m
 induction m with
 | zero =>
  intro hmn
  refine ⟨fun _ => slabX ch tx na n I (O * I) (t - 1), rfl, fun i h1 h2 _ => ?_, fun i h1 h2 => absurd h2 (by omega)⟩
  have : i = t - 1 := by omega
  subst this
  exact StF_base c most ch tx na qs na1 oa hQ rest hr n I O hR k1 k2 t h0 ht
 | succ m ih =>
  intro hmn
  obtain ⟨f, f1, f2, f3⟩ := ih (by omega)
  obtain ⟨i0, hi0⟩ : ∃ i0, i0 = t - 1 - (m + 1) := ⟨_, rfl⟩
  by_cases hz : ∀ j, i0 < j → j < t → rowsE c most (rowsL ch tx qs t n I (O * I)) j = 0
  ·have hS := f2 (i0 + 1) (by omega) (by omega) (fun j h1 h2 => hz j (by omega) h2)
   obtain ⟨l, w1, w2⟩ := StF_step c most hc hm ch tx na qs na1 oa hQ rest hr n I O hR h5 k1 k2 t ht hb i0 (by omega) (f (i0 + 1)) hS (hz (i0 + 1) (by omega) (by omega))
   refine ⟨fun i => if i = i0 then (false, [], l) else f i, ?_, fun i h1 h2 h3 => ?_, fun i h1 h2 h3 => ?_⟩
   ·show (if t - 1 = i0 then _ else _) = _
    rw [if_neg (by omega)]; exact f1
   ·by_cases hii : i = i0
    ·subst hii
     show StF _ _ _ _ _ _ _ _ _ _ _ (if i = i then _ else _)
     rw [if_pos rfl]
     exact w1 (h3 i (Nat.le_refl _) h2)
    ·show StF _ _ _ _ _ _ _ _ _ _ _ (if i = i0 then _ else _)
     rw [if_neg hii]
     exact f2 i (by omega) h2 h3
   ·by_cases hii : i = i0
    ·subst hii
     show (if i = i then _ else _ : Bool × List Int × List (Option (Rat × Nat))).1 = false ∧ (if i = i then _ else _ : Bool × List Int × List (Option (Rat × Nat))).2.1 = [] ∧ AC Tryz.prog 87 [_, _, AA rest (if i + 1 = i then _ else _ : Bool × List Int × List (Option (Rat × Nat))).1 (if i + 1 = i then _ else _ : Bool × List Int × List (Option (Rat × Nat))).2.1 (if i + 1 = i then _ else _ : Bool × List Int × List (Option (Rat × Nat))).2.2 true, _] (.pure (resA rest _ (if i = i then _ else _ : Bool × List Int × List (Option (Rat × Nat))).2.2))
     rw [if_pos rfl, if_neg (by omega)]
     exact ⟨rfl, rfl, w2⟩
    ·show (if i = i0 then _ else _ : Bool × List Int × List (Option (Rat × Nat))).1 = false ∧ (if i = i0 then _ else _ : Bool × List Int × List (Option (Rat × Nat))).2.1 = [] ∧ AC Tryz.prog 87 [_, _, AA rest (if i + 1 = i0 then _ else _ : Bool × List Int × List (Option (Rat × Nat))).1 (if i + 1 = i0 then _ else _ : Bool × List Int × List (Option (Rat × Nat))).2.1 (if i + 1 = i0 then _ else _ : Bool × List Int × List (Option (Rat × Nat))).2.2 true, _] (.pure (resA rest _ (if i = i0 then _ else _ : Bool × List Int × List (Option (Rat × Nat))).2.2))
     rw [if_neg hii, if_neg (by omega)]
     exact f3 i (by omega) h2 h3
  ·refine ⟨f, f1, fun i h1 h2 h3 => ?_, fun i h1 h2 h3 => ?_⟩
   ·by_cases hii : i = i0
    ·exact absurd (fun j h4 h5 => h3 j (by omega) h5) hz
    ·exact f2 i (by omega) h2 h3
   ·by_cases hii : i = i0
    ·subst hii; exact absurd h3 hz
    ·exact f3 i (by omega) h2 h3
end
end
section
theorem AZf_noid (e : Int) : NoId (.tup [AZ, .val (.int .i64 e)]) := .tup _ (noid2 AZ_noid (.val _))
theorem kinds_axis {s : List Int} {k : Nat} {c : Bool} {a b : Nat} {n : Nat} (hv : vS s) (hp : pr s = pr (s.take k) * (n * pr (s.drop (k + 1)))) (h : kinds s c a b) :
  (c = true → b = 0 ∧ a = pr (s.take k) * (n * pr (s.drop (k + 1)))) ∧ (c = false → a = 0 ∧ b = pr (s.take k) * (n * pr (s.drop (k + 1)))) := by
 obtain ⟨h1, h2⟩ := kinds_c hv h
 rw [hp] at h1 h2
 exact ⟨fun h => ⟨(h1 h).2, (h1 h).1⟩, fun h => ⟨(h2 h).2, (h2 h).1⟩⟩
theorem run_any (c most : Int) (hc : isTwo c) (hm : most ≤ 200) (s : List Int) (k : Nat) (ch : Bool) (tx : List Int) (na : List (Option (Rat × Nat))) (qs : List Rat) (na1 : na.map valX = qs) (oa : ∀ o ∈ na, okX o) (hQ : ∀ q ∈ qs, Sz q 20)
  (hk : k < s.length) (hv : vS s) (ka : kinds s ch tx.length na.length) (n : Nat) (hn : s[k] = (n : Int)) (t : Nat) (h0 : 0 < t) (ht : t ≤ n) (hb : ∀ i r, r < pr (s.take k) * pr (s.drop (k + 1)) → (pairE c most (elA ch tx qs ((r / pr (s.drop (k + 1)) * n + i) * pr (s.drop (k + 1)) + r % pr (s.drop (k + 1)))) (foldE c most ((lineE ch tx qs t n (pr (s.drop (k + 1))) r).drop (i + 1))).1).2 = 0 → Sz (pairE c most (elA ch tx qs ((r / pr (s.drop (k + 1)) * n + i) * pr (s.drop (k + 1)) + r % pr (s.drop (k + 1)))) (foldE c most ((lineE ch tx qs t n (pr (s.drop (k + 1))) r).drop (i + 1))).1).1 20) (h5 : pr (s.take k) * pr (s.drop (k + 1)) ≤ 500) :
  ∃ x : Bool × List Int × List (Option (Rat × Nat)), (redE c most (rowsL ch tx qs t n (pr (s.drop (k + 1))) (pr (s.take k) * pr (s.drop (k + 1)))) t = 0 → StF c most (s.take k ++ s.drop (k + 1)) ch tx qs t n (pr (s.drop (k + 1))) (pr (s.take k) * pr (s.drop (k + 1))) 0 x) ∧
   AC Tryz.prog 46 [.val (.int .i32 c), AA s ch tx na true, .val (.int .i64 (k : Int)), .val (.int .i64 ((t - 1 : Nat) : Int)), .val (.int .i64 most)]
    (.pure (resF (s.take k ++ s.drop (k + 1)) x.1 x.2.1 x.2.2 (redE c most (rowsL ch tx qs t n (pr (s.drop (k + 1))) (pr (s.take k) * pr (s.drop (k + 1)))) t))) := by
 obtain ⟨n', hn', _, hr, hp, hpr, p4, r4, vu, vv⟩ := axis_split hk hv
 have : n' = n := by rw [hn] at hn'; omega
 subst this
 have ln : n' ≤ 4096 := by have := vS_dim hv (List.getElem_mem hk); omega
 obtain ⟨k1, k2⟩ := kinds_axis hv hp ka
 have hSl := fun i hi => slab_ok s k ch tx na hk hv ka n' hn i hi
 obtain ⟨O, hO⟩ : ∃ O, O = pr (s.take k) := ⟨_, rfl⟩
 obtain ⟨I, hI⟩ : ∃ I, I = pr (s.drop (k + 1)) := ⟨_, rfl⟩
 rw [← hO, ← hI] at hp hpr r4 h5 k1 k2 hSl ⊢
 rw [← hI, ← hO] at hb
 obtain ⟨rest, hrest⟩ : ∃ rest, rest = s.take k ++ s.drop (k + 1) := ⟨_, rfl⟩
 rw [← hrest] at hr hpr hSl ⊢
 have k1 : ch = true → na = [] ∧ tx.length = O * (n' * I) := fun h => ⟨List.length_eq_zero_iff.1 (k1 h).1, (k1 h).2⟩
 have k2 : ch = false → tx = [] ∧ na.length = O * (n' * I) := fun h => ⟨List.length_eq_zero_iff.1 (k2 h).1, (k2 h).2⟩
 obtain ⟨f, f1, f2, f3⟩ := StF_chain c most hc hm ch tx na qs na1 oa hQ rest hr n' I O hpr h5 k1 k2 t h0 ht hb (t - 1) (by omega)
 have hSl : ∀ i, i < n' → AC Tryz.prog 86 [AA s ch tx na true, .val (.int .i64 (k : Int)), .val (.int .i64 (i : Int))] (.pure (AA rest (slabX ch tx na n' I (O * I) i).1 (slabX ch tx na n' I (O * I) i).2.1 (slabX ch tx na n' I (O * I) i).2.2 true)) := hSl
 refine ⟨f 0, fun hz => f2 0 (by omega) h0 (fun j _ hj => ?_), ?_⟩
 ·by_cases hjn : j + 1 < t
  ·refine fst0_zero hz _ (List.mem_map.2 ⟨j, List.mem_reverse.2 (List.mem_range.2 (by omega)), rfl⟩)
  ·have : j = t - 1 := by omega
   subst this
   exact rows_last c most ch tx qs t n' I (O * I) h0
 obtain ⟨E, hE⟩ : ∃ E, E = redE c most (rowsL ch tx qs t n' I (O * I)) t := ⟨_, rfl⟩
 rw [← hE]
 obtain ⟨r', hle, hno, e1, e2⟩ : ∃ r', AVle r' (resF rest (f 0).1 (f 0).2.1 (f 0).2.2 E) ∧ NoId r' ∧ (E = 0 → r' = .tup [AA rest (f 0).1 (f 0).2.1 (f 0).2.2 true, .val (.int .i64 0)]) ∧ (E ≠ 0 → r' = .tup [AZ, .val (.int .i64 E)]) := by
  unfold resF
  by_cases h : E = 0
  ·rw [if_pos h]
   exact ⟨_, .refl _, .tup _ (noid2 (AA_noid _ _ _ _ _) (.val _)), fun _ => rfl, fun h' => absurd h h'⟩
  ·rw [if_neg h]
   exact ⟨_, .tup2 AZ_le (.refl _), AZf_noid _, fun h' => absurd h' h, fun _ => rfl⟩
 refine AC.le_res (?_ : AC Tryz.prog 46 _ (.pure r')) hle (resF_noid _ _ _ _ _)
 have hlast := hSl (t - 1) (by omega)
 rw [← f1] at hlast
 refine AC.of_body TTok Tryz.func46 rfl (enter_of Tryz.func46 (by kernel_rfl) (by kernel_rfl)) (noid5 (.val _) (AA_noid _ _ _ _ _) (.val _) (.val _) (.val _)) hno (nbq rfl) ?_
 unfold AA AZ at *
 conv => whnf
 refine ⟨_, hlast, ?_⟩
 conv => whnf
 refine SW.loopM TTok (fun x : Nat => [(0, .val (.int .i32 c)), (2, .val (.int .i64 (k : Int))), (4, .val (.int .i64 most)), (6, .lp 0 0), (10, .lp 8 0), (11, .val (.int .i64 0)), (12, .lp 56 0), (13, .val (.int .i64 ((x : Int) - 1)))])
  (fun x => [(0, .cells 5 [[.sl 1 (irows .i64 s) false, .val (.bool ch), .sl 1 (irows .i32 tx) false, .sl 3 (na.map rowX) false, .val (.bool true)]]), (8, .cells 5 [[.sl 0 [] true, .val (.bool false), .sl 0 [] true, .sl 0 [] true, .val (.bool false)]]), (56, .cells 5 [[.sl 1 (irows .i64 rest) false, .val (.bool (f x).1), .sl 1 (irows .i32 (f x).2.1) false, .sl 3 ((f x).2.2.map rowX) false, .val (.bool true)]])]) 96 43 rfl (fun x => x) (fun x => x ≤ t - 1 ∧ ∀ j, x ≤ j → j < t → rowsE c most (rowsL ch tx qs t n' I (O * I)) j = 0) (t - 1) [] ⟨Nat.le_refl _, fun j h1 h2 => by
   have : j = t - 1 := by omega
   subst this
   exact rows_last c most ch tx qs t n' I (O * I) h0⟩
  ⟨q2r, q2r, q2r, q2r, q2r, q2r, q2r, ⟨valI (IntWalk.i64_in _ (by omega)), rfl⟩, trivial⟩ ⟨q3r, q3r, q3r, trivial⟩ rfl ?_
 intro x hJ
 have hx : x ≤ t - 1 := hJ.1
 have hz : ∀ j, x ≤ j → j < t → rowsE c most (rowsL ch tx qs t n' I (O * I)) j = 0 := hJ.2
 clear hJ
 cases x with
 | zero =>
  have hE0 : E = 0 := by
   rw [hE]; exact redE_zero _ _ _ _ (fun j hj => hz j (Nat.zero_le _) (by omega))
  rw [e1 hE0]
  repeat ((conv => whnf); (first | refine ⟨_, ‹_›, ?_⟩ | refine ⟨nbq rfl, _, ‹_›, ?_⟩ | refine ⟨by kernel_rfl, ?_⟩ | exact rfl | exact ⟨nbq rfl, rfl⟩ | refine ⟨by decide, ?_⟩))
 | succ i =>
  have eI : ((i + 1 : Nat) : Int) - 1 = (i : Int) := by omega
  have hS := hSl i (by omega)
  obtain ⟨g1, g2, g3⟩ := f3 i (by omega) (by omega) (fun j h1 h2 => hz j (by omega) h2)
  rw [← eI] at hS
  have eJ : IntKind.i64.wrap (((i + 1 : Nat) : Int) - 1 - 1) = (i : Int) - 1 := by rw [IntWalk.i64_in _ (by omega)]; omega
  have hS : AC Tryz.prog 86 [AA s ch tx na true, .val (.int .i64 (k : Int)), .val (.int .i64 (((i + 1 : Nat) : Int) - 1))] (.pure (AA rest ch (slabX ch tx na n' I (O * I) i).2.1 (slabX ch tx na n' I (O * I) i).2.2 true)) := hS
  generalize slabX ch tx na n' I (O * I) i = y at hS g3
  obtain ⟨_, ty, ny⟩ := y
  have hS : AC Tryz.prog 86 [AA s ch tx na true, .val (.int .i64 (k : Int)), .val (.int .i64 (((i + 1 : Nat) : Int) - 1))] (.pure (AA rest ch ty ny true)) := hS
  have g3 : AC Tryz.prog 87 [.val (.int .i32 c), AA rest ch ty ny true, AA rest (f (i + 1)).1 (f (i + 1)).2.1 (f (i + 1)).2.2 true, .val (.int .i64 most)] (.pure (resA rest (rowsE c most (rowsL ch tx qs t n' I (O * I)) i) (f i).2.2)) := g3
  unfold AA at hS
  unfold resA AA at g3
  by_cases he : rowsE c most (rowsL ch tx qs t n' I (O * I)) i = 0
  ·rw [if_pos he] at g3
   conv => whnf
   first | refine oTq (by omega) ?_ | refine oFq (by omega) ?_ | refine oEq (by omega) ?_ | refine oNq (by omega) ?_
   conv => whnf
   refine ⟨_, hS, ?_⟩
   conv => whnf
   refine ⟨_, g3, ?_⟩
   conv => whnf
   refine ⟨by kernel_rfl, ?_⟩
   conv => whnf
   refine ⟨i, [], Nat.lt_succ_self _, ⟨by omega, fun j h1 h2 => ?_⟩, ⟨q2r, q2r, q2r, q2r, q2r, q2r, q2r, ⟨valI eJ, rfl⟩, trivial⟩, ⟨q3r, q3r, ⟨rfl, .inr ⟨celE ?_, rfl⟩⟩, trivial⟩, rfl⟩
   ·by_cases hji : j = i
    ·rw [hji]; exact he
    ·exact hz j (by omega) h2
   ·rw [g1, g2]; rfl
  ·rw [if_neg he] at g3
   have hE1 : E = rowsE c most (rowsL ch tx qs t n' I (O * I)) i := by
    rw [hE]; exact redE_from _ _ _ _ _ (by omega) (fun j h1 h2 => hz j (by omega) h2) he
   rw [e2 (by rw [hE1]; exact he), hE1]
   generalize rowsE c most (rowsL ch tx qs t n' I (O * I)) i = e at *
   conv => whnf
   first | refine oTq (by omega) ?_ | refine oFq (by omega) ?_ | refine oEq (by omega) ?_ | refine oNq (by omega) ?_
   conv => whnf
   refine ⟨_, hS, ?_⟩
   conv => whnf
   refine ⟨_, g3, ?_⟩
   conv => whnf
   refine ⟨by kernel_rfl, ?_⟩
   conv => whnf
   first | refine nTq (by omega) ?_ | refine nFq (by omega) ?_
   repeat ((conv => whnf); (first | refine ⟨_, ‹_›, ?_⟩ | refine ⟨nbq rfl, _, ‹_›, ?_⟩ | refine ⟨by kernel_rfl, ?_⟩ | exact rfl | exact ⟨nbq rfl, rfl⟩ | refine ⟨by decide, ?_⟩))
theorem run_ok (c most : Int) (hc : isTwo c) (hm : most ≤ 20) (s : List Int) (k : Nat) (ch : Bool) (tx : List Int) (na : List (Option (Rat × Nat))) (qs : List Rat) (na1 : na.map valX = qs) (oa : ∀ o ∈ na, okX o) (hQ : ∀ q ∈ qs, Sz q 20)
  (hk : k < s.length) (hv : vS s) (ka : kinds s ch tx.length na.length) (n : Nat) (hn : s[k] = (n : Int)) (t : Nat) (h0 : 0 < t) (ht : t ≤ n) (h5 : pr (s.take k) * pr (s.drop (k + 1)) ≤ 500) :
  ∃ x : Bool × List Int × List (Option (Rat × Nat)), (redE c most (rowsL ch tx qs t n (pr (s.drop (k + 1))) (pr (s.take k) * pr (s.drop (k + 1)))) t = 0 → StF c most (s.take k ++ s.drop (k + 1)) ch tx qs t n (pr (s.drop (k + 1))) (pr (s.take k) * pr (s.drop (k + 1))) 0 x) ∧
   AC Tryz.prog 46 [.val (.int .i32 c), AA s ch tx na true, .val (.int .i64 (k : Int)), .val (.int .i64 ((t - 1 : Nat) : Int)), .val (.int .i64 most)]
    (.pure (resF (s.take k ++ s.drop (k + 1)) x.1 x.2.1 x.2.2 (redE c most (rowsL ch tx qs t n (pr (s.drop (k + 1))) (pr (s.take k) * pr (s.drop (k + 1)))) t))) :=
 run_any c most hc (by omega) s k ch tx na qs na1 oa hQ hk hv ka n hn t h0 ht (fun _ _ _ h => pair_szm hm h) h5
end
section
theorem AWhole_ok (sh : List Int) (l : List Int) (hl : l.length ≤ 1000) (hI : ∀ n ∈ l, i64b n) : AC Tryz.prog 102 [AA sh false [] (l.map intX) true] (.pure (.tup [.sl 1 (irows .i64 l) false, .val (.bool true)])) := by
 refine AC.of_body TTok Tryz.func102 rfl (enter_of Tryz.func102 (by kernel_rfl) (by kernel_rfl)) (noid1 (AA_noid _ _ _ _ _)) (.tup _ (noid2 (noid_sl _ _ _) (.val _))) (nbq rfl) ?_
 unfold AA
 have lm : ((l.map intX).map rowX).length = l.length := by rw [List.length_map, List.length_map]
 conv => whnf
 refine SW.nil 4 1 rfl ?_
 refine SW.loopM TTok (fun i : Nat => [(1, .lp 0 0), (4, .own 120 0 i), (17, .sl 3 ((l.map intX).map rowX) false), (18, .val (.int .i64 (((l.map intX).map rowX).length : Nat))), (19, .val (.int .i64 (i : Int)))])
  (fun i => [(0, .cells 5 [[.sl 1 (irows .i64 sh) false, .val (.bool false), .sl 1 (irows .i32 []) false, .sl 3 ((l.map intX).map rowX) false, .val (.bool true)]]), (120, .cells 1 (irows .i64 (l.take i)))]) 128 36 rfl (fun i => l.length - i) (fun i => i ≤ l.length) 0 [] (Nat.zero_le _)
  ⟨q2r, q2r, q2r, q2r, q2r, trivial⟩ ⟨q3r, q3r, trivial⟩ rfl ?_
 intro i hJ
 have hi : i ≤ l.length := hJ
 clear hJ
 have lr : (irows .i64 (l.take i)).length = i := by rw [irows_len, List.length_take]; omega
 by_cases hlt : i < l.length
 ·have eI : IntKind.i64.wrap ((i : Int) + 1) = ((i + 1 : Nat) : Int) := by rw [IntWalk.i64_in _ (by omega)]; omega
  have hsn : irows .i64 (l.take i) ++ [[.val (.int .i64 l[i])]] = irows .i64 (l.take (i + 1)) := by
   rw [take_snoc hlt, ← irows_append]; rfl
  have htk : List.take i (List.drop 0 (irows .i64 (l.take i))) = irows .i64 (l.take i) := by rw [List.drop_zero, List.take_of_length_le (by omega)]
  obtain ⟨b1, b2⟩ := hI l[i] (List.getElem_mem hlt)
  have hg : ((l.map intX).map rowX)[i]? = some (rowX (intX l[i])) := by rw [List.getElem?_map, List.getElem?_map, List.getElem?_eq_getElem hlt]; rfl
  rw [intX_row] at hg
  obtain ⟨n, hn⟩ : ∃ n, n = l[i] := ⟨_, rfl⟩
  rw [← hn] at hg hsn b1 b2
  have hR := RInt_ok n 1
  have hf : fitQ n (dn 1) := ⟨rfl, by unfold fit; omega⟩
  rw [if_pos hf, decide_eq_true hf] at hR
  unfold RA at hR
  conv => whnf
  first | refine oTq (by omega) ?_ | refine oFq (by omega) ?_ | refine oEq (by omega) ?_ | refine oNq (by omega) ?_
  conv => whnf
  refine ⟨_, ⟨by omega, by rw [Int.toNat_natCast]; exact hg⟩, ?_⟩
  conv => whnf
  refine ⟨_, hR, ?_⟩
  conv => whnf
  refine ⟨⟨by show 0 + i ≤ _; omega, by show (i + 1) * 8 ≤ 140737488355328; omega, nbq rfl⟩, ?_⟩
  conv => whnf
  refine ⟨i + 1, [(120, 264)], (by show l.length - (i + 1) < l.length - i; omega), hlt, ⟨q2r, q2r, q2r, q2r, ⟨valI eI, rfl⟩, trivial⟩, ⟨q3r, ⟨rfl, .inl ⟨celE ?_, irows_noid _ _⟩⟩, trivial⟩, rfl⟩
  rw [← hsn]
  show List.take i (List.drop 0 (irows .i64 (l.take i))) ++ [_] = _
  rw [htk]
  rfl
 ·have hie : i = l.length := by omega
  have e1 : l.take i = l := List.take_of_length_le (by omega)
  rw [e1] at lr ⊢
  subst hie
  conv => whnf
  first | refine oTq (by omega) ?_ | refine oFq (by omega) ?_ | refine oEq (by omega) ?_ | refine oNq (by omega) ?_
  conv => whnf
  refine ⟨by show 0 + l.length ≤ _; omega, ?_⟩
  show AV.tup [AV.sl 1 (List.take l.length (List.drop 0 (irows .i64 l))) false, _] = _
  rw [List.drop_zero, List.take_of_length_le (by omega)]
  rfl
section
variable (s : List Int) (ch : Bool) (tx : List Int) (na : List (Option (Rat × Nat))) (axis : Int)
def isAx (len : Nat) (axis : Int) (k : Nat) : Prop := k < len ∧ (axis = (k : Int) ∨ axis < 0 ∧ k + 1 = len)
theorem Axis_ok (k : Nat) (h : isAx s.length axis k) (h8 : s.length ≤ 1000) : AC Tryz.prog 45 [AA s ch tx na true, .val (.int .i64 axis)] (.pure (.tup [.val (.int .i64 (k : Int)), .val (.bool true)])) := by
 obtain ⟨hk, h⟩ := h
 have hR := Rank_ok s ch tx na (by omega)
 refine AC.of_body TTok Tryz.func45 rfl (enter_of Tryz.func45 (by kernel_rfl) (by kernel_rfl)) (noid2 (AA_noid _ _ _ _ _) (.val _)) (.tup _ (noid2 (.val _) (.val _))) (nbq rfl) ?_
 unfold AA at *
 by_cases h0 : axis < 0
 ·have e : IntKind.i64.wrap ((s.length : Int) - 1) = (k : Int) := by rw [IntWalk.i64_in _ (by omega)]; omega
  rw [← e]
  have t1 : decide (IntKind.i64.wrap ((s.length : Int) - 1) ≥ 0) = true := decide_eq_true (by rw [e]; omega)
  have t2 : decide (IntKind.i64.wrap ((s.length : Int) - 1) < ((s.length : Nat) : Int)) = true := decide_eq_true (by rw [e]; omega)
  conv => whnf
  first | refine oTq (by omega) ?_ | refine oFq (by omega) ?_ | refine oEq (by omega) ?_ | refine oNq (by omega) ?_
  conv => whnf
  refine ⟨_, hR, ?_⟩
  conv => whnf
  refine cTq (t1) ?_
  conv => whnf
  refine ⟨_, hR, ?_⟩
  conv => whnf
  rw [t2]
  rfl
 ·have e : axis = (k : Int) := by omega
  subst e
  have t2 : decide ((k : Int) < ((s.length : Nat) : Int)) = true := decide_eq_true (by omega)
  conv => whnf
  refine ⟨_, hR, ?_⟩
  conv => whnf
  rw [t2]
  rfl
end
theorem rep_set (n i : Nat) (x : List AV) : (List.replicate n x).set i x = List.replicate n x := by
 refine List.ext_getElem? fun j => ?_
 rw [List.getElem?_set]
 by_cases h : i = j
 ·rw [if_pos h, List.length_replicate]
  subst h
  by_cases h2 : i < n
  ·rw [if_pos h2, List.getElem?_replicate, if_pos h2]
  ·rw [if_neg h2, List.getElem?_replicate, if_neg h2]
 ·rw [if_neg h]
theorem set_set' (l : List (List AV)) (i : Nat) (x y : List AV) : (l.set i x).set i y = l.set i y := List.set_set ..
theorem irows_rep (n : Nat) : irows .i64 (List.replicate n 0) = List.replicate n [.val (.int .i64 0)] := by unfold irows; rw [List.map_replicate]
end
section
section
variable (c : Int) (s : List Int) (ch : Bool) (tx : List Int) (na : List (Option (Rat × Nat))) (axis most : Int)
theorem red_nd : ∀ x ∈ [AV.val (.int .i32 c), AA s ch tx na true, .val (.int .i64 axis), .val (.int .i64 most)], NoId x := noidF (.val _) (AA_noid _ _ _ _ _) (.val _) (.val _)
theorem Red_err {P : Program} {f : FuncId} {args : List AV} {e : Int} (h : AC P f args (.pure (.tup [AZ, .val (.int .i64 e)]))) : AC P f args (.pure (.tup [AA [] false [] [] false, .val (.int .i64 e)])) :=
 AC.le_res h (.tup2 AZ_le (.refl _)) (.tup _ (noid2 (AA_noid _ _ _ _ _) (.val _)))
theorem Red_not (h : ¬ isTwo c) : AC Tryz.prog 19 [.val (.int .i32 c), AA s ch tx na true, .val (.int .i64 axis), .val (.int .i64 most)] (.pure (.tup [AA [] false [] [] false, .val (.int .i64 20)])) := by
 have hH := Has_ok c
 rw [decide_eq_false h] at hH
 refine Red_err ?_
 refine AC.of_body TTok Tryz.func19 rfl (enter_of Tryz.func19 (by kernel_rfl) (by kernel_rfl)) (red_nd c s ch tx na axis most) (AZf_noid _) (nbq rfl) ?_
 unfold AA AZ
 repeat ((conv => whnf); (first | refine ⟨_, ‹_›, ?_⟩ | refine ⟨nbq rfl, _, ‹_›, ?_⟩ | refine ⟨by kernel_rfl, ?_⟩ | exact rfl | exact ⟨nbq rfl, rfl⟩ | refine ⟨by decide, ?_⟩))
theorem Red_run (h : isTwo c) (k : Nat) (hx : isAx s.length axis k) (hs : s.length ≤ 8) (n : Nat) (hn : s[k]'hx.1 = (n : Int)) (h0 : 0 < n) (hn4 : n ≤ 5000) (sh : List Int) (c' : Bool) (tx' : List Int) (na' : List (Option (Rat × Nat))) (E : Int)
  (hRun : AC Tryz.prog 46 [.val (.int .i32 c), AA s ch tx na true, .val (.int .i64 (k : Int)), .val (.int .i64 ((n - 1 : Nat) : Int)), .val (.int .i64 most)] (.pure (resF sh c' tx' na' E))) :
  AC Tryz.prog 19 [.val (.int .i32 c), AA s ch tx na true, .val (.int .i64 axis), .val (.int .i64 most)] (.pure (resF sh c' tx' na' E)) := by
 have hk := hx.1
 have hH := Has_ok c
 rw [decide_eq_true h] at hH
 have hR := Rank_ok s ch tx na (by omega)
 have hS := Shape_ok s ch tx na (by omega)
 have hA := Axis_ok s ch tx na axis k hx (by omega)
 have lr := irows_len .i64 s
 have hg : (irows .i64 s)[k]? = some [.val (.int .i64 (n : Int))] := by rw [← hn]; exact irows_get .i64 s (List.getElem?_eq_getElem hk)
 have e : IntKind.i64.wrap ((n : Int) - 1) = ((n - 1 : Nat) : Int) := by rw [IntWalk.i64_in _ (by omega)]; omega
 rw [← e] at hRun
 refine AC.of_body TTok Tryz.func19 rfl (enter_of Tryz.func19 (by kernel_rfl) (by kernel_rfl)) (red_nd c s ch tx na axis most) (resF_noid _ _ _ _ _) (nbq rfl) ?_
 unfold resF at *
 by_cases hE : E = 0
 ·rw [if_pos hE] at hRun ⊢
  unfold AA at *
  conv => whnf
  refine ⟨_, hH, ?_⟩
  conv => whnf
  refine ⟨_, hR, ?_⟩
  conv => whnf
  first | refine oTq (by omega) ?_ | refine oFq (by omega) ?_ | refine oEq (by omega) ?_ | refine oNq (by omega) ?_
  conv => whnf
  refine ⟨_, hA, ?_⟩
  conv => whnf
  refine ⟨_, hS, ?_⟩
  conv => whnf
  refine ⟨_, ⟨by omega, by rw [Int.toNat_natCast]; exact hg⟩, ?_⟩
  conv => whnf
  first | refine oTq (by omega) ?_ | refine oFq (by omega) ?_ | refine oEq (by omega) ?_ | refine oNq (by omega) ?_
  conv => whnf
  refine ⟨_, hRun, ?_⟩
  repeat ((conv => whnf); (first | refine ⟨_, ‹_›, ?_⟩ | refine ⟨nbq rfl, _, ‹_›, ?_⟩ | refine ⟨by kernel_rfl, ?_⟩ | exact rfl | exact ⟨nbq rfl, rfl⟩ | refine ⟨by decide, ?_⟩))
 ·rw [if_neg hE] at hRun ⊢
  unfold AA at *
  conv => whnf
  refine ⟨_, hH, ?_⟩
  conv => whnf
  refine ⟨_, hR, ?_⟩
  conv => whnf
  first | refine oTq (by omega) ?_ | refine oFq (by omega) ?_ | refine oEq (by omega) ?_ | refine oNq (by omega) ?_
  conv => whnf
  refine ⟨_, hA, ?_⟩
  conv => whnf
  refine ⟨_, hS, ?_⟩
  conv => whnf
  refine ⟨_, ⟨by omega, by rw [Int.toNat_natCast]; exact hg⟩, ?_⟩
  conv => whnf
  first | refine oTq (by omega) ?_ | refine oFq (by omega) ?_ | refine oEq (by omega) ?_ | refine oNq (by omega) ?_
  conv => whnf
  refine ⟨_, hRun, ?_⟩
  repeat ((conv => whnf); (first | refine ⟨_, ‹_›, ?_⟩ | refine ⟨nbq rfl, _, ‹_›, ?_⟩ | refine ⟨by kernel_rfl, ?_⟩ | exact rfl | exact ⟨nbq rfl, rfl⟩ | refine ⟨by decide, ?_⟩))
end
end
section
theorem Ravel_ok (x : Option (Rat × Nat)) : AC Tryz.prog 60 [AA [] false [] [x] true] (.pure (AA [1] false [] [x] true)) := by
 have hL : AC Tryz.prog 20 [AA [] false [] [x] true] (.pure (.val (.int .i64 1))) := ALen_ok [] false [] [x] true (by decide) (by show 1 ≤ 1000000; omega)
 refine AC.of_body TTok Tryz.func60 rfl (enter_of Tryz.func60 (by kernel_rfl) (by kernel_rfl)) (noid1 (AA_noid _ _ _ _ _)) (AA_noid _ _ _ _ _) (nbq rfl) ?_
 unfold AA at *
 conv => whnf
 refine ⟨_, hL, ?_⟩
 conv => whnf
 exact ⟨Nat.le_refl _, rfl⟩
def prow (x : Option (Rat × Nat)) : List AV := [.sl 1 (irows .i64 []) false, .val (.bool false), .sl 1 (irows .i32 []) false, .sl 3 ([x].map rowX) false, .val (.bool true)]
def zrow : List AV := [.sl 0 [] true, .val (.bool false), .sl 0 [] true, .sl 0 [] true, .val (.bool false)]
theorem prow_noid (x : Option (Rat × Nat)) : ∀ y ∈ prow x, NoId y := noid5 (noid_sl _ _ _) (.val _) (noid_sl _ _ _) (slX_noid _) (.val _)
theorem zrow_noid : ∀ y ∈ zrow, NoId y := noid5 (.sl _ _ _ (fun r hr => nomatch hr)) (.val _) (.sl _ _ _ (fun r hr => nomatch hr)) (.sl _ _ _ (fun r hr => nomatch hr)) (.val _)
theorem prows_noid (xs : List (Option (Rat × Nat))) : ∀ r ∈ xs.map prow, ∀ y ∈ r, NoId y := by
 intro r hr
 obtain ⟨x, _, rfl⟩ := List.mem_map.1 hr
 exact prow_noid x
theorem pz_noid (xs : List (Option (Rat × Nat))) (k : Nat) : ∀ r ∈ xs.map prow ++ List.replicate k zrow, ∀ y ∈ r, NoId y := by
 intro r hr
 rcases List.mem_append.1 hr with h | h
 ·exact prows_noid xs r h
 ·rw [(List.mem_replicate.1 h).2]; exact zrow_noid
theorem woven_list (xs : List (Option (Rat × Nat))) (hn : 2 ≤ xs.length) (h4 : xs.length ≤ 1000) : AC Tryz.prog 48 [.sl 5 (xs.map prow) false, .sl 1 (irows .i64 [(xs.length : Int)]) false, .val (.int .i64 0)] (.pure (.tup [AA [(xs.length : Int)] false [] xs true, .val (.int .i64 0)])) := by
 obtain ⟨n, hnl⟩ : ∃ n, n = xs.length := ⟨_, rfl⟩
 obtain ⟨v1, c1⟩ := vS_single n (by omega)
 have lp : (xs.map prow).length = n := by rw [List.length_map]; exact hnl.symm
 have hx0 : 0 < xs.length := by omega
 have hg0 : (xs.map prow)[0]? = some [.sl 1 (irows .i64 []) false, .val (.bool false), .sl 1 (irows .i32 []) false, .sl 3 ([xs[0]].map rowX) false, .val (.bool true)] := by rw [List.getElem?_map, List.getElem?_eq_getElem hx0]; rfl
 have hRv := Ravel_ok xs[0]
 have hF0 := Rats_freshA [1] false [] [xs[0]] (by show 1 ≤ 1000000; omega)
 have hL1 : AC Tryz.prog 20 [AA [] false [] [xs[0]] true] (.pure (.val (.int .i64 1))) := ALen_ok [] false [] [xs[0]] true (by decide) (by show 1 ≤ 1000000; omega)
 have hN := Nums_ok [(n : Int)] xs v1 (by rw [c1, hnl]) (by omega)
 have hSp := Split_ok [(n : Int)] 0 (by show 0 < 1; omega) v1
 have hSp : AC Tryz.prog 63 [.sl 1 (irows .i64 [(n : Int)]) false, .val (.int .i64 0)] (.pure (.tup [.val (.int .i64 1), .val (.int .i64 (n : Int)), .val (.int .i64 1), .val (.bool true)])) := hSp
 obtain ⟨Y, hY⟩ : ∃ Y : List Int, Y = (List.range n).map fun i : Nat => (i : Int) := ⟨_, rfl⟩
 have lY : Y.length = n := by rw [hY, List.length_map, List.length_range]
 have hYi : ∀ i (h : i < n), Y[i]'(by omega) = (i : Int) := fun i h => by subst hY; rw [List.getElem_map, List.getElem_range]
 have hP := PickN_ok [(n : Int)] [] xs [(n : Int)] Y v1 (by rw [c1, lY]) (by omega)
 have hYx : Y.map (getX xs) = xs := by
  rw [hY, List.map_map]
  refine List.ext_getElem? fun i => ?_
  rw [List.getElem?_map]
  by_cases hi : i < n
  ·rw [List.getElem?_range hi]
   show some (getX xs (i : Int)) = _
   rw [getX_in (by omega), List.getElem?_eq_getElem (by omega)]
  ·rw [List.getElem?_eq_none (by rw [List.length_range]; omega), List.getElem?_eq_none (by omega)]
   rfl
 rw [hYx] at hP
 have lYr := irows_len .i64 Y
 have eP : irows .i64 Y = List.take n (List.drop 0 (irows .i64 Y)) := by rw [List.drop_zero, List.take_of_length_le (by omega)]
 rw [eP] at hP
 rw [← hnl]
 refine AC.of_body TTok Tryz.func48 rfl (enter_of Tryz.func48 (by kernel_rfl) (by kernel_rfl)) (noid3 (.sl _ _ _ (prows_noid _)) (noid_sl _ _ _) (.val _)) (.tup _ (noid2 (AA_noid _ _ _ _ _) (.val _))) (nbq rfl) ?_
 unfold AA at *
 conv => whnf
 first | refine oTq (by omega) ?_ | refine oFq (by omega) ?_ | refine oEq (by omega) ?_ | refine oNq (by omega) ?_
 conv => whnf
 refine ⟨_, ⟨by decide, hg0⟩, ?_⟩
 conv => whnf
 refine ⟨_, hRv, ?_⟩
 conv => whnf
 refine ⟨_, hF0, ?_⟩
 conv => whnf
 refine ⟨by show (0 : Int) ≤ 1 ∧ (1 : Int) ≤ ((xs.map prow).length : Nat); omega, ?_⟩
 conv => whnf
 refine SW.loopM TTok (fun i : Nat => [(0, .sl 5 (xs.map prow) false), (1, .sl 1 (irows .i64 [(n : Int)]) false), (2, .val (.int .i64 0)), (6, .lp 0 0), (7, .val (.int .i64 0)), (11, .own 96 0 (i + 1)), (52, .sl 5 ((xs.drop 1).map prow) false), (53, .val (.int .i64 ((n - 1 : Nat) : Int))), (54, .val (.int .i64 (i : Int)))])
  (fun i => [(0, .cells 5 [[.sl 0 [] true, .val (.bool false), .sl 0 [] true, .sl 0 [] true, .val (.bool false)]]), (96, .cells 3 ((xs.take (i + 1)).map rowX))]) 144 127 rfl (fun i => n - 1 - i) (fun i => i ≤ n - 1) 0 [] (Nat.zero_le _)
  ⟨q2r, q2r, q2r, q2r, q2r, q2r, ⟨slE ?_, rfl⟩, ⟨valI ?_, rfl⟩, q2r, trivial⟩ ⟨q3r, ⟨rfl, .inl ⟨celE ?_, rowsX_noid _⟩⟩, trivial⟩ rfl ?_
 ·rw [List.take_length, List.map_drop]; rfl
 ·rw [List.take_length, List.length_drop, lp]; rfl
 ·rw [List.take_one, List.head?_eq_getElem?, List.getElem?_eq_getElem hx0]; rfl
 intro i hJ
 have hi : i ≤ n - 1 := hJ
 clear hJ
 have lr : ((xs.take (i + 1)).map rowX).length = i + 1 := by rw [List.length_map, List.length_take]; omega
 by_cases hlt : i < n - 1
 ·have eI : IntKind.i64.wrap ((i : Int) + 1) = ((i + 1 : Nat) : Int) := by rw [IntWalk.i64_in _ (by omega)]; omega
  have hxi : i + 1 < xs.length := by omega
  have hg : ((xs.drop 1).map prow)[i]? = some [.sl 1 (irows .i64 []) false, .val (.bool false), .sl 1 (irows .i32 []) false, .sl 3 ([xs[i + 1]].map rowX) false, .val (.bool true)] := by
   rw [List.getElem?_map, List.getElem?_drop, Nat.add_comm 1 i, List.getElem?_eq_getElem hxi]; rfl
  have hF := Rats_freshA [] false [] [xs[i + 1]] (by show 1 ≤ 1000000; omega)
  have hsn : (xs.take (i + 1)).map rowX ++ [rowX xs[i + 1]] = (xs.take (i + 1 + 1)).map rowX := by
   rw [take_snoc hxi, List.map_append]; rfl
  have htk : List.take (i + 1) (List.drop 0 ((xs.take (i + 1)).map rowX)) = (xs.take (i + 1)).map rowX := by rw [List.drop_zero, List.take_of_length_le (by omega)]
  unfold AA at hF
  conv => whnf
  first | refine oTq (by omega) ?_ | refine oFq (by omega) ?_ | refine oEq (by omega) ?_ | refine oNq (by omega) ?_
  conv => whnf
  refine ⟨_, ⟨by omega, by rw [Int.toNat_natCast]; exact hg⟩, ?_⟩
  conv => whnf
  refine ⟨_, hF, ?_⟩
  conv => whnf
  refine ⟨⟨by show 0 + (i + 1) ≤ _; omega, by show (i + 1 + 1) * 56 ≤ 140737488355328; omega, Nat.le_refl _⟩, ?_⟩
  conv => whnf
  refine ⟨i + 1, [(96, 208)], (by show n - 1 - (i + 1) < n - 1 - i; omega), (by show i + 1 ≤ n - 1; omega), ⟨q2r, q2r, q2r, q2r, q2r, q2r, q2r, q2r, ⟨valI eI, rfl⟩, trivial⟩, ⟨q3r, ⟨rfl, .inl ⟨celE ?_, rowsX_noid _⟩⟩, trivial⟩, rfl⟩
  rw [← hsn]
  show List.take (i + 1) (List.drop 0 ((xs.take (i + 1)).map rowX)) ++ List.take 1 (List.drop 0 ([xs[i + 1]].map rowX)) = _
  rw [htk]
  rfl
 ·have hie : i = n - 1 := by omega
  have e1 : xs.take (i + 1) = xs := List.take_of_length_le (by omega)
  have e2 : i + 1 = n := by omega
  rw [e1] at lr ⊢
  rw [e2] at lr ⊢
  conv => whnf
  first | refine oTq (by omega) ?_ | refine oFq (by omega) ?_ | refine oEq (by omega) ?_ | refine oNq (by omega) ?_
  conv => whnf
  have eX : xs.map rowX = List.take n (List.drop 0 (xs.map rowX)) := by rw [List.drop_zero, List.take_of_length_le (by omega)]
  have hN' : AC Tryz.prog 90 [.sl 1 (irows .i64 [(n : Int)]) false, .sl 3 (List.take n (List.drop 0 (xs.map rowX))) false] (.pure (.tup [.agg [.sl 1 (irows .i64 [(n : Int)]) false, .val (.bool false), .sl 1 (irows .i32 []) false, .sl 3 (xs.map rowX) false, .val (.bool true)], .val (.bool true)])) := by
   rw [← eX]; exact hN
  refine ⟨⟨Nat.le_refl _, by show 0 + n ≤ _; omega⟩, _, hN', ?_⟩
  conv => whnf
  refine ⟨_, hSp, ?_⟩
  conv => whnf
  refine ⟨⟨by decide, by omega, by show ((n : Nat) : Int) * ((8 : Nat) : Int) ≤ 140737488355328; omega⟩, ?_⟩
  conv => whnf
  refine ⟨_, ⟨by decide, hg0⟩, ?_⟩
  conv => whnf
  refine ⟨_, hL1, ?_⟩
  conv => whnf
  refine SW.loopM TTok (fun i : Nat => [(0, .sl 5 (xs.map prow) false), (1, .sl 1 (irows .i64 [(n : Int)]) false), (6, .lp 0 0), (7, .val (.int .i64 0)), (14, .lp 216 0), (18, .val (.int .i64 1)), (20, .own 352 0 i), (21, .val (.int .i64 1)), (87, .val (.int .i64 (n : Int))), (88, .val (.int .i64 (i : Int)))])
   (fun i => [(0, .cells 5 [[.sl 0 [] true, .val (.bool false), .sl 0 [] true, .sl 0 [] true, .val (.bool false)]]), (216, .cells 5 [[.sl 1 (irows .i64 [(n : Int)]) false, .val (.bool false), .sl 1 (irows .i32 []) false, .sl 3 (xs.map rowX) false, .val (.bool true)]]), (352, .cells 1 (irows .i64 (Y.take i)))]) 432 127 rfl (fun i => n - i) (fun i => i ≤ n) 0 [] (Nat.zero_le _)
   ⟨q2r, q2r, q2r, q2r, q2r, q2r, q2r, q2r, q2r, q2r, trivial⟩ ⟨q3r, q3r, q3r, trivial⟩ rfl ?_
  intro i hJ
  have hi : i ≤ n := hJ
  clear hJ
  have lr2 : (irows .i64 (Y.take i)).length = i := by rw [irows_len, List.length_take]; omega
  by_cases hlt : i < n
  ·have eI : IntKind.i64.wrap ((i : Int) + 1) = ((i + 1 : Nat) : Int) := by rw [IntWalk.i64_in _ (by omega)]; omega
   have hsn : irows .i64 (Y.take i) ++ [[.val (.int .i64 (i : Int))]] = irows .i64 (Y.take (i + 1)) := by
    rw [take_snoc (show i < Y.length by omega), hYi i hlt, ← irows_append]; rfl
   have htk : List.take i (List.drop 0 (irows .i64 (Y.take i))) = irows .i64 (Y.take i) := by rw [List.drop_zero, List.take_of_length_le (by omega)]
   have d1 : ((i : Int)).tdiv 1 = (i : Int) := by rw [Int.tdiv_eq_ediv_of_nonneg (Int.natCast_nonneg _)]; omega
   have d2 : ((i : Int)).tmod 1 = 0 := by rw [Int.tmod_eq_emod_of_nonneg (Int.natCast_nonneg _)]; omega
   have d3 : ((i : Int)).tmod (((xs.map prow).length : Nat) : Int) = (i : Int) := by
    rw [lp, Int.tmod_eq_emod_of_nonneg (Int.natCast_nonneg _), Int.emod_eq_of_lt (by omega) (by omega)]
   have d4 : ((i : Int)).tdiv (((xs.map prow).length : Nat) : Int) = 0 := by
    rw [lp, Int.tdiv_eq_ediv_of_nonneg (Int.natCast_nonneg _), Int.ediv_eq_zero_of_lt (by omega) (by omega)]
   have dw : IntKind.i64.wrap (i : Int) = (i : Int) := wrap_nat' _ (by omega)
   conv => whnf
   first | refine oTq (by omega) ?_ | refine oFq (by omega) ?_ | refine oEq (by omega) ?_ | refine oNq (by omega) ?_
   conv => whnf
   refine ⟨by decide, ?_⟩
   conv => whnf
   refine ⟨by decide, ?_⟩
   conv => whnf
   refine ⟨by omega, ?_⟩
   conv => whnf
   refine ⟨by decide, ?_⟩
   conv => whnf
   refine ⟨by omega, ?_⟩
   conv => whnf
   refine ⟨⟨by show 0 + i ≤ _; omega, by show (i + 1) * 8 ≤ 140737488355328; omega, nbq rfl⟩, ?_⟩
   conv => whnf
   refine ⟨i + 1, [(352, 688)], (by show n - (i + 1) < n - i; omega), hlt, ⟨q2r, q2r, q2r, q2r, q2r, q2r, q2r, q2r, q2r, ⟨valI eI, rfl⟩, trivial⟩, ⟨q3r, q3r, ⟨rfl, .inl ⟨celE ?_, irows_noid _ _⟩⟩, trivial⟩, rfl⟩
   rw [← hsn]
   show List.take i (List.drop 0 (irows .i64 (Y.take i))) ++ [[.val (.int .i64 (IntKind.i64.wrap (IntKind.i64.wrap (IntKind.i64.wrap ((IntKind.i64.wrap (((i : Int)).tdiv 1)).tmod (((xs.map prow).length : Nat) : Int) * 1) + IntKind.i64.wrap (IntKind.i64.wrap ((IntKind.i64.wrap (((i : Int)).tdiv 1)).tdiv (((xs.map prow).length : Nat) : Int)) * 1)) + ((i : Int)).tmod 1)))]] = _
   rw [htk, d1, d2, dw, d3, d4, Int.mul_one, dw, show IntKind.i64.wrap (IntKind.i64.wrap 0 * 1) = 0 from rfl, Int.add_zero, Int.add_zero, dw, dw]
  ·have hie2 : i = n := by omega
   have e3 : Y.take i = Y := List.take_of_length_le (by omega)
   rw [e3, hie2]
   conv => whnf
   first | refine oTq (by omega) ?_ | refine oFq (by omega) ?_ | refine oEq (by omega) ?_ | refine oNq (by omega) ?_
   conv => whnf
   refine ⟨by show 0 + n ≤ _; omega, _, hP, ?_⟩
   repeat ((conv => whnf); (first | refine ⟨_, ‹_›, ?_⟩ | refine ⟨nbq rfl, _, ‹_›, ?_⟩ | refine ⟨by kernel_rfl, ?_⟩ | exact rfl | exact ⟨nbq rfl, rfl⟩ | refine ⟨by decide, ?_⟩))
theorem Scan_list (c : Int) (hc : isTwo c) (axis most : Int) (hax : axis < 0) (na : List (Option (Rat × Nat))) (xs : List (Option (Rat × Nat))) (n : Nat) (hnl : n = xs.length) (hl : na.length = xs.length) (hn : 2 ≤ xs.length) (h4 : xs.length ≤ 1000)
  (hR : ∀ i (h : i < xs.length), AC Tryz.prog 46 [.val (.int .i32 c), AA [(n : Int)] false [] na true, .val (.int .i64 0), .val (.int .i64 (i : Int)), .val (.int .i64 most)] (.pure (.tup [AA [] false [] [xs[i]] true, .val (.int .i64 0)]))) :
  AC Tryz.prog 17 [.val (.int .i32 c), AA [(n : Int)] false [] na true, .val (.int .i64 axis), .val (.int .i64 most)] (.pure (.tup [AA [(n : Int)] false [] xs true, .val (.int .i64 0)])) := by
 have hH := Has_ok c
 rw [decide_eq_true hc] at hH
 have hRk : AC Tryz.prog 24 [AA [(n : Int)] false [] na true] (.pure (.val (.int .i64 1))) := Rank_ok [(n : Int)] false [] na (by show 1 ≤ 1000000; omega)
 have hA := Axis_ok [(n : Int)] false [] na axis 0 ⟨by show 0 < 1; omega, .inr ⟨hax, rfl⟩⟩ (by show 1 ≤ 1000; omega)
 have hA : AC Tryz.prog 45 [AA [(n : Int)] false [] na true, .val (.int .i64 axis)] (.pure (.tup [.val (.int .i64 0), .val (.bool true)])) := hA
 have hS := Shape_ok [(n : Int)] false [] na (by show 1 ≤ 1000000; omega)
 have hL := ALen_ok [(n : Int)] false [] na true (by decide) (by omega)
 have hW := woven_list xs hn h4
 have lp : (xs.map prow).length = n := by rw [List.length_map]; exact hnl.symm
 have eW : xs.map prow = List.take n (List.drop 0 (xs.map prow)) := by rw [List.drop_zero, List.take_of_length_le (by omega)]
 rw [eW] at hW
 have hIc := fun x => IsChar_ok [] false [] [x] true
 have lna : ([] : List Int).length + na.length = n := by rw [hl, hnl]; exact Nat.zero_add _
 rw [lna] at hL
 rw [← hnl] at hW
 have lz : ∀ k, (List.replicate k zrow).length = k := fun k => List.length_replicate
 refine AC.of_body TTok Tryz.func17 rfl (enter_of Tryz.func17 (by kernel_rfl) (by kernel_rfl)) (noidF (.val _) (AA_noid _ _ _ _ _) (.val _) (.val _)) (.tup _ (noid2 (AA_noid _ _ _ _ _) (.val _))) (nbq rfl) ?_
 unfold AA at *
 conv => whnf
 refine ⟨_, hH, ?_⟩
 conv => whnf
 refine ⟨_, hRk, ?_⟩
 conv => whnf
 refine ⟨_, hA, ?_⟩
 conv => whnf
 refine ⟨_, hS, ?_⟩
 conv => whnf
 refine ⟨_, hL, ?_⟩
 conv => whnf
 first | refine oTq (by omega) ?_ | refine oFq (by omega) ?_ | refine oEq (by omega) ?_ | refine oNq (by omega) ?_
 conv => whnf
 refine ⟨_, ⟨by decide, rfl⟩, ?_⟩
 conv => whnf
 refine ⟨⟨by omega, by omega, by show ((n : Nat) : Int) * ((88 : Nat) : Int) ≤ 140737488355328; omega⟩, ?_⟩
 conv => whnf
 refine SW.loopM TTok (fun i : Nat => [(0, .val (.int .i32 c)), (3, .val (.int .i64 most)), (5, .lp 0 0), (8, .lp 8 0), (9, .val (.int .i64 0)), (10, .val (.int .i64 0)), (12, .sl 1 (irows .i64 [(n : Int)]) false), (13, .own 280 0 n), (52, .val (.int .i64 (n : Int))), (53, .val (.int .i64 (i : Int)))])
  (fun i => [(0, .cells 5 [[.sl 1 (irows .i64 [(n : Int)]) false, .val (.bool false), .sl 1 (irows .i32 []) false, .sl 3 (na.map rowX) false, .val (.bool true)]]), (8, .cells 5 [[.sl 0 [] true, .val (.bool false), .sl 0 [] true, .sl 0 [] true, .val (.bool false)]]), (280, .cells 5 ((xs.take i).map prow ++ List.replicate (n - i) zrow))]) 320 90 rfl (fun i => n - i) (fun i => i ≤ n) 0 [] (Nat.zero_le _)
  ⟨q2r, q2r, q2r, q2r, q2r, q2r, q2r, q2r, q2r, q2r, trivial⟩ ⟨q3r, q3r, ⟨rfl, .inl ⟨rfl, pz_noid _ _⟩⟩, trivial⟩ rfl ?_
 intro i hJ
 have hi : i ≤ n := hJ
 clear hJ
 have ltk : ((xs.take i).map prow).length = i := by rw [List.length_map, List.length_take]; omega
 have lr : ((xs.take i).map prow ++ List.replicate (n - i) zrow).length = n := by rw [List.length_append, ltk, lz]; omega
 by_cases hlt : i < n
 ·have eI : IntKind.i64.wrap ((i : Int) + 1) = ((i + 1 : Nat) : Int) := by rw [IntWalk.i64_in _ (by omega)]; omega
  have hxi : i < xs.length := by omega
  have hRi := hR i hxi
  have hIi := hIc xs[i]
  obtain ⟨x, hx⟩ : ∃ x, x = xs[i] := ⟨_, rfl⟩
  rw [← hx] at hRi hIi
  have hset : ((xs.take i).map prow ++ List.replicate (n - i) zrow).set i (prow x) = (xs.take (i + 1)).map prow ++ List.replicate (n - (i + 1)) zrow := by
   rw [rep_drop _ n i hlt, take_snoc hxi, ← hx]
   have := set_mid ((xs.take i).map prow) zrow (prow x) (List.replicate (n - (i + 1)) zrow)
   rw [ltk] at this
   rw [this]; simp
  conv => whnf
  first | refine oTq (by omega) ?_ | refine oFq (by omega) ?_ | refine oEq (by omega) ?_ | refine oNq (by omega) ?_
  conv => whnf
  refine ⟨_, hRi, ?_⟩
  conv => whnf
  refine ⟨by omega, ?_⟩
  conv => whnf
  refine ⟨by rw [Nat.zero_add, Int.toNat_natCast]; omega, ?_⟩
  conv => whnf
  refine ⟨_, hIi, ?_⟩
  conv => whnf
  refine ⟨i + 1, [], (by show n - (i + 1) < n - i; omega), hlt, ⟨q2r, q2r, q2r, q2r, q2r, q2r, q2r, q2r, q2r, ⟨valI eI, rfl⟩, trivial⟩, ⟨q3r, q3r, ⟨rfl, .inl ⟨celE ?_, pz_noid _ _⟩⟩, trivial⟩, rfl⟩
  rw [← hset]
  show List.set _ (0 + (i : Int).toNat) _ = _
  rw [Nat.zero_add, Int.toNat_natCast]
  rfl
 ·have hie : i = n := by omega
  have e1 : xs.take i = xs := List.take_of_length_le (by omega)
  rw [e1, hie, Nat.sub_self, List.replicate_zero, List.append_nil]
  conv => whnf
  first | refine oTq (by omega) ?_ | refine oFq (by omega) ?_ | refine oEq (by omega) ?_ | refine oNq (by omega) ?_
  conv => whnf
  refine ⟨by show 0 + n ≤ _; omega, _, hW, ?_⟩
  repeat ((conv => whnf); (first | refine ⟨_, ‹_›, ?_⟩ | refine ⟨nbq rfl, _, ‹_›, ?_⟩ | refine ⟨by kernel_rfl, ?_⟩ | exact rfl | exact ⟨nbq rfl, rfl⟩ | refine ⟨by decide, ?_⟩))
end
section
theorem foldE_tail (c most : Int) (x : El) (l : List El) (h : (foldE c most (x :: l)).2 = 0) : (foldE c most l).2 = 0 := by
 cases l with
 | nil => rfl
 | cons y l =>
  rw [foldE_cons _ _ _ (List.cons_ne_nil _ _)] at h
  by_cases h2 : (foldE c most (y :: l)).2 ≠ 0
  ·rw [if_pos h2] at h; exact absurd h h2
  ·exact Decidable.byContradiction h2
theorem foldE_drop (c most : Int) : ∀ (i : Nat) (l : List El), (foldE c most l).2 = 0 → (foldE c most (l.drop i)).2 = 0
 | 0, l, h => h
 | i + 1, [], h => h
 | i + 1, x :: l, h => foldE_drop c most i l (foldE_tail c most x l h)
theorem line_list (qs : List Rat) (t n : Nat) (ht : t ≤ qs.length) : lineE false [] qs t n 1 0 = (qs.take t).map numE := by
 refine List.ext_getElem? fun i => ?_
 unfold lineE
 rw [List.getElem?_map, List.getElem?_map, List.getElem?_take]
 by_cases hi : i < t
 ·rw [if_pos hi, List.getElem?_range hi, List.getElem?_eq_getElem (by omega)]
  show some (elA false [] qs ((0 / 1 * n + i) * 1 + 0 % 1)) = some (numE qs[i])
  have e : (0 / 1 * n + i) * 1 + 0 % 1 = i := by simp
  rw [e]
  unfold elA numE
  rw [List.getD_eq_getElem?_getD, List.getD_eq_getElem?_getD, List.getElem?_eq_getElem (show i < qs.length by omega)]
  rfl
 ·rw [if_neg hi, List.getElem?_eq_none (by rw [List.length_range]; omega)]; rfl
section
variable (c most : Int) (hc : isTwo c) (hm : most ≤ 200) (na : List (Option (Rat × Nat))) (qs : List Rat) (na1 : na.map valX = qs) (oa : ∀ o ∈ na, okX o) (hQ : ∀ q ∈ qs, Sz q 20)
include hc hm na1 oa hQ
theorem run_list (h4 : qs.length ≤ 500) (t : Nat) (h0 : 0 < t) (ht : t ≤ qs.length) (hz : (foldE c most ((qs.take t).map numE)).2 = 0)
  (hb : ∀ i, (pairE c most (elA false [] qs i) (foldE c most (((qs.take t).map numE).drop (i + 1))).1).2 = 0 → Sz (pairE c most (elA false [] qs i) (foldE c most (((qs.take t).map numE).drop (i + 1))).1).1 20) :
  ∃ o, okX o ∧ numE (valX o) = (foldE c most ((qs.take t).map numE)).1 ∧
   AC Tryz.prog 46 [.val (.int .i32 c), AA [(qs.length : Int)] false [] na true, .val (.int .i64 0), .val (.int .i64 ((t - 1 : Nat) : Int)), .val (.int .i64 most)] (.pure (.tup [AA [] false [] [o] true, .val (.int .i64 0)])) := by
 have la : na.length = qs.length := by rw [← na1, List.length_map]
 obtain ⟨v1, c1⟩ := vS_single qs.length (by omega)
 have hk : kinds [(qs.length : Int)] false ([] : List Int).length na.length := by
  show ((na.length : Nat) : Int) = cntI [(qs.length : Int)] ∧ (0 = 0)
  rw [c1, la]; exact q2r
 have hl := line_list qs t qs.length ht
 obtain ⟨x, hx1, hx2⟩ := run_any c most hc hm [(qs.length : Int)] 0 false [] na qs na1 oa hQ (by show 0 < 1; omega) v1 hk qs.length rfl t h0 ht
  (fun i r hr h => by
   have hr0 : r = 0 := by
    have hr : r < 1 * 1 := hr
    omega
   subst hr0
   have e : (0 / 1 * qs.length + i) * 1 + 0 % 1 = i := by simp
   have h : (pairE c most (elA false [] qs ((0 / 1 * qs.length + i) * 1 + 0 % 1)) (foldE c most ((lineE false [] qs t qs.length 1 0).drop (i + 1))).1).2 = 0 := h
   show Sz (pairE c most (elA false [] qs ((0 / 1 * qs.length + i) * 1 + 0 % 1)) (foldE c most ((lineE false [] qs t qs.length 1 0).drop (i + 1))).1).1 20
   rw [e, hl] at h ⊢
   exact hb i h) (by show 1 * 1 ≤ 500; omega)
 have hE : redE c most (rowsL false [] qs t qs.length (pr ([] : List Int)) (pr ([] : List Int) * pr ([] : List Int))) t = 0 := by
  refine redE_zero _ _ _ _ (fun j hj => ?_)
  refine fst0_of fun e he => ?_
  obtain ⟨l, hl2, rfl⟩ := List.mem_map.1 he
  obtain ⟨r, hr, rfl⟩ := List.mem_map.1 hl2
  have hr0 : r = 0 := by
   have : r < 1 * 1 := List.mem_range.1 hr
   omega
  subst hr0
  show (foldE c most ((lineE false [] qs t qs.length 1 0).drop j)).2 = 0
  rw [hl]
  exact foldE_drop c most j _ hz
 have hx1 := hx1 hE
 have hx2 : AC Tryz.prog 46 [.val (.int .i32 c), AA [(qs.length : Int)] false [] na true, .val (.int .i64 0), .val (.int .i64 ((t - 1 : Nat) : Int)), .val (.int .i64 most)] (.pure (resF [] x.1 x.2.1 x.2.2 (redE c most (rowsL false [] qs t qs.length (pr ([] : List Int)) (pr ([] : List Int) * pr ([] : List Int))) t))) := hx2
 obtain ⟨y1, y2, y3, _, y5⟩ := hx1
 obtain ⟨xc, xt, xn⟩ := x
 have y1 : xc = false := y1
 subst y1
 have y2 : ((xn.length : Nat) : Int) = cntI [] ∧ xt.length = 0 := y2
 have xt0 : xt = [] := List.length_eq_zero_iff.1 y2.2
 subst xt0
 have xl : xn.length = 1 := by have := y2.1; rw [show cntI [] = 1 from rfl] at this; omega
 obtain ⟨o, rfl⟩ := List.length_eq_one_iff.1 xl
 rw [hE] at hx2
 refine ⟨o, y3 o (List.mem_singleton.2 rfl), ?_, hx2⟩
 have y5 := y5 0 (by show 0 < 1 * 1; omega)
 have y5 : elA false [] [valX o] 0 = (foldE c most ((lineE false [] qs t qs.length 1 0).drop 0)).1 := y5
 rw [hl] at y5
 exact y5
theorem Red_list (axis : Int) (hax : axis < 0) (h4 : qs.length ≤ 500) (h0 : 0 < qs.length) (hz : (foldE c most (qs.map numE)).2 = 0)
  (hb : ∀ i, (pairE c most (elA false [] qs i) (foldE c most ((qs.map numE).drop (i + 1))).1).2 = 0 → Sz (pairE c most (elA false [] qs i) (foldE c most ((qs.map numE).drop (i + 1))).1).1 20) :
  ∃ o, okX o ∧ numE (valX o) = (foldE c most (qs.map numE)).1 ∧
   AC Tryz.prog 19 [.val (.int .i32 c), AA [(qs.length : Int)] false [] na true, .val (.int .i64 axis), .val (.int .i64 most)] (.pure (.tup [AA [] false [] [o] true, .val (.int .i64 0)])) := by
 have ht : qs.take qs.length = qs := List.take_length
 obtain ⟨o, o1, o2, o3⟩ := run_list c most hc hm na qs na1 oa hQ h4 qs.length h0 (Nat.le_refl _) (by rw [ht]; exact hz) (by rw [ht]; exact hb)
 rw [ht] at o2
 exact ⟨o, o1, o2, Red_run c [(qs.length : Int)] false [] na axis most hc 0 ⟨by show 0 < 1; omega, .inr ⟨hax, rfl⟩⟩ (by show 1 ≤ 8; omega) qs.length rfl h0 (by omega) [] false [] [o] 0 o3⟩
end
end
section
def zlU : List Int := [43, 45, 124, 60, 62, 8800, 8744]
def olU : List Int := [215, 247, 42, 33, 8804, 61, 8805, 8743]
theorem RIntP_ok (n : Int) (hn : -9223372036854775808 ≤ n ∧ n < 9223372036854775808) : AC Tryz.prog 43 [.val (.int .i64 n)] (.pure (PA [] false [] [(n : Rat)])) := by
 have hF := SFrom_ok n hn
 have hN : AC Tryz.prog 82 [RN n 1] (.pure (PA [] false [] [(n : Rat)])) := by
  refine AC.le_res (?_ : AC Tryz.prog 82 _ (.pure (.agg [.sl 0 [] true, .val (.bool false), .sl 0 [] true, .sl 3 ([(n : Rat)].map rowN) false]))) (le_agg4 (le_nil 1) (.refl _) (le_nil 1) (.refl _)) (PA_noid _ _ _ _)
  refine AC.of_body TTok Tryz.func82 rfl (enter_of Tryz.func82 (by kernel_rfl) (by kernel_rfl)) (noid1 (RN_noid _ _)) (.agg _ (noidF (.sl _ _ _ (fun r hr => nomatch hr)) (.val _) (.sl _ _ _ (fun r hr => nomatch hr)) (slN_noid _))) (nbq rfl) ?_
  show axp _ _ _ _ _
  rw [show [(n : Rat)].map rowN = [[.val (.bool (decide (n < 0))), .val (.string (decS n.natAbs)), .val (.string (decS 1))]] by rw [List.map_cons, intN_row]; rfl]
  unfold RN
  conv => whnf
  exact ⟨Nat.le_refl _, rfl⟩
 refine AC.of_body TTok Tryz.func43 rfl (enter_of Tryz.func43 (by kernel_rfl) (by kernel_rfl)) (noid1 (.val _)) (PA_noid _ _ _ _) (nbq rfl) ?_
 unfold RN PA at *
 repeat ((conv => whnf); (first | refine ⟨_, ‹_›, ?_⟩ | refine ⟨nbq rfl, _, ‹_›, ?_⟩ | refine ⟨by kernel_rfl, ?_⟩ | exact rfl | exact ⟨nbq rfl, rfl⟩ | refine ⟨by decide, ?_⟩))
theorem shows19_ok (sh : List Int) (ch : Bool) (tx : List Int) (ns : List (Option (Rat × Nat))) (h1 : sh.length ≤ 1000) (h2 : tx.length ≤ 100000) (h3 : ns.length ≤ 100000) (ho : ∀ o ∈ ns, okX o ∧ Sz (valX o) 100000) :
  AC Tryz.prog 42 [AA sh ch tx ns true, .val (.int .i64 0), PA sh ch tx (ns.map valX), .val (.int .i64 0)] (.pure (.val (.bool true))) := by
 refine AC.of_body TTok Tryz.func42 rfl (enter_of Tryz.func42 (by kernel_rfl) (by kernel_rfl)) (noidF (AA_noid _ _ _ _ _) (.val _) (PA_noid _ _ _ _) (.val _)) (.val _) (nbq rfl) ?_
 have hP := Plain_ok sh ch tx ns h1 h2 h3 ho
 have hS := PSame_ok sh ch tx (ns.map valX) h1 h2 (by rw [List.length_map]; exact h3)
 unfold AA PA at *
 repeat ((conv => whnf); (first | refine ⟨_, ‹_›, ?_⟩ | refine ⟨nbq rfl, _, ‹_›, ?_⟩ | refine ⟨by kernel_rfl, ?_⟩ | exact rfl | exact ⟨nbq rfl, rfl⟩ | refine ⟨by decide, ?_⟩))
theorem sz_natI (n : Nat) (h : n < 4294967296) : Sz ((n : Int) : Rat) 20 := (sz_nat n h).mono (by decide)
theorem f43_1 : foldE 43 4 ([1].map numE) = (numE 1, 0) := by decide +kernel
theorem f43_2 : foldE 43 4 ([1, 2].map numE) = (numE 3, 0) := by decide +kernel
theorem f43_3 : foldE 43 4 ([1, 2, 3].map numE) = (numE 6, 0) := by decide +kernel
theorem f45_3 : foldE 45 4 ([1, 2, 3].map numE) = (numE 2, 0) := by decide +kernel
theorem numE_inj {a b : Rat} (h : numE a = numE b) : a = b := congrArg (fun x : El => x.2.2) h
theorem awake19_ok : AC Tryz.prog 16 [] (.pure (.val (.bool true))) := by
 have hQ : ∀ q ∈ ([1, 2, 3] : List Rat), Sz q 20 := fun q hq => by
  simp only [List.mem_cons, List.not_mem_nil, or_false] at hq
  rcases hq with rfl | rfl | rfl
  ·exact sz_natI 1 (by decide)
  ·exact sz_natI 2 (by decide)
  ·exact sz_natI 3 (by decide)
 have nv : ([1, 2, 3].map intX).map valX = ([1, 2, 3] : List Rat) := rfl
 have no : ∀ o ∈ [1, 2, 3].map intX, okX o := fun o ho => by
  obtain ⟨n, hn, rfl⟩ := List.mem_map.1 ho
  simp only [List.mem_cons, List.not_mem_nil, or_false] at hn
  rcases hn with rfl | rfl | rfl <;> exact rfl
 obtain ⟨a, a1, a2, a3⟩ := Red_list 43 4 (by unfold isTwo; decide) (by decide) ([1, 2, 3].map intX) [1, 2, 3] nv no hQ (-1) (by decide) (by decide) (by decide) (by rw [f43_3]) (fun _ h => pair_szm (by decide) h)
 obtain ⟨b, b1, b2, b3⟩ := Red_list 45 4 (by unfold isTwo; decide) (by decide) ([1, 2, 3].map intX) [1, 2, 3] nv no hQ (-1) (by decide) (by decide) (by decide) (by rw [f45_3]) (fun _ h => pair_szm (by decide) h)
 rw [f43_3] at a2
 rw [f45_3] at b2
 have a2 := numE_inj a2
 have b2 := numE_inj b2
 obtain ⟨x, x1, x2, x3⟩ := run_list 43 4 (by unfold isTwo; decide) (by decide) ([1, 2, 3].map intX) [1, 2, 3] nv no hQ (by decide) 1 (by decide) (by decide) (by show (foldE 43 4 ([1].map numE)).2 = 0; rw [f43_1]) (fun _ h => pair_szm (by decide) h)
 obtain ⟨y, y1, y2, y3⟩ := run_list 43 4 (by unfold isTwo; decide) (by decide) ([1, 2, 3].map intX) [1, 2, 3] nv no hQ (by decide) 2 (by decide) (by decide) (by show (foldE 43 4 ([1, 2].map numE)).2 = 0; rw [f43_2]) (fun _ h => pair_szm (by decide) h)
 obtain ⟨z, z1, z2, z3⟩ := run_list 43 4 (by unfold isTwo; decide) (by decide) ([1, 2, 3].map intX) [1, 2, 3] nv no hQ (by decide) 3 (by decide) (by decide) (by show (foldE 43 4 ([1, 2, 3].map numE)).2 = 0; rw [f43_3]) (fun _ h => pair_szm (by decide) h)
 have x2 : numE (valX x) = (foldE 43 4 ([1].map numE)).1 := x2
 have y2 : numE (valX y) = (foldE 43 4 ([1, 2].map numE)).1 := y2
 have z2 : numE (valX z) = (foldE 43 4 ([1, 2, 3].map numE)).1 := z2
 rw [f43_1] at x2
 rw [f43_2] at y2
 rw [f43_3] at z2
 have x2 := numE_inj x2
 have y2 := numE_inj y2
 have z2 := numE_inj z2
 have hSc := Scan_list 43 (by unfold isTwo; decide) (-1) 4 (by decide) ([1, 2, 3].map intX) [x, y, z] 3 rfl rfl (by show 2 ≤ 3; omega) (by show 3 ≤ 1000; omega) (fun i h => by
  have h : i < 3 := h
  match i, h with
  | 0, _ => exact x3
  | 1, _ => exact y3
  | 2, _ => exact z3)
 have I1 := AInts_ok [1, 2, 3] (by decide) (fun n hn => by simp at hn; rcases hn with rfl | rfl | rfl <;> exact ⟨by decide, by decide⟩)
 have I1 : AC Tryz.prog 18 [.sl 1 (irows .i64 [1, 2, 3]) false] (.pure (AA [3] false [] ([1, 2, 3].map intX) true)) := I1
 have R6 := RIntP_ok 6 (by decide)
 have R2 := RIntP_ok 2 (by decide)
 have R3 := RInts_ok [1, 3, 6] (by decide) (fun n hn => by simp at hn; rcases hn with rfl | rfl | rfl <;> exact ⟨by decide, by decide⟩)
 have R3 : AC Tryz.prog 26 [.sl 1 (irows .i64 [1, 3, 6]) false] (.pure (PA [3] false [] [1, 3, 6])) := R3
 have S1 := shows19_ok [] false [] [a] (by decide) (by decide) (by show 1 ≤ 100000; omega) (fun o ho => by
  rw [List.mem_singleton.1 ho]
  exact ⟨a1, by rw [a2]; exact (sz_natI 6 (by decide)).mono (by decide)⟩)
 have S2 := shows19_ok [] false [] [b] (by decide) (by decide) (by show 1 ≤ 100000; omega) (fun o ho => by
  rw [List.mem_singleton.1 ho]
  exact ⟨b1, by rw [b2]; exact (sz_natI 2 (by decide)).mono (by decide)⟩)
 have S3 := shows19_ok [3] false [] [x, y, z] (by decide) (by decide) (by show 3 ≤ 100000; omega) (fun o ho => by
  simp only [List.mem_cons, List.not_mem_nil, or_false] at ho
  rcases ho with rfl | rfl | rfl
  ·exact ⟨x1, by rw [x2]; exact (sz_natI 1 (by decide)).mono (by decide)⟩
  ·exact ⟨y1, by rw [y2]; exact (sz_natI 3 (by decide)).mono (by decide)⟩
  ·exact ⟨z1, by rw [z2]; exact (sz_natI 6 (by decide)).mono (by decide)⟩)
 rw [show [a].map valX = [((6 : Int) : Rat)] by show [valX a] = _; rw [a2]; rfl] at S1
 rw [show [b].map valX = [((2 : Int) : Rat)] by show [valX b] = _; rw [b2]; rfl] at S2
 rw [show [x, y, z].map valX = [1, 3, 6] by show [valX x, valX y, valX z] = _; rw [x2, y2, z2]] at S3
 have a3 : AC Tryz.prog 19 [.val (.int .i32 43), AA [3] false [] ([1, 2, 3].map intX) true, .val (.int .i64 (-1)), .val (.int .i64 4)] (.pure (.tup [AA [] false [] [a] true, .val (.int .i64 0)])) := a3
 have b3 : AC Tryz.prog 19 [.val (.int .i32 45), AA [3] false [] ([1, 2, 3].map intX) true, .val (.int .i64 (-1)), .val (.int .i64 4)] (.pure (.tup [AA [] false [] [b] true, .val (.int .i64 0)])) := b3
 have hSc : AC Tryz.prog 17 [.val (.int .i32 43), AA [3] false [] ([1, 2, 3].map intX) true, .val (.int .i64 (-1)), .val (.int .i64 4)] (.pure (.tup [AA [3] false [] [x, y, z] true, .val (.int .i64 0)])) := hSc
 clear nv no hQ a1 a2 b1 b2 x1 x2 x3 y1 y2 y3 z1 z2 z3
 generalize ([1, 2, 3] : List Int).map intX = w1 at *
 generalize [a] = w2 at *
 generalize [b] = w3 at *
 generalize [x, y, z] = w4 at *
 generalize [((6 : Int) : Rat)] = w5 at *
 generalize [((2 : Int) : Rat)] = w6 at *
 generalize ([1, 3, 6] : List Rat) = w7 at *
 refine AC.of_body TTok Tryz.func16 rfl (enter_of Tryz.func16 (by kernel_rfl) (by kernel_rfl)) (fun x hx => nomatch hx) (.val _) (nbq rfl) ?_
 unfold AA PA at *
 conv => whnf
 refine ⟨(nbq rfl), _, I1, ?_⟩
 conv => whnf
 refine ⟨_, a3, ?_⟩
 conv => whnf
 refine ⟨_, b3, ?_⟩
 conv => whnf
 refine ⟨_, hSc, ?_⟩
 conv => whnf
 refine ⟨_, R6, ?_⟩
 conv => whnf
 refine ⟨_, S1, ?_⟩
 conv => whnf
 refine ⟨_, R2, ?_⟩
 conv => whnf
 refine ⟨_, S2, ?_⟩
 conv => whnf
 refine ⟨(nbq rfl), _, R3, ?_⟩
 conv => whnf
 refine ⟨_, S3, ?_⟩
 repeat ((conv => whnf); (first | refine ⟨_, ‹_›, ?_⟩ | refine ⟨nbq rfl, _, ‹_›, ?_⟩ | refine ⟨by kernel_rfl, ?_⟩ | exact rfl | exact ⟨nbq rfl, rfl⟩ | refine ⟨by decide, ?_⟩))
end
section
def pickT (ch : Bool) (tx : List Int) (L : List Int) : List Int := if ch then L.map (getT tx) else []
def pickX (ch : Bool) (na : List (Option (Rat × Nat))) (L : List Int) : List (Option (Rat × Nat)) := if ch then [] else L.map (getX na)
theorem Pick_any (sh : List Int) (ch : Bool) (tx : List Int) (na : List (Option (Rat × Nat))) (s L : List Int) (hv : vS s) (hc : L.length = pr s) (h1 : tx.length ≤ 100000) (h2 : na.length ≤ 100000) :
  AC Tryz.prog 66 [AA sh ch tx na true, .sl 1 (irows .i64 s) false, .sl 1 (irows .i64 L) false] (.pure (.tup [AA s ch (pickT ch tx L) (pickX ch na L) true, .val (.bool true)])) := by
 have hc' : cntI s = (L.length : Int) := by rw [(vS_pr hv).1, hc]
 cases ch
 ·exact PickN_ok sh tx na s L hv hc' h2
 ·exact PickT_ok sh tx na s L hv hc' h1
def addL (a b : List Int) : List Int := List.zipWith (fun x y => x + y) a b
theorem addL_len (a b : List Int) (h : a.length = b.length) : (addL a b).length = a.length := by unfold addL; rw [List.length_zipWith]; omega
theorem addL_at {a b : List Int} {k : Nat} (ha : k < a.length) (hb : k < b.length) : (addL a b)[k]? = some (a[k] + b[k]) := by
 unfold addL
 rw [List.getElem?_zipWith, List.getElem?_eq_getElem ha, List.getElem?_eq_getElem hb]
theorem dig_small {s : List Int} (hv : vS s) : ∀ (i : Nat), i < pr s → ∀ x ∈ dig s i, 0 ≤ x ∧ x ≤ 4096 := by
 intro i hi x hx
 obtain ⟨k, hk, rfl⟩ := List.mem_iff_getElem.1 hx
 have hk' : k < s.length := by rw [← dig_len s i]; exact hk
 rw [dig_at hk' i hi hk]
 have h4 := (vS_pr hv).2
 have h1 := Nat.mod_le (i / pr (s.drop (k + 1))) s[k].toNat
 have h2 := Nat.div_le_self i (pr (s.drop (k + 1)))
 omega
theorem nz2_noid (L : List Int) (k : Nat) : ∀ r ∈ irows .i64 L ++ List.replicate k ([.val (.int .i64 0)] : List AV), ∀ x ∈ r, NoId x := fun r hr => by
 rcases List.mem_append.1 hr with h | h
 ·exact irows_noid _ _ r h
 ·rw [(List.mem_replicate.1 h).2]; exact noid1 (.val _)
theorem fill2_set (Y : List Int) (n i : Nat) (y : Int) (hi : i < n) (lY : Y.length = n) (hy : Y[i]? = some y) :
  (irows .i64 (Y.take i) ++ List.replicate (n - i) ([.val (.int .i64 0)] : List AV)).set i [.val (.int .i64 y)] = irows .i64 (Y.take (i + 1)) ++ List.replicate (n - (i + 1)) [.val (.int .i64 0)] := by
 have ltk : (irows .i64 (Y.take i)).length = i := by rw [irows_len, List.length_take]; omega
 have hY : Y[i]'(by omega) = y := by rw [List.getElem?_eq_getElem (by omega)] at hy; exact Option.some.inj hy
 rw [rep_drop _ n i hi, take_snoc (show i < Y.length by omega), hY, ← irows_append]
 have := set_mid (irows .i64 (Y.take i)) [.val (.int .i64 0)] [.val (.int .i64 y)] (List.replicate (n - (i + 1)) [.val (.int .i64 0)])
 rw [ltk] at this
 rw [this, List.append_assoc]; rfl
theorem set_take {α : Type} {l : List α} {k : Nat} {x : α} (hk : k < l.length) : (l.set k x).take (k + 1) = l.take k ++ [x] := by
 rw [take_snoc (by rw [List.length_set]; exact hk), List.getElem_set_self, List.take_set_of_le (Nat.le_refl k)]
theorem carry_set (Lp : List Int) (k t : Nat) (x : Int) (h : k < Lp.length) : (Lp.take (k + 1) ++ List.replicate t 0).set k x = Lp.take k ++ x :: List.replicate t 0 := by
 have l : (Lp.take k).length = k := by rw [List.length_take]; omega
 rw [take_snoc h, List.append_assoc]
 have := set_mid (Lp.take k) Lp[k] x (List.replicate t 0)
 rw [l] at this
 exact this
theorem carry_get (Lp : List Int) (k t : Nat) (h : k < Lp.length) : (Lp.take (k + 1) ++ List.replicate t 0)[k]? = some Lp[k] := by
 rw [List.getElem?_append_left (by rw [List.length_take]; omega), List.getElem?_take_of_lt (Nat.lt_succ_self k), List.getElem?_eq_getElem h]
section
variable (sa : List Int) (ch : Bool) (tx : List Int) (na : List (Option (Rat × Nat))) (s fr many : List Int)
set_option maxHeartbeats 4000000 in
set_option maxRecDepth 20000 in
theorem clo_run (hs : vS s) (L n i : Nat) (Y Lp K : List Int) (h8 : L ≤ 8) (hL : s.length = L) (hF : fr.length = L) (bF : ∀ x ∈ fr, -100000 ≤ x ∧ x ≤ 100000) (hLp : Lp.length = L) (hK : K.length = L) (bL : ∀ x ∈ Lp, 0 ≤ x ∧ x ≤ 4096) (y : Int) (hy : y = plS 0 s (addL Lp fr)) :
  SW Tryz.prog (Tryz.f80.body.getD .skip) (fun e s2 => e = .ret ∧ s2.t 5 = .val (.int .i64 y) ∧ okT s2 (σf []) 600 [(1000000, .sl 1 (irows .i64 many) false), (1000001, .clo 80 [.lp 16 0, .lp 136 0, .lp 8 0]), (1000007, .own 272 0 n), (1000008, .own 304 0 L), (1000024, .val (.int .i64 (n : Int))), (1000025, .val (.int .i64 (i : Int))), (1000009, .val (.int .i64 (i : Int))), (1000028, .own 272 0 n), (1000029, .val (.int .i64 (i : Int))), (2000003, .sl 1 (irows .i64 many) false), (2000004, .lp 0 0), (2000008, .lp 24 0), (2000009, .val (.int .i64 0))] ∧ okH s2 (σf []) 600 [(0, .cells 5 [[.sl 1 (irows .i64 sa) false, .val (.bool ch), .sl 1 (irows .i32 tx) false, .sl 3 (na.map rowX) false, .val (.bool true)]]), (8, .cells 1 [[.sl 1 (irows .i64 s) false]]), (16, .cells 1 [[.sl 1 (irows .i64 fr) false]]), (24, .cells 5 [[.sl 0 [] true, .val (.bool false), .sl 0 [] true, .sl 0 [] true, .val (.bool false)]]), (136, .cells 1 [[.own 128 0 L]]), (128, .cells 1 (irows .i64 (addL Lp fr))), (304, .cells 1 (irows .i64 Lp)), (272, .cells 1 (irows .i64 (Y.take i) ++ List.replicate (n - i) ([.val (.int .i64 0)] : List AV)))]) (mkS [(0, .own 304 0 L), (1, .lp 16 0), (2, .lp 136 0), (3, .lp 8 0), (1000000, .sl 1 (irows .i64 many) false), (1000001, .clo 80 [.lp 16 0, .lp 136 0, .lp 8 0]), (1000007, .own 272 0 n), (1000008, .own 304 0 L), (1000024, .val (.int .i64 (n : Int))), (1000025, .val (.int .i64 (i : Int))), (1000009, .val (.int .i64 (i : Int))), (1000028, .own 272 0 n), (1000029, .val (.int .i64 (i : Int))), (2000003, .sl 1 (irows .i64 many) false), (2000004, .lp 0 0), (2000008, .lp 24 0), (2000009, .val (.int .i64 0))] [(0, .cells 5 [[.sl 1 (irows .i64 sa) false, .val (.bool ch), .sl 1 (irows .i32 tx) false, .sl 3 (na.map rowX) false, .val (.bool true)]]), (8, .cells 1 [[.sl 1 (irows .i64 s) false]]), (16, .cells 1 [[.sl 1 (irows .i64 fr) false]]), (24, .cells 5 [[.sl 0 [] true, .val (.bool false), .sl 0 [] true, .sl 0 [] true, .val (.bool false)]]), (136, .cells 1 [[.own 128 0 L]]), (128, .cells 1 (irows .i64 K)), (304, .cells 1 (irows .i64 Lp)), (272, .cells 1 (irows .i64 (Y.take i) ++ List.replicate (n - i) ([.val (.int .i64 0)] : List AV)))] 600 36) := by
 have lfr := irows_len .i64 fr
 show SW Tryz.prog (.seq (.region 0 _ false) _) _ _
 refine SW.seqA TTok ?_
 conv => whnf
 refine SW.cutM TTok (fun _ : Unit => [(0, .own 304 0 L), (1, .lp 16 0), (2, .lp 136 0), (3, .lp 8 0), (1000000, .sl 1 (irows .i64 many) false), (1000001, .clo 80 [.lp 16 0, .lp 136 0, .lp 8 0]), (1000007, .own 272 0 n), (1000008, .own 304 0 L), (1000024, .val (.int .i64 (n : Int))), (1000025, .val (.int .i64 (i : Int))), (1000009, .val (.int .i64 (i : Int))), (1000028, .own 272 0 n), (1000029, .val (.int .i64 (i : Int))), (2000003, .sl 1 (irows .i64 many) false), (2000004, .lp 0 0), (2000008, .lp 24 0), (2000009, .val (.int .i64 0))]) (fun _ => [(0, .cells 5 [[.sl 1 (irows .i64 sa) false, .val (.bool ch), .sl 1 (irows .i32 tx) false, .sl 3 (na.map rowX) false, .val (.bool true)]]), (8, .cells 1 [[.sl 1 (irows .i64 s) false]]), (16, .cells 1 [[.sl 1 (irows .i64 fr) false]]), (24, .cells 5 [[.sl 0 [] true, .val (.bool false), .sl 0 [] true, .sl 0 [] true, .val (.bool false)]]), (136, .cells 1 [[.own 128 0 L]]), (128, .cells 1 (irows .i64 (addL Lp fr))), (304, .cells 1 (irows .i64 Lp)), (272, .cells 1 (irows .i64 (Y.take i) ++ List.replicate (n - i) ([.val (.int .i64 0)] : List AV)))]) 600 36 rfl (fun _ => True) ?_ (fun _ _ => ?_)
 ·conv => whnf
  refine SW.loopM TTok (fun x : Nat × List Int => [(0, .own 304 0 L), (1, .lp 16 0), (2, .lp 136 0), (3, .lp 8 0), (10, .val (.int .i64 (L : Int))), (11, .val (.int .i64 (x.1 : Int))), (1000000, .sl 1 (irows .i64 many) false), (1000001, .clo 80 [.lp 16 0, .lp 136 0, .lp 8 0]), (1000007, .own 272 0 n), (1000008, .own 304 0 L), (1000024, .val (.int .i64 (n : Int))), (1000025, .val (.int .i64 (i : Int))), (1000009, .val (.int .i64 (i : Int))), (1000028, .own 272 0 n), (1000029, .val (.int .i64 (i : Int))), (2000003, .sl 1 (irows .i64 many) false), (2000004, .lp 0 0), (2000008, .lp 24 0), (2000009, .val (.int .i64 0))])
   (fun x => [(0, .cells 5 [[.sl 1 (irows .i64 sa) false, .val (.bool ch), .sl 1 (irows .i32 tx) false, .sl 3 (na.map rowX) false, .val (.bool true)]]), (8, .cells 1 [[.sl 1 (irows .i64 s) false]]), (16, .cells 1 [[.sl 1 (irows .i64 fr) false]]), (24, .cells 5 [[.sl 0 [] true, .val (.bool false), .sl 0 [] true, .sl 0 [] true, .val (.bool false)]]), (136, .cells 1 [[.own 128 0 L]]), (128, .cells 1 (irows .i64 x.2)), (304, .cells 1 (irows .i64 Lp)), (272, .cells 1 (irows .i64 (Y.take i) ++ List.replicate (n - i) ([.val (.int .i64 0)] : List AV)))]) 700 36 rfl (fun x => L - x.1) (fun x => x.1 ≤ L ∧ x.2.length = L ∧ x.2.take x.1 = (addL Lp fr).take x.1) (0, K) [] ⟨Nat.zero_le _, hK, rfl⟩
   ⟨q2r, q2r, q2r, q2r, q2r, q2r, q2r, q2r, q2r, q2r, q2r, q2r, q2r, q2r, q2r, q2r, q2r, q2r, q2r, trivial⟩ ⟨q3r, q3r, q3r, q3r, q3r, ⟨rfl, .inl ⟨rfl, irows_noid _ _⟩⟩, ⟨rfl, .inl ⟨rfl, irows_noid _ _⟩⟩, ⟨rfl, .inl ⟨rfl, nz2_noid _ _⟩⟩, trivial⟩ rfl ?_
  rintro ⟨k, K⟩ ⟨hk, hK, hE⟩
  have hk : k ≤ L := hk
  have hK : K.length = L := hK
  have hE : K.take k = (addL Lp fr).take k := hE
  by_cases hkt : k < L
  ·have hkL : k < Lp.length := by omega
   have hkF : k < fr.length := by omega
   have g1 := irows_get .i64 Lp (List.getElem?_eq_getElem hkL)
   have g2 := irows_get .i64 fr (List.getElem?_eq_getElem hkF)
   have eK : IntKind.i64.wrap ((k : Int) + 1) = ((k + 1 : Nat) : Int) := by rw [IntWalk.i64_in _ (by omega)]; omega
   have b1 := bL Lp[k] (List.getElem_mem hkL)
   have b2 := bF fr[k] (List.getElem_mem hkF)
   have hAt := addL_at hkL hkF
   obtain ⟨p, hp⟩ : ∃ p, p = Lp[k] := ⟨_, rfl⟩
   obtain ⟨q, hq⟩ : ∃ q, q = fr[k] := ⟨_, rfl⟩
   rw [← hp] at g1 b1
   rw [← hq] at g2 b2
   rw [← hp, ← hq] at hAt
   have wpq : IntKind.i64.wrap (p + q) = p + q := by rw [IntWalk.i64_in _ (by omega)]
   have hlA : k < (addL Lp fr).length := by rw [addL_len _ _ (by omega)]; omega
   have hAk : (addL Lp fr)[k] = p + q := by rw [List.getElem?_eq_getElem hlA] at hAt; exact Option.some.inj hAt
   have lKr : (irows .i64 K).length = L := by rw [irows_len]; exact hK
   conv => whnf
   first | refine oTq (by omega) ?_ | refine oFq (by omega) ?_ | refine oEq (by omega) ?_ | refine oNq (by omega) ?_
   conv => whnf
   refine ⟨by omega, ?_⟩
   conv => whnf
   refine ⟨_, by rw [Nat.zero_add, Int.toNat_natCast]; exact g1, ?_⟩
   conv => whnf
   refine ⟨_, ⟨by omega, by rw [Int.toNat_natCast]; exact g2⟩, ?_⟩
   conv => whnf
   refine ⟨by omega, ?_⟩
   conv => whnf
   refine ⟨by rw [Nat.zero_add, Int.toNat_natCast]; show k < (irows .i64 K).length; omega, ?_⟩
   conv => whnf
   refine ⟨by kernel_rfl, ?_⟩
   conv => whnf
   refine ⟨(k + 1, K.set k (p + q)), [], (by show L - (k + 1) < L - k; omega), ⟨hkt, by show (K.set k (p + q)).length = L; rw [List.length_set]; exact hK, by show (K.set k (p + q)).take (k + 1) = (addL Lp fr).take (k + 1); rw [set_take (by omega), take_snoc hlA, hE, hAk]⟩, ⟨q2r, q2r, q2r, q2r, q2r, ⟨valI eK, rfl⟩, q2r, q2r, q2r, q2r, q2r, q2r, q2r, q2r, q2r, q2r, q2r, q2r, q2r, trivial⟩, ⟨q3r, q3r, q3r, q3r, q3r, ⟨rfl, .inl ⟨celE ?_, irows_noid _ _⟩⟩, ⟨rfl, .inl ⟨rfl, irows_noid _ _⟩⟩, ⟨rfl, .inl ⟨rfl, nz2_noid _ _⟩⟩, trivial⟩, rfl⟩
   show (irows .i64 K).set (0 + (k : Int).toNat) [.val (.int .i64 (IntKind.i64.wrap (p + q)))] = _
   rw [wpq, Nat.zero_add, Int.toNat_natCast, irows_set]
  ·have hke : k = L := by omega
   have eKK : K = addL Lp fr := by
    have l2 := addL_len Lp fr (by omega)
    rw [hke, List.take_of_length_le (by omega), List.take_of_length_le (by omega)] at hE
    exact hE
   rw [eKK]
   conv => whnf
   first | refine oTq (by omega) ?_ | refine oFq (by omega) ?_ | refine oEq (by omega) ?_ | refine oNq (by omega) ?_
   conv => whnf
   exact ⟨(), [], trivial, ⟨q2r, q2r, q2r, q2r, q2r, q2r, q2r, q2r, q2r, q2r, q2r, q2r, q2r, q2r, q2r, q2r, q2r, trivial⟩, ⟨q3r, q3r, q3r, q3r, q3r, ⟨rfl, .inl ⟨rfl, irows_noid _ _⟩⟩, ⟨rfl, .inl ⟨rfl, irows_noid _ _⟩⟩, ⟨rfl, .inl ⟨rfl, nz2_noid _ _⟩⟩, trivial⟩, rfl⟩
 have lA := addL_len Lp fr (by omega)
 have lAr := irows_len .i64 (addL Lp fr)
 have hPl := ShPlace_ok s (addL Lp fr) hs (by omega)
 have fE : irows .i64 (addL Lp fr) = List.take L (List.drop 0 (irows .i64 (addL Lp fr))) := by rw [List.drop_zero, List.take_of_length_le (by omega)]
 rw [fE] at hPl
 rw [← hy] at hPl
 unfold plT at hPl
 refine SW.seq (SW.regionAt TTok 2 _ rfl rfl rfl ?_)
 conv => whnf
 refine Stp.bor rfl rfl rfl (by show 0 + L ≤ (irows .i64 (addL Lp fr)).length; omega) hPl rfl rfl ?_
 conv => whnf
 refine SW.go TTok ?_
 by_cases hy1 : y = -1
 ·subst hy1
  conv => whnf
  exact ⟨rfl, rfl, ⟨q2r, q2r, q2r, q2r, q2r, q2r, q2r, q2r, q2r, q2r, q2r, q2r, q2r, trivial⟩, ⟨q3r, q3r, q3r, q3r, q3r, ⟨rfl, .inl ⟨rfl, irows_noid _ _⟩⟩, ⟨rfl, .inl ⟨rfl, irows_noid _ _⟩⟩, ⟨rfl, .inl ⟨rfl, nz2_noid _ _⟩⟩, trivial⟩⟩
 ·rw [decide_eq_true hy1, if_neg hy1]
  conv => whnf
  exact ⟨rfl, rfl, ⟨q2r, q2r, q2r, q2r, q2r, q2r, q2r, q2r, q2r, q2r, q2r, q2r, q2r, trivial⟩, ⟨q3r, q3r, q3r, q3r, q3r, ⟨rfl, .inl ⟨rfl, irows_noid _ _⟩⟩, ⟨rfl, .inl ⟨rfl, irows_noid _ _⟩⟩, ⟨rfl, .inl ⟨rfl, nz2_noid _ _⟩⟩, trivial⟩⟩
end
end
section
section
variable (sa : List Int) (ch : Bool) (tx : List Int) (na : List (Option (Rat × Nat))) (s fr many : List Int)
set_option maxHeartbeats 4000000 in
set_option maxRecDepth 20000 in
theorem carry_run (hv : vS many) (L n i : Nat) (Y Lp KK : List Int) (h8 : L ≤ 8) (hLL : L = many.length) (hn : n = pr many) (hlt : i < n) (hLp : Lp.length = L) (hD : Lp = dig many i) :
  SW Tryz.prog (cAt (Tryz.f79.body.getD .skip) [1,1,1,1,1,0,1,1,1,1,1,0,1,1,1]) (fun e s2 => e = .normal ∧ ∃ Lp', Lp'.length = L ∧ (i + 1 < n → Lp' = dig many (i + 1)) ∧ okT s2 (σf []) 600 [(0, .sl 1 (irows .i64 many) false), (1, .clo 80 [.lp 16 0, .lp 136 0, .lp 8 0]), (7, .own 272 0 n), (8, .own 304 0 L), (24, .val (.int .i64 (n : Int))), (25, .val (.int .i64 (i : Int))), (1000003, .sl 1 (irows .i64 many) false), (1000004, .lp 0 0), (1000008, .lp 24 0), (1000009, .val (.int .i64 0))] ∧ okH s2 (σf []) 600 [(0, .cells 5 [[.sl 1 (irows .i64 sa) false, .val (.bool ch), .sl 1 (irows .i32 tx) false, .sl 3 (na.map rowX) false, .val (.bool true)]]), (8, .cells 1 [[.sl 1 (irows .i64 s) false]]), (16, .cells 1 [[.sl 1 (irows .i64 fr) false]]), (24, .cells 5 [[.sl 0 [] true, .val (.bool false), .sl 0 [] true, .sl 0 [] true, .val (.bool false)]]), (136, .cells 1 [[.own 128 0 L]]), (128, .cells 1 (irows .i64 KK)), (304, .cells 1 (irows .i64 Lp')), (272, .cells 1 (irows .i64 (Y.take (i + 1)) ++ List.replicate (n - (i + 1)) ([.val (.int .i64 0)] : List AV)))]) (mkS [(0, .sl 1 (irows .i64 many) false), (1, .clo 80 [.lp 16 0, .lp 136 0, .lp 8 0]), (7, .own 272 0 n), (8, .own 304 0 L), (24, .val (.int .i64 (n : Int))), (25, .val (.int .i64 (i : Int))), (1000003, .sl 1 (irows .i64 many) false), (1000004, .lp 0 0), (1000008, .lp 24 0), (1000009, .val (.int .i64 0))] [(0, .cells 5 [[.sl 1 (irows .i64 sa) false, .val (.bool ch), .sl 1 (irows .i32 tx) false, .sl 3 (na.map rowX) false, .val (.bool true)]]), (8, .cells 1 [[.sl 1 (irows .i64 s) false]]), (16, .cells 1 [[.sl 1 (irows .i64 fr) false]]), (24, .cells 5 [[.sl 0 [] true, .val (.bool false), .sl 0 [] true, .sl 0 [] true, .val (.bool false)]]), (136, .cells 1 [[.own 128 0 L]]), (128, .cells 1 (irows .i64 KK)), (304, .cells 1 (irows .i64 Lp)), (272, .cells 1 (irows .i64 (Y.take (i + 1)) ++ List.replicate (n - (i + 1)) ([.val (.int .i64 0)] : List AV)))] 600 61) := by
 obtain ⟨z, hz⟩ : ∃ z : Nat → Int, ∀ t, z t = (L : Int) - 1 - (t : Int) := ⟨fun t => (L : Int) - 1 - (t : Int), fun _ => rfl⟩
 have lm := irows_len .i64 many
 show SW Tryz.prog (.seq (.region 10 _ false) (.block 2 _)) _ _
 refine SW.go TTok ?_
 conv => whnf
 refine SW.loopM TTok (fun t : Nat => [(0, .sl 1 (irows .i64 many) false), (1, .clo 80 [.lp 16 0, .lp 136 0, .lp 8 0]), (7, .own 272 0 n), (8, .own 304 0 L), (24, .val (.int .i64 (n : Int))), (25, .val (.int .i64 (i : Int))), (10, .val (.int .i64 (z t))), (1000003, .sl 1 (irows .i64 many) false), (1000004, .lp 0 0), (1000008, .lp 24 0), (1000009, .val (.int .i64 0))])
  (fun t => [(0, .cells 5 [[.sl 1 (irows .i64 sa) false, .val (.bool ch), .sl 1 (irows .i32 tx) false, .sl 3 (na.map rowX) false, .val (.bool true)]]), (8, .cells 1 [[.sl 1 (irows .i64 s) false]]), (16, .cells 1 [[.sl 1 (irows .i64 fr) false]]), (24, .cells 5 [[.sl 0 [] true, .val (.bool false), .sl 0 [] true, .sl 0 [] true, .val (.bool false)]]), (136, .cells 1 [[.own 128 0 L]]), (128, .cells 1 (irows .i64 KK)), (304, .cells 1 (irows .i64 (Lp.take (L - t) ++ List.replicate t 0))), (272, .cells 1 (irows .i64 (Y.take (i + 1)) ++ List.replicate (n - (i + 1)) ([.val (.int .i64 0)] : List AV)))]) 2000 61 rfl (fun t => L - t) (fun t => t ≤ L ∧ i % pr (many.drop (L - t)) + 1 = pr (many.drop (L - t))) 0 [] ⟨Nat.zero_le _, by rw [Nat.sub_zero, List.drop_of_length_le (by omega)]; show i % 1 + 1 = 1; rw [Nat.mod_one]⟩
  ⟨q2r, q2r, q2r, q2r, q2r, q2r, ⟨valI ?_, rfl⟩, q2r, q2r, q2r, q2r, trivial⟩ ⟨q3r, q3r, q3r, q3r, q3r, ⟨rfl, .inl ⟨rfl, irows_noid _ _⟩⟩, ⟨rfl, .inl ⟨celE ?_, irows_noid _ _⟩⟩, ⟨rfl, .inl ⟨rfl, nz2_noid _ _⟩⟩, trivial⟩ rfl ?_
 ·rw [IntWalk.i64_in _ (by omega), hz]; omega
 ·show irows .i64 Lp = irows .i64 (Lp.take (L - 0) ++ [])
  rw [Nat.sub_zero, List.take_of_length_le (by omega), List.append_nil]
 intro t hJ
 have ht : t ≤ L := hJ.1
 have hm := hJ.2
 clear hJ
 have hzt := hz t
 have hz1 := hz (t + 1)
 by_cases htL : t < L
 ·obtain ⟨k, hk⟩ : ∃ k, k = L - 1 - t := ⟨_, rfl⟩
  have ekt : L - t = k + 1 := by omega
  have zk : (z t).toNat = k := by omega
  rw [ekt] at hm ⊢
  have hkm : k < many.length := by omega
  have hkL : k < Lp.length := by omega
  have eC : ∀ x : Int, (Lp.take (k + 1) ++ List.replicate t 0).set k x = Lp.take k ++ x :: List.replicate t 0 := fun x => carry_set Lp k t x hkL
  have gC : (Lp.take (k + 1) ++ List.replicate t 0)[k]? = some Lp[k] := carry_get Lp k t hkL
  have lC : (irows .i64 (Lp.take (k + 1) ++ List.replicate t 0)).length = L := by rw [irows_len, List.length_append, List.length_take, List.length_replicate]; omega
  have g1 := irows_get .i64 _ gC
  have g2 := irows_get .i64 many (List.getElem?_eq_getElem hkm)
  have b1 := dig_small hv i (by omega) Lp[k] (by rw [← hD]; exact List.getElem_mem hkL)
  have b2 := vS_dim hv (List.getElem_mem hkm)
  have b3 := hv.2.1 _ (List.getElem_mem hkm)
  have hdk : k < (dig many i).length := by rw [← hD]; exact hkL
  have eDk : (dig many i)[k] = Lp[k] := by simp only [hD]
  have nx := odo_next hkm i (by omega) hm hdk
  have fl := odo_full hkm i (by omega) hm hdk b3
  rw [eDk] at nx fl
  rw [← hD] at nx
  obtain ⟨p, hp⟩ : ∃ p, p = Lp[k] := ⟨_, rfl⟩
  obtain ⟨d, hd⟩ : ∃ d, d = many[k] := ⟨_, rfl⟩
  rw [← hp] at g1 b1 nx fl
  rw [← hd] at g2 b2 nx fl
  have w1 : IntKind.i64.wrap (p + 1) = p + 1 := by rw [IntWalk.i64_in _ (by omega)]
  have wz : IntKind.i64.wrap (z t - 1) = z (t + 1) := by rw [IntWalk.i64_in _ (by omega)]; omega
  conv => whnf
  first | refine oTq (by omega) ?_ | refine oFq (by omega) ?_ | refine oEq (by omega) ?_ | refine oNq (by omega) ?_
  conv => whnf
  refine ⟨by omega, ?_⟩
  conv => whnf
  refine ⟨_, by rw [Nat.zero_add, zk]; exact g1, ?_⟩
  conv => whnf
  refine ⟨by omega, ?_⟩
  conv => whnf
  refine ⟨by rw [Nat.zero_add, zk]; show k < (irows .i64 (Lp.take (k + 1) ++ List.replicate t 0)).length; omega, ?_⟩
  conv => whnf
  refine ⟨by omega, ?_⟩
  conv => whnf
  refine ⟨_, by rw [Nat.zero_add, zk]; exact List.getElem?_set_self (by omega), ?_⟩
  conv => whnf
  refine ⟨_, ⟨by omega, by rw [zk]; exact g2⟩, ?_⟩
  by_cases hlt2 : p + 1 < d
  ·obtain ⟨e1, e2⟩ := nx hlt2
   have e3 : L - (k + 1) = t := by omega
   have e4 : many.length - (k + 1) = t := by omega
   rw [e4] at e1
   conv => whnf
   refine ⟨by kernel_rfl, ?_⟩
   conv => whnf
   first | refine oTq (by omega) ?_ | refine oFq (by omega) ?_ | refine oEq (by omega) ?_ | refine oNq (by omega) ?_
   conv => whnf
   refine ⟨rfl, dig many (i + 1), by rw [dig_len]; omega, fun _ => rfl, ⟨q2r, q2r, q2r, q2r, q2r, q2r, q2r, q2r, q2r, q2r, trivial⟩, ⟨q3r, q3r, q3r, q3r, q3r, ⟨rfl, .inl ⟨rfl, irows_noid _ _⟩⟩, ⟨rfl, .inl ⟨celE ?_, irows_noid _ _⟩⟩, ⟨rfl, .inl ⟨rfl, nz2_noid _ _⟩⟩, trivial⟩⟩
   show (irows .i64 (Lp.take (k + 1) ++ List.replicate t 0)).set (0 + (z t).toNat) [.val (.int .i64 (IntKind.i64.wrap (p + 1)))] = _
   rw [w1, Nat.zero_add, zk, irows_set, eC, e1]
  ·have fl := fl hlt2
   conv => whnf
   refine ⟨by kernel_rfl, ?_⟩
   conv => whnf
   first | refine oTq (by omega) ?_ | refine oFq (by omega) ?_ | refine oEq (by omega) ?_ | refine oNq (by omega) ?_
   conv => whnf
   refine ⟨by omega, ?_⟩
   conv => whnf
   refine ⟨by rw [List.length_set, Nat.zero_add, zk]; show k < (irows .i64 (Lp.take (k + 1) ++ List.replicate t 0)).length; omega, ?_⟩
   conv => whnf
   refine ⟨t + 1, [], (by show L - (t + 1) < k + 1; omega), ⟨htL, by rw [show L - (t + 1) = k by omega]; exact fl⟩, ⟨q2r, q2r, q2r, q2r, q2r, q2r, ⟨valI wz, rfl⟩, q2r, q2r, q2r, q2r, trivial⟩, ⟨q3r, q3r, q3r, q3r, q3r, ⟨rfl, .inl ⟨rfl, irows_noid _ _⟩⟩, ⟨rfl, .inl ⟨celE ?_, irows_noid _ _⟩⟩, ⟨rfl, .inl ⟨rfl, nz2_noid _ _⟩⟩, trivial⟩, rfl⟩
   show ((irows .i64 (Lp.take (k + 1) ++ List.replicate t 0)).set (0 + (z t).toNat) _).set (0 + (z t).toNat) [.val (.int .i64 0)] = irows .i64 (Lp.take (L - (t + 1)) ++ List.replicate (t + 1) 0)
   rw [set_set', Nat.zero_add, zk, irows_set, eC, show L - (t + 1) = k by omega, List.replicate_succ]
 ·have hte : t = L := by omega
  have e0 : L - t = 0 := by omega
  rw [e0, List.drop_zero, ← hn, Nat.mod_eq_of_lt hlt] at hm
  conv => whnf
  first | refine oTq (by omega) ?_ | refine oFq (by omega) ?_ | refine oEq (by omega) ?_ | refine oNq (by omega) ?_
  conv => whnf
  exact ⟨rfl, Lp.take (L - t) ++ List.replicate t 0, by rw [List.length_append, List.length_take, List.length_replicate]; omega, fun h => absurd h (by omega), ⟨q2r, q2r, q2r, q2r, q2r, q2r, q2r, q2r, q2r, q2r, trivial⟩, ⟨q3r, q3r, q3r, q3r, q3r, ⟨rfl, .inl ⟨rfl, irows_noid _ _⟩⟩, ⟨rfl, .inl ⟨rfl, irows_noid _ _⟩⟩, ⟨rfl, .inl ⟨rfl, nz2_noid _ _⟩⟩, trivial⟩⟩
end
end
section
section
variable (sa : List Int) (ch : Bool) (tx : List Int) (na : List (Option (Rat × Nat))) (s fr many : List Int)
set_option maxHeartbeats 4000000 in
set_option maxRecDepth 20000 in
theorem places_run (hv : vS many) (hs : vS s) (L n : Nat) (h8 : L ≤ 8) (hLL : L = many.length) (hL : s.length = L) (hF : fr.length = L) (bF : ∀ x ∈ fr, -100000 ≤ x ∧ x ≤ 100000) (hn : n = pr many) (Y : List Int) (lY : Y.length = n) (hYi : ∀ i, i < n → Y[i]? = some (plS 0 s (addL (dig many i) fr))) :
  SW Tryz.prog (Tryz.f79.body.getD .skip) (fun e s2 => e = .ret ∧ s2.t 4 = .own 272 0 n ∧ okT s2 (σf []) 600 [(1000003, .sl 1 (irows .i64 many) false), (1000004, .lp 0 0), (1000008, .lp 24 0), (1000009, .val (.int .i64 0))] ∧ okH s2 (σf []) 600 [(0, .cells 5 [[.sl 1 (irows .i64 sa) false, .val (.bool ch), .sl 1 (irows .i32 tx) false, .sl 3 (na.map rowX) false, .val (.bool true)]]), (8, .cells 1 [[.sl 1 (irows .i64 s) false]]), (16, .cells 1 [[.sl 1 (irows .i64 fr) false]]), (24, .cells 5 [[.sl 0 [] true, .val (.bool false), .sl 0 [] true, .sl 0 [] true, .val (.bool false)]]), (272, .cells 1 (irows .i64 Y))]) (mkS [(0, .sl 1 (irows .i64 many) false), (1, .clo 80 [.lp 16 0, .lp 136 0, .lp 8 0]), (1000003, .sl 1 (irows .i64 many) false), (1000004, .lp 0 0), (1000008, .lp 24 0), (1000009, .val (.int .i64 0))] [(0, .cells 5 [[.sl 1 (irows .i64 sa) false, .val (.bool ch), .sl 1 (irows .i32 tx) false, .sl 3 (na.map rowX) false, .val (.bool true)]]), (8, .cells 1 [[.sl 1 (irows .i64 s) false]]), (16, .cells 1 [[.sl 1 (irows .i64 fr) false]]), (24, .cells 5 [[.sl 0 [] true, .val (.bool false), .sl 0 [] true, .sl 0 [] true, .val (.bool false)]]), (136, .cells 1 [[.own 128 0 L]]), (128, .cells 1 (irows .i64 (List.replicate L 0)))] 184 61) := by
 have hC := Count_ok many (by omega)
 rw [CNT_good hv, (vS_pr hv).1, ← hn] at hC
 have n4 := (vS_pr hv).2
 rw [← hn] at n4
 have lm := irows_len .i64 many
 have eM : (irows .i64 many).length = L := by omega
 have lYr := irows_len .i64 Y
 show SW Tryz.prog (.seq (.region 0 _ false) _) _ _
 refine SW.seqA TTok ?_
 conv => whnf
 refine SW.seqA TTok ?_
 conv => whnf
 refine ⟨_, hC, ?_⟩
 conv => whnf
 refine SW.seqA TTok ?_
 conv => whnf
 refine SW.seqA TTok ?_
 conv => whnf
 refine ⟨⟨by omega, by omega, by show ((n : Nat) : Int) * ((8 : Nat) : Int) ≤ 140737488355328; omega⟩, ?_⟩
 conv => whnf
 refine SW.seqA TTok ?_
 conv => whnf
 refine ⟨⟨by omega, by omega, by show (((irows .i64 many).length : Nat) : Int) * ((8 : Nat) : Int) ≤ 140737488355328; omega⟩, ?_⟩
 conv => whnf
 refine SW.seqA TTok ?_
 conv => whnf
 refine SW.loopS TTok (fun x : Nat × List Int × List Int => [(0, .sl 1 (irows .i64 many) false), (1, .clo 80 [.lp 16 0, .lp 136 0, .lp 8 0]), (7, .own 272 0 n), (8, .own 304 0 L), (24, .val (.int .i64 (n : Int))), (25, .val (.int .i64 (x.1 : Int))), (1000003, .sl 1 (irows .i64 many) false), (1000004, .lp 0 0), (1000008, .lp 24 0), (1000009, .val (.int .i64 0))])
  (fun x => [(0, .cells 5 [[.sl 1 (irows .i64 sa) false, .val (.bool ch), .sl 1 (irows .i32 tx) false, .sl 3 (na.map rowX) false, .val (.bool true)]]), (8, .cells 1 [[.sl 1 (irows .i64 s) false]]), (16, .cells 1 [[.sl 1 (irows .i64 fr) false]]), (24, .cells 5 [[.sl 0 [] true, .val (.bool false), .sl 0 [] true, .sl 0 [] true, .val (.bool false)]]), (136, .cells 1 [[.own 128 0 L]]), (128, .cells 1 (irows .i64 x.2.2)), (304, .cells 1 (irows .i64 x.2.1)), (272, .cells 1 (irows .i64 (Y.take x.1) ++ List.replicate (n - x.1) ([.val (.int .i64 0)] : List AV)))]) 344 61 rfl (fun x => n - x.1) (fun x => x.1 ≤ n ∧ x.2.1.length = L ∧ x.2.2.length = L ∧ (x.1 < n → x.2.1 = dig many x.1)) (0, List.replicate L 0, List.replicate L 0) [] ⟨Nat.zero_le _, List.length_replicate, List.length_replicate, fun _ => by show List.replicate L 0 = dig many 0; rw [dig_zero, ← hLL]⟩
  ⟨q2r, q2r, q2r, ⟨ownE rfl eM, rfl⟩, q2r, q2r, q2r, q2r, q2r, q2r, trivial⟩ ⟨q3r, q3r, q3r, q3r, q3r, ⟨rfl, .inl ⟨rfl, irows_noid _ _⟩⟩, ⟨rfl, .inl ⟨celE ((congrArg (fun k => List.replicate k ([.val (.int .i64 0)] : List AV)) eM).trans (irows_rep L).symm), irows_noid _ _⟩⟩, ⟨rfl, .inl ⟨celE (by rw [List.take_zero, Nat.sub_zero]; rfl), nz2_noid _ _⟩⟩, trivial⟩ rfl ?_
 rintro ⟨i, Lp, K⟩ ⟨hi, hLp, hK, hD⟩
 have hi : i ≤ n := hi
 have hLp : Lp.length = L := hLp
 have hK : K.length = L := hK
 have hD : i < n → Lp = dig many i := hD
 by_cases hlt : i < n
 ·have hD := hD hlt
  refine SW.seqA TTok ?_
  conv => whnf
  refine SW.seqA TTok ?_
  conv => whnf
  first | refine oTq (by omega) ?_ | refine oFq (by omega) ?_ | refine oEq (by omega) ?_ | refine oNq (by omega) ?_
  conv => whnf
  refine SW.seq (SW.block (SW.seqA TTok ?_))
  conv => whnf
  refine SW.seq (SW.regionAt TTok 4 _ rfl rfl rfl ?_)
  conv => whnf
  have lfl : (irows .i64 (Y.take i) ++ List.replicate (n - i) ([.val (.int .i64 0)] : List AV)).length = n := by rw [List.length_append, irows_len, List.length_take, List.length_replicate]; omega
  obtain ⟨z, hz⟩ : ∃ z : Nat → Int, ∀ t, z t = (L : Int) - 1 - (t : Int) := ⟨fun t => (L : Int) - 1 - (t : Int), fun _ => rfl⟩
  have eI : IntKind.i64.wrap ((i : Int) + 1) = ((i + 1 : Nat) : Int) := by rw [IntWalk.i64_in _ (by omega)]; omega
  have hYv := hYi i hlt
  rw [← hD] at hYv
  obtain ⟨y, hy⟩ : ∃ y, y = plS 0 s (addL Lp fr) := ⟨_, rfl⟩
  rw [← hy] at hYv
  have bL : ∀ x ∈ Lp, 0 ≤ x ∧ x ≤ 4096 := by rw [hD]; exact dig_small hv i (by omega)
  refine Stp.cloM TTok rfl rfl rfl Tryz.func80 rfl (enter_of Tryz.func80 (by kernel_rfl) (by kernel_rfl)) (nbq rfl) (nbq rfl) rfl [(0, .own 304 0 L), (1, .lp 16 0), (2, .lp 136 0), (3, .lp 8 0), (1000000, .sl 1 (irows .i64 many) false), (1000001, .clo 80 [.lp 16 0, .lp 136 0, .lp 8 0]), (1000007, .own 272 0 n), (1000008, .own 304 0 L), (1000024, .val (.int .i64 (n : Int))), (1000025, .val (.int .i64 (i : Int))), (1000009, .val (.int .i64 (i : Int))), (1000028, .own 272 0 n), (1000029, .val (.int .i64 (i : Int))), (2000003, .sl 1 (irows .i64 many) false), (2000004, .lp 0 0), (2000008, .lp 24 0), (2000009, .val (.int .i64 0))] [(0, .cells 5 [[.sl 1 (irows .i64 sa) false, .val (.bool ch), .sl 1 (irows .i32 tx) false, .sl 3 (na.map rowX) false, .val (.bool true)]]), (8, .cells 1 [[.sl 1 (irows .i64 s) false]]), (16, .cells 1 [[.sl 1 (irows .i64 fr) false]]), (24, .cells 5 [[.sl 0 [] true, .val (.bool false), .sl 0 [] true, .sl 0 [] true, .val (.bool false)]]), (136, .cells 1 [[.own 128 0 L]]), (128, .cells 1 (irows .i64 K)), (304, .cells 1 (irows .i64 Lp)), (272, .cells 1 (irows .i64 (Y.take i) ++ List.replicate (n - i) ([.val (.int .i64 0)] : List AV)))] 600 36 rfl
   (Wk.of (σf []) _ _ 600 36 rfl ⟨q2r, q2r, q2r, q2r, q2r, q2r, q2r, q2r, q2r, q2r, q2r, q2r, q2r, q2r, q2r, q2r, q2r, trivial⟩ ⟨q3r, q3r, q3r, q3r, q3r, ⟨rfl, .inl ⟨rfl, irows_noid _ _⟩⟩, ⟨rfl, .inl ⟨rfl, irows_noid _ _⟩⟩, ⟨rfl, .inl ⟨rfl, nz2_noid _ _⟩⟩, trivial⟩ rfl) [(32, .val (.int .i64 y)), (0, .sl 1 (irows .i64 many) false), (1, .clo 80 [.lp 16 0, .lp 136 0, .lp 8 0]), (7, .own 272 0 n), (8, .own 304 0 L), (24, .val (.int .i64 (n : Int))), (25, .val (.int .i64 (i : Int))), (9, .val (.int .i64 (i : Int))), (28, .own 272 0 n), (29, .val (.int .i64 (i : Int))), (1000003, .sl 1 (irows .i64 many) false), (1000004, .lp 0 0), (1000008, .lp 24 0), (1000009, .val (.int .i64 0))] [(0, .cells 5 [[.sl 1 (irows .i64 sa) false, .val (.bool ch), .sl 1 (irows .i32 tx) false, .sl 3 (na.map rowX) false, .val (.bool true)]]), (8, .cells 1 [[.sl 1 (irows .i64 s) false]]), (16, .cells 1 [[.sl 1 (irows .i64 fr) false]]), (24, .cells 5 [[.sl 0 [] true, .val (.bool false), .sl 0 [] true, .sl 0 [] true, .val (.bool false)]]), (136, .cells 1 [[.own 128 0 L]]), (128, .cells 1 (irows .i64 (addL Lp fr))), (304, .cells 1 (irows .i64 Lp)), (272, .cells 1 (irows .i64 (Y.take i) ++ List.replicate (n - i) ([.val (.int .i64 0)] : List AV)))] 600 61 rfl ((clo_run sa ch tx na s fr many hs L n i Y Lp K h8 hL hF bF hLp hK bL y hy).mono fun e s2 h => ⟨.inl h.1, [.val (.int .i64 y)], by show some [s2.t 5] = _; rw [h.2.1], Wk.of (σf []) _ _ 600 61 rfl ⟨q2r, h.2.2.1⟩ h.2.2.2 rfl⟩) ?_
  conv => whnf
  refine ⟨by omega, ?_⟩
  conv => whnf
  refine ⟨by rw [Nat.zero_add, Int.toNat_natCast]; show i < (irows .i64 (Y.take i) ++ List.replicate (n - i) ([.val (.int .i64 0)] : List AV)).length; omega, ?_⟩
  conv => whnf
  refine SW.weak (Wk.of (σf []) [(0, .sl 1 (irows .i64 many) false), (1, .clo 80 [.lp 16 0, .lp 136 0, .lp 8 0]), (7, .own 272 0 n), (8, .own 304 0 L), (24, .val (.int .i64 (n : Int))), (25, .val (.int .i64 (i : Int))), (1000003, .sl 1 (irows .i64 many) false), (1000004, .lp 0 0), (1000008, .lp 24 0), (1000009, .val (.int .i64 0))] [(0, .cells 5 [[.sl 1 (irows .i64 sa) false, .val (.bool ch), .sl 1 (irows .i32 tx) false, .sl 3 (na.map rowX) false, .val (.bool true)]]), (8, .cells 1 [[.sl 1 (irows .i64 s) false]]), (16, .cells 1 [[.sl 1 (irows .i64 fr) false]]), (24, .cells 5 [[.sl 0 [] true, .val (.bool false), .sl 0 [] true, .sl 0 [] true, .val (.bool false)]]), (136, .cells 1 [[.own 128 0 L]]), (128, .cells 1 (irows .i64 (addL Lp fr))), (304, .cells 1 (irows .i64 Lp)), (272, .cells 1 (irows .i64 (Y.take (i + 1)) ++ List.replicate (n - (i + 1)) ([.val (.int .i64 0)] : List AV)))] 600 61 rfl ⟨q2r, q2r, q2r, q2r, q2r, q2r, q2r, q2r, q2r, q2r, trivial⟩ ⟨q3r, q3r, q3r, q3r, q3r, ⟨rfl, .inl ⟨rfl, irows_noid _ _⟩⟩, ⟨rfl, .inl ⟨rfl, irows_noid _ _⟩⟩, ⟨rfl, .inl ⟨celE ?_, nz2_noid _ _⟩⟩, trivial⟩ rfl) rfl ?_
  ·show (irows .i64 (Y.take i) ++ List.replicate (n - i) ([.val (.int .i64 0)] : List AV)).set (0 + (i : Int).toNat) _ = _
   rw [Nat.zero_add, Int.toNat_natCast, fill2_set Y n i _ hlt lY hYv]
  refine (carry_run sa ch tx na s fr many hv L n i Y Lp (addL Lp fr) h8 hLL hn hlt hLp hD).keep.mono ?_
  rintro e s2 ⟨⟨rfl, Lp', l1, l2, l3, l4⟩, l5⟩
  have lA := addL_len Lp fr (by omega)
  show SW Tryz.prog _ _ s2
  refine SW.weak (Wk.of (σf []) [(0, .sl 1 (irows .i64 many) false), (1, .clo 80 [.lp 16 0, .lp 136 0, .lp 8 0]), (7, .own 272 0 n), (8, .own 304 0 L), (24, .val (.int .i64 (n : Int))), (25, .val (.int .i64 (i : Int))), (1000003, .sl 1 (irows .i64 many) false), (1000004, .lp 0 0), (1000008, .lp 24 0), (1000009, .val (.int .i64 0))] [(0, .cells 5 [[.sl 1 (irows .i64 sa) false, .val (.bool ch), .sl 1 (irows .i32 tx) false, .sl 3 (na.map rowX) false, .val (.bool true)]]), (8, .cells 1 [[.sl 1 (irows .i64 s) false]]), (16, .cells 1 [[.sl 1 (irows .i64 fr) false]]), (24, .cells 5 [[.sl 0 [] true, .val (.bool false), .sl 0 [] true, .sl 0 [] true, .val (.bool false)]]), (136, .cells 1 [[.own 128 0 L]]), (128, .cells 1 (irows .i64 (addL Lp fr))), (304, .cells 1 (irows .i64 Lp')), (272, .cells 1 (irows .i64 (Y.take (i + 1)) ++ List.replicate (n - (i + 1)) ([.val (.int .i64 0)] : List AV)))] 600 61 l5 l3 l4 rfl) l5.symm ?_
  refine SW.go TTok ?_
  conv => whnf
  exact ⟨(i + 1, Lp', addL Lp fr), [], (by show n - (i + 1) < n - i; omega), ⟨hlt, l1, lA.trans hLp, l2⟩, ⟨q2r, q2r, q2r, q2r, q2r, ⟨valI eI, rfl⟩, q2r, q2r, q2r, q2r, trivial⟩, ⟨q3r, q3r, q3r, q3r, q3r, ⟨rfl, .inl ⟨rfl, irows_noid _ _⟩⟩, ⟨rfl, .inl ⟨rfl, irows_noid _ _⟩⟩, ⟨rfl, .inl ⟨rfl, nz2_noid _ _⟩⟩, trivial⟩, rfl⟩
 ·have hie : i = n := by omega
  have eY : Y.take i = Y := List.take_of_length_le (by omega)
  rw [eY, hie, Nat.sub_self]
  show SW _ _ _ (mkS _ [_, _, _, _, _, _, _, (272, .cells 1 (irows .i64 Y ++ []))] _ _)
  rw [List.append_nil]
  refine SW.seqA TTok ?_
  conv => whnf
  refine SW.seqA TTok ?_
  conv => whnf
  first | refine oTq (by omega) ?_ | refine oFq (by omega) ?_ | refine oEq (by omega) ?_ | refine oNq (by omega) ?_
  conv => whnf
  refine SW.go TTok ?_
  conv => whnf
  exact ⟨rfl, rfl, ⟨q2r, q2r, q2r, q2r, trivial⟩, ⟨q3r, q3r, q3r, q3r, ⟨rfl, .inl ⟨rfl, irows_noid _ _⟩⟩, trivial⟩⟩
end
end
section
section
variable (sa : List Int) (ch : Bool) (tx : List Int) (na : List (Option (Rat × Nat))) (s fr many : List Int)
theorem win_nd : ∀ x ∈ [AA sa ch tx na true, .sl 1 (irows .i64 s) false, .sl 1 (irows .i64 fr) false, .sl 1 (irows .i64 many) false], NoId x := noidF (AA_noid _ _ _ _ _) (noid_sl _ _ _) (noid_sl _ _ _) (noid_sl _ _ _)
set_option maxHeartbeats 4000000 in
set_option maxRecDepth 20000 in
theorem window_ok (hv : vS many) (hs : vS s) (hL : s.length = many.length) (hF : fr.length = many.length) (bF : ∀ x ∈ fr, -100000 ≤ x ∧ x ≤ 100000) (t5 : tx.length ≤ 100000) (n5 : na.length ≤ 100000) (Y : List Int) (hY : Y = (List.range (pr many)).map fun i => plS 0 s (addL (dig many i) fr)) :
  AC Tryz.prog 40 [AA sa ch tx na true, .sl 1 (irows .i64 s) false, .sl 1 (irows .i64 fr) false, .sl 1 (irows .i64 many) false] (.pure (.tup [AA many ch (pickT ch tx Y) (pickX ch na Y) true, .val (.int .i64 0)])) := by
 have h8 := hv.1
 have hC := Count_ok many (by omega)
 rw [CNT_good hv, (vS_pr hv).1] at hC
 have n4 := (vS_pr hv).2
 obtain ⟨n, hn⟩ : ∃ n, n = pr many := ⟨_, rfl⟩
 obtain ⟨L, hLL⟩ : ∃ L, L = many.length := ⟨_, rfl⟩
 rw [← hn] at hC n4 hY
 rw [← hLL] at hL hF h8
 have lY : Y.length = n := by rw [hY, List.length_map, List.length_range]
 have hYi : ∀ i, i < n → Y[i]? = some (plS 0 s (addL (dig many i) fr)) := fun i hi => by rw [hY, List.getElem?_map, List.getElem?_range hi]; rfl
 have hPk := Pick_any sa ch tx na many Y hv (by rw [lY, hn]) t5 n5
 generalize pickT ch tx Y = T at *
 generalize pickX ch na Y = X at *
 have lYr := irows_len .i64 Y
 have fY : irows .i64 Y = List.take n (List.drop 0 (irows .i64 Y)) := by rw [List.drop_zero, List.take_of_length_le (by omega)]
 rw [fY] at hPk
 have lm := irows_len .i64 many
 have lsr := irows_len .i64 s
 have lfr := irows_len .i64 fr
 clear hY
 have eS : (irows .i64 s).length = L := by omega
 have eM : (irows .i64 many).length = L := by omega
 refine AC.of_sw TTok Tryz.func40 rfl (enter_of Tryz.func40 (by kernel_rfl) (by kernel_rfl)) (win_nd sa ch tx na s fr many) (.tup _ (noid2 (AA_noid _ _ _ _ _) (.val _))) (nbq rfl) ?_
 unfold AA at *
 refine SW.seqA TTok ?_
 conv => whnf
 refine SW.seqA TTok ?_
 conv => whnf
 refine ⟨_, hC, ?_⟩
 conv => whnf
 refine SW.seqA TTok ?_
 conv => whnf
 refine ⟨⟨by omega, by omega, by show (((irows .i64 s).length : Nat) : Int) * ((8 : Nat) : Int) ≤ 140737488355328; omega⟩, ?_⟩
 conv => whnf
 refine SW.seq (SW.regionAt TTok 2 _ rfl rfl rfl ?_)
 conv => whnf
 refine Stp.innM TTok rfl rfl Tryz.func79 rfl (enter_of Tryz.func79 (by kernel_rfl) (by kernel_rfl)) (nbq rfl) (nbq rfl) rfl [(0, .sl 1 (irows .i64 many) false), (1, .clo 80 [.lp 16 0, .lp 136 0, .lp 8 0]), (1000003, .sl 1 (irows .i64 many) false), (1000004, .lp 0 0), (1000008, .lp 24 0), (1000009, .val (.int .i64 0))] [(0, .cells 5 [[.sl 1 (irows .i64 sa) false, .val (.bool ch), .sl 1 (irows .i32 tx) false, .sl 3 (na.map rowX) false, .val (.bool true)]]), (8, .cells 1 [[.sl 1 (irows .i64 s) false]]), (16, .cells 1 [[.sl 1 (irows .i64 fr) false]]), (24, .cells 5 [[.sl 0 [] true, .val (.bool false), .sl 0 [] true, .sl 0 [] true, .val (.bool false)]]), (136, .cells 1 [[.own 128 0 L]]), (128, .cells 1 (irows .i64 (List.replicate L 0)))] 184 61 rfl
  (Wk.of (σf []) _ _ 184 61 rfl ⟨q2r, q2r, q2r, q2r, q2r, q2r, trivial⟩ ⟨q3r, q3r, q3r, q3r, ⟨rfl, .inr ⟨celE (congrArg (fun k => [[AV.own 128 0 k]]) eS), rfl⟩⟩, ⟨rfl, .inl ⟨celE ((congrArg (fun k => List.replicate k ([.val (.int .i64 0)] : List AV)) eS).trans (irows_rep L).symm), irows_noid _ _⟩⟩, trivial⟩ rfl) [(33, .own 272 0 n), (3, .sl 1 (irows .i64 many) false), (4, .lp 0 0), (8, .lp 24 0), (9, .val (.int .i64 0))] [(0, .cells 5 [[.sl 1 (irows .i64 sa) false, .val (.bool ch), .sl 1 (irows .i32 tx) false, .sl 3 (na.map rowX) false, .val (.bool true)]]), (8, .cells 1 [[.sl 1 (irows .i64 s) false]]), (16, .cells 1 [[.sl 1 (irows .i64 fr) false]]), (24, .cells 5 [[.sl 0 [] true, .val (.bool false), .sl 0 [] true, .sl 0 [] true, .val (.bool false)]]), (272, .cells 1 (irows .i64 Y))] 600 42 rfl ((places_run sa ch tx na s fr many hv hs L n h8 hLL hL hF bF hn Y lY hYi).mono fun e s2 h => ⟨.inl h.1, [.own 272 0 n], by show some [s2.t 4] = _; rw [h.2.1], Wk.of (σf []) _ _ 600 42 rfl ⟨q2r, h.2.2.1⟩ h.2.2.2 rfl⟩) ?_
 conv => whnf
 refine SW.go TTok ?_
 conv => whnf
 refine ⟨by show 0 + n ≤ (irows .i64 Y).length; omega, _, hPk, ?_⟩
 repeat ((conv => whnf); (first | refine ⟨_, ‹_›, ?_⟩ | refine ⟨nbq rfl, _, ‹_›, ?_⟩ | refine ⟨by kernel_rfl, ?_⟩ | exact rfl | exact ⟨nbq rfl, rfl⟩ | refine ⟨by decide, ?_⟩))
end
end
section
def sizeI (n : Int) : Int := if n < 0 then -(max n (-4097)) else min n 4097
theorem sizeI_nonneg (n : Int) : 0 ≤ sizeI n ∧ sizeI n ≤ 4097 := by unfold sizeI; split <;> omega
theorem size_ok (n : Int) (h : i64b n) : AC Tryz.prog 39 [.val (.int .i64 n)] (.pure (.val (.int .i64 (sizeI n)))) := by
 obtain ⟨h1, h2⟩ := h
 refine AC.of_body TTok Tryz.func39 rfl (enter_of Tryz.func39 (by kernel_rfl) (by kernel_rfl)) (noid1 (.val _)) (.val _) (nbq rfl) ?_
 by_cases h0 : n < 0
 ·have e : IntKind.i64.wrap (0 - (if (-4097 : Int) > n then -4097 else n)) = sizeI n := by
   unfold sizeI
   rw [if_pos h0, IntWalk.i64_in _ (by split <;> omega)]
   split <;> omega
  rw [← e]
  conv => whnf
  first | refine oTq (by omega) ?_ | refine oFq (by omega) ?_ | refine oEq (by omega) ?_ | refine oNq (by omega) ?_
  repeat ((conv => whnf); (first | refine ⟨_, ‹_›, ?_⟩ | refine ⟨nbq rfl, _, ‹_›, ?_⟩ | refine ⟨by kernel_rfl, ?_⟩ | exact rfl | exact ⟨nbq rfl, rfl⟩ | refine ⟨by decide, ?_⟩))
 ·have e : (if (4097 : Int) < n then 4097 else n) = sizeI n := by
   unfold sizeI
   rw [if_neg h0]
   split <;> omega
  rw [← e]
  conv => whnf
  first | refine oTq (by omega) ?_ | refine oFq (by omega) ?_ | refine oEq (by omega) ?_ | refine oNq (by omega) ?_
  repeat ((conv => whnf); (first | refine ⟨_, ‹_›, ?_⟩ | refine ⟨nbq rfl, _, ‹_›, ?_⟩ | refine ⟨by kernel_rfl, ?_⟩ | exact rfl | exact ⟨nbq rfl, rfl⟩ | refine ⟨by decide, ?_⟩))
theorem list9_ok (sh l : List Int) (h1 : sh.length ≤ 1) (hl : l.length ≤ 1000) (hI : ∀ n ∈ l, i64b n) : AC Tryz.prog 59 [AA sh false [] (l.map intX) true] (.pure (.tup [.sl 1 (irows .i64 l) false, .val (.int .i64 0)])) := by
 have hR := Rank_ok sh false [] (l.map intX) (by omega)
 have hW := AWhole_ok sh l hl hI
 refine AC.of_body TTok Tryz.func59 rfl (enter_of Tryz.func59 (by kernel_rfl) (by kernel_rfl)) (noid1 (AA_noid _ _ _ _ _)) (.tup _ (noid2 (noid_sl _ _ _) (.val _))) (nbq rfl) ?_
 unfold AA at *
 conv => whnf
 refine ⟨_, hR, ?_⟩
 conv => whnf
 first | refine oTq (by omega) ?_ | refine oFq (by omega) ?_ | refine oEq (by omega) ?_ | refine oNq (by omega) ?_
 conv => whnf
 refine ⟨_, hW, ?_⟩
 repeat ((conv => whnf); (first | refine ⟨_, ‹_›, ?_⟩ | refine ⟨nbq rfl, _, ‹_›, ?_⟩ | refine ⟨by kernel_rfl, ?_⟩ | exact rfl | exact ⟨nbq rfl, rfl⟩ | refine ⟨by decide, ?_⟩))
theorem bounds_ok (sh l sa : List Int) (ch : Bool) (tx : List Int) (na : List (Option (Rat × Nat))) (h1 : sh.length ≤ 1) (hI : ∀ n ∈ l, i64b n) (h0 : sa ≠ []) (h8 : sa.length ≤ 8) (hl : l.length = sa.length) :
  AC Tryz.prog 38 [AA sh false [] (l.map intX) true, AA sa ch tx na true] (.pure (.tup [.sl 1 (irows .i64 l) false, .sl 1 (irows .i64 sa) false, .val (.int .i64 0)])) := by
 have hL := list9_ok sh l h1 (by omega) hI
 have hS := Shape_ok sa ch tx na (by omega)
 have lr := irows_len .i64 l
 have lsa := irows_len .i64 sa
 have hp : sa.length ≠ 0 := fun e => h0 (List.length_eq_zero_iff.1 e)
 refine AC.of_body TTok Tryz.func38 rfl (enter_of Tryz.func38 (by kernel_rfl) (by kernel_rfl)) (noid2 (AA_noid _ _ _ _ _) (AA_noid _ _ _ _ _)) (.tup _ (noid3 (noid_sl _ _ _) (noid_sl _ _ _) (.val _))) (nbq rfl) ?_
 unfold AA at *
 conv => whnf
 refine ⟨_, hL, ?_⟩
 conv => whnf
 refine ⟨_, hS, ?_⟩
 conv => whnf
 first | refine oTq (by omega) ?_ | refine oFq (by omega) ?_ | refine oEq (by omega) ?_ | refine oNq (by omega) ?_
 conv => whnf
 first | refine nTq (by omega) ?_ | refine nFq (by omega) ?_
 repeat ((conv => whnf); (first | refine ⟨_, ‹_›, ?_⟩ | refine ⟨nbq rfl, _, ‹_›, ?_⟩ | refine ⟨by kernel_rfl, ?_⟩ | exact rfl | exact ⟨nbq rfl, rfl⟩ | refine ⟨by decide, ?_⟩))
def takeM (l : List Int) : List Int := l.map sizeI
def takeF (l sa : List Int) : List Int := List.zipWith (fun n d => if n < 0 then d - sizeI n else 0) l sa
theorem fill0 (Y : List Int) (n i : Nat) (hi : i < n) (lY : Y.length = n) (hy : Y[i]? = some 0) :
  irows .i64 (Y.take i) ++ List.replicate (n - i) ([.val (.int .i64 0)] : List AV) = irows .i64 (Y.take (i + 1)) ++ List.replicate (n - (i + 1)) [.val (.int .i64 0)] := by
 have hY : Y[i]'(by omega) = 0 := by rw [List.getElem?_eq_getElem (by omega)] at hy; exact Option.some.inj hy
 rw [rep_drop _ n i hi, take_snoc (show i < Y.length by omega), hY, ← irows_append, List.append_assoc]
 rfl
set_option maxRecDepth 20000 in
theorem Take_ok (sh l sa : List Int) (ch : Bool) (tx : List Int) (na : List (Option (Rat × Nat))) (h1 : sh.length ≤ 1) (hI : ∀ n ∈ l, i64b n) (h0 : sa ≠ []) (hv : vS sa) (hl : l.length = sa.length) (sh' : List Int) (ch' : Bool) (tx' : List Int) (na' : List (Option (Rat × Nat))) (z : Bool) (e : Int)
  (hW : AC Tryz.prog 40 [AA sa ch tx na true, .sl 1 (irows .i64 sa) false, .sl 1 (irows .i64 (takeF l sa)) false, .sl 1 (irows .i64 (takeM l)) false] (.pure (.tup [AA sh' ch' tx' na' z, .val (.int .i64 e)]))) :
  AC Tryz.prog 13 [AA sh false [] (l.map intX) true, AA sa ch tx na true] (.pure (.tup [AA sh' ch' tx' na' z, .val (.int .i64 e)])) := by
 have hB := bounds_ok sh l sa ch tx na h1 hI h0 hv.1 hl
 have h8 := hv.1
 obtain ⟨n, hn⟩ : ∃ n, n = l.length := ⟨_, rfl⟩
 obtain ⟨M, hM⟩ : ∃ M, M = takeM l := ⟨_, rfl⟩
 obtain ⟨F, hF⟩ : ∃ F, F = takeF l sa := ⟨_, rfl⟩
 have lM : M.length = n := by rw [hM, hn]; exact List.length_map _
 have lF : F.length = n := by rw [hF, hn]; unfold takeF; rw [List.length_zipWith]; omega
 have hMi : ∀ i (h : i < l.length), M[i]? = some (sizeI l[i]) := fun i h => by rw [hM]; unfold takeM; rw [List.getElem?_map, List.getElem?_eq_getElem h]; rfl
 have hFi : ∀ i (h : i < l.length) (h' : i < sa.length), F[i]? = some (if l[i] < 0 then sa[i] - sizeI l[i] else 0) := fun i h h' => by
  rw [hF]
  unfold takeF
  rw [List.getElem?_zipWith, List.getElem?_eq_getElem h, List.getElem?_eq_getElem h']
 rw [← hM, ← hF] at hW
 have lMr := irows_len .i64 M
 have lFr := irows_len .i64 F
 have fM : irows .i64 M = List.take n (List.drop 0 (irows .i64 M)) := by rw [List.drop_zero, List.take_of_length_le (by omega)]
 have fF : irows .i64 F = List.take n (List.drop 0 (irows .i64 F)) := by rw [List.drop_zero, List.take_of_length_le (by omega)]
 rw [fM, fF] at hW
 have lr := irows_len .i64 l
 have lsa := irows_len .i64 sa
 have e0 : (irows .i64 l).length = n := by omega
 have lfill : ∀ (Y : List Int), Y.length = n → ∀ i, i ≤ n → (irows .i64 (Y.take i) ++ List.replicate (n - i) ([.val (.int .i64 0)] : List AV)).length = n := fun Y hY i hi => by rw [List.length_append, irows_len, List.length_take, List.length_replicate]; omega
 refine AC.of_body TTok Tryz.func13 rfl (enter_of Tryz.func13 (by kernel_rfl) (by kernel_rfl)) (noid2 (AA_noid _ _ _ _ _) (AA_noid _ _ _ _ _)) (.tup _ (noid2 (AA_noid _ _ _ _ _) (.val _))) (nbq rfl) ?_
 unfold AA at *
 conv => whnf
 refine ⟨_, hB, ?_⟩
 conv => whnf
 refine ⟨⟨by omega, by omega, by show (((irows .i64 l).length : Nat) : Int) * ((8 : Nat) : Int) ≤ 140737488355328; omega⟩, ?_⟩
 conv => whnf
 refine ⟨⟨by omega, by omega, by show (((irows .i64 l).length : Nat) : Int) * ((8 : Nat) : Int) ≤ 140737488355328; omega⟩, ?_⟩
 conv => whnf
 refine ⟨by kernel_rfl, ?_⟩
 conv => whnf
 refine SW.loopM TTok (fun i : Nat => [(2, .lp 0 0), (3, .lp 8 0), (4, .lp 16 0), (5, .val (.int .i64 0)), (6, .sl 1 (irows .i64 l) false), (7, .sl 1 (irows .i64 sa) false), (9, .own 144 0 n), (10, .own 168 0 n), (30, .sl 1 (irows .i64 l) false), (31, .val (.int .i64 (n : Int))), (32, .val (.int .i64 (i : Int)))])
  (fun i => [(0, .cells 5 [[.sl 1 (irows .i64 sh) false, .val (.bool false), .sl 1 (irows .i32 []) false, .sl 3 ((l.map intX).map rowX) false, .val (.bool true)]]), (8, .cells 5 [[.sl 1 (irows .i64 sa) false, .val (.bool ch), .sl 1 (irows .i32 tx) false, .sl 3 (na.map rowX) false, .val (.bool true)]]), (16, .cells 5 [[.sl 0 [] true, .val (.bool false), .sl 0 [] true, .sl 0 [] true, .val (.bool false)]]), (144, .cells 1 (irows .i64 (F.take i) ++ List.replicate (n - i) ([.val (.int .i64 0)] : List AV))), (168, .cells 1 (irows .i64 (M.take i) ++ List.replicate (n - i) ([.val (.int .i64 0)] : List AV)))]) 216 64 rfl (fun i => n - i) (fun i => i ≤ n) 0 [] (Nat.zero_le _)
  ⟨q2r, q2r, q2r, q2r, q2r, q2r, ⟨ownE rfl e0, rfl⟩, ⟨ownE rfl e0, rfl⟩, q2r, ⟨valI (by rw [e0]), rfl⟩, q2r, trivial⟩ ⟨q3r, q3r, q3r, ⟨rfl, .inl ⟨celE (by rw [List.take_zero, Nat.sub_zero]; exact congrArg (fun k => List.replicate k ([.val (.int .i64 0)] : List AV)) e0), nz2_noid _ _⟩⟩, ⟨rfl, .inl ⟨celE (by rw [List.take_zero, Nat.sub_zero]; exact congrArg (fun k => List.replicate k ([.val (.int .i64 0)] : List AV)) e0), nz2_noid _ _⟩⟩, trivial⟩ rfl ?_
 intro i hi
 have hi : i ≤ n := hi
 have lfF := lfill F lF i hi
 have lfM := lfill M lM i hi
 by_cases hlt : i < n
 ·have hil : i < l.length := by omega
  have his : i < sa.length := by omega
  have eI : IntKind.i64.wrap ((i : Int) + 1) = ((i + 1 : Nat) : Int) := by rw [IntWalk.i64_in _ (by omega)]; omega
  have g1 := irows_get .i64 l (List.getElem?_eq_getElem hil)
  have g2 := irows_get .i64 sa (List.getElem?_eq_getElem his)
  have hm := hMi i hil
  have hf := hFi i hil his
  have d1 := hv.2.1 _ (List.getElem_mem his)
  have d2 := vS_dim hv (List.getElem_mem his)
  have hSz := size_ok l[i] (hI _ (List.getElem_mem hil))
  have sz := sizeI_nonneg l[i]
  obtain ⟨x, hx⟩ : ∃ x, x = l[i] := ⟨_, rfl⟩
  obtain ⟨d, hd⟩ : ∃ d, d = sa[i] := ⟨_, rfl⟩
  rw [← hx] at g1 hm hf hSz sz
  rw [← hd] at g2 hf d1 d2
  obtain ⟨y, hy⟩ : ∃ y, y = sizeI x := ⟨_, rfl⟩
  rw [← hy] at hm hf hSz sz
  have eM := fill2_set M n i y hlt lM hm
  have wd : IntKind.i64.wrap (d - y) = d - y := by rw [IntWalk.i64_in _ (by omega)]
  conv => whnf
  first | refine oTq (by omega) ?_ | refine oFq (by omega) ?_ | refine oEq (by omega) ?_ | refine oNq (by omega) ?_
  conv => whnf
  refine ⟨_, ⟨by omega, by rw [Int.toNat_natCast]; exact g1⟩, ?_⟩
  conv => whnf
  refine ⟨_, hSz, ?_⟩
  conv => whnf
  refine ⟨by omega, ?_⟩
  conv => whnf
  refine ⟨by rw [Nat.zero_add, Int.toNat_natCast]; show i < (irows .i64 (M.take i) ++ List.replicate (n - i) ([.val (.int .i64 0)] : List AV)).length; omega, ?_⟩
  by_cases h0x : x < 0
  ·rw [if_pos h0x] at hf
   have eF := fill2_set F n i (d - y) hlt lF hf
   conv => whnf
   first | refine oTq (by omega) ?_ | refine oFq (by omega) ?_ | refine oEq (by omega) ?_ | refine oNq (by omega) ?_
   conv => whnf
   refine ⟨_, ⟨by omega, by rw [Int.toNat_natCast]; exact g2⟩, ?_⟩
   conv => whnf
   refine ⟨by omega, ?_⟩
   conv => whnf
   refine ⟨_, by rw [Nat.zero_add, Int.toNat_natCast]; exact List.getElem?_set_self (by omega), ?_⟩
   conv => whnf
   refine ⟨by omega, ?_⟩
   conv => whnf
   refine ⟨by rw [Nat.zero_add, Int.toNat_natCast]; show i < (irows .i64 (F.take i) ++ List.replicate (n - i) ([.val (.int .i64 0)] : List AV)).length; omega, ?_⟩
   conv => whnf
   refine ⟨by kernel_rfl, ?_⟩
   conv => whnf
   refine ⟨i + 1, [], (by show n - (i + 1) < n - i; omega), hlt, ⟨q2r, q2r, q2r, q2r, q2r, q2r, q2r, q2r, q2r, q2r, ⟨valI eI, rfl⟩, trivial⟩, ⟨q3r, q3r, q3r, ⟨rfl, .inl ⟨celE ?_, nz2_noid _ _⟩⟩, ⟨rfl, .inl ⟨celE ?_, nz2_noid _ _⟩⟩, trivial⟩, rfl⟩
   ·rw [← eF]
    show (irows .i64 (F.take i) ++ List.replicate (n - i) ([.val (.int .i64 0)] : List AV)).set (0 + (i : Int).toNat) [.val (.int .i64 (IntKind.i64.wrap (d - y)))] = _
    rw [wd, Nat.zero_add, Int.toNat_natCast]
   ·rw [← eM]
    show (irows .i64 (M.take i) ++ List.replicate (n - i) ([.val (.int .i64 0)] : List AV)).set (0 + (i : Int).toNat) _ = _
    rw [Nat.zero_add, Int.toNat_natCast]
  ·rw [if_neg h0x] at hf
   have eF := fill0 F n i hlt lF hf
   conv => whnf
   first | refine oTq (by omega) ?_ | refine oFq (by omega) ?_ | refine oEq (by omega) ?_ | refine oNq (by omega) ?_
   conv => whnf
   refine ⟨i + 1, [], (by show n - (i + 1) < n - i; omega), hlt, ⟨q2r, q2r, q2r, q2r, q2r, q2r, q2r, q2r, q2r, q2r, ⟨valI eI, rfl⟩, trivial⟩, ⟨q3r, q3r, q3r, ⟨rfl, .inl ⟨celE eF, nz2_noid _ _⟩⟩, ⟨rfl, .inl ⟨celE ?_, nz2_noid _ _⟩⟩, trivial⟩, rfl⟩
   rw [← eM]
   show (irows .i64 (M.take i) ++ List.replicate (n - i) ([.val (.int .i64 0)] : List AV)).set (0 + (i : Int).toNat) _ = _
   rw [Nat.zero_add, Int.toNat_natCast]
 ·have hie : i = n := by omega
  have e1 : irows .i64 (F.take i) ++ List.replicate (n - i) ([.val (.int .i64 0)] : List AV) = irows .i64 F := by rw [hie, Nat.sub_self, List.take_of_length_le (by omega)]; exact List.append_nil _
  have e2 : irows .i64 (M.take i) ++ List.replicate (n - i) ([.val (.int .i64 0)] : List AV) = irows .i64 M := by rw [hie, Nat.sub_self, List.take_of_length_le (by omega)]; exact List.append_nil _
  rw [e1, e2, hie]
  conv => whnf
  first | refine oTq (by omega) ?_ | refine oFq (by omega) ?_ | refine oEq (by omega) ?_ | refine oNq (by omega) ?_
  conv => whnf
  refine ⟨⟨by show 0 + n ≤ (irows .i64 F).length; omega, by show 0 + n ≤ (irows .i64 M).length; omega⟩, _, hW, ?_⟩
  repeat ((conv => whnf); (first | refine ⟨_, ‹_›, ?_⟩ | refine ⟨nbq rfl, _, ‹_›, ?_⟩ | refine ⟨by kernel_rfl, ?_⟩ | exact rfl | exact ⟨nbq rfl, rfl⟩ | refine ⟨by decide, ?_⟩))
end
section
theorem upto_ok (n : Nat) (hn : n ≤ 5000) : AC Tryz.prog 88 [.val (.int .i64 (n : Int))] (.pure (.sl 1 (irows .i64 ((List.range n).map fun i : Nat => (i : Int))) false)) := by
 obtain ⟨Y, hY⟩ : ∃ Y, Y = (List.range n).map fun i : Nat => (i : Int) := ⟨_, rfl⟩
 have lY : Y.length = n := by rw [hY, List.length_map, List.length_range]
 have hYi : ∀ i, i < n → Y[i]? = some (i : Int) := fun i hi => by rw [hY, List.getElem?_map, List.getElem?_range hi]; rfl
 rw [← hY]
 have lYr := irows_len .i64 Y
 have lfill : ∀ i, i ≤ n → (irows .i64 (Y.take i) ++ List.replicate (n - i) ([.val (.int .i64 0)] : List AV)).length = n := fun i hi => by rw [List.length_append, irows_len, List.length_take, List.length_replicate]; omega
 refine AC.of_body TTok Tryz.func88 rfl (enter_of Tryz.func88 (by kernel_rfl) (by kernel_rfl)) (noid1 (.val _)) (noid_sl _ _ _) (nbq rfl) ?_
 conv => whnf
 refine ⟨⟨by omega, by omega, by show ((n : Nat) : Int) * ((8 : Nat) : Int) ≤ 140737488355328; omega⟩, ?_⟩
 conv => whnf
 refine SW.loopM TTok (fun i : Nat => [(3, .own 16 0 n), (8, .val (.int .i64 (n : Int))), (9, .val (.int .i64 (i : Int)))]) (fun i => [(16, .cells 1 (irows .i64 (Y.take i) ++ List.replicate (n - i) ([.val (.int .i64 0)] : List AV)))]) 56 18 rfl (fun i => n - i) (fun i => i ≤ n) 0 [] (Nat.zero_le _)
  ⟨q2r, q2r, q2r, trivial⟩ ⟨⟨rfl, .inl ⟨celE (by rw [List.take_zero, Nat.sub_zero]; rfl), nz2_noid _ _⟩⟩, trivial⟩ rfl ?_
 intro i hi
 have hi : i ≤ n := hi
 have lf := lfill i hi
 by_cases hlt : i < n
 ·have eI : IntKind.i64.wrap ((i : Int) + 1) = ((i + 1 : Nat) : Int) := by rw [IntWalk.i64_in _ (by omega)]; omega
  conv => whnf
  first | refine oTq (by omega) ?_ | refine oFq (by omega) ?_ | refine oEq (by omega) ?_ | refine oNq (by omega) ?_
  conv => whnf
  refine ⟨by omega, ?_⟩
  conv => whnf
  refine ⟨by rw [Nat.zero_add, Int.toNat_natCast]; show i < (irows .i64 (Y.take i) ++ List.replicate (n - i) ([.val (.int .i64 0)] : List AV)).length; omega, ?_⟩
  conv => whnf
  refine ⟨i + 1, [], (by show n - (i + 1) < n - i; omega), hlt, ⟨q2r, q2r, ⟨valI eI, rfl⟩, trivial⟩, ⟨⟨rfl, .inl ⟨celE ?_, nz2_noid _ _⟩⟩, trivial⟩, rfl⟩
  show (irows .i64 (Y.take i) ++ List.replicate (n - i) ([.val (.int .i64 0)] : List AV)).set (0 + (i : Int).toNat) _ = _
  rw [Nat.zero_add, Int.toNat_natCast, fill2_set Y n i (i : Int) hlt lY (hYi i hlt)]
 ·have hie : i = n := by omega
  have eY : irows .i64 (Y.take i) ++ List.replicate (n - i) ([.val (.int .i64 0)] : List AV) = irows .i64 Y := by rw [hie, Nat.sub_self, List.take_of_length_le (by omega)]; exact List.append_nil _
  rw [eY, hie]
  conv => whnf
  first | refine oTq (by omega) ?_ | refine oFq (by omega) ?_ | refine oEq (by omega) ?_ | refine oNq (by omega) ?_
  conv => whnf
  refine ⟨by show 0 + n ≤ (irows .i64 Y).length; omega, ?_⟩
  show AV.sl 1 (List.take n (List.drop 0 (irows .i64 Y))) false = _
  rw [List.drop_zero, List.take_of_length_le (by omega)]
theorem woven_one (xs : List (Option (Rat × Nat))) (h1 : xs.length = 1) : AC Tryz.prog 48 [.sl 5 (xs.map prow) false, .sl 1 (irows .i64 [(xs.length : Int)]) false, .val (.int .i64 0)] (.pure (.tup [AA [(xs.length : Int)] false [] xs true, .val (.int .i64 0)])) := by
 obtain ⟨x, rfl⟩ : ∃ x, xs = [x] := by
  cases xs with
  | nil => cases h1
  | cons x l => cases l with
   | nil => exact ⟨x, rfl⟩
   | cons y l => cases h1
 have hL : AC Tryz.prog 20 [AA [] false [] [x] true] (.pure (.val (.int .i64 1))) := ALen_ok [] false [] [x] true (by decide) (by show 1 ≤ 1000000; omega)
 have hU : AC Tryz.prog 88 [.val (.int .i64 1)] (.pure (.sl 1 (irows .i64 [0]) false)) := upto_ok 1 (by decide)
 have hP : AC Tryz.prog 66 [AA [] false [] [x] true, .sl 1 (irows .i64 [1]) false, .sl 1 (irows .i64 [0]) false] (.pure (.tup [AA [1] false [] [x] true, .val (.bool true)])) := Pick_any [] false [] [x] [1] [0] (by decide) rfl (by decide) (by show 1 ≤ 100000; omega)
 show AC Tryz.prog 48 [.sl 5 [prow x] false, .sl 1 (irows .i64 [1]) false, .val (.int .i64 0)] (.pure (.tup [AA [1] false [] [x] true, .val (.int .i64 0)]))
 refine AC.of_body TTok Tryz.func48 rfl (enter_of Tryz.func48 (by kernel_rfl) (by kernel_rfl)) (noid3 (.sl _ _ _ (prows_noid [x])) (noid_sl _ _ _) (.val _)) (.tup _ (noid2 (AA_noid _ _ _ _ _) (.val _))) (nbq rfl) ?_
 unfold AA at *
 conv => whnf
 refine ⟨_, ⟨by decide, rfl⟩, ?_⟩
 conv => whnf
 refine ⟨_, ⟨by decide, rfl⟩, ?_⟩
 conv => whnf
 refine ⟨_, hL, ?_⟩
 conv => whnf
 refine ⟨_, hU, ?_⟩
 conv => whnf
 refine ⟨_, hP, ?_⟩
 conv => whnf
 refine ⟨by kernel_rfl, ?_⟩
 repeat ((conv => whnf); (first | refine ⟨_, ‹_›, ?_⟩ | refine ⟨nbq rfl, _, ‹_›, ?_⟩ | refine ⟨by kernel_rfl, ?_⟩ | exact rfl | exact ⟨nbq rfl, rfl⟩ | refine ⟨by decide, ?_⟩))
theorem Scan_one (c : Int) (hc : isTwo c) (axis most : Int) (hax : axis < 0) (na : List (Option (Rat × Nat))) (xs : List (Option (Rat × Nat))) (n : Nat) (hnl : n = xs.length) (hl : na.length = xs.length) (hn : xs.length = 1) (h4 : xs.length ≤ 1000)
  (hR : ∀ i (h : i < xs.length), AC Tryz.prog 46 [.val (.int .i32 c), AA [(n : Int)] false [] na true, .val (.int .i64 0), .val (.int .i64 (i : Int)), .val (.int .i64 most)] (.pure (.tup [AA [] false [] [xs[i]] true, .val (.int .i64 0)]))) :
  AC Tryz.prog 17 [.val (.int .i32 c), AA [(n : Int)] false [] na true, .val (.int .i64 axis), .val (.int .i64 most)] (.pure (.tup [AA [(n : Int)] false [] xs true, .val (.int .i64 0)])) := by
 have hH := Has_ok c
 rw [decide_eq_true hc] at hH
 have hRk : AC Tryz.prog 24 [AA [(n : Int)] false [] na true] (.pure (.val (.int .i64 1))) := Rank_ok [(n : Int)] false [] na (by show 1 ≤ 1000000; omega)
 have hA := Axis_ok [(n : Int)] false [] na axis 0 ⟨by show 0 < 1; omega, .inr ⟨hax, rfl⟩⟩ (by show 1 ≤ 1000; omega)
 have hA : AC Tryz.prog 45 [AA [(n : Int)] false [] na true, .val (.int .i64 axis)] (.pure (.tup [.val (.int .i64 0), .val (.bool true)])) := hA
 have hS := Shape_ok [(n : Int)] false [] na (by show 1 ≤ 1000000; omega)
 have hL := ALen_ok [(n : Int)] false [] na true (by decide) (by omega)
 have hW := woven_one xs hn
 have lp : (xs.map prow).length = n := by rw [List.length_map]; exact hnl.symm
 have eW : xs.map prow = List.take n (List.drop 0 (xs.map prow)) := by rw [List.drop_zero, List.take_of_length_le (by omega)]
 rw [eW] at hW
 have hIc := fun x => IsChar_ok [] false [] [x] true
 have lna : ([] : List Int).length + na.length = n := by rw [hl, hnl]; exact Nat.zero_add _
 rw [lna] at hL
 rw [← hnl] at hW
 have lz : ∀ k, (List.replicate k zrow).length = k := fun k => List.length_replicate
 refine AC.of_body TTok Tryz.func17 rfl (enter_of Tryz.func17 (by kernel_rfl) (by kernel_rfl)) (noidF (.val _) (AA_noid _ _ _ _ _) (.val _) (.val _)) (.tup _ (noid2 (AA_noid _ _ _ _ _) (.val _))) (nbq rfl) ?_
 unfold AA at *
 conv => whnf
 refine ⟨_, hH, ?_⟩
 conv => whnf
 refine ⟨_, hRk, ?_⟩
 conv => whnf
 refine ⟨_, hA, ?_⟩
 conv => whnf
 refine ⟨_, hS, ?_⟩
 conv => whnf
 refine ⟨_, hL, ?_⟩
 conv => whnf
 first | refine oTq (by omega) ?_ | refine oFq (by omega) ?_ | refine oEq (by omega) ?_ | refine oNq (by omega) ?_
 conv => whnf
 refine ⟨_, ⟨by decide, rfl⟩, ?_⟩
 conv => whnf
 refine ⟨⟨by omega, by omega, by show ((n : Nat) : Int) * ((88 : Nat) : Int) ≤ 140737488355328; omega⟩, ?_⟩
 conv => whnf
 refine SW.loopM TTok (fun i : Nat => [(0, .val (.int .i32 c)), (3, .val (.int .i64 most)), (5, .lp 0 0), (8, .lp 8 0), (9, .val (.int .i64 0)), (10, .val (.int .i64 0)), (12, .sl 1 (irows .i64 [(n : Int)]) false), (13, .own 280 0 n), (52, .val (.int .i64 (n : Int))), (53, .val (.int .i64 (i : Int)))])
  (fun i => [(0, .cells 5 [[.sl 1 (irows .i64 [(n : Int)]) false, .val (.bool false), .sl 1 (irows .i32 []) false, .sl 3 (na.map rowX) false, .val (.bool true)]]), (8, .cells 5 [[.sl 0 [] true, .val (.bool false), .sl 0 [] true, .sl 0 [] true, .val (.bool false)]]), (280, .cells 5 ((xs.take i).map prow ++ List.replicate (n - i) zrow))]) 320 90 rfl (fun i => n - i) (fun i => i ≤ n) 0 [] (Nat.zero_le _)
  ⟨q2r, q2r, q2r, q2r, q2r, q2r, q2r, q2r, q2r, q2r, trivial⟩ ⟨q3r, q3r, ⟨rfl, .inl ⟨rfl, pz_noid _ _⟩⟩, trivial⟩ rfl ?_
 intro i hJ
 have hi : i ≤ n := hJ
 clear hJ
 have ltk : ((xs.take i).map prow).length = i := by rw [List.length_map, List.length_take]; omega
 have lr : ((xs.take i).map prow ++ List.replicate (n - i) zrow).length = n := by rw [List.length_append, ltk, lz]; omega
 by_cases hlt : i < n
 ·have eI : IntKind.i64.wrap ((i : Int) + 1) = ((i + 1 : Nat) : Int) := by rw [IntWalk.i64_in _ (by omega)]; omega
  have hxi : i < xs.length := by omega
  have hRi := hR i hxi
  have hIi := hIc xs[i]
  obtain ⟨x, hx⟩ : ∃ x, x = xs[i] := ⟨_, rfl⟩
  rw [← hx] at hRi hIi
  have hset : ((xs.take i).map prow ++ List.replicate (n - i) zrow).set i (prow x) = (xs.take (i + 1)).map prow ++ List.replicate (n - (i + 1)) zrow := by
   rw [rep_drop _ n i hlt, take_snoc hxi, ← hx]
   have := set_mid ((xs.take i).map prow) zrow (prow x) (List.replicate (n - (i + 1)) zrow)
   rw [ltk] at this
   rw [this]; simp
  conv => whnf
  first | refine oTq (by omega) ?_ | refine oFq (by omega) ?_ | refine oEq (by omega) ?_ | refine oNq (by omega) ?_
  conv => whnf
  refine ⟨_, hRi, ?_⟩
  conv => whnf
  refine ⟨by omega, ?_⟩
  conv => whnf
  refine ⟨by rw [Nat.zero_add, Int.toNat_natCast]; omega, ?_⟩
  conv => whnf
  refine ⟨_, hIi, ?_⟩
  conv => whnf
  refine ⟨i + 1, [], (by show n - (i + 1) < n - i; omega), hlt, ⟨q2r, q2r, q2r, q2r, q2r, q2r, q2r, q2r, q2r, ⟨valI eI, rfl⟩, trivial⟩, ⟨q3r, q3r, ⟨rfl, .inl ⟨celE ?_, pz_noid _ _⟩⟩, trivial⟩, rfl⟩
  rw [← hset]
  show List.set _ (0 + (i : Int).toNat) _ = _
  rw [Nat.zero_add, Int.toNat_natCast]
  rfl
 ·have hie : i = n := by omega
  have e1 : xs.take i = xs := List.take_of_length_le (by omega)
  rw [e1, hie, Nat.sub_self, List.replicate_zero, List.append_nil]
  conv => whnf
  first | refine oTq (by omega) ?_ | refine oFq (by omega) ?_ | refine oEq (by omega) ?_ | refine oNq (by omega) ?_
  conv => whnf
  refine ⟨by show 0 + n ≤ _; omega, _, hW, ?_⟩
  repeat ((conv => whnf); (first | refine ⟨_, ‹_›, ?_⟩ | refine ⟨nbq rfl, _, ‹_›, ?_⟩ | refine ⟨by kernel_rfl, ?_⟩ | exact rfl | exact ⟨nbq rfl, rfl⟩ | refine ⟨by decide, ?_⟩))
theorem Scan_err (c : Int) (hc : isTwo c) (axis most : Int) (hax : axis < 0) (na : List (Option (Rat × Nat))) (xs : List (Option (Rat × Nat))) (n : Nat) (hnl : n = xs.length) (hl : na.length = xs.length) (E : Nat → Int) (i0 : Nat) (h0 : i0 < n) (hE : E i0 ≠ 0) (hz : ∀ j, j < i0 → E j = 0) (h4 : xs.length ≤ 1000)
  (hR : ∀ i (h : i < xs.length), AC Tryz.prog 46 [.val (.int .i32 c), AA [(n : Int)] false [] na true, .val (.int .i64 0), .val (.int .i64 (i : Int)), .val (.int .i64 most)] (.pure (resF [] false [] [xs[i]] (E i)))) :
  AC Tryz.prog 17 [.val (.int .i32 c), AA [(n : Int)] false [] na true, .val (.int .i64 axis), .val (.int .i64 most)] (.pure (.tup [AA [] false [] [] false, .val (.int .i64 (E i0))])) := by
 have hH := Has_ok c
 rw [decide_eq_true hc] at hH
 have hRk : AC Tryz.prog 24 [AA [(n : Int)] false [] na true] (.pure (.val (.int .i64 1))) := Rank_ok [(n : Int)] false [] na (by show 1 ≤ 1000000; omega)
 have hA := Axis_ok [(n : Int)] false [] na axis 0 ⟨by show 0 < 1; omega, .inr ⟨hax, rfl⟩⟩ (by show 1 ≤ 1000; omega)
 have hA : AC Tryz.prog 45 [AA [(n : Int)] false [] na true, .val (.int .i64 axis)] (.pure (.tup [.val (.int .i64 0), .val (.bool true)])) := hA
 have hS := Shape_ok [(n : Int)] false [] na (by show 1 ≤ 1000000; omega)
 have hL := ALen_ok [(n : Int)] false [] na true (by decide) (by omega)
 have hIc := fun x => IsChar_ok [] false [] [x] true
 have lna : ([] : List Int).length + na.length = n := by rw [hl, hnl]; exact Nat.zero_add _
 rw [lna] at hL
 have lz : ∀ k, (List.replicate k zrow).length = k := fun k => List.length_replicate
 refine Red_err ?_
 refine AC.of_body TTok Tryz.func17 rfl (enter_of Tryz.func17 (by kernel_rfl) (by kernel_rfl)) (noidF (.val _) (AA_noid _ _ _ _ _) (.val _) (.val _)) (AZf_noid _) (nbq rfl) ?_
 unfold AA AZ at *
 conv => whnf
 refine ⟨_, hH, ?_⟩
 conv => whnf
 refine ⟨_, hRk, ?_⟩
 conv => whnf
 refine ⟨_, hA, ?_⟩
 conv => whnf
 refine ⟨_, hS, ?_⟩
 conv => whnf
 refine ⟨_, hL, ?_⟩
 conv => whnf
 first | refine oTq (by omega) ?_ | refine oFq (by omega) ?_ | refine oEq (by omega) ?_ | refine oNq (by omega) ?_
 conv => whnf
 refine ⟨_, ⟨by decide, rfl⟩, ?_⟩
 conv => whnf
 refine ⟨⟨by omega, by omega, by show ((n : Nat) : Int) * ((88 : Nat) : Int) ≤ 140737488355328; omega⟩, ?_⟩
 conv => whnf
 refine SW.loopM TTok (fun i : Nat => [(0, .val (.int .i32 c)), (3, .val (.int .i64 most)), (5, .lp 0 0), (8, .lp 8 0), (9, .val (.int .i64 0)), (10, .val (.int .i64 0)), (12, .sl 1 (irows .i64 [(n : Int)]) false), (13, .own 280 0 n), (52, .val (.int .i64 (n : Int))), (53, .val (.int .i64 (i : Int)))])
  (fun i => [(0, .cells 5 [[.sl 1 (irows .i64 [(n : Int)]) false, .val (.bool false), .sl 1 (irows .i32 []) false, .sl 3 (na.map rowX) false, .val (.bool true)]]), (8, .cells 5 [[.sl 0 [] true, .val (.bool false), .sl 0 [] true, .sl 0 [] true, .val (.bool false)]]), (280, .cells 5 ((xs.take i).map prow ++ List.replicate (n - i) zrow))]) 320 90 rfl (fun i => i0 - i) (fun i => i ≤ i0) 0 [] (Nat.zero_le _)
  ⟨q2r, q2r, q2r, q2r, q2r, q2r, q2r, q2r, q2r, q2r, trivial⟩ ⟨q3r, q3r, ⟨rfl, .inl ⟨rfl, pz_noid _ _⟩⟩, trivial⟩ rfl ?_
 intro i hJ
 have hi0 : i ≤ i0 := hJ
 have hi : i ≤ n := by omega
 clear hJ
 have ltk : ((xs.take i).map prow).length = i := by rw [List.length_map, List.length_take]; omega
 have lr : ((xs.take i).map prow ++ List.replicate (n - i) zrow).length = n := by rw [List.length_append, ltk, lz]; omega
 have hlt : i < n := by omega
 by_cases hli : i < i0
 ·have eI : IntKind.i64.wrap ((i : Int) + 1) = ((i + 1 : Nat) : Int) := by rw [IntWalk.i64_in _ (by omega)]; omega
  have hxi : i < xs.length := by omega
  have hRi := hR i hxi
  have hIi := hIc xs[i]
  unfold resF AA at hRi
  rw [if_pos (hz i hli)] at hRi
  obtain ⟨x, hx⟩ : ∃ x, x = xs[i] := ⟨_, rfl⟩
  rw [← hx] at hRi hIi
  have hset : ((xs.take i).map prow ++ List.replicate (n - i) zrow).set i (prow x) = (xs.take (i + 1)).map prow ++ List.replicate (n - (i + 1)) zrow := by
   rw [rep_drop _ n i hlt, take_snoc hxi, ← hx]
   have := set_mid ((xs.take i).map prow) zrow (prow x) (List.replicate (n - (i + 1)) zrow)
   rw [ltk] at this
   rw [this]; simp
  conv => whnf
  first | refine oTq (by omega) ?_ | refine oFq (by omega) ?_ | refine oEq (by omega) ?_ | refine oNq (by omega) ?_
  conv => whnf
  refine ⟨_, hRi, ?_⟩
  conv => whnf
  refine ⟨by omega, ?_⟩
  conv => whnf
  refine ⟨by rw [Nat.zero_add, Int.toNat_natCast]; omega, ?_⟩
  conv => whnf
  refine ⟨_, hIi, ?_⟩
  conv => whnf
  refine ⟨i + 1, [], (by show i0 - (i + 1) < i0 - i; omega), hli, ⟨q2r, q2r, q2r, q2r, q2r, q2r, q2r, q2r, q2r, ⟨valI eI, rfl⟩, trivial⟩, ⟨q3r, q3r, ⟨rfl, .inl ⟨celE ?_, pz_noid _ _⟩⟩, trivial⟩, rfl⟩
  rw [← hset]
  show List.set _ (0 + (i : Int).toNat) _ = _
  rw [Nat.zero_add, Int.toNat_natCast]
  rfl
 ·have hie : i = i0 := by omega
  subst hie
  have hRi := hR i (by omega)
  unfold resF AA at hRi
  rw [if_neg hE] at hRi
  generalize E i = y at *
  conv => whnf
  first | refine oTq (by omega) ?_ | refine oFq (by omega) ?_ | refine oEq (by omega) ?_ | refine oNq (by omega) ?_
  conv => whnf
  refine ⟨_, hRi, ?_⟩
  conv => whnf
  first | refine nTq (by omega) ?_ | refine nFq (by omega) ?_
  repeat ((conv => whnf); (first | refine ⟨_, ‹_›, ?_⟩ | refine ⟨nbq rfl, _, ‹_›, ?_⟩ | refine ⟨by kernel_rfl, ?_⟩ | exact rfl | exact ⟨nbq rfl, rfl⟩ | refine ⟨by decide, ?_⟩))
end
section
theorem int_vals (L : List Int) : (L.map intX).map valX = L.map fun n : Int => (n : Rat) := by rw [List.map_map]; rfl
theorem int_oks (L : List Int) : ∀ o ∈ L.map intX, okX o := fun o ho => by
 obtain ⟨n, _, rfl⟩ := List.mem_map.1 ho
 exact (Rat.den_intCast n).symm
theorem int_szs {L : List Int} (h : ∀ x ∈ L, -128 ≤ x ∧ x ≤ 128) : ∀ q ∈ L.map fun n : Int => (n : Rat), Sz q 20 := fun q hq => by
 obtain ⟨n, hn, rfl⟩ := List.mem_map.1 hq
 have := h n hn
 exact (Sz_int (k := 4) (by decide) (limbs_len_le (by omega))).mono (by decide)
theorem rowX_form (o : Option (Rat × Nat)) : ∃ k r b s k' r' b', rowX o = [.sl k r b, .val (.bool s), .sl k' r' b'] := by
 cases o with
 | none => exact ⟨_, _, _, _, _, _, _, rfl⟩
 | some p => exact ⟨_, _, _, _, _, _, _, rfl⟩
theorem run_one (c : Int) (hc : isTwo c) (L : List Int) (bL : ∀ x ∈ L, -128 ≤ x ∧ x ≤ 128) (h4 : L.length ≤ 500) (i : Nat) (hi : i < L.length) :
  ∃ d : Option (Rat × Nat) × Int, okX d.1 ∧ (d.2 = 0 → Sz (valX d.1) 20) ∧ AC Tryz.prog 46 [.val (.int .i32 c), AA [(L.length : Int)] false [] (L.map intX) true, .val (.int .i64 0), .val (.int .i64 (i : Int)), .val (.int .i64 8)] (.pure (resF [] false [] [d.1] d.2)) := by
 obtain ⟨v1, c1⟩ := vS_single L.length (by omega)
 have k1 : kinds [(L.length : Int)] false ([] : List Int).length (L.map intX).length := by
  unfold kinds
  rw [c1, List.length_map]
  exact q2r
 obtain ⟨x, x1, x2⟩ := run_ok c 8 hc (by decide) [(L.length : Int)] 0 false [] (L.map intX) _ (int_vals L) (int_oks L) (int_szs bL) Nat.one_pos v1 k1 L.length rfl (i + 1) (by omega) (by omega) (by show 1 * 1 ≤ 500; decide)
 rw [show i + 1 - 1 = i by omega] at x2
 obtain ⟨E, hE⟩ : ∃ E, E = redE c 8 (rowsL false [] (L.map fun n : Int => (n : Rat)) (i + 1) L.length (pr (([(L.length : Int)] : List Int).drop (0 + 1))) (pr (([(L.length : Int)] : List Int).take 0) * pr (([(L.length : Int)] : List Int).drop (0 + 1)))) (i + 1) := ⟨_, rfl⟩
 rw [← hE] at x1 x2
 by_cases h0 : E = 0
 ·obtain ⟨y1, y2, y3, y4, _⟩ := x1 h0
  obtain ⟨xc, xt, xn⟩ := x
  have y1 : xc = false := y1
  subst y1
  have y2 : ((xn.length : Nat) : Int) = 1 ∧ xt.length = 0 := y2
  obtain ⟨o, rfl⟩ : ∃ o, xn = [o] := by
   match xn, y2.1 with
   | [o], _ => exact ⟨o, rfl⟩
   | [], h => cases h
   | _ :: _ :: _, h => exact absurd h (by simp only [List.length_cons]; omega)
  have e : xt = [] := List.length_eq_zero_iff.1 y2.2
  subst e
  exact ⟨(o, E), y3 o (List.mem_singleton.2 rfl), fun _ => y4 _ (List.mem_singleton.2 rfl), x2⟩
 ·refine ⟨(none, E), trivial, fun h => absurd h h0, ?_⟩
  unfold resF at x2 ⊢
  rw [if_neg h0] at x2 ⊢
  exact x2
theorem scan_red (c : Int) (hc : isTwo c) (L : List Int) (bL : ∀ x ∈ L, -128 ≤ x ∧ x ≤ 128) (h1 : 0 < L.length) (h4 : L.length ≤ 500) :
  (∃ (xs : List (Option (Rat × Nat))) (h : 0 < xs.length), xs.length = L.length ∧ (∀ o ∈ xs, okX o ∧ Sz (valX o) 20) ∧
   AC Tryz.prog 17 [.val (.int .i32 c), AA [(L.length : Int)] false [] (L.map intX) true, .val (.int .i64 (-1)), .val (.int .i64 8)] (.pure (.tup [AA [(L.length : Int)] false [] xs true, .val (.int .i64 0)])) ∧
   AC Tryz.prog 19 [.val (.int .i32 c), AA [(L.length : Int)] false [] (L.map intX) true, .val (.int .i64 (-1)), .val (.int .i64 8)] (.pure (.tup [AA [] false [] [xs[xs.length - 1]] true, .val (.int .i64 0)]))) ∨
  (∃ e : Int, e ≠ 0 ∧ AC Tryz.prog 17 [.val (.int .i32 c), AA [(L.length : Int)] false [] (L.map intX) true, .val (.int .i64 (-1)), .val (.int .i64 8)] (.pure (.tup [AA [] false [] [] false, .val (.int .i64 e)])) ∧
   ∃ sh k t z y f, AC Tryz.prog 19 [.val (.int .i32 c), AA [(L.length : Int)] false [] (L.map intX) true, .val (.int .i64 (-1)), .val (.int .i64 8)] (.pure (.tup [AA sh k t z y, .val (.int .i64 f)]))) := by
 obtain ⟨D, hD⟩ := pick_all (l := List.range L.length) (p := fun i (d : Option (Rat × Nat) × Int) => okX d.1 ∧ (d.2 = 0 → Sz (valX d.1) 20) ∧ AC Tryz.prog 46 [.val (.int .i32 c), AA [(L.length : Int)] false [] (L.map intX) true, .val (.int .i64 0), .val (.int .i64 (i : Int)), .val (.int .i64 8)] (.pure (resF [] false [] [d.1] d.2))) (fun i hi => run_one c hc L bL h4 i (List.mem_range.1 hi))
 have hD := fun i (hi : i < L.length) => hD i (List.mem_range.2 hi)
 obtain ⟨xs, hxs⟩ : ∃ xs, xs = (List.range L.length).map fun i => (D i).1 := ⟨_, rfl⟩
 have lxs : xs.length = L.length := by rw [hxs, List.length_map, List.length_range]
 have hxi : ∀ i (h : i < xs.length), xs[i] = (D i).1 := fun i h => by subst hxs; rw [List.getElem_map, List.getElem_range]
 have hl : (L.map intX).length = xs.length := by rw [List.length_map, lxs]
 have hlast := (hD (L.length - 1) (by omega)).2.2
 have hRd := Red_run c [(L.length : Int)] false [] (L.map intX) (-1) 8 hc 0 ⟨Nat.one_pos, .inr ⟨by decide, rfl⟩⟩ (by show 1 ≤ 8; omega) L.length rfl h1 (by omega) [] false [] [(D (L.length - 1)).1] _ hlast
 by_cases hz : ∀ i, i < L.length → (D i).2 = 0
 ·refine .inl ⟨xs, by omega, lxs, fun o ho => ?_, ?_, ?_⟩
  ·rw [hxs] at ho
   obtain ⟨i, hi, rfl⟩ := List.mem_map.1 ho
   have hi := List.mem_range.1 hi
   exact ⟨(hD i hi).1, (hD i hi).2.1 (hz i hi)⟩
  ·have hR : ∀ i (h : i < xs.length), AC Tryz.prog 46 [.val (.int .i32 c), AA [(L.length : Int)] false [] (L.map intX) true, .val (.int .i64 0), .val (.int .i64 (i : Int)), .val (.int .i64 8)] (.pure (.tup [AA [] false [] [xs[i]] true, .val (.int .i64 0)])) := fun i h => by
    have := (hD i (by omega)).2.2
    unfold resF at this
    rw [if_pos (hz i (by omega))] at this
    rw [hxi i h]
    exact this
   by_cases h2 : xs.length = 1
   ·exact Scan_one c hc (-1) 8 (by decide) (L.map intX) xs L.length lxs.symm hl h2 (by omega) hR
   ·exact Scan_list c hc (-1) 8 (by decide) (L.map intX) xs L.length lxs.symm hl (by omega) (by omega) hR
  ·unfold resF at hRd
   rw [if_pos (hz _ (by omega))] at hRd
   have e : xs[xs.length - 1]'(by omega) = (D (L.length - 1)).1 := by rw [hxi]; rw [lxs]
   rw [e]
   exact hRd
 ·obtain ⟨i1, hi1⟩ : ∃ i, i < L.length ∧ (D i).2 ≠ 0 := by
   refine Classical.byContradiction fun h => hz fun i hi => Classical.byContradiction fun h' => h ⟨i, hi, h'⟩
  obtain ⟨i0, ⟨q1, q2⟩, q3⟩ := exists_min (p := fun i => i < L.length ∧ (D i).2 ≠ 0) i1 hi1
  refine .inr ⟨(D i0).2, q2, ?_, ?_⟩
  ·refine Scan_err c hc (-1) 8 (by decide) (L.map intX) xs L.length lxs.symm hl (fun i => (D i).2) i0 q1 q2 (fun j hj => ?_) (by omega) (fun i h => ?_)
   ·exact Classical.byContradiction fun h => by have := q3 j ⟨by omega, h⟩; omega
   ·rw [hxi i h]
    exact (hD i (by omega)).2.2
  ·unfold resF at hRd
   by_cases h : (D (L.length - 1)).2 = 0
   ·rw [if_pos h] at hRd; exact ⟨_, _, _, _, _, _, hRd⟩
   ·rw [if_neg h] at hRd; exact ⟨_, _, _, _, _, _, hRd⟩
theorem Scan_not (c : Int) (h : ¬ isTwo c) (sh : List Int) (ch : Bool) (tx : List Int) (na : List (Option (Rat × Nat))) (axis most : Int) : AC Tryz.prog 17 [.val (.int .i32 c), AA sh ch tx na true, .val (.int .i64 axis), .val (.int .i64 most)] (.pure (.tup [AA [] false [] [] false, .val (.int .i64 20)])) := by
 have hH := Has_ok c
 rw [decide_eq_false h] at hH
 refine Red_err ?_
 refine AC.of_body TTok Tryz.func17 rfl (enter_of Tryz.func17 (by kernel_rfl) (by kernel_rfl)) (noidF (.val _) (AA_noid _ _ _ _ _) (.val _) (.val _)) (AZf_noid _) (nbq rfl) ?_
 unfold AA AZ at *
 conv => whnf
 refine ⟨_, hH, ?_⟩
 repeat ((conv => whnf); (first | refine ⟨_, ‹_›, ?_⟩ | refine ⟨nbq rfl, _, ‹_›, ?_⟩ | refine ⟨by kernel_rfl, ?_⟩ | exact rfl | exact ⟨nbq rfl, rfl⟩ | refine ⟨by decide, ?_⟩))
theorem Take_last (xs : List (Option (Rat × Nat))) (h : 0 < xs.length) (h4 : xs.length ≤ 4000) : AC Tryz.prog 13 [AA [] false [] [intX (-1)] true, AA [(xs.length : Int)] false [] xs true] (.pure (.tup [AA [1] false [] [xs[xs.length - 1]] true, .val (.int .i64 0)])) := by
 obtain ⟨v1, _⟩ := vS_single xs.length (by omega)
 have eM : takeM [-1] = [1] := by decide
 have eF : takeF [-1] [(xs.length : Int)] = [((xs.length - 1 : Nat) : Int)] := by
  show [(if (-1 : Int) < 0 then (xs.length : Int) - sizeI (-1) else 0)] = _
  rw [if_pos (by decide), show sizeI (-1) = 1 from by decide]
  congr 1
  omega
 have hW := window_ok [(xs.length : Int)] false [] xs [(xs.length : Int)] [((xs.length - 1 : Nat) : Int)] [1] (by decide) v1 rfl rfl (fun x hx => by rw [List.mem_singleton.1 hx]; omega) (by decide) (by omega) [((xs.length - 1 : Nat) : Int)] (by
  show _ = [plS 0 [(xs.length : Int)] (addL [0] [((xs.length - 1 : Nat) : Int)])]
  show _ = [if (0 + ((xs.length - 1 : Nat) : Int)) < 0 ∨ (xs.length : Int) ≤ 0 + ((xs.length - 1 : Nat) : Int) then -1 else 0 * (xs.length : Int) + (0 + ((xs.length - 1 : Nat) : Int))]
  rw [if_neg (by omega)]
  congr 1
  omega)
 have e : pickX false xs [((xs.length - 1 : Nat) : Int)] = [xs[xs.length - 1]] := by
  unfold pickX
  rw [if_neg Bool.false_ne_true]
  show [getX xs ((xs.length - 1 : Nat) : Int)] = _
  unfold getX
  rw [if_pos (Int.natCast_nonneg _), Int.toNat_natCast, List.getD_eq_getElem?_getD, List.getElem?_eq_getElem (by omega)]
  rfl
 rw [e] at hW
 exact Take_ok [] [-1] [(xs.length : Int)] false [] xs (by decide) (fun n hn => by rw [List.mem_singleton.1 hn]; exact ⟨by decide, by decide⟩) (fun e => nomatch e) v1 rfl [1] false [] [xs[xs.length - 1]] true 0 (by rw [eM, eF]; exact hW)
end
end Go.Proofs.YtcdeiegpeiodjaaGreat

namespace Go.Proofs.YtcdeiegpeiodjaaGreat.foldLast
open Go Go.AL NM
section
section
variable (c : Int) (l : List Int)
theorem nd : ∀ x ∈ [AV.val (.int .i32 c), AV.sl 1 (irows .i8 l) false], NoId x := noid2 (.val _) (noid_sl _ _ _)
theorem bad (h : l.length < 1 ∨ 40 < l.length) : AC Tryz.prog 5 [.val (.int .i32 c), .sl 1 (irows .i8 l) false] (.pure (.val (.bool true))) := by
 have hA := awake19_ok
 have l1 := irows_len .i8 l
 refine AC.of_body TTok Tryz.func5 rfl (enter_of Tryz.func5 (by kernel_rfl) (by kernel_rfl)) (nd c l) (.val _) (nbq rfl) ?_
 by_cases h1 : l.length < 1
 ·conv => whnf
  first | refine oTq (by omega) ?_ | refine oFq (by omega) ?_ | refine oEq (by omega) ?_ | refine oNq (by omega) ?_
  repeat ((conv => whnf); (first | refine ⟨_, ‹_›, ?_⟩ | refine ⟨nbq rfl, _, ‹_›, ?_⟩ | refine ⟨by kernel_rfl, ?_⟩ | exact rfl | exact ⟨nbq rfl, rfl⟩ | refine ⟨by decide, ?_⟩))
 ·conv => whnf
  first | refine oTq (by omega) ?_ | refine oFq (by omega) ?_ | refine oEq (by omega) ?_ | refine oNq (by omega) ?_
  conv => whnf
  first | refine oTq (by omega) ?_ | refine oFq (by omega) ?_ | refine oEq (by omega) ?_ | refine oNq (by omega) ?_
  repeat ((conv => whnf); (first | refine ⟨_, ‹_›, ?_⟩ | refine ⟨nbq rfl, _, ‹_›, ?_⟩ | refine ⟨by kernel_rfl, ?_⟩ | exact rfl | exact ⟨nbq rfl, rfl⟩ | refine ⟨by decide, ?_⟩))
set_option maxRecDepth 20000 in
theorem good (hm : ∀ x ∈ l, -128 ≤ x ∧ x < 128) (h0 : 0 < l.length) (h40 : l.length ≤ 40) : AC Tryz.prog 5 [.val (.int .i32 c), .sl 1 (irows .i8 l) false] (.pure (.val (.bool true))) := by
 have hAw := awake19_ok
 have ll := irows_len .i8 l
 have bl : ∀ x ∈ l, -128 ≤ x ∧ x ≤ 128 := fun x hx => by have := hm x hx; omega
 have IA := AInts_ok l (by omega) (fun x hx => by have := hm x hx; exact ⟨by omega, by omega⟩)
 have lr := irows_len .i64 l
 obtain ⟨n, hn⟩ : ∃ n, n = l.length := ⟨_, rfl⟩
 have fA : irows .i64 l = List.take n (List.drop 0 (irows .i64 l)) := by rw [List.drop_zero, List.take_of_length_le (by omega)]
 have hcase : (∃ (xs : List (Option (Rat × Nat))) (h : 0 < xs.length), xs.length = l.length ∧ (∀ o ∈ xs, okX o ∧ Sz (valX o) 20) ∧
   AC Tryz.prog 17 [.val (.int .i32 c), AA [(l.length : Int)] false [] (l.map intX) true, .val (.int .i64 (-1)), .val (.int .i64 8)] (.pure (.tup [AA [(l.length : Int)] false [] xs true, .val (.int .i64 0)])) ∧
   AC Tryz.prog 19 [.val (.int .i32 c), AA [(l.length : Int)] false [] (l.map intX) true, .val (.int .i64 (-1)), .val (.int .i64 8)] (.pure (.tup [AA [] false [] [xs[xs.length - 1]] true, .val (.int .i64 0)]))) ∨
  (∃ e : Int, e ≠ 0 ∧ AC Tryz.prog 17 [.val (.int .i32 c), AA [(l.length : Int)] false [] (l.map intX) true, .val (.int .i64 (-1)), .val (.int .i64 8)] (.pure (.tup [AA [] false [] [] false, .val (.int .i64 e)])) ∧
   ∃ sh k t z y f, AC Tryz.prog 19 [.val (.int .i32 c), AA [(l.length : Int)] false [] (l.map intX) true, .val (.int .i64 (-1)), .val (.int .i64 8)] (.pure (.tup [AA sh k t z y, .val (.int .i64 f)]))) := by
  by_cases hc : isTwo c
  ·exact scan_red c hc l bl h0 (by omega)
  ·exact .inr ⟨20, by decide, Scan_not c hc _ _ _ _ _ _, _, _, _, _, _, _, Red_not c [(l.length : Int)] false [] (l.map intX) (-1) 8 hc⟩
 rw [fA] at IA
 rw [← hn] at hcase IA h0 h40
 refine AC.of_sw TTok Tryz.func5 rfl (enter_of Tryz.func5 (by kernel_rfl) (by kernel_rfl)) (nd c l) (.val _) (nbq rfl) ?_
 refine SW.seqA TTok ?_
 conv => whnf
 refine SW.seqA TTok ?_
 conv => whnf
 first | refine oTq (by omega) ?_ | refine oFq (by omega) ?_ | refine oEq (by omega) ?_ | refine oNq (by omega) ?_
 conv => whnf
 first | refine oTq (by omega) ?_ | refine oFq (by omega) ?_ | refine oEq (by omega) ?_ | refine oNq (by omega) ?_
 conv => whnf
 refine SW.seqA TTok ?_
 conv => whnf
 refine SW.nil 5 1 rfl ?_
 refine SW.cutM TTok (fun _ : Unit => [(0, .val (.int .i32 c)), (1, .sl 1 (irows .i8 l) false), (5, .own 80 0 n)]) (fun _ => [(80, .cells 1 (irows .i64 l))]) 232 98 rfl (fun _ => True) ?_ (fun _ _ => ?_)
 ·conv => whnf
  refine SW.loopM TTok (fun i : Nat => [(0, .val (.int .i32 c)), (1, .sl 1 (irows .i8 l) false), (5, .own 80 0 i), (6, .val (.int .i64 (i : Int)))]) (fun i => [(80, .cells 1 (irows .i64 (l.take i)))]) 96 98 rfl (fun i => n - i) (fun i => i ≤ n) 0 [] (Nat.zero_le _)
   ⟨q2r, q2r, q2r, q2r, trivial⟩ ⟨q3r, trivial⟩ rfl ?_
  intro i hJ
  have hi : i ≤ n := hJ
  clear hJ
  have lr1 : (irows .i64 (l.take i)).length = i := by rw [irows_len, List.length_take]; omega
  by_cases hlt : i < n
  ·have eI : IntKind.i64.wrap ((i : Int) + 1) = ((i + 1 : Nat) : Int) := by rw [IntWalk.i64_in _ (by omega)]; omega
   have hil : i < l.length := by omega
   have hg := irows_get .i8 l (List.getElem?_eq_getElem hil)
   have hx := hm _ (List.getElem_mem hil)
   have hs1 : irows .i64 (l.take i) ++ [[.val (.int .i64 l[i])]] = irows .i64 (l.take (i + 1)) := by
    rw [take_snoc hil, ← irows_append]; rfl
   obtain ⟨x, hxx⟩ : ∃ x, x = l[i] := ⟨_, rfl⟩
   rw [← hxx] at hg hx hs1
   have eX : IntKind.i64.wrap x = x := by rw [IntWalk.i64_in _ (by omega)]
   conv => whnf
   first | refine oTq (by omega) ?_ | refine oFq (by omega) ?_ | refine oEq (by omega) ?_ | refine oNq (by omega) ?_
   conv => whnf
   refine ⟨_, ⟨by omega, by rw [Int.toNat_natCast]; exact hg⟩, ?_⟩
   conv => whnf
   refine ⟨⟨by show 0 + i ≤ _; omega, by show (i + 1) * 8 ≤ 140737488355328; omega, Nat.le_refl _⟩, ?_⟩
   conv => whnf
   refine ⟨i + 1, [(80, 184)], (by show n - (i + 1) < n - i; omega), hlt, ⟨q2r, q2r, q2r, ⟨valI eI, rfl⟩, trivial⟩, ⟨⟨rfl, .inl ⟨celE ?_, irows_noid _ _⟩⟩, trivial⟩, rfl⟩
   rw [← hs1]
   show List.take i (List.drop 0 (irows .i64 (l.take i))) ++ [[.val (.int .i64 (IntKind.i64.wrap x))]] = _
   rw [List.drop_zero, List.take_of_length_le (by omega), eX]
  ·have hie : i = n := by omega
   have e1 : l.take i = l := List.take_of_length_le (by omega)
   rw [e1, hie]
   conv => whnf
   first | refine oTq (by omega) ?_ | refine oFq (by omega) ?_ | refine oEq (by omega) ?_ | refine oNq (by omega) ?_
   conv => whnf
   exact ⟨(), [], trivial, ⟨q2r, q2r, q2r, trivial⟩, ⟨⟨rfl, .inl ⟨rfl, irows_noid _ _⟩⟩, trivial⟩, rfl⟩
 refine SW.weak (Wk.frz 5 80 0 n 1 rfl rfl (by decide) (by show 0 + n ≤ (irows .i64 l).length; omega) (by show NoId (.sl 1 (List.take n (List.drop 0 (irows .i64 l))) false); rw [← fA]; exact noid_sl _ _ _)) rfl ?_
 refine axp_sound TTok _ _ _ ?_
 rcases hcase with ⟨xs, hx0, lx, ox, hS, hR⟩ | ⟨e, he, hS, sh, k, t, z, y, f, hR⟩
 ·have hT := Take_last xs hx0 (by omega)
  have oxl := ox xs[xs.length - 1] (List.getElem_mem _)
  have hL := ALen_ok [(n : Int)] false [] xs true (by decide) (by omega)
  have lx' : ([] : List Int).length + xs.length = n := by show 0 + xs.length = n; omega
  rw [lx'] at hL
  have hI := AInt_ok (-1) ⟨by decide, by decide⟩
  generalize xs[xs.length - 1] = w at *
  rw [lx] at hT
  have hI : AC Tryz.prog 21 [.val (.int .i64 (-1))] (.pure (AA [] false [] [intX (-1)] true)) := hI
  have hL1 : AC Tryz.prog 20 [AA [1] false [] [w] true] (.pure (.val (.int .i64 1))) := ALen_ok [1] false [] [w] true (by decide) (by show 1 ≤ 1000000; omega)
  have hr1 : AC Tryz.prog 22 [AA [1] false [] [w] true, .val (.int .i64 0)] (.pure (.agg (rowX w))) := RatI_ok [1] false [] [w] true 0 (by show 0 < 1; omega) (by show 1 ≤ 1000000; omega)
  have hr2 : AC Tryz.prog 22 [AA [] false [] [w] true, .val (.int .i64 0)] (.pure (.agg (rowX w))) := RatI_ok [] false [] [w] true 0 (by show 0 < 1; omega) (by show 1 ≤ 1000000; omega)
  have hRk : AC Tryz.prog 24 [AA [] false [] [w] true] (.pure (.val (.int .i64 0))) := Rank_ok [] false [] [w] (by decide)
  have hc := QCmp_ok (valX w) (valX w) (denX w) (denX w) (denX_ok oxl.1) (denX_ok oxl.1) (oxl.2.mono (by decide)) (oxl.2.mono (by decide))
  rw [cmpQ_self] at hc
  have hc : AC Tryz.prog 23 [.agg (rowX w), .agg (rowX w)] (.pure (.val (.int .i64 0))) := AC.le_args hc rfl (fun i x y hx hy => by
   match i with
   | 0 => cases hx; cases hy; exact rowX_le w
   | 1 => cases hx; cases hy; exact rowX_le w
   | (i + 2) => cases hx) (noid2 (.agg _ (rowX_noid w)) (.agg _ (rowX_noid w)))
  obtain ⟨k1, r1, b1, s1, k2, r2, b2, hw⟩ := rowX_form w
  rw [hw] at hr1 hr2 hc
  unfold AA at *
  conv => whnf
  refine ⟨_, IA, ?_⟩
  conv => whnf
  refine ⟨_, hS, ?_⟩
  conv => whnf
  refine ⟨_, IA, ?_⟩
  conv => whnf
  refine ⟨_, hR, ?_⟩
  conv => whnf
  conv => whnf
  refine ⟨_, hI, ?_⟩
  conv => whnf
  refine ⟨_, hT, ?_⟩
  conv => whnf
  refine ⟨by kernel_rfl, ?_⟩
  conv => whnf
  refine ⟨_, hL, ?_⟩
  conv => whnf
  first | refine oTq (by omega) ?_ | refine oFq (by omega) ?_ | refine oEq (by omega) ?_ | refine oNq (by omega) ?_
  conv => whnf
  refine ⟨_, hL1, ?_⟩
  conv => whnf
  refine ⟨_, hr1, ?_⟩
  conv => whnf
  refine ⟨_, hr2, ?_⟩
  conv => whnf
  refine ⟨_, hc, ?_⟩
  conv => whnf
  refine ⟨_, hRk, ?_⟩
  conv => whnf
  refine ⟨_, hAw, ?_⟩
  conv => whnf
  refine ⟨by kernel_rfl, ?_⟩
  repeat ((conv => whnf); (first | refine ⟨_, ‹_›, ?_⟩ | refine ⟨nbq rfl, _, ‹_›, ?_⟩ | refine ⟨by kernel_rfl, ?_⟩ | exact rfl | exact ⟨nbq rfl, rfl⟩ | refine ⟨by decide, ?_⟩))
 ·have hL : AC Tryz.prog 20 [AA [] false [] [] false] (.pure (.val (.int .i64 0))) := ALen_ok [] false [] [] false (by decide) (by decide)
  unfold AA at *
  conv => whnf
  refine ⟨_, IA, ?_⟩
  conv => whnf
  refine ⟨_, hS, ?_⟩
  conv => whnf
  refine ⟨_, IA, ?_⟩
  conv => whnf
  refine ⟨_, hR, ?_⟩
  conv => whnf
  first | refine nTq (by omega) ?_ | refine nFq (by omega) ?_
  conv => whnf
  refine ⟨_, hL, ?_⟩
  repeat ((conv => whnf); (first | refine ⟨_, ‹_›, ?_⟩ | refine ⟨nbq rfl, _, ‹_›, ?_⟩ | refine ⟨by kernel_rfl, ?_⟩ | exact rfl | exact ⟨nbq rfl, rfl⟩ | refine ⟨by decide, ?_⟩))
end
theorem holds (c : Int) (l : List Int) (_wc : -2147483648 ≤ c ∧ c < 2147483648) (_zl : l.length < 9223372036854775808) (hl : ∀ n ∈ l, -128 ≤ n ∧ n < 128) : AC Tryz.prog 5 [.val (.int .i32 c), .sl 1 (irows .i8 l) false] (.pure (.val (.bool true))) := by
 by_cases h : l.length < 1 ∨ 40 < l.length
 ·exact bad c l h
 ·exact good c l hl (by omega) (by omega)
end
end Go.Proofs.YtcdeiegpeiodjaaGreat.foldLast
