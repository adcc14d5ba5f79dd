/- An abstract program logic over tree values (part 36): a call gone through in place, wherever it stands in its region. -/
import Derived.Test.YtbdklokfijjifaaGreatB5
set_option linter.unusedVariables false
set_option linter.unusedSimpArgs false
namespace Go.AL
open Go Go.RowKit
theorem wp_in {P:Program} {TT:Nat→Option TI} (hT:TTok P TT) {gh:Array Value} {w0:World} {F0 F1:Nat→Prop} {ρ1:Nat→Option BI} {s1:St} {a1:Act} {w1:World} {n0:Nat} {o:Oper} {c:Call} {f:Nat} {fn:Func} {body:Code} {K':St→Prop} {K:Act→World→Prop} {Q:Exit→Act→World→Prop}
  (h1:Rel gh w0 F0 F1 ρ1 (fun id=>n0≤id) s1 a1 w1) (ho:o.op = .call c) (hc:c.callee = .value (.func f)) (hf:P.funcs[f]?=some fn) (hb:fn.body=some body)
  (henter:∀(vals:Array Value) (w:World),(callFunc f vals).run P w = .ok (.enter f vals) w) (hm:fn.ntmps≤1000000) (ha:c.args.toList.length≤fn.ntmps) (hdst:dstOk o.dst s1.m=true)
  (hsw:SW P body (fun e s2=>(e = .ret∨e = .normal)∧∃ vs,ares TT s2.t s2.h fn.results.toList=some vs∧K' ⟨putT (outT s2.t) o.dst (oneV vs),s2.h,s2.n,s1.m⟩) ⟨inT (c.args.toList.map (aval s1.t)) s1.t,s1.h,n0,fn.ntmps⟩)
  (hK:∀s3 a' w',K' s3→s3.m=s1.m→(∃ F ρ,Rel gh w0 F0 F ρ (fun id=>s3.n≤id) s3 a' w')→K a' w'):o.wp P a1 w1 K Q:=by
 have hexec:(execOp a1.eval o).run P w1 = .ok (.enter f (c.args.map a1.eval)) w1:=by
  simp[execOp,ho,resolve,hc,Deferred.ofValue,Act.eval,invoke,henter]
 unfold Oper.wp;rw[hexec];simp only[Oper.upon];refine calls_of_wp hf hb ?_;unfold SW at hsw;have h2:Rel (ghosts a1 gh) w0 F0 F1 ρ1 (fun id=>n0≤id) ⟨inT (c.args.toList.map (aval s1.t)) s1.t,s1.h,n0,fn.ntmps⟩
   { tmps:=c.args.map a1.eval++Array.replicate (fn.ntmps-(c.args.map a1.eval).size) undef,defers:=[] } w1:=by
  refine⟨rfl,?_,hm,h1.below,h1.Fb,h1.F0F,h1.Fnew,fun t=>?_,h1.blks,h1.inj,h1.fresh⟩
  ·have:c.args.size≤fn.ntmps:=ha;simp;omega
  ·show VR w1 F1 ρ1 _ (bif Nat.blt t 1000000 then getA (c.args.toList.map (aval s1.t)) t else s1.t (t-1000000));cases hb:Nat.blt t 1000000 with
   | true =>
    have ht:t<1000000:=Nat.blt_eq.mp hb;rw[gval_lt ht];show VR w1 F1 ρ1 _ (getA (c.args.toList.map (aval s1.t)) t);rw[getA_eq];by_cases hta:t<c.args.size
    ·have e0:c.args.toList[t]?=some c.args[t]:=by rw[Array.getElem?_toList];exact Array.getElem?_eq_getElem hta
     have e1:(c.args.toList.map (aval s1.t)).getD t .any=aval s1.t c.args[t]:=by simp[List.getD,e0]
     have e2:(c.args.map a1.eval++Array.replicate (fn.ntmps-(c.args.map a1.eval).size) undef).getD t undef=a1.eval c.args[t]:=by
      simp only[Array.getD_eq_getD_getElem?,Array.getElem?_append];rw[if_pos (by simpa using hta)];simp[hta]
     rw[e1,e2];exact h1.aval _
    ·have e1:(c.args.toList.map (aval s1.t)).getD t .any = .any:=by
      rw[List.getD,List.getElem?_eq_none (by simp;omega)];rfl
     rw[e1];exact .any _
   | false =>
    have ht:¬t<1000000:=fun h=>by rw[Nat.blt_eq.mpr h]at hb;cases hb
    have e:∀a',gval a' (ghosts a1 gh) t=gval a1 gh (t-1000000):=fun a'=>by
     have hg:=ghosts_get a1 gh (t-1000000);rw[←hg];exact if_neg ht
    rw[e];exact h1.vals _
 refine wp_mono (hsw (ghosts a1 gh) w0 F0 _ w1 ⟨F1,ρ1,h2⟩) ?_;rintro e a2 w2 ⟨s2,⟨he,vs,hvs,hQ⟩,hm2,F2,ρ2,h3⟩;obtain⟨vals,g1,g2,g3⟩:=run_results hT h3 fn vs hvs;have h4:Rel gh w0 F0 F2 ρ2 (fun id=>s2.n≤id) ⟨outT s2.t,s2.h,s2.n,s1.m⟩ a1 w2:=by
  refine⟨h1.defers,h1.size,h1.mle,h3.below,h3.Fb,h3.F0F,h3.Fnew,fun t=>?_,h3.blks,h3.inj,h3.fresh⟩;have hv:=h3.vals (1000000+t);rw[gval_ge,ghosts_get]at hv;exact hv
 have hd:=h4.putd (one_ok g2 g3) o.dst hdst;have fin:a2.defers=[]∧∃ v,(results fn a2.tmps).run P w2 = .ok v w2∧K (a1.put o.dst v) w2:=⟨h3.defers,_,g1,hK _ _ _ hQ rfl ⟨F2,ρ2,hd⟩⟩;rcases he with rfl | rfl
 ·exact fin
 ·exact fin
theorem SW.regionMid {P:Program} {TT:Nat→Option TI} (hT:TTok P TT) {Q:Exit→St→Prop} {s:St} {id:Nat} {ops:Array Oper} (k:Nat) (o:Oper) {c:Call} {f:Nat} {fn:Func} {body:Code}
  (hops:ops.toList=ops.toList.take k++o :: ops.toList.drop (k+1)) (hk:(ops.toList.take k).length=k) (hg:o.guard=none) (ho:o.op = .call c) (hc:c.callee = .value (.func f)) (hf:P.funcs[f]?=some fn) (hb:fn.body=some body)
  (henter:∀(vals:Array Value) (w:World),(callFunc f vals).run P w = .ok (.enter f vals) w) (hm:fn.ntmps≤1000000) (ha:c.args.toList.length≤fn.ntmps)
  (h:aopsF P TT ops.toList (ops.toList.take k) 0 (fun s1=>dstOk o.dst s1.m=true∧SW P body (fun e s2=>(e = .ret∨e = .normal)∧∃ vs,ares TT s2.t s2.h fn.results.toList=some vs ∧
    aopsF P TT ops.toList (ops.toList.drop (k+1)) (k+1) (fun s3=>Q .normal ⟨s3.t,s3.h,s3.n+8*ops.toList.length,s3.m⟩) ⟨putT (outT s2.t) o.dst (oneV vs),s2.h,s2.n,s1.m⟩)
   ⟨inT (c.args.toList.map (aval s1.t)) s1.t,s1.h,s1.n+8*ops.toList.length,fn.ntmps⟩) s):SW P (.region id ops false) Q s:=by
 simp only[aopsF_eq]at h;obtain⟨l1,hl1⟩:∃ l,l=ops.toList.take k:=⟨_,rfl⟩;obtain⟨l2,hl2⟩:∃ l,l=ops.toList.drop (k+1):=⟨_,rfl⟩;rw[←hl1,←hl2]at hops h;rw[←hl1]at hk;unfold SW;intro gh w0 F0 a w hR;obtain⟨F,ρ,hR'⟩:=hR;refine wp_region ?_;have:=aops_pre (Q:=fun e a w=>∃ s',Q e s'∧s'.m=s.m∧RelE gh w0 F0 s' a w) hT (ops:=ops) s.n s.m (o :: l2) (fun i s1 a1 w1 hi hk1 hn hm1 hx=>?_) l1 0 s a w F ρ (by simpa using hops) (by rw[hops];simp) rfl rfl h (by simpa using hR')
 ·rw[show l1.length+(o :: l2).length=ops.size by rw[←Array.length_toList,hops];simp]at this;simpa [List.range_eq_range'] using this
 obtain⟨F1,ρ1,h1⟩:=hx;obtain⟨hdst,hsw⟩:=hk1;have hl:i=k:=by rw[hops]at hi;simp at hi;omega
 have hoi:ops[i]?=some o:=by
  rw[←Array.getElem?_toList,hops,hl,←hk];simp
 rw[List.length_cons,List.range'_succ];have hw:Region.wanted o (yielded ops a1.tmps)=true:=by simp[Region.wanted,hg]
 simp only[wpOps,hoi];rw[if_pos hw];refine .inl (wp_in hT (n0:=s1.n+8*ops.toList.length) (h1.mono_fr fun id hid=>?_) ho hc hf hb henter hm ha hdst hsw fun s3 a' w' hQ hm3 hx3=>?_)
 ·have hid:s1.n+8*ops.toList.length≤id:=hid;rw[hn]at hid;show s.n+8*i≤id;have:i≤ops.toList.length:=by omega
  omega
 ·obtain⟨F2,ρ2,h5⟩:=hx3;have hend:=aops_pre (Q:=fun e a w=>∃ s',Q e s'∧s'.m=s.m∧RelE gh w0 F0 s' a w) hT (ops:=ops) s3.n s1.m [] (fun i' s4 a4 w4 hi4 hk4 hn4 hm4 hx4=>by
   obtain⟨F3,ρ3,h6⟩:=hx4;show ∃ s',Q .normal s'∧s'.m=s.m∧RelE gh w0 F0 s' a4 w4;refine⟨⟨s4.t,s4.h,s4.n+8*ops.toList.length,s4.m⟩,hk4,by rw[←hm1];exact hm4,F3,ρ3,(h6.setN _).mono_fr fun id hid=>?_⟩;have hid:s4.n+8*ops.toList.length≤id:=hid;rw[hn4]at hid;have:i'≤ops.toList.length:=by rw[←hi4];exact Nat.le_add_right _ _
   show s3.n+8*i'≤id;omega) l2 (k+1) s3 a' w' F2 ρ2 (by rw[hops,List.append_nil,←hk];simp) (by rw[hops,List.length_append,List.length_cons,List.length_nil];omega) rfl hm3 hQ (h5.mono_fr fun id hid=>by
   have hid:s3.n+8*(k+1)≤id:=hid;show s3.n≤id;omega)
  rw[List.length_nil,Nat.add_zero,←hl]at hend;exact hend
def anyR (P:Program) (TT:Nat→Option TI) (ops:Array Oper) (K:Array Bool→St→Prop):Nat→Array Bool→St→Prop
 | 0,listed,s=>K listed s
 | fuel+1,listed,s=>Region.ready .any ops listed≠[]∧∀j∈Region.ready .any ops listed,∃ o,ops[j]?=some o∧o.guard=none∧aopK P TT o (s.n+8*j) (anyR P TT ops K fuel (listed.setIfInBounds j true)) s
@[irreducible] def anyK (P:Program) (TT:Nat→Option TI) (ops:Array Oper) (K:Array Bool→St→Prop) (fuel:Nat) (listed:Array Bool) (s:St):Prop:=anyR P TT ops K fuel listed s
theorem anyK_eq {P:Program} {TT:Nat→Option TI} {ops:Array Oper} {K:Array Bool→St→Prop} {fuel:Nat} {listed:Array Bool}:anyK P TT ops K fuel listed=anyR P TT ops K fuel listed:=by
 funext s;unfold anyK;rfl
theorem anyK_0 {P:Program} {TT:Nat→Option TI} {ops:Array Oper} {K:Array Bool→St→Prop} {listed:Array Bool} {s:St} (h:K listed s):anyK P TT ops K 0 listed s:=by rw[anyK_eq];exact h
theorem anyK_1 {P:Program} {TT:Nat→Option TI} {ops:Array Oper} {K:Array Bool→St→Prop} {fuel:Nat} {listed:Array Bool} {s:St} (j:Nat) (o:Oper) (hr:Region.ready .any ops listed=[j]) (ho:ops[j]?=some o) (hg:o.guard=none)
  (h:aopK P TT o (s.n+8*j) (anyK P TT ops K fuel (listed.setIfInBounds j true)) s):anyK P TT ops K (fuel+1) listed s:=by
 rw[anyK_eq]at h ⊢;unfold anyR;rw[hr];exact⟨List.cons_ne_nil _ _,fun i hi=>by rw[List.mem_singleton.1 hi];exact⟨o,ho,hg,h⟩⟩
theorem anyK_2 {P:Program} {TT:Nat→Option TI} {ops:Array Oper} {K:Array Bool→St→Prop} {fuel:Nat} {listed:Array Bool} {s:St} (j j':Nat) (o o':Oper) (hr:Region.ready .any ops listed=[j,j']) (ho:ops[j]?=some o) (hg:o.guard=none) (ho':ops[j']?=some o') (hg':o'.guard=none)
  (h:aopK P TT o (s.n+8*j) (anyK P TT ops K fuel (listed.setIfInBounds j true)) s) (h':aopK P TT o' (s.n+8*j') (anyK P TT ops K fuel (listed.setIfInBounds j' true)) s):anyK P TT ops K (fuel+1) listed s:=by
 rw[anyK_eq]at h h' ⊢;unfold anyR;rw[hr];refine⟨List.cons_ne_nil _ _,fun i hi=>?_⟩;rcases List.mem_cons.1 hi with e | hi
 ·rw[e];exact⟨o,ho,hg,h⟩
 ·rw[List.mem_singleton.1 hi];exact⟨o',ho',hg',h'⟩
def frA (n N:Nat) (listed:Array Bool) (id:Nat):Prop:=(∃ j,listed.getD j true=false∧n+8*j≤id∧id<n+8*j+8)∨n+8*N≤id
theorem anyK_sound {P:Program} {TT:Nat→Option TI} (hT:TTok P TT) {gh:Array Value} {w0:World} {F0:Nat→Prop} {ops:Array Oper} {K:Array Bool→St→Prop} {Q:Exit→Act→World→Prop} (n m r:Nat)
  (hQ:∀listed s' a' w',K listed s'→s'.n=n→s'.m=m→(∃ F ρ,Rel gh w0 F0 F ρ (fun id=>n+8*ops.size≤id) s' a' w')→wpAny P .any ops Q r listed a' w') :
  ∀(fuel:Nat) (listed:Array Bool) (s:St) (a:Act) (w:World) (F:Nat→Prop) (ρ:Nat→Option BI),s.n=n→s.m=m→anyR P TT ops K fuel listed s→Rel gh w0 F0 F ρ (frA n ops.size listed) s a w→wpAny P .any ops Q (fuel+r) listed a w
 | 0,listed,s,a,w,F,ρ,hn,hm,hk,hR=>by
  rw[Nat.zero_add];exact hQ listed s a w hk hn hm ⟨F,ρ,hR.mono_fr fun id hid=>.inr hid⟩
 | fuel+1,listed,s,a,w,F,ρ,hn,hm,hk,hR=>by
  rw[Nat.add_right_comm];refine⟨fun h=>absurd h hk.1,fun j hj=>?_⟩;obtain⟨o,ho,hg,hk⟩:=hk.2 j hj;have hjl:=(mem_ready.1 hj).1;have hw:Region.wanted o (yielded ops a.tmps)=true:=by simp[Region.wanted,hg]
  unfold wpOp;simp only[ho];rw[if_pos hw];unfold aopK at hk;split at hk
  ·rename_i hdst;obtain⟨v,u,acc,hs,hk⟩:=run_step hk;refine .inl (step_sound hT hR (fun k hk=>.inl ⟨j,hjl,by omega,by omega⟩) hs hdst (fun a' w' ⟨F',ρ',hR'⟩=>?_));refine anyK_sound hT n m r hQ fuel _ ⟨putT s.t o.dst v,updsH s.h u,s.n,s.m⟩ a' w' F' ρ' hn hm hk (hR'.mono_fr fun id hid=>?_);rcases hid with ⟨j',q1,q2,q3⟩|q
   ·by_cases hjj:j=j'
    ·subst hjj;have hlt:j<listed.size:=Nat.lt_of_not_le fun h=>by
      rw[Array.getD_eq_getD_getElem?,Array.getElem?_eq_none h]at hjl;cases hjl
     rw[Array.getD_eq_getD_getElem?,Array.getElem?_setIfInBounds,if_pos rfl,if_pos hlt]at q1;cases q1
    ·rw[getD_set_ne true hjj]at q1;exact⟨.inl ⟨j',q1,q2,q3⟩,fun hc=>by omega⟩
   ·have hlt:j<ops.size:=(Array.getElem?_eq_some_iff.1 ho).1;exact⟨.inr q,fun hc=>by omega⟩
  ·exact hk.elim
theorem anyK_end {L L0:Array Bool} {s1:St} {ts:List (Nat×AV)} {hs:List (Nat×LB)} {n m N:Nat} (hl:L=L0) (hm:s1.m=m) (ht:okT ⟨s1.t,s1.h,s1.n+N,s1.m⟩ (σf []) n ts) (hh:okH ⟨s1.t,s1.h,s1.n+N,s1.m⟩ (σf []) n hs) (hd:distinct ((hs.map (·.1)).map (σf []))=true) :
  L=L0∧∃ s3,Wk ⟨s1.t,s1.h,s1.n+N,s1.m⟩ s3∧s3.m=s1.m∧s3=mkS ts hs n m:=⟨hl,_,Wk.of _ ts hs n m hm ht hh hd,hm.symm,rfl⟩
theorem SW.regionAny {P:Program} {TT:Nat→Option TI} (hT:TTok P TT) (hmix:P.follows .mixedOrders=true) {Q:Exit→St→Prop} {s:St} {id:Nat} {ops:Array Oper} (k:Nat) (L0:Array Bool) (o os:Oper) {c:Call} {f:Nat} {fn:Func} {body:Code}
  (hsz:ops.size=k+2) (ho0:ops[k]?=some o) (hos:ops[k+1]?=some os) (r0:Region.ready .any ops L0=[k]) (r1:Region.ready .any ops (L0.setIfInBounds k true)=[k+1]) (r2:Region.ready .any ops ((L0.setIfInBounds k true).setIfInBounds (k+1) true)=[])
  (hg:o.guard=none) (hg2:os.guard=none) (ho:o.op = .call c) (hc:c.callee = .value (.func f)) (hf:P.funcs[f]?=some fn) (hb:fn.body=some body)
  (henter:∀(vals:Array Value) (w:World),(callFunc f vals).run P w = .ok (.enter f vals) w) (hm:fn.ntmps≤1000000) (ha:c.args.toList.length≤fn.ntmps)
  (I:St→Prop) (h1:anyK P TT ops (fun listed s1=>listed=L0∧∃ s3,Wk ⟨s1.t,s1.h,s1.n+8*ops.size,s1.m⟩ s3∧s3.m=s1.m∧I s3) k (Array.replicate ops.size false) s)
  (h2:∀s3,s3.m=s.m→I s3→dstOk o.dst s3.m=true∧SW P body (fun e s2=>(e = .ret∨e = .normal)∧∃ vs,ares TT s2.t s2.h fn.results.toList=some vs ∧
    aopK P TT os s2.n (fun s4=>Q .normal ⟨s4.t,s4.h,s4.n+8,s4.m⟩) ⟨putT (outT s2.t) o.dst (oneV vs),s2.h,s2.n,s3.m⟩)
   ⟨inT (c.args.toList.map (aval s3.t)) s3.t,s3.h,s3.n,fn.ntmps⟩):SW P (.region id ops true) Q s:=by
 unfold SW;intro gh w0 F0 a w hR;obtain⟨F,ρ,hR'⟩:=hR;refine wp_region_any hmix ?_;rw[show ops.size=k+2 from hsz];refine anyK_sound hT s.n s.m 2 (fun listed s1 a1 w1 hk hn hm1 hx=>?_) k _ s a _ F ρ rfl rfl (by rw[anyK_eq,hsz]at h1;exact h1) (hR'.drawn.mono_fr fun id hid=>by
  rcases hid with ⟨j,_,q,_⟩|q
  ·show s.n≤id;omega
  ·show s.n≤id;omega)
 obtain⟨rfl,s3,hW,hm3,hI⟩:=hk;obtain⟨F1,ρ1,hR1⟩:=hx;obtain⟨F3,ρ3,hR3⟩:=hW gh w0 F0 a1 w1 ⟨F1,ρ1,(hR1.setN _).mono_fr fun id hid=>by
  have hid:s1.n+8*(k+2)≤id:=hid;rw[hn]at hid;show s.n+8*ops.size≤id;rw[hsz];exact hid⟩
 obtain⟨hdst,hsw⟩:=h2 s3 (hm3.trans hm1) hI;refine⟨fun h=>(by rw[r0]at h;cases h),fun j hj=>?_⟩;rw[r0]at hj;have hj:=List.mem_singleton.1 hj;subst hj;have hw:Region.wanted o (yielded ops a1.tmps)=true:=by simp[Region.wanted,hg]
 unfold wpOp;simp only[ho0];rw[if_pos hw];refine .inl (wp_in (K':=fun st=>aopK P TT os st.n (fun s4=>Q .normal ⟨s4.t,s4.h,s4.n+8,s4.m⟩) st) hT hR3 ho hc hf hb henter hm ha hdst hsw fun s4 a' w' hQ hm4 hx4=>?_);obtain⟨F4,ρ4,hR4⟩:=hx4;refine⟨fun h=>(by rw[r1]at h;cases h),fun j2 hj2=>?_⟩;rw[r1]at hj2;have hj2:=List.mem_singleton.1 hj2;subst hj2;have hw2:Region.wanted os (yielded ops a'.tmps)=true:=by simp[Region.wanted,hg2]
 unfold wpOp;simp only[hos];rw[if_pos hw2];unfold aopK at hQ;split at hQ
 ·rename_i hd2;obtain⟨v,u,acc,hs,hQ⟩:=run_step hQ;refine .inl (step_sound hT hR4 (fun k hk=>by show s4.n≤s4.n+k;omega) hs hd2 (fun a5 w5 ⟨F5,ρ5,hR5⟩=>?_));refine⟨r2,_,hQ,(hm4.trans hm3).trans hm1,F5,ρ5,(hR5.setN _).mono_fr fun id hid=>?_⟩;have hid:s4.n+8≤id:=hid;exact⟨by show s4.n≤id;omega,fun hc=>by omega⟩
 ·exact hQ.elim
end Go.AL

namespace Go.Proofs.YtbdklokfijjifaaGreat
open Go Go.AL NM
section
def resD (sh:List Int) (ch:Bool) (tx:List Int) (qs:List Rat) (E:Int):AV:=if E=0 then .tup [PA sh ch tx qs,.val (.int .i64 0)] else .tup [PA [] false [] [],.val (.int .i64 E)]
theorem resD_noid (sh:List Int) (ch:Bool) (tx:List Int) (qs:List Rat) (E:Int):NoId (resD sh ch tx qs E):=by
 unfold resD;split
 ·exact .tup _ (noid2 (PA_noid _ _ _ _) (.val _))
 ·exact .tup _ (noid2 (PA_noid _ _ _ _) (.val _))
theorem flat_sn {α:Type} (X:List (List α)) (r:Nat) (h:r<X.length):(X.take (r+1)).flatten=(X.take r).flatten++X[r]:=by
 rw[take_snoc h,List.flatten_append];simp
theorem flat_len {α:Type} (X:List (List α)) (h:∀l∈X,l.length≤1) (r:Nat):(X.take r).flatten.length≤r:=by
 induction r generalizing X with
 | zero=>simp
 | succ r ih =>
  cases X with
  | nil=>simp
  | cons x X =>
   have h1:=h x (by simp);have h2:=ih X (fun l hl=>h l (by simp[hl]));rw[List.take_succ_cons,List.flatten_cons,List.length_append];omega
set_option maxRecDepth 20000 in
theorem RRed_run (c most:Int) (hc:isTwo c) (s rest:List Int) (ch co:Bool) (tx:List Int) (qs:List Rat) (axis:Int) (k:Nat) (hx:isAx s.length axis k) (hv:vS s) (hr:vS rest) (erest:rest=s.take k++s.drop (k+1)) (n:Nat) (hn:s[k]'hx.1=(n:Int)) (h0:0<n) (n4:n≤4096)
  (eco:co=(ch&&decide (n=1))) (R:Nat) (hR:R=(allS rest).length) (R4:R≤4096) (Y:Nat→List Int) (lY:∀r,r<R→(Y r).length=n)
  (hRow:∀r,r<R→AC Tryz.prog 56 [.sl 1 (irows .i64 s) false,.val (.int .i64 (k:Int)),.sl 1 (irows .i64 (dig rest r)) false] (.pure (.sl 1 (irows .i64 (Y r)) false)))
  (T:Nat→Nat→List Int) (X:Nat→Nat→List Rat) (F:Nat→Nat→El×Int)
  (hLine:∀r j,r<R→j<n→AC Tryz.prog 55 [PA s ch tx qs,.sl 1 (irows .i64 ((Y r).drop j)) false] (.pure (PA [((n-j:Nat):Int)] ch (T r j) (X r j))))
  (hFold:∀r j,r<R→j<n→AC Tryz.prog 54 [.val (.int .i32 c),PA [((n-j:Nat):Int)] ch (T r j) (X r j),.val (.int .i64 most)] (.pure (resE (F r j))))
  (E:Int) (hE1:∀r j,r<R→j+1<n→(∀j' r',j<j'→j'<n→r'<R→(F r' j').2=0)→(∀r',r'<r→(F r' j).2=0)→(F r j).2≠0→E=(F r j).2)
  (hE0:(∀j r,j<n→r<R→(F r j).2=0)→E=0) (hlast:∀r,r<R→(F r (n-1)).2=0) (hco:(∀j r,j<n→r<R→(F r j).2=0)→∀r,r<R→(F r 0).1.1=co)
  (TX:List (List Int)) (NX:List (List Rat)) (hTX:TX=(List.range R).map fun r=>if co then [(F r 0).1.2.1] else []) (hNX:NX=(List.range R).map fun r=>if co then [] else [(F r 0).1.2.2]) :
  AC Tryz.prog 19 [.val (.int .i32 c),PA s ch tx qs,.val (.int .i64 axis),.val (.int .i64 most)] (.pure (resD rest co TX.flatten NX.flatten E)):=by
 have hk:=hx.1;have h8:=hv.1;have hB:=Begun_ok c s ch tx qs axis hc (by omega) k hx;have hW:=RWithout_ok s k (by omega);rw[←erest]at hW;have hAl:=All_ok rest hr;have hU:=RUnit_ok c;have ls:=irows_len .i64 s;have hg1:(irows .i64 s)[k]?=some [.val (.int .i64 (n:Int))]:=by rw[←hn];exact irows_get .i64 s (List.getElem?_eq_getElem hk)
 have lA:(lrows (allS rest)).length=R:=by rw[lrows_len,hR]
 have hgA:∀r,r<R→(lrows (allS rest))[r]?=some [.sl 1 (irows .i64 (dig rest r)) false]:=fun r h=>by
  unfold lrows;rw[List.getElem?_map,allS_get rest r (by rw[←allS_len,←hR];exact h)];rfl
 have lTX:TX.length=R:=by rw[hTX,List.length_map,List.length_range]
 have lNX:NX.length=R:=by rw[hNX,List.length_map,List.length_range]
 have aTX:∀r (h:r<TX.length),TX[r]=if co then [(F r 0).1.2.1] else []:=fun r h=>by subst hTX;rw[List.getElem_map,List.getElem_range]
 have aNX:∀r (h:r<NX.length),NX[r]=if co then [] else [(F r 0).1.2.2]:=fun r h=>by subst hNX;rw[List.getElem_map,List.getElem_range]
 have oTX:∀l∈TX,l.length≤1:=fun l hl=>by
  rw[hTX]at hl;obtain⟨r,_,rfl⟩:=List.mem_map.1 hl;split
  ·exact Nat.le_refl _
  ·exact Nat.zero_le _
 have oNX:∀l∈NX,l.length≤1:=fun l hl=>by
  rw[hNX]at hl;obtain⟨r,_,rfl⟩:=List.mem_map.1 hl;split
  ·exact Nat.zero_le _
  ·exact Nat.le_refl _
 clear hTX hNX;obtain⟨r',hle,hno,e1,e2⟩:∃ r',AVle r' (resD rest co TX.flatten NX.flatten E)∧NoId r'∧(E=0→r' = .tup [PA rest co TX.flatten NX.flatten,.val (.int .i64 0)])∧(E≠0→r' = .tup [PZ,.val (.int .i64 E)]):=by
  unfold resD;by_cases h:E=0
  ·rw[if_pos h];exact⟨_,.refl _,.tup _ (noid2 (PA_noid _ _ _ _) (.val _)),fun _=>rfl,fun h'=>absurd h h'⟩
  ·rw[if_neg h];exact⟨_,.tup2 PZ_le (.refl _),.tup _ (noid2 PZ_noid (.val _)),fun h'=>absurd h' h,fun _=>rfl⟩
 refine AC.le_res (?_:AC Tryz.prog 19 _ (.pure r')) hle (resD_noid _ _ _ _ _);obtain⟨z,hz⟩:∃ z:Nat→Int,∀j,z j=(n:Int)-2-(j:Int):=⟨fun j=>(n:Int)-2-(j:Int),fun _=>rfl⟩;refine AC.of_sw TTok Tryz.func19 rfl (enter_of Tryz.func19 (by kernel_rfl) (by kernel_rfl)) (noidF (.val _) (PA_noid _ _ _ _) (.val _) (.val _)) hno (nbq rfl) ?_;unfold PA PZ at *;refine SW.seqA TTok ?_;conv=>whnf
 refine SW.seqA TTok ?_;conv=>whnf
 refine⟨_,hB,?_⟩;conv=>whnf
 refine SW.seqA TTok ?_;conv=>whnf
 refine SW.seqA TTok ?_;conv=>whnf
 refine⟨_,hW,?_⟩;conv=>whnf
 refine SW.seqA TTok ?_;conv=>whnf
 refine⟨_,hAl,?_⟩;conv=>whnf
 refine SW.cutM TTok (fun _:Unit=>[(0,.val (.int .i32 c)),(3,.val (.int .i64 most)),(5,.lp 0 0),(8,.lp 8 0),(9,.val (.int .i64 0)),(10,.val (.int .i64 (k:Int))),(13,.sl 1 (irows .i64 rest) false),(14,.sl 1 (lrows (allS rest)) false),(15,.lp 312 0)]) (fun _=>[(0,.cells 4 [[.sl 1 (irows .i64 s) false,.val (.bool ch),.sl 1 (irows .i32 tx) false,.sl 3 (qs.map rowN) false]]),(8,.cells 4 [[.sl 0 [] true,.val (.bool false),.sl 0 [] true,.sl 0 [] true]]),(312,.cells 4 [[.sl 1 (irows .i64 rest) false,.val (.bool co),.sl 0 [] true,.sl 0 [] true]])]) 328 150 rfl (fun _=>True) ?_ (fun _ _=>?_)
 ·cases ch
  ·have ec:co=false:=eco;conv=>whnf
   exact⟨(),[],trivial,⟨q2r,q2r,q2r,q2r,q2r,q2r,q2r,q2r,q2r,trivial⟩,⟨q3r,q3r,⟨rfl,.inr ⟨celE (by rw[ec];rfl),rfl⟩⟩,trivial⟩,rfl⟩
  ·have ec:co=decide ((n:Int)=1):=by
    rw[eco,Bool.true_and];by_cases h:n=1
    ·rw[decide_eq_true h,decide_eq_true (by omega)]
    ·rw[decide_eq_false h,decide_eq_false (by omega)]
   conv=>whnf
   refine⟨_,⟨by omega,by rw[Int.toNat_natCast];exact hg1⟩,?_⟩;conv=>whnf
   exact⟨(),[],trivial,⟨q2r,q2r,q2r,q2r,q2r,q2r,q2r,q2r,q2r,trivial⟩,⟨q3r,q3r,⟨rfl,.inr ⟨celE (by rw[ec];rfl),rfl⟩⟩,trivial⟩,rfl⟩
 refine axp_sound TTok _ _ _ ?_;conv=>whnf
 refine⟨_,hU,?_⟩;conv=>whnf
 refine⟨_,⟨by omega,by rw[Int.toNat_natCast];exact hg1⟩,?_⟩;conv=>whnf
 refine oFq (by omega) ?_;conv=>whnf
 refine⟨_,⟨by omega,by rw[Int.toNat_natCast];exact hg1⟩,?_⟩;conv=>whnf
 refine SW.loopM TTok (fun j:Nat=>[(0,.val (.int .i32 c)),(3,.val (.int .i64 most)),(5,.lp 0 0),(8,.lp 8 0),(9,.val (.int .i64 0)),(10,.val (.int .i64 (k:Int))),(13,.sl 1 (irows .i64 rest) false),(14,.sl 1 (lrows (allS rest)) false),(15,.lp 312 0),(19,.val (.int .i64 (z j)))])
  (fun j=>[(0,.cells 4 [[.sl 1 (irows .i64 s) false,.val (.bool ch),.sl 1 (irows .i32 tx) false,.sl 3 (qs.map rowN) false]]),(8,.cells 4 [[.sl 0 [] true,.val (.bool false),.sl 0 [] true,.sl 0 [] true]]),(312,.cells 4 [[.sl 1 (irows .i64 rest) false,.val (.bool co),.sl 0 [] true,.sl 0 [] true]])]) 488 150 rfl (fun j=>n-1-j) (fun j=>j≤n-1∧∀j' r',n-1-j≤j'→j'<n→r'<R→(F r' j').2=0) 0 [] ⟨Nat.zero_le _,fun j' r' a1 a2 a3=>by rw[show j'=n-1 by omega];exact hlast r' a3⟩
  ⟨q2r,q2r,q2r,q2r,q2r,q2r,q2r,q2r,q2r,⟨valI (by rw[hz,IntWalk.i64_in _ (by omega)];omega),rfl⟩,trivial⟩ ⟨q3r,q3r,q3r,trivial⟩ rfl ?_
 intro j hJ;have hj:j≤n-1:=hJ.1;have hf:∀j' r',n-1-j≤j'→j'<n→r'<R→(F r' j').2=0:=hJ.2;clear hJ;have hzj:=hz j;by_cases hlt:j<n-1
 ·have eJ:IntKind.i64.wrap (z j-1)=z (j+1):=by rw[hz (j+1),IntWalk.i64_in _ (by omega)];omega
  obtain⟨i,hi⟩:∃ i,n-1-j=i+1:=⟨n-2-j,by omega⟩;have ezi:z j=(i:Int):=by omega
  conv=>whnf
  refine oTq (by omega) ?_;conv=>whnf
  refine SW.loopM TTok (fun r:Nat=>[(0,.val (.int .i32 c)),(3,.val (.int .i64 most)),(5,.lp 0 0),(8,.lp 8 0),(9,.val (.int .i64 0)),(10,.val (.int .i64 (k:Int))),(13,.sl 1 (irows .i64 rest) false),(14,.sl 1 (lrows (allS rest)) false),(15,.lp 312 0),(19,.val (.int .i64 (z j))),(20,.val (.int .i64 (r:Int)))])
   (fun r=>[(0,.cells 4 [[.sl 1 (irows .i64 s) false,.val (.bool ch),.sl 1 (irows .i32 tx) false,.sl 3 (qs.map rowN) false]]),(8,.cells 4 [[.sl 0 [] true,.val (.bool false),.sl 0 [] true,.sl 0 [] true]]),(312,.cells 4 [[.sl 1 (irows .i64 rest) false,.val (.bool co),.sl 0 [] true,.sl 0 [] true]])]) 512 150 rfl (fun r=>R-r) (fun r=>r≤R∧∀r',r'<r→(F r' i).2=0) 0 [] ⟨Nat.zero_le _,fun r' h=>absurd h (Nat.not_lt_zero _)⟩
   ⟨q2r,q2r,q2r,q2r,q2r,q2r,q2r,q2r,q2r,q2r,q2r,trivial⟩ ⟨q3r,q3r,q3r,trivial⟩ rfl ?_
  intro r hJ;have hrR:r≤R:=hJ.1;have hfr:∀r',r'<r→(F r' i).2=0:=hJ.2;clear hJ;by_cases hrt:r<R
  ·have eR:IntKind.i64.wrap ((r:Int)+1)=((r+1:Nat):Int):=by rw[IntWalk.i64_in _ (by omega)];omega
   have hRo:=hRow r hrt;have hLi:=hLine r i hrt (by omega);have hFo:=hFold r i hrt (by omega);have hg:=hgA r hrt;have lYr:=lY r hrt;have lYi:=irows_len .i64 (Y r);have eD:irows .i64 ((Y r).drop i)=List.drop (z j).toNat (List.take (irows .i64 (Y r)).length (irows .i64 (Y r))):=by rw[ezi,Int.toNat_natCast,List.take_length,irows_drop]
   rw[eD]at hLi;unfold resE PEl PAe PA at hFo;by_cases he:(F r i).2=0
   ·rw[if_pos he]at hFo;conv=>whnf
    refine oTq (by omega) ?_;conv=>whnf
    refine⟨_,⟨by omega,by rw[Int.toNat_natCast];exact hg⟩,?_⟩;conv=>whnf
    refine⟨_,hRo,?_⟩;conv=>whnf
    refine⟨by omega,?_⟩;conv=>whnf
    refine⟨_,hLi,?_⟩;conv=>whnf
    refine⟨_,hFo,?_⟩;conv=>whnf
    refine⟨by kernel_rfl,?_⟩;conv=>whnf
    exact⟨r+1,[],(by show R-(r+1)<R-r;omega),⟨hrt,fun r' h=>by
     by_cases h2:r'=r
     ·rw[h2];exact he
     ·exact hfr r' (by omega)⟩,⟨q2r,q2r,q2r,q2r,q2r,q2r,q2r,q2r,q2r,q2r,⟨valI eR,rfl⟩,trivial⟩,⟨q3r,q3r,q3r,trivial⟩,rfl⟩
   ·rw[if_neg he]at hFo;have hEe:=hE1 r i hrt (by omega) (fun j' r' a1 a2 a3=>hf j' r' (by omega) a2 a3) hfr he;rw[e2 (by rw[hEe];exact he),hEe];conv=>whnf
    refine oTq (by omega) ?_;conv=>whnf
    refine⟨_,⟨by omega,by rw[Int.toNat_natCast];exact hg⟩,?_⟩;conv=>whnf
    refine⟨_,hRo,?_⟩;conv=>whnf
    refine⟨by omega,?_⟩;conv=>whnf
    refine⟨_,hLi,?_⟩;conv=>whnf
    refine⟨_,hFo,?_⟩;conv=>whnf
    refine⟨by kernel_rfl,?_⟩;conv=>whnf
    refine nFq (by omega) ?_;(conv=>whnf);exact rfl
  ·have hre:r=R:=by omega
   conv=>whnf
   refine oFq (by omega) ?_;conv=>whnf
   exact⟨j+1,[],(by show n-1-(j+1)<n-1-j;omega),⟨hlt,fun j' r' a1 a2 a3=>by
    by_cases h2:j'=i
    ·rw[h2];exact hfr r' (by omega)
    ·exact hf j' r' (by omega) a2 a3⟩,⟨q2r,q2r,q2r,q2r,q2r,q2r,q2r,q2r,q2r,⟨valI eJ,rfl⟩,trivial⟩,⟨q3r,q3r,q3r,trivial⟩,rfl⟩
 ·have hall:∀j r,j<n→r<R→(F r j).2=0:=fun j' r' a1 a2=>hf j' r' (by omega) a1 a2;have hco:=hco hall;rw[e1 (hE0 hall)];clear hE1 hlast e2;conv=>whnf
  refine oFq (by omega) ?_;conv=>whnf
  refine SW.nilC 312 2 1 rfl rfl ?_;refine SW.nilC 312 3 3 rfl rfl ?_;refine SW.loopS TTok (fun r:Nat=>[(0,.val (.int .i32 c)),(3,.val (.int .i64 most)),(5,.lp 0 0),(8,.lp 8 0),(9,.val (.int .i64 0)),(10,.val (.int .i64 (k:Int))),(13,.sl 1 (irows .i64 rest) false),(14,.sl 1 (lrows (allS rest)) false),(15,.lp 312 0),(23,.val (.int .i64 (r:Int)))])
   (fun r=>[(0,.cells 4 [[.sl 1 (irows .i64 s) false,.val (.bool ch),.sl 1 (irows .i32 tx) false,.sl 3 (qs.map rowN) false]]),(8,.cells 4 [[.sl 0 [] true,.val (.bool false),.sl 0 [] true,.sl 0 [] true]]),(312,.cells 4 [[.sl 1 (irows .i64 rest) false,.val (.bool co),.own 512 0 (TX.take r).flatten.length,.own 520 0 (NX.take r).flatten.length]]),(512,.cells 1 (irows .i32 (TX.take r).flatten)),(520,.cells 3 ((NX.take r).flatten.map rowN))]) 528 150 rfl (fun r=>R-r) (fun r=>r≤R) 0 [] (Nat.zero_le _)
   ⟨q2r,q2r,q2r,q2r,q2r,q2r,q2r,q2r,q2r,q2r,trivial⟩ ⟨q3r,q3r,q3r,q3r,q3r,trivial⟩ rfl ?_
  intro r hJ;have hrR:r≤R:=hJ;clear hJ;have fT:=flat_len TX oTX r;have fN:=flat_len NX oNX r;have lT:=irows_len .i32 (TX.take r).flatten;have lN:((NX.take r).flatten.map rowN).length=(NX.take r).flatten.length:=List.length_map _;by_cases hrt:r<R
  ·have eR:IntKind.i64.wrap ((r:Int)+1)=((r+1:Nat):Int):=by rw[IntWalk.i64_in _ (by omega)];omega
   have hRo:=hRow r hrt;have hLi:=hLine r 0 hrt h0;have hFo:=hFold r 0 hrt h0;have hg:=hgA r hrt;rw[List.drop_zero]at hLi;unfold resE PEl PAe PA at hFo;rw[if_pos (hall 0 r h0 hrt),hco r hrt,←aTX r (by omega),←aNX r (by omega)]at hFo;have sT:=flat_sn TX r (by omega);have sN:=flat_sn NX r (by omega);have l1:=oTX TX[r] (List.getElem_mem _);have l2:=oNX NX[r] (List.getElem_mem _);generalize TX[r]=a at *;generalize NX[r]=b at *;have la:=irows_len .i32 a;have lb:(b.map rowN).length=b.length:=List.length_map _;refine SW.seqA TTok ?_;conv=>whnf
   refine oTq (by omega) ?_;conv=>whnf
   refine SW.seq (SW.block (SW.seqA TTok ?_));conv=>whnf
   refine⟨_,⟨by omega,by rw[Int.toNat_natCast];exact hg⟩,?_⟩;conv=>whnf
   refine⟨_,hRo,?_⟩;conv=>whnf
   refine⟨_,hLi,?_⟩;conv=>whnf
   refine⟨_,hFo,?_⟩;conv=>whnf
   refine⟨by kernel_rfl,?_⟩;conv=>whnf
   refine SW.regionMid TTok 2 _ rfl rfl rfl rfl rfl Tryz.func53 rfl (enter_of Tryz.func53 (by kernel_rfl) (by kernel_rfl)) (nbq rfl) (nbq rfl) ?_;conv=>whnf
   refine⟨rfl,SW.go TTok ?_⟩;conv=>whnf
   refine⟨⟨by show 0+(TX.take r).flatten.length≤_;omega,by show ((TX.take r).flatten.length+(irows .i32 a).length)*4≤140737488355328;omega⟩,?_⟩;conv=>whnf
   refine⟨⟨by show 0+(NX.take r).flatten.length≤_;omega,by show ((NX.take r).flatten.length+(b.map rowN).length)*40≤140737488355328;omega⟩,?_⟩;conv=>whnf
   refine⟨.inl rfl,_,rfl,?_⟩;conv=>whnf
   refine SW.go TTok ?_;conv=>whnf
   refine⟨r+1,[(512,832),(520,888)],(by show R-(r+1)<R-r;omega),hrt,⟨q2r,q2r,q2r,q2r,q2r,q2r,q2r,q2r,q2r,⟨valI eR,rfl⟩,trivial⟩,⟨q3r,q3r,⟨rfl,.inr ⟨celE ?_,rfl⟩⟩,⟨rfl,.inl ⟨celE ?_,irows_noid _ _⟩⟩,⟨rfl,.inl ⟨celE ?_,rowsN_noid _⟩⟩,trivial⟩,rfl⟩
   ·rw[sT,sN,List.length_append,List.length_append,←la,←lb];rfl
   ·rw[sT,←irows_append];show List.take (TX.take r).flatten.length (List.drop 0 (irows .i32 (TX.take r).flatten))++_=_;rw[List.drop_zero,List.take_of_length_le (by omega)]
   ·rw[sN,List.map_append];show List.take (NX.take r).flatten.length (List.drop 0 ((NX.take r).flatten.map rowN))++_=_;rw[List.drop_zero,List.take_of_length_le (by omega)]
  ·have hre:r=R:=by omega
   have eT:TX.take r=TX:=List.take_of_length_le (by omega);have eN:NX.take r=NX:=List.take_of_length_le (by omega);rw[eT,eN];rw[eT]at lT;rw[eN]at lN;refine SW.seqA TTok ?_;conv=>whnf
   refine oFq (by omega) ?_;conv=>whnf
   refine⟨⟨by show 0+TX.flatten.length≤_;rw[lT];omega,by show 0+NX.flatten.length≤_;rw[lN];omega⟩,?_⟩;show AV.tup [AV.agg [_,_,AV.sl 1 (List.take TX.flatten.length (List.drop 0 (irows .i32 TX.flatten))) false,AV.sl 3 (List.take NX.flatten.length (List.drop 0 (NX.flatten.map rowN))) false],_]=_;rw[List.drop_zero,List.drop_zero,List.take_of_length_le (by omega),List.take_of_length_le (by omega)];rfl
end
section
def redT (co:Bool) (G:Nat→El) (R:Nat):List Int:=((List.range R).map fun r=>if co then [(G r).2.1] else []).flatten
def redN (co:Bool) (G:Nat→El) (R:Nat):List Rat:=((List.range R).map fun r=>if co then [] else [(G r).2.2]).flatten
theorem flat_map_one {α:Type} (f:Nat→α) (R:Nat):((List.range R).map fun r=>[f r]).flatten=(List.range R).map f:=by
 induction R with
 | zero=>rfl
 | succ R ih=>rw[List.range_succ,List.map_append,List.flatten_append,ih,List.map_append];simp
theorem flat_map_nil {α:Type} (R:Nat):((List.range R).map fun _=>([]:List α)).flatten=[]:=by
 induction R with
 | zero=>rfl
 | succ R ih=>rw[List.range_succ,List.map_append,List.flatten_append,ih];simp
theorem redT_eq (co:Bool) (G:Nat→El) (R:Nat):redT co G R=if co then (List.range R).map fun r=>(G r).2.1 else []:=by
 unfold redT;cases co
 ·exact flat_map_nil R
 ·exact flat_map_one _ R
theorem redN_eq (co:Bool) (G:Nat→El) (R:Nat):redN co G R=if co then [] else (List.range R).map fun r=>(G r).2.2:=by
 unfold redN;cases co
 ·exact flat_map_one _ R
 ·exact flat_map_nil R
theorem foldE_char (c most:Int) {l:List El} (h:2≤l.length):(foldE c most l).1.1=false:=by
 cases l with
 | nil=>exact absurd h (by decide)
 | cons x l =>
  have:l≠[]:=fun e=>by rw[e,List.length_cons,List.length_nil]at h;omega
  rw[foldE_cons _ _ _ this];split
  ·rfl
  ·split<;>rfl
theorem RRed_good (c most:Int) (hc:isTwo c) (hm:most≤20) (s:List Int) (ch:Bool) (tx:List Int) (qs:List Rat) (axis:Int) (k:Nat) (hx:isAx s.length axis k) (hv:vS s) (ka:kinds s ch tx.length qs.length) (hQ:∀q∈qs,Sz q 20) (n:Nat) (hn:s[k]'hx.1=(n:Int)) (h0:0<n)
  (I R:Nat) (hI:I=pr (s.drop (k+1))) (hR:R=pr (s.take k)*I) :
  AC Tryz.prog 19 [.val (.int .i32 c),PA s ch tx qs,.val (.int .i64 axis),.val (.int .i64 most)]
   (.pure (resD (s.take k++s.drop (k+1)) (ch&&decide (n=1)) (redT (ch&&decide (n=1)) (fun r=>(foldE c most (lineE ch tx qs n n I r)).1) R) (redN (ch&&decide (n=1)) (fun r=>(foldE c most (lineE ch tx qs n n I r)).1) R) (redE c most (rowsL ch tx qs n n I R) n))):=by
 have hk:=hx.1;obtain⟨n',hn',_,hr,hp,hpr,p4,r4,vu,vv⟩:=axis_split hk hv;have:n'=n:=by rw[hn]at hn';omega
 subst this;have ln:n'≤4096:=by have:=vS_dim hv (List.getElem_mem hk);omega
 obtain⟨k1,k2⟩:=kinds_c hv ka;rw[hp,←hI]at k1 k2;rw[←hI,←hR]at hpr r4;rw[hp]at p4;have q1:ch=true→qs=[]∧tx.length=pr (s.take k)*(n'*I):=fun h=>⟨List.length_eq_zero_iff.1 (k1 h).2,(k1 h).1⟩;have q2:ch=false→tx=[]:=fun h=>List.length_eq_zero_iff.1 (k2 h).2;rw[←hI]at p4;have t5:tx.length≤5000∧qs.length≤5000:=by
  cases ch
  ·have:=k2 rfl;omega
  ·have:=k1 rfl;omega
 have hz:∀i,rowsE c most (rowsL ch tx qs n' n' I R) i=fst0 ((List.range R).map fun r=>(foldE c most ((lineE ch tx qs n' n' I r).drop i)).2):=fun i=>by
  unfold rowsE rowsL;rw[List.map_map];rfl
 have hz0:∀i,(∀r,r<R→(foldE c most ((lineE ch tx qs n' n' I r).drop i)).2=0)→rowsE c most (rowsL ch tx qs n' n' I R) i=0:=fun i h=>by
  rw[hz];refine fst0_of fun e he=>?_;obtain⟨r,hr,rfl⟩:=List.mem_map.1 he;exact h r (List.mem_range.1 hr)
 refine RRed_run c most hc s _ ch _ tx qs axis k hx hv hr rfl n' hn h0 ln rfl R (by rw[allS_len,hpr]) r4 (plcL n' I) (fun r _=>plcL_len _ _ _)
  (fun r hrR=>by
   have h:=Row_ok s (dig (s.take k++s.drop (k+1)) r) k n' hk hn hv (by rw[dig_len,List.length_append,List.length_take,List.length_drop];omega);rw[rowL_eq hk n' hn r (by rw[←hI,←hR];exact hrR),←hI]at h;exact h)
  _ _ (fun r j=>foldE c most ((lineE ch tx qs n' n' I r).drop j))
  (fun r j hrR hj=>line_at s ch tx qs n' I (pr (s.take k)) ln t5.1 t5.2 q1 q2 r j hj)
  (fun r j hrR hj=>folded_at c most hc hm ch tx qs n' I (pr (s.take k)) ln t5.1 t5.2 q1 q2 hQ r j (by rw[←hR];exact hrR) hj)
  _ (fun r j hrR hj h1 h2 h3=>?_) (fun h=>?_) (fun r hrR=>?_) (fun h r hrR=>?_) _ _ rfl rfl
 ·have e:rowsE c most (rowsL ch tx qs n' n' I R) j=(foldE c most ((lineE ch tx qs n' n' I r).drop j)).2:=by
   rw[hz];have hl:r<((List.range R).map fun r=>(foldE c most ((lineE ch tx qs n' n' I r).drop j)).2).length:=by rw[List.length_map,List.length_range];exact hrR
   have he:((List.range R).map fun r=>(foldE c most ((lineE ch tx qs n' n' I r).drop j)).2)[r]=(foldE c most ((lineE ch tx qs n' n' I r).drop j)).2:=by rw[List.getElem_map,List.getElem_range]
   rw[fst0_at hl (fun e he=>?_) (by rw[he];exact h3),he];rw[←List.map_take,List.take_range,Nat.min_eq_left (by omega)]at he;obtain⟨r',hr',rfl⟩:=List.mem_map.1 he;exact h2 r' (List.mem_range.1 hr')
  rw[redE_from c most _ n' j hj (fun j' a b=>hz0 j' fun r' hr'=>h1 j' r' a b hr') (by rw[e];exact h3),e]
 ·exact redE_zero c most _ n' fun j hj=>hz0 j fun r hrR=>h j r (by omega) hrR
 ·rw[lineE_last c most ch tx qs n' n' I r h0]
 ·show (foldE c most (lineE ch tx qs n' n' I r)).1.1=_;by_cases h1:n'=1
  ·subst h1;have:=lineE_last c most ch tx qs 1 1 I r (by decide);rw[show (1:Nat)-1=0 from rfl,List.drop_zero]at this;rw[this,decide_eq_true rfl,Bool.and_true];rfl
  ·rw[foldE_char c most (by rw[lineE_len];omega),decide_eq_false h1,Bool.and_false]
end
section
section
variable (c most:Int) (s:List Int) (ch:Bool) (tx:List Int) (qs:List Rat) (axis:Int)
theorem RRed_err {P:Program} {f:FuncId} {args:List AV} {e:Int} (h:AC P f args (.pure (.tup [PZ,.val (.int .i64 e)]))):AC P f args (.pure (.tup [PA [] false [] [],.val (.int .i64 e)])) :=
 AC.le_res h (.tup2 PZ_le (.refl _)) (.tup _ (noid2 (PA_noid _ _ _ _) (.val _)))
theorem PZf_noid (e:Int):NoId (.tup [PZ,.val (.int .i64 e)]):=.tup _ (noid2 PZ_noid (.val _))
section
variable (rest:List Int) (hc:isTwo c) (k:Nat) (hx:isAx s.length axis k) (hv:vS s) (hr:vS rest) (erest:rest=s.take k++s.drop (k+1)) (hn:s[k]'hx.1=0)
include hc hv hr erest hn
theorem RRed_none (hu:unitQ c=none):AC Tryz.prog 19 [.val (.int .i32 c),PA s ch tx qs,.val (.int .i64 axis),.val (.int .i64 most)] (.pure (.tup [PA [] false [] [],.val (.int .i64 22)])):=by
 have hk:=hx.1;have h8:=hv.1;have hB:=Begun_ok c s ch tx qs axis hc (by omega) k hx;have hW:=RWithout_ok s k (by omega);rw[←erest]at hW;have hAl:=All_ok rest hr;have hU:=RUnit_ok c;rw[hu]at hU;have ls:=irows_len .i64 s;have hg1:(irows .i64 s)[k]?=some [.val (.int .i64 0)]:=by rw[←hn];exact irows_get .i64 s (List.getElem?_eq_getElem hk)
 refine RRed_err ?_;refine AC.of_sw TTok Tryz.func19 rfl (enter_of Tryz.func19 (by kernel_rfl) (by kernel_rfl)) (noidF (.val _) (PA_noid _ _ _ _) (.val _) (.val _)) (PZf_noid _) (nbq rfl) ?_;unfold PA PZ at *;refine SW.seqA TTok ?_;conv=>whnf
 refine SW.seqA TTok ?_;conv=>whnf
 refine⟨_,hB,?_⟩;conv=>whnf
 refine SW.seqA TTok ?_;conv=>whnf
 refine SW.seqA TTok ?_;conv=>whnf
 refine⟨_,hW,?_⟩;conv=>whnf
 refine SW.seqA TTok ?_;conv=>whnf
 refine⟨_,hAl,?_⟩;conv=>whnf
 refine SW.cutM TTok (fun _:Unit=>[(0,.val (.int .i32 c)),(3,.val (.int .i64 most)),(5,.lp 0 0),(8,.lp 8 0),(9,.val (.int .i64 0)),(10,.val (.int .i64 (k:Int))),(13,.sl 1 (irows .i64 rest) false),(14,.sl 1 (lrows (allS rest)) false),(15,.lp 312 0)]) (fun _=>[(0,.cells 4 [[.sl 1 (irows .i64 s) false,.val (.bool ch),.sl 1 (irows .i32 tx) false,.sl 3 (qs.map rowN) false]]),(8,.cells 4 [[.sl 0 [] true,.val (.bool false),.sl 0 [] true,.sl 0 [] true]]),(312,.cells 4 [[.sl 1 (irows .i64 rest) false,.val (.bool false),.sl 0 [] true,.sl 0 [] true]])]) 328 150 rfl (fun _=>True) ?_ (fun _ _=>?_)
 ·cases ch
  ·conv=>whnf
   exact⟨(),[],trivial,⟨q2r,q2r,q2r,q2r,q2r,q2r,q2r,q2r,q2r,trivial⟩,⟨q3r,q3r,q3r,trivial⟩,rfl⟩
  ·conv=>whnf
   refine⟨_,⟨by omega,by rw[Int.toNat_natCast];exact hg1⟩,?_⟩;conv=>whnf
   exact⟨(),[],trivial,⟨q2r,q2r,q2r,q2r,q2r,q2r,q2r,q2r,q2r,trivial⟩,⟨q3r,q3r,q3r,trivial⟩,rfl⟩
 refine axp_sound TTok _ _ _ ?_;conv=>whnf
 refine⟨_,hU,?_⟩;conv=>whnf
 refine⟨_,⟨by omega,by rw[Int.toNat_natCast];exact hg1⟩,?_⟩;(conv=>whnf);exact rfl
set_option maxRecDepth 20000 in
theorem RRed_unit (u:Int) (hu:unitQ c=some u) (R:Nat) (hR:R=(allS rest).length) (R4:R≤4096):AC Tryz.prog 19 [.val (.int .i32 c),PA s ch tx qs,.val (.int .i64 axis),.val (.int .i64 most)] (.pure (.tup [PA rest false [] (List.replicate R (u:Rat)),.val (.int .i64 0)])):=by
 have hk:=hx.1;have h8:=hv.1;have hB:=Begun_ok c s ch tx qs axis hc (by omega) k hx;have hW:=RWithout_ok s k (by omega);rw[←erest]at hW;have hAl:=All_ok rest hr;have hU:=RUnit_ok c;rw[hu]at hU;have ls:=irows_len .i64 s;have hg1:(irows .i64 s)[k]?=some [.val (.int .i64 0)]:=by rw[←hn];exact irows_get .i64 s (List.getElem?_eq_getElem hk)
 have lA:(lrows (allS rest)).length=R:=by rw[lrows_len,hR]
 have hu01:u=0∨u=1:=by
  unfold unitQ at hu;split at hu
  ·exact .inl (Option.some.inj hu).symm
  ·split at hu
   ·exact .inr (Option.some.inj hu).symm
   ·exact nomatch hu
 have hIn:=RIntP_ok u (by omega);refine AC.of_sw TTok Tryz.func19 rfl (enter_of Tryz.func19 (by kernel_rfl) (by kernel_rfl)) (noidF (.val _) (PA_noid _ _ _ _) (.val _) (.val _)) (.tup _ (noid2 (PA_noid _ _ _ _) (.val _))) (nbq rfl) ?_;unfold PA at *;refine SW.seqA TTok ?_;conv=>whnf
 refine SW.seqA TTok ?_;conv=>whnf
 refine⟨_,hB,?_⟩;conv=>whnf
 refine SW.seqA TTok ?_;conv=>whnf
 refine SW.seqA TTok ?_;conv=>whnf
 refine⟨_,hW,?_⟩;conv=>whnf
 refine SW.seqA TTok ?_;conv=>whnf
 refine⟨_,hAl,?_⟩;conv=>whnf
 refine SW.cutM TTok (fun _:Unit=>[(0,.val (.int .i32 c)),(3,.val (.int .i64 most)),(5,.lp 0 0),(8,.lp 8 0),(9,.val (.int .i64 0)),(10,.val (.int .i64 (k:Int))),(13,.sl 1 (irows .i64 rest) false),(14,.sl 1 (lrows (allS rest)) false),(15,.lp 312 0)]) (fun _=>[(0,.cells 4 [[.sl 1 (irows .i64 s) false,.val (.bool ch),.sl 1 (irows .i32 tx) false,.sl 3 (qs.map rowN) false]]),(8,.cells 4 [[.sl 0 [] true,.val (.bool false),.sl 0 [] true,.sl 0 [] true]]),(312,.cells 4 [[.sl 1 (irows .i64 rest) false,.val (.bool false),.sl 0 [] true,.sl 0 [] true]])]) 328 150 rfl (fun _=>True) ?_ (fun _ _=>?_)
 ·cases ch
  ·conv=>whnf
   exact⟨(),[],trivial,⟨q2r,q2r,q2r,q2r,q2r,q2r,q2r,q2r,q2r,trivial⟩,⟨q3r,q3r,q3r,trivial⟩,rfl⟩
  ·conv=>whnf
   refine⟨_,⟨by omega,by rw[Int.toNat_natCast];exact hg1⟩,?_⟩;conv=>whnf
   exact⟨(),[],trivial,⟨q2r,q2r,q2r,q2r,q2r,q2r,q2r,q2r,q2r,trivial⟩,⟨q3r,q3r,q3r,trivial⟩,rfl⟩
 refine axp_sound TTok _ _ _ ?_;conv=>whnf
 refine⟨_,hU,?_⟩;conv=>whnf
 refine⟨_,⟨by omega,by rw[Int.toNat_natCast];exact hg1⟩,?_⟩;conv=>whnf
 refine SW.nilC 312 2 1 rfl rfl ?_;refine SW.nilC 312 3 3 rfl rfl ?_;refine SW.loopS TTok (fun r:Nat=>[(0,.val (.int .i32 c)),(3,.val (.int .i64 most)),(5,.lp 0 0),(8,.lp 8 0),(9,.val (.int .i64 0)),(10,.val (.int .i64 (k:Int))),(13,.sl 1 (irows .i64 rest) false),(14,.sl 1 (lrows (allS rest)) false),(15,.lp 312 0),(16,.val (.int .i64 u)),(18,.val (.int .i64 (r:Int)))])
  (fun r=>[(0,.cells 4 [[.sl 1 (irows .i64 s) false,.val (.bool ch),.sl 1 (irows .i32 tx) false,.sl 3 (qs.map rowN) false]]),(8,.cells 4 [[.sl 0 [] true,.val (.bool false),.sl 0 [] true,.sl 0 [] true]]),(312,.cells 4 [[.sl 1 (irows .i64 rest) false,.val (.bool false),.own 456 0 0,.own 464 0 r]]),(456,.cells 1 (irows .i32 [])),(464,.cells 3 ((List.replicate r (u:Rat)).map rowN))]) 472 150 rfl (fun r=>R-r) (fun r=>r≤R) 0 [] (Nat.zero_le _)
  ⟨q2r,q2r,q2r,q2r,q2r,q2r,q2r,q2r,q2r,q2r,q2r,trivial⟩ ⟨q3r,q3r,q3r,q3r,q3r,trivial⟩ rfl ?_
 intro r hJ;have hrR:r≤R:=hJ;clear hJ;have lN:((List.replicate r (u:Rat)).map rowN).length=r:=by rw[List.length_map,List.length_replicate]
 by_cases hrt:r<R
 ·have eR:IntKind.i64.wrap ((r:Int)+1)=((r+1:Nat):Int):=by rw[IntWalk.i64_in _ (by omega)];omega
  refine SW.seqA TTok ?_;conv=>whnf
  refine oTq (by omega) ?_;conv=>whnf
  refine SW.seq (SW.block (SW.regionAny TTok (by kernel_rfl) 3 #[true,true,true,false,false] _ _ rfl rfl rfl (by kernel_rfl) (by kernel_rfl) (by kernel_rfl) rfl rfl rfl rfl Tryz.func53 rfl (enter_of Tryz.func53 (by kernel_rfl) (by kernel_rfl)) (nbq rfl) (nbq rfl)
   (fun s3=>s3=mkS [(0,.val (.int .i32 c)),(3,.val (.int .i64 most)),(5,.lp 0 0),(8,.lp 8 0),(9,.val (.int .i64 0)),(10,.val (.int .i64 (k:Int))),(13,.sl 1 (irows .i64 rest) false),(14,.sl 1 (lrows (allS rest)) false),(15,.lp 312 0),(16,.val (.int .i64 u)),(18,.val (.int .i64 (r:Int))),(81,.agg [.sl 1 (irows .i64 rest) false,.val (.bool false),.own 456 0 0,.own 464 0 r]),(83,.agg [.sl 1 (irows .i64 []) false,.val (.bool false),.sl 1 (irows .i32 []) false,.sl 3 ([(u:Rat)].map rowN) false])] [(0,.cells 4 [[.sl 1 (irows .i64 s) false,.val (.bool ch),.sl 1 (irows .i32 tx) false,.sl 3 (qs.map rowN) false]]),(8,.cells 4 [[.sl 0 [] true,.val (.bool false),.sl 0 [] true,.sl 0 [] true]]),(312,.cells 4 [[.sl 1 (irows .i64 rest) false,.val (.bool false),.own 456 0 0,.own 464 0 r]]),(456,.cells 1 (irows .i32 [])),(464,.cells 3 ((List.replicate r (u:Rat)).map rowN))] 560 150) ?_ ?_))
  ·refine anyK_2 0 1 _ _ (by kernel_rfl) rfl rfl rfl rfl ?_ ?_
   ·conv=>whnf
    refine anyK_1 1 _ (by kernel_rfl) rfl rfl ?_;conv=>whnf
    refine anyK_1 2 _ (by kernel_rfl) rfl rfl ?_;conv=>whnf
    refine⟨_,hIn,?_⟩;conv=>whnf
    exact anyK_0 (anyK_end (by kernel_rfl) rfl ⟨q2r,q2r,q2r,q2r,q2r,q2r,q2r,q2r,q2r,q2r,q2r,q2r,q2r,trivial⟩ ⟨q3r,q3r,q3r,q3r,⟨rfl,.inl ⟨rfl,rowsN_noid _⟩⟩,trivial⟩ rfl)
   ·conv=>whnf
    refine anyK_2 0 2 _ _ (by kernel_rfl) rfl rfl rfl rfl ?_ ?_
    ·conv=>whnf
     refine anyK_1 2 _ (by kernel_rfl) rfl rfl ?_;conv=>whnf
     refine⟨_,hIn,?_⟩;conv=>whnf
     exact anyK_0 (anyK_end (by kernel_rfl) rfl ⟨q2r,q2r,q2r,q2r,q2r,q2r,q2r,q2r,q2r,q2r,q2r,q2r,q2r,trivial⟩ ⟨q3r,q3r,q3r,q3r,⟨rfl,.inl ⟨rfl,rowsN_noid _⟩⟩,trivial⟩ rfl)
    ·conv=>whnf
     refine⟨_,hIn,?_⟩;conv=>whnf
     refine anyK_1 0 _ (by kernel_rfl) rfl rfl ?_;conv=>whnf
     exact anyK_0 (anyK_end (by kernel_rfl) rfl ⟨q2r,q2r,q2r,q2r,q2r,q2r,q2r,q2r,q2r,q2r,q2r,q2r,q2r,trivial⟩ ⟨q3r,q3r,q3r,q3r,⟨rfl,.inl ⟨rfl,rowsN_noid _⟩⟩,trivial⟩ rfl)
  ·intro s3 hm3 hI3;subst hI3;refine⟨rfl,SW.go TTok ?_⟩;conv=>whnf
   refine⟨⟨Nat.le_refl _,by show (0+0)*4≤140737488355328;omega⟩,?_⟩;conv=>whnf
   refine⟨⟨by show 0+r≤_;omega,by show (r+1)*40≤140737488355328;omega⟩,?_⟩;conv=>whnf
   refine⟨.inl rfl,_,rfl,?_⟩;conv=>whnf
   refine SW.go TTok ?_;conv=>whnf
   refine⟨r+1,[(456,648),(464,704)],(by show R-(r+1)<R-r;omega),hrt,⟨q2r,q2r,q2r,q2r,q2r,q2r,q2r,q2r,q2r,q2r,⟨valI eR,rfl⟩,trivial⟩,⟨q3r,q3r,q3r,q3r,⟨rfl,.inl ⟨celE ?_,rowsN_noid _⟩⟩,trivial⟩,rfl⟩;rw[List.replicate_succ',List.map_append];show List.take r (List.drop 0 ((List.replicate r (u:Rat)).map rowN))++_=_;rw[List.drop_zero,List.take_of_length_le (by omega)]
 ·have hre:r=R:=by omega
  rw[hre];rw[hre]at lN;refine SW.seqA TTok ?_;conv=>whnf
  refine oFq (by omega) ?_;conv=>whnf
  refine⟨⟨Nat.le_refl _,by show 0+R≤_;rw[lN];omega⟩,?_⟩;show AV.tup [AV.agg [_,_,AV.sl 1 (irows .i32 []) false,AV.sl 3 (List.take R (List.drop 0 ((List.replicate R (u:Rat)).map rowN))) false],_]=_;rw[List.drop_zero,List.take_of_length_le (by omega)];rfl
end
end
end
section
def listS (s:List Int):List Int:=if s=[] then [1] else s
theorem list80_ok (s:List Int) (ch:Bool) (tx:List Int) (qs:List Rat) (h:s.length≤1000):AC Tryz.prog 80 [PA s ch tx qs] (.pure (PA (listS s) ch tx qs)):=by
 have ls:=irows_len .i64 s;unfold listS;by_cases h0:s=[]
 ·rw[if_pos h0];subst h0;refine AC.of_body TTok Tryz.func80 rfl (enter_of Tryz.func80 (by kernel_rfl) (by kernel_rfl)) (noid1 (PA_noid _ _ _ _)) (PA_noid _ _ _ _) (nbq rfl) ?_;unfold PA;(conv=>whnf);exact⟨nbq rfl,rfl⟩
 ·rw[if_neg h0];have hp:s.length≠0:=fun e=>h0 (List.length_eq_zero_iff.1 e);refine AC.of_body TTok Tryz.func80 rfl (enter_of Tryz.func80 (by kernel_rfl) (by kernel_rfl)) (noid1 (PA_noid _ _ _ _)) (PA_noid _ _ _ _) (nbq rfl) ?_;unfold PA;conv=>whnf
  refine oFq (by omega) ?_;(conv=>whnf);exact rfl
def fitL (L:List Int) (n:Nat):List Int:=if L.length=n then L else List.replicate n (L.getD 0 0)
theorem fit81_ok (L:List Int) (n:Nat) (hL:L.length≤5000) (hn:n≤5000) (h0:L.length≠n→0<L.length):AC Tryz.prog 81 [.sl 1 (irows .i64 L) false,.val (.int .i64 (n:Int))] (.pure (.sl 1 (irows .i64 (fitL L n)) false)):=by
 have lL:=irows_len .i64 L;unfold fitL;by_cases he:L.length=n
 ·rw[if_pos he];refine AC.of_body TTok Tryz.func81 rfl (enter_of Tryz.func81 (by kernel_rfl) (by kernel_rfl)) (noid2 (noid_sl _ _ _) (.val _)) (noid_sl _ _ _) (nbq rfl) ?_;conv=>whnf
  refine oTq (by omega) ?_;(conv=>whnf);exact rfl
 ·rw[if_neg he];have h0:=h0 he;obtain⟨x,hx⟩:∃ x,x=L.getD 0 0:=⟨_,rfl⟩;have hg:(irows .i64 L)[0]?=some [.val (.int .i64 x)]:=irows_get .i64 L (by rw[hx,List.getElem?_eq_getElem h0,getD_at h0]);rw[←hx];refine AC.of_body TTok Tryz.func81 rfl (enter_of Tryz.func81 (by kernel_rfl) (by kernel_rfl)) (noid2 (noid_sl _ _ _) (.val _)) (noid_sl _ _ _) (nbq rfl) ?_;conv=>whnf
  refine oFq (by omega) ?_;conv=>whnf
  refine SW.nil 5 1 rfl ?_;refine SW.loopM TTok (fun j:Nat=>[(0,.sl 1 (irows .i64 L) false),(1,.val (.int .i64 (n:Int))),(5,.own 56 0 j),(6,.val (.int .i64 (j:Int)))]) (fun j=>[(56,.cells 1 (irows .i64 (List.replicate j x)))]) 64 29 rfl (fun j=>n-j) (fun j=>j≤n) 0 [] (Nat.zero_le _)
   ⟨q2r,q2r,q2r,q2r,trivial⟩ ⟨q3r,trivial⟩ rfl ?_
  intro j hJ;have hj:j≤n:=hJ;clear hJ;have lr:(irows .i64 (List.replicate j x)).length=j:=by rw[irows_len,List.length_replicate]
  by_cases hlt:j<n
  ·have eJ:IntKind.i64.wrap ((j:Int)+1)=((j+1:Nat):Int):=by rw[IntWalk.i64_in _ (by omega)];omega
   have hsn:irows .i64 (List.replicate j x)++[[.val (.int .i64 x)]]=irows .i64 (List.replicate (j+1) x):=by rw[List.replicate_succ',←irows_append];rfl
   conv=>whnf
   refine oTq (by omega) ?_;conv=>whnf
   refine oTq (by omega) ?_;conv=>whnf
   refine⟨_,⟨by omega,hg⟩,?_⟩;conv=>whnf
   refine⟨⟨by show 0+j≤_;omega,by show (j+1)*8≤140737488355328;omega,Nat.le_refl _⟩,?_⟩;conv=>whnf
   refine⟨j+1,[(56,168)],(by show n-(j+1)<n-j;omega),hlt,⟨q2r,q2r,q2r,⟨valI eJ,rfl⟩,trivial⟩,⟨⟨rfl,.inl ⟨celE ?_,irows_noid _ _⟩⟩,trivial⟩,rfl⟩;rw[←hsn];show List.take j (List.drop 0 (irows .i64 (List.replicate j x)))++_=_;rw[List.drop_zero,List.take_of_length_le (by omega)];rfl
  ·have hje:j=n:=by omega
   subst hje;conv=>whnf
   refine oFq (by omega) ?_;conv=>whnf
   refine⟨by show 0+j≤_;omega,?_⟩;show AV.sl 1 (List.take j (List.drop 0 (irows .i64 (List.replicate j x)))) false=_;rw[List.drop_zero,List.take_of_length_le (by omega)]
theorem fitL_range (p:Nat→Int) (a n:Nat) (h:a=n∨a=1):fitL ((List.range a).map p) n=(List.range n).map fun j=>p (min j (a-1)):=by
 unfold fitL;rw[List.length_map,List.length_range];by_cases he:a=n
 ·rw[if_pos he,he];refine List.map_congr_left fun j hj=>?_;have:=List.mem_range.1 hj;rw[Nat.min_eq_left (by omega)]
 ·rw[if_neg he];have h1:a=1:=by omega
  subst h1;refine List.ext_getElem (by simp) fun i h2 h3=>?_;rw[List.getElem_replicate,List.getElem_map];show p 0=p (min _ 0);rw[Nat.min_eq_right (Nat.zero_le _)]
theorem row_A (fr:List Int) (n i:Nat) (hi:i<pr fr):rowL (fr++[(n:Int)]) (dig fr i) fr.length n=(List.range n).map fun j:Nat=>((i*n+j:Nat):Int):=by
 have hk:fr.length<(fr++[(n:Int)]).length:=by rw[List.length_append];show _<_+1;omega
 have e1:(fr++[(n:Int)]).take fr.length=fr:=List.take_left' rfl;have e2:(fr++[(n:Int)]).drop (fr.length+1)=[]:=List.drop_of_length_le (by rw[List.length_append];exact Nat.le_refl _);have h:=rowL_eq hk n (by rw[List.getElem_append_right (Nat.le_refl _)];simp) i (by rw[e1,e2];show i<pr fr*1;omega);rw[e1,e2,List.append_nil]at h;rw[h];unfold plcL;refine List.map_congr_left fun j _=>?_;show (((i/1*n+j)*1+i % 1:Nat):Int)=_;rw[Nat.div_one,Nat.mod_one,Nat.mul_one,Nat.add_zero]
theorem row_B (bk:List Int) (m k:Nat) (hk:k<pr bk):rowL ((m:Int) :: bk) (dig bk k) 0 m=(List.range m).map fun j:Nat=>((j*pr bk+k:Nat):Int):=by
 have h:=rowL_eq (s:=(m:Int) :: bk) (k:=0) (Nat.succ_pos _) m rfl k (by show k<1*pr bk;omega);have h:rowL ((m:Int) :: bk) (dig bk k) 0 m=plcL m (pr bk) k:=h;rw[h];unfold plcL;refine List.map_congr_left fun j _=>?_;rw[Nat.div_eq_of_lt hk,Nat.mod_eq_of_lt hk,Nat.zero_mul,Nat.zero_add]
theorem two_pickR (c most:Int) (hc:isTwo c) (hm:most≤200) (ca cb:Bool) (ta tb:List Int) (qa qb:List Rat) (hQa:∀q∈qa,Sz q 20) (hQb:∀q∈qb,Sz q 20)
  (n:Nat) (hn:n≤500) (A B:List Int) (f g:Nat→Nat) (lA:A.length=n) (lB:B.length=n) (hA:∀i,i<n→A[i]?=some (f i:Int)) (hB:∀i,i<n→B[i]?=some (g i:Int))
  (a1:ca=true→qa=[]∧∀i,i<n→f i<ta.length) (a2:ca=false→ta=[]) (b1:cb=true→qb=[]∧∀i,i<n→g i<tb.length) (b2:cb=false→tb=[]) :
  AC Tryz.prog 78 [.val (.int .i32 c),PA [(n:Int)] ca (pickT ca ta A) (pickQ ca qa A),PA [(n:Int)] cb (pickT cb tb B) (pickQ cb qb B),.val (.int .i64 most)]
   (.pure (resP [(n:Int)] (firstE ((List.range n).map fun i=>pairE c most (elA ca ta qa (f i)) (elA cb tb qb (g i)))) ((List.range n).map fun i=>(pairE c most (elA ca ta qa (f i)) (elA cb tb qb (g i))).1))):=by
 obtain⟨v1,c1⟩:=vS_single n (by omega);obtain⟨p2,p3⟩:=pickQ_len (ch:=ca) (tx:=ta) (qs:=qa) A;obtain⟨q2,q3⟩:=pickQ_len (ch:=cb) (tx:=tb) (qs:=qb) B;have s1:=pickQ_sz (ch:=ca) hQa A;have s2:=pickQ_sz (ch:=cb) hQb B;have l1:(ca=true→(pickQ ca qa A).length=0∧(pickT ca ta A).length=n)∧(ca=false→(pickT ca ta A).length=0∧(pickQ ca qa A).length=n):=⟨fun h=>⟨by rw[(p2 h).1];rfl,by rw[(p2 h).2,lA]⟩,fun h=>⟨by rw[(p3 h).1];rfl,by rw[(p3 h).2,lA]⟩⟩;have l2:(cb=true→(pickQ cb qb B).length=0∧(pickT cb tb B).length=n)∧(cb=false→(pickT cb tb B).length=0∧(pickQ cb qb B).length=n):=⟨fun h=>⟨by rw[(q2 h).1];rfl,by rw[(q2 h).2,lB]⟩,fun h=>⟨by rw[(q3 h).1];rfl,by rw[(q3 h).2,lB]⟩⟩;have k1:kinds [(n:Int)] ca (pickT ca ta A).length (pickQ ca qa A).length:=by
  unfold kinds;rw[c1];cases ca
  ·have:=l1.2 rfl;exact⟨by omega,this.1⟩
  ·have:=l1.1 rfl;exact⟨by omega,this.1⟩
 have k2:kinds [(n:Int)] cb (pickT cb tb B).length (pickQ cb qb B).length:=by
  unfold kinds;rw[c1];cases cb
  ·have:=l2.2 rfl;exact⟨by omega,this.1⟩
  ·have:=l2.1 rfl;exact⟨by omega,this.1⟩
 have n1:(pickT ca ta A).length≤500∧(pickQ ca qa A).length≤500:=by
  cases ca
  ·have:=l1.2 rfl;omega
  ·have:=l1.1 rfl;omega
 have n2:(pickT cb tb B).length≤500∧(pickQ cb qb B).length≤500:=by
  cases cb
  ·have:=l2.2 rfl;omega
  ·have:=l2.1 rfl;omega
 have w4:=RTwoN_ok c [(n:Int)] [(n:Int)] ca cb (pickT ca ta A) (pickT cb tb B) (pickQ ca qa A) (pickQ cb qb B) most hm v1 v1 k1 k2 n1.1 n2.1 n1.2 n2.2 s1 s2;have fit:fitS [(n:Int)] [(n:Int)] ((pickT ca ta A).length+(pickQ ca qa A).length) ((pickT cb tb B).length+(pickQ cb qb B).length)=([(n:Int)],false,false,0):=if_pos rfl;have he:∀i,i<n→elemF c ca cb (pickT ca ta A) (pickT cb tb B) (pickQ ca qa A) (pickQ cb qb B) false false most i=pairE c most (elA ca ta qa (f i)) (elA cb tb qb (g i)):=fun i hi=>by
  rw[←el_pickQ (hA i hi) (fun h=>⟨(a1 h).1,(a1 h).2 i hi⟩) a2,←el_pickQ (hB i hi) (fun h=>⟨(b1 h).1,(b1 h).2 i hi⟩) b2];rfl
 have hE:twoE c [(n:Int)] [(n:Int)] ca cb (pickT ca ta A) (pickT cb tb B) (pickQ ca qa A) (pickQ cb qb B) most=firstE ((List.range n).map fun i=>pairE c most (elA ca ta qa (f i)) (elA cb tb qb (g i))):=by
  unfold twoE;rw[if_pos hc,fit,if_neg (fun h=>h rfl)];show firstE ((List.range (cntI [(n:Int)]).toNat).map _)=_;rw[c1,Int.toNat_natCast];congr 1;exact List.map_congr_left fun i hi=>he i (List.mem_range.1 hi)
 have hV:twoV c [(n:Int)] [(n:Int)] ca cb (pickT ca ta A) (pickT cb tb B) (pickQ ca qa A) (pickQ cb qb B) most=(List.range n).map fun i=>(pairE c most (elA ca ta qa (f i)) (elA cb tb qb (g i))).1:=by
  unfold twoV;rw[fit];show (List.range (cntI [(n:Int)]).toNat).map _=_;rw[c1,Int.toNat_natCast];exact List.map_congr_left fun i hi=>congrArg Prod.fst (he i (List.mem_range.1 hi))
 rw[fit,hE,hV]at w4;exact w4
end
section
theorem lineV (vals:List Rat):lineE false [] vals vals.length vals.length 1 0=vals.map numE:=by
 unfold lineE;refine List.ext_getElem (by simp) fun i h1 h2=>?_;have hi:i<vals.length:=by rw[List.length_map]at h2;exact h2
 rw[List.getElem_map,List.getElem_map,List.getElem_range];have e:(0/1*vals.length+i)*1+0 % 1=i:=by simp
 rw[e];unfold elA numE;rw[List.getD_eq_getElem?_getD (l:=vals),List.getElem?_eq_getElem hi];rfl
theorem RRed_vec (c most:Int) (hc:isTwo c) (hm:most≤20) (vals:List Rat) (hQ:∀q∈vals,Sz q 20) (h5:vals.length≤500) (h0:0<vals.length) :
  AC Tryz.prog 19 [.val (.int .i32 c),PA [(vals.length:Int)] false [] vals,.val (.int .i64 0),.val (.int .i64 most)] (.pure (resP [] (foldE c most (vals.map numE)).2 [(foldE c most (vals.map numE)).1.2.2])):=by
 obtain⟨v1,c1⟩:=vS_single vals.length (by omega);have k1:kinds [(vals.length:Int)] false ([]:List Int).length vals.length:=by
  unfold kinds;rw[c1];exact q2r
 have h:=RRed_good c most hc hm [(vals.length:Int)] false [] vals 0 0 ⟨Nat.one_pos,.inl rfl⟩ v1 k1 hQ vals.length rfl h0 1 1 rfl rfl;have hE:redE c most (rowsL false [] vals vals.length vals.length 1 1) vals.length=(foldE c most (vals.map numE)).2:=by
  have e:rowsL false [] vals vals.length vals.length 1 1=[vals.map numE]:=by rw[←lineV];rfl
  have h:=red_single c most (vals.map numE);rw[List.length_map]at h;rw[e];exact h
 rw[hE,redN_eq,redT_eq,Bool.false_and,if_neg Bool.false_ne_true,if_neg Bool.false_ne_true]at h;have e2:(List.range 1).map (fun r=>(foldE c most (lineE false [] vals vals.length vals.length 1 r)).1.2.2)=[(foldE c most (vals.map numE)).1.2.2]:=by rw[←lineV];rfl
 rw[e2]at h;exact h
theorem RRed_vec0 (c most u:Int) (hc:isTwo c) (hu:unitQ c=some u):AC Tryz.prog 19 [.val (.int .i32 c),PA [0] false [] [],.val (.int .i64 0),.val (.int .i64 most)] (.pure (resP [] 0 [(u:Rat)])) :=
 RRed_unit c most [0] false [] [] 0 [] hc 0 ⟨Nat.one_pos,.inl rfl⟩ (vS_single 0 (by decide)).1 (by decide) rfl rfl u hu 1 rfl (by decide)
theorem RRed_vecN (c most:Int) (hc:isTwo c) (hu:unitQ c=none):AC Tryz.prog 19 [.val (.int .i32 c),PA [0] false [] [],.val (.int .i64 0),.val (.int .i64 most)] (.pure (resP [] 22 [0])) :=
 RRed_none c most [0] false [] [] 0 [] hc 0 ⟨Nat.one_pos,.inl rfl⟩ (vS_single 0 (by decide)).1 (by decide) rfl rfl hu
theorem inn_roundR (f g most:Int) (hf:isTwo f) (hg:isTwo g) (hm:most≤20) (ca cb:Bool) (ta tb:List Int) (qa qb:List Rat) (hQa:∀q∈qa,Sz q 20) (hQb:∀q∈qb,Sz q 20)
  (n m many wide long:Nat) (hl5:long≤500) (hl:0<long→0<n∧0<m) (a1:ca=true→qa=[]∧ta.length=many*n) (a2:ca=false→ta=[]) (b1:cb=true→qb=[]∧tb.length=m*wide) (b2:cb=false→tb=[])
  (i:Nat) (hi:i<many*wide) (A B:List Int) (hA:A=(List.range long).map fun j:Nat=>((i/wide*n+min j (n-1):Nat):Int)) (hB:B=(List.range long).map fun j:Nat=>((min j (m-1)*wide+i % wide:Nat):Int)) :
  AC Tryz.prog 78 [.val (.int .i32 g),PA [(long:Int)] ca (pickT ca ta A) (pickQ ca qa A),PA [(long:Int)] cb (pickT cb tb B) (pickQ cb qb B),.val (.int .i64 most)] (.pure (resP [(long:Int)] (firstE (innL g most ca cb ta tb qa qb n m wide long (i/wide) (i % wide))) ((innL g most ca cb ta tb qa qb n m wide long (i/wide) (i % wide)).map (·.1)))) ∧
   (firstE (innL g most ca cb ta tb qa qb n m wide long (i/wide) (i % wide))=0→AC Tryz.prog 19 [.val (.int .i32 f),PA [(long:Int)] false [] ((innL g most ca cb ta tb qa qb n m wide long (i/wide) (i % wide)).map (·.1)),.val (.int .i64 0),.val (.int .i64 most)] (.pure (resP [] (innV f g most ca cb ta tb qa qb n m wide long i).2 [(innV f g most ca cb ta tb qa qb n m wide long i).1]))):=by
 have hw:0<wide:=Nat.pos_of_ne_zero fun e=>by rw[e]at hi;omega
 have hr:i/wide<many:=Nat.div_lt_of_lt_mul (by rw[Nat.mul_comm];exact hi);have hk:i % wide<wide:=Nat.mod_lt _ hw;have inA:∀j,j<long→i/wide*n+min j (n-1)<many*n:=fun j hj=>by
  have h0:=(hl (by omega)).1;have:(i/wide+1)*n≤many*n:=Nat.mul_le_mul_right _ hr;rw[Nat.add_mul,Nat.one_mul]at this;omega
 have inB:∀j,j<long→min j (m-1)*wide+i % wide<m*wide:=fun j hj=>by
  have h0:=(hl (by omega)).2;have:(min j (m-1)+1)*wide≤m*wide:=Nat.mul_le_mul_right _ (by omega);rw[Nat.add_mul,Nat.one_mul]at this;omega
 have w4:=two_pickR g most hg (by omega) ca cb ta tb qa qb hQa hQb long hl5 A B (fun j=>i/wide*n+min j (n-1)) (fun j=>min j (m-1)*wide+i % wide)
  (by rw[hA,List.length_map,List.length_range]) (by rw[hB,List.length_map,List.length_range])
  (fun j hj=>by rw[hA,List.getElem?_map,List.getElem?_range hj];rfl) (fun j hj=>by rw[hB,List.getElem?_map,List.getElem?_range hj];rfl)
  (fun h=>⟨(a1 h).1,fun j hj=>by rw[(a1 h).2];exact inA j hj⟩) a2 (fun h=>⟨(b1 h).1,fun j hj=>by rw[(b1 h).2];exact inB j hj⟩) b2
 obtain⟨ps,hps⟩:∃ ps,ps=innL g most ca cb ta tb qa qb n m wide long (i/wide) (i % wide):=⟨_,rfl⟩;have lps:ps.length=long:=by rw[hps];unfold innL;rw[List.length_map,List.length_range]
 have hV:innV f g most ca cb ta tb qa qb n m wide long i=if firstE ps≠0 then (0,firstE ps) else if long=0 then ((((unitQ f).getD 0:Int):Rat),if (unitQ f).isSome then 0 else 22) else ((foldE f most (ps.map fun z=>numE z.1)).1.2.2,(foldE f most (ps.map fun z=>numE z.1)).2):=by rw[hps];rfl
 have hsz:firstE ps=0→∀q∈ps.map (·.1),Sz q 20:=fun h q hq=>by
  obtain⟨z,hz,rfl⟩:=List.mem_map.1 hq;have h0:=fst0_zero ((firstE_fst0 ps).symm.trans h) z.2 (List.mem_map_of_mem hz);rw[hps]at hz;unfold innL at hz;obtain⟨j,_,rfl⟩:=List.mem_map.1 hz;exact pair_szm hm h0
 rw[←hps];refine⟨?_,fun h0=>?_⟩
 ·rw[hps];unfold innL;rw[List.map_map];exact w4
 ·rw[hV,if_neg (fun h=>h h0)];by_cases hl0:long=0
  ·have e:ps=[]:=List.length_eq_zero_iff.1 (by rw[lps,hl0]);rw[if_pos hl0,e,hl0];cases hu:unitQ f with
   | none=>exact RRed_vecN f most hf hu
   | some u=>exact RRed_vec0 f most u hf hu
  ·rw[if_neg hl0];have h:=RRed_vec f most hf hm (ps.map (·.1)) (hsz h0) (by rw[List.length_map];omega) (by rw[List.length_map];omega);rw[List.length_map,lps,List.map_map]at h;exact h
end
section
section
variable (f g most:Int) (sa sb:List Int) (ca cb:Bool) (ta tb:List Int) (qa qb:List Rat)
theorem innR_nd:∀x∈[AV.val (.int .i32 f),.val (.int .i32 g),PA sa ca ta qa,PA sb cb tb qb,.val (.int .i64 most)],NoId x:=noid5 (.val _) (.val _) (PA_noid _ _ _ _) (PA_noid _ _ _ _) (.val _)
theorem RInner_not (h:¬(isTwo f∧isTwo g)):AC Tryz.prog 31 [.val (.int .i32 f),.val (.int .i32 g),PA sa ca ta qa,PA sb cb tb qb,.val (.int .i64 most)] (.pure (.tup [PA [] false [] [],.val (.int .i64 20)])):=by
 have hF:=SHas_ok f;have hG:=SHas_ok g;refine RRed_err ?_;refine AC.of_body TTok Tryz.func31 rfl (enter_of Tryz.func31 (by kernel_rfl) (by kernel_rfl)) (innR_nd f g most sa sb ca cb ta tb qa qb) (PZf_noid _) (nbq rfl) ?_;unfold PA PZ;by_cases hf:isTwo f
 ·rw[decide_eq_true hf]at hF;rw[decide_eq_false (fun hg=>h ⟨hf,hg⟩)]at hG;conv=>whnf
  refine⟨_,hF,?_⟩;conv=>whnf
  refine⟨_,hG,?_⟩;(conv=>whnf);exact rfl
 ·rw[decide_eq_false hf]at hF;conv=>whnf
  refine⟨_,hF,?_⟩;(conv=>whnf);exact rfl
end
theorem listS_rows {s:List Int} (hv:vS s):listS s=(rowsS s).2.2++[((rowsS s).2.1:Int)]:=by
 unfold listS rowsS;by_cases h:s=[]
 ·rw[if_pos h,if_pos h];rfl
 ·rw[if_neg h,if_neg h];have hl:0<s.length:=List.length_pos_iff.2 h;have hk:s.length-1<s.length:=by omega
  have h0:0≤s[s.length-1]:=hv.2.1 _ (List.getElem_mem hk);show s=s.take (s.length-1)++[(((s.getD (s.length-1) 0).toNat:Nat):Int)];rw[getD_at hk,Int.toNat_of_nonneg h0,←take_snoc hk,show s.length-1+1=s.length by omega,List.take_length]
theorem listS_cols {s:List Int} (hv:vS s):listS s=((colsS s).2.1:Int) :: (colsS s).2.2:=by
 unfold listS colsS;by_cases h:s=[]
 ·rw[if_pos h,if_pos h];rfl
 ·rw[if_neg h,if_neg h];have hk:0<s.length:=List.length_pos_iff.2 h;have h0:0≤s[0]:=hv.2.1 _ (List.getElem_mem hk);show s=(((s.getD 0 0).toNat:Nat):Int) :: s.drop 1;rw[getD_at hk,Int.toNat_of_nonneg h0,←List.drop_eq_getElem_cons hk,List.drop_zero]
theorem lrows_at {s:List Int} {i:Nat} (h:i<pr s):(lrows (allS s))[i]?=some [.sl 1 (irows .i64 (dig s i)) false]:=by unfold lrows;rw[List.getElem?_map,allS_get s i h];rfl
section
variable (f g most:Int) (hf:isTwo f) (hg:isTwo g) (sa sb:List Int) (ca cb:Bool) (ta tb:List Int) (qa qb:List Rat) (n m:Nat) (fr bk:List Int)
 (hSA:AC Tryz.prog 80 [PA sa ca ta qa] (.pure (PA (fr++[(n:Int)]) ca ta qa))) (hSB:AC Tryz.prog 80 [PA sb cb tb qb] (.pure (PA ((m:Int) :: bk) cb tb qb))) (f8:fr.length≤8)
include hf hg hSA hSB f8
theorem RInner_len (h1:n≠m) (h2:n≠1) (h3:m≠1):AC Tryz.prog 31 [.val (.int .i32 f),.val (.int .i32 g),PA sa ca ta qa,PA sb cb tb qb,.val (.int .i64 most)] (.pure (.tup [PA [] false [] [],.val (.int .i64 24)])):=by
 have hF:=SHas_ok f;have hG:=SHas_ok g;rw[decide_eq_true hf]at hF;rw[decide_eq_true hg]at hG;obtain⟨kk,hkk⟩:∃ kk,kk=fr.length:=⟨_,rfl⟩;have lA:(irows .i64 (fr++[(n:Int)])).length=kk+1:=by rw[irows_len,List.length_append,hkk];rfl
 have lB:(irows .i64 ((m:Int) :: bk)).length=bk.length+1:=by rw[irows_len];rfl
 have gA:(irows .i64 (fr++[(n:Int)]))[kk]?=some [.val (.int .i64 (n:Int))]:=irows_get .i64 _ (by rw[hkk,List.getElem?_append_right (Nat.le_refl _),Nat.sub_self];rfl);have gB:(irows .i64 ((m:Int) :: bk))[0]?=some [.val (.int .i64 (m:Int))]:=irows_get .i64 _ rfl;have wk1:IntKind.i64.wrap (((irows .i64 (fr++[(n:Int)])).length:Int)-1)=(kk:Int):=by rw[IntWalk.i64_in _ (by omega)];omega
 refine RRed_err ?_;generalize fr++[(n:Int)]=sA at *;generalize (m:Int) :: bk=sB at *;refine AC.of_body TTok Tryz.func31 rfl (enter_of Tryz.func31 (by kernel_rfl) (by kernel_rfl)) (innR_nd f g most sa sb ca cb ta tb qa qb) (PZf_noid _) (nbq rfl) ?_;unfold PA PZ at *;conv=>whnf
 refine⟨_,hF,?_⟩;conv=>whnf
 refine⟨_,hG,?_⟩;conv=>whnf
 refine⟨_,hSA,?_⟩;conv=>whnf
 refine⟨_,hSB,?_⟩;conv=>whnf
 refine⟨by kernel_rfl,?_⟩;conv=>whnf
 rw[wk1];refine⟨_,⟨by omega,by rw[Int.toNat_natCast];exact gA⟩,?_⟩;conv=>whnf
 refine⟨_,⟨by omega,gB⟩,?_⟩;conv=>whnf
 refine⟨by kernel_rfl,?_⟩;conv=>whnf
 refine nFq (by omega) ?_;conv=>whnf
 refine nFq (by omega) ?_;conv=>whnf
 refine nFq (by omega) ?_;(conv=>whnf);exact rfl
set_option maxRecDepth 20000 in
theorem RInner_run (b8:bk.length≤8) (hfit:n=m∨n=1∨m=1) (long:Nat) (hlong:long=if n=0∨m=0 then 0 else max n m) (n4:n≤4096) (m4:m≤4096) (many wide:Nat) (hma:many=pr fr) (hwi:wide=pr bk) (vfr:vS fr) (vbk:vS bk)
  (all:Nat) (E:Int) (hbad:roomE (fr++bk)≠0→E=roomE (fr++bk)) (hgood:roomE (fr++bk)=0→all=many*wide)
  (V:List Rat) (lV:V.length=all) (RA RB A B:Nat→List Int) (TA TB:Nat→List Int) (QA QB vs:Nat→List Rat) (E1 E2:Nat→Int)
  (lA:∀r,r<many→(A r).length=long) (lB:∀k,k<wide→(B k).length=long)
  (hRA:∀r,r<many→AC Tryz.prog 56 [.sl 1 (irows .i64 (fr++[(n:Int)])) false,.val (.int .i64 (fr.length:Int)),.sl 1 (irows .i64 (dig fr r)) false] (.pure (.sl 1 (irows .i64 (RA r)) false)))
  (hRB:∀k,k<wide→AC Tryz.prog 56 [.sl 1 (irows .i64 ((m:Int) :: bk)) false,.val (.int .i64 0),.sl 1 (irows .i64 (dig bk k)) false] (.pure (.sl 1 (irows .i64 (RB k)) false)))
  (hFA:∀r,r<many→AC Tryz.prog 81 [.sl 1 (irows .i64 (RA r)) false,.val (.int .i64 (long:Int))] (.pure (.sl 1 (irows .i64 (A r)) false)))
  (hFB:∀k,k<wide→AC Tryz.prog 81 [.sl 1 (irows .i64 (RB k)) false,.val (.int .i64 (long:Int))] (.pure (.sl 1 (irows .i64 (B k)) false)))
  (hPA:∀r,r<many→∀z,z=irows .i64 [(long:Int)]→AC Tryz.prog 82 [PA (fr++[(n:Int)]) ca ta qa,.sl 1 z false,.sl 1 (irows .i64 (A r)) false] (.pure (PA [(long:Int)] ca (TA r) (QA r))))
  (hPB:∀k,k<wide→∀z,z=irows .i64 [(long:Int)]→AC Tryz.prog 82 [PA ((m:Int) :: bk) cb tb qb,.sl 1 z false,.sl 1 (irows .i64 (B k)) false] (.pure (PA [(long:Int)] cb (TB k) (QB k))))
  (h78:∀r k,r<many→k<wide→AC Tryz.prog 78 [.val (.int .i32 g),PA [(long:Int)] ca (TA r) (QA r),PA [(long:Int)] cb (TB k) (QB k),.val (.int .i64 most)] (.pure (resP [(long:Int)] (E1 (r*wide+k)) (vs (r*wide+k)))))
  (h19:∀i (h:i<V.length),E1 i=0→AC Tryz.prog 19 [.val (.int .i32 f),PA [(long:Int)] false [] (vs i),.val (.int .i64 0),.val (.int .i64 most)] (.pure (resP [] (E2 i) [V[i]])))
  (hE0:roomE (fr++bk)=0→(∀i,i<all→E1 i=0∧E2 i=0)→E=0) (hE1:∀i,i<all→(∀j,j<i→E1 j=0∧E2 j=0)→E1 i≠0→E=E1 i) (hE2:∀i,i<all→(∀j,j<i→E1 j=0∧E2 j=0)→E1 i=0→E2 i≠0→E=E2 i) :
  AC Tryz.prog 31 [.val (.int .i32 f),.val (.int .i32 g),PA sa ca ta qa,PA sb cb tb qb,.val (.int .i64 most)] (.pure (resP (fr++bk) E V)):=by
 have hF:=SHas_ok f;have hG:=SHas_ok g;rw[decide_eq_true hf]at hF;rw[decide_eq_true hg]at hG;have hl4:long≤4096:=by rw[hlong];split<;>omega
 have hAl:=All_ok fr vfr;have hBl:=All_ok bk vbk;have many4:many≤4096:=by rw[hma];exact (vS_pr vfr).2
 have wide4:wide≤4096:=by rw[hwi];exact (vS_pr vbk).2
 have hRm:=roomR_ok (fr++bk) (by rw[List.length_append];omega);have lfr:=irows_len .i64 fr;have lbk:=irows_len .i64 bk;obtain⟨kk,hkk⟩:∃ kk,kk=fr.length:=⟨_,rfl⟩;have lsA:(irows .i64 (fr++[(n:Int)])).length=kk+1:=by rw[irows_len,List.length_append,hkk];rfl
 have lsB:(irows .i64 ((m:Int) :: bk)).length=bk.length+1:=by rw[irows_len];rfl
 have gA:(irows .i64 (fr++[(n:Int)]))[kk]?=some [.val (.int .i64 (n:Int))]:=irows_get .i64 _ (by rw[hkk,List.getElem?_append_right (Nat.le_refl _),Nat.sub_self];rfl);have gB:(irows .i64 ((m:Int) :: bk))[0]?=some [.val (.int .i64 (m:Int))]:=irows_get .i64 _ rfl;have wk1:IntKind.i64.wrap (((irows .i64 (fr++[(n:Int)])).length:Int)-1)=(kk:Int):=by rw[IntWalk.i64_in _ (by omega)];omega
 have dA:List.drop 0 (List.take ((kk:Nat):Int).toNat (irows .i64 (fr++[(n:Int)])))=irows .i64 fr:=by rw[List.drop_zero,Int.toNat_natCast,irows_take,hkk,List.take_left' rfl]
 have dB:List.drop (Int.toNat 1) (List.take (irows .i64 ((m:Int) :: bk)).length (irows .i64 ((m:Int) :: bk)))=irows .i64 bk:=by rw[List.take_length,irows_drop];rfl
 rw[←hkk]at hRA;have ka:∀r,r<many→(lrows (allS fr))[r]?=some [.sl 1 (irows .i64 (dig fr r)) false]:=fun r h=>lrows_at (by rw[←hma];exact h);have kb:∀k,k<wide→(lrows (allS bk))[k]?=some [.sl 1 (irows .i64 (dig bk k)) false]:=fun k h=>lrows_at (by rw[←hwi];exact h);have lFr:(lrows (allS fr)).length=many:=by rw[lrows_len,allS_len,hma]
 have lBk:(lrows (allS bk)).length=wide:=by rw[lrows_len,allS_len,hwi]
 have e1L:∀L:List Int,L.length=long→irows .i64 [(long:Int)]=[[.val (.int .i64 ((irows .i64 L).length:Nat))]]:=fun L h=>by rw[irows_len,h];rfl
 obtain⟨r',hle,hno,e1,e2⟩:∃ r',AVle r' (resP (fr++bk) E V)∧NoId r'∧(E=0→r' = .tup [.agg [.sl 1 (irows .i64 (fr++bk)) false,.val (.bool false),.sl 0 [] true,.sl 3 (V.map rowN) false],.val (.int .i64 0)])∧(E≠0→r' = .tup [PZ,.val (.int .i64 E)]):=by
  unfold resP;by_cases h:E=0
  ·rw[if_pos h];exact⟨_,.tup2 (le_agg4 (.refl _) (.refl _) (le_nil 1) (.refl _)) (.refl _),.tup _ (noid2 (.agg _ (noidF (noid_sl _ _ _) (.val _) (.sl _ _ _ (fun r hr=>nomatch hr)) (slN_noid _))) (.val _)),fun _=>rfl,fun h'=>absurd h h'⟩
  ·rw[if_neg h];exact⟨_,.tup2 PZ_le (.refl _),.tup _ (noid2 PZ_noid (.val _)),fun h'=>absurd h' h,fun _=>rfl⟩
 refine AC.le_res (?_:AC Tryz.prog 31 _ (.pure r')) hle (resP_noid _ _ _);generalize fr++[(n:Int)]=sA at *;generalize (m:Int) :: bk=sB at *;refine AC.of_sw TTok Tryz.func31 rfl (enter_of Tryz.func31 (by kernel_rfl) (by kernel_rfl)) (innR_nd f g most sa sb ca cb ta tb qa qb) hno (nbq rfl) ?_;unfold PA PZ at *;refine SW.seqA TTok ?_;conv=>whnf
 refine SW.seqA TTok ?_;conv=>whnf
 refine⟨_,hF,?_⟩;conv=>whnf
 refine⟨_,hG,?_⟩;conv=>whnf
 refine SW.seqA TTok ?_;conv=>whnf
 refine⟨_,hSA,?_⟩;conv=>whnf
 refine⟨_,hSB,?_⟩;conv=>whnf
 refine⟨by kernel_rfl,?_⟩;conv=>whnf
 refine SW.seqA TTok ?_;conv=>whnf
 rw[wk1];refine SW.seqA TTok ?_;conv=>whnf
 refine⟨_,⟨by omega,by rw[Int.toNat_natCast];exact gA⟩,?_⟩;conv=>whnf
 refine⟨_,⟨by omega,gB⟩,?_⟩;conv=>whnf
 refine⟨by kernel_rfl,?_⟩;conv=>whnf
 refine SW.cutM TTok (fun _:Unit=>[(0,.val (.int .i32 f)),(1,.val (.int .i32 g)),(4,.val (.int .i64 most)),(7,.lp 0 0),(8,.lp 8 0),(10,.lp 16 0),(11,.val (.int .i64 0)),(12,.val (.int .i64 (kk:Int))),(13,.val (.int .i64 (n:Int))),(14,.val (.int .i64 (m:Int)))]) (fun _=>[(0,.cells 4 [[.sl 1 (irows .i64 sA) false,.val (.bool ca),.sl 1 (irows .i32 ta) false,.sl 3 (qa.map rowN) false]]),(8,.cells 4 [[.sl 1 (irows .i64 sB) false,.val (.bool cb),.sl 1 (irows .i32 tb) false,.sl 3 (qb.map rowN) false]]),(16,.cells 4 [[.sl 0 [] true,.val (.bool false),.sl 0 [] true,.sl 0 [] true]])]) 360 167 rfl (fun _=>True) ?_ (fun _ _=>?_)
 ·have h3:n=m∨(n≠m∧n=1)∨(n≠m∧n≠1∧m=1):=by omega
  rcases h3 with h3 | ⟨h3,h5⟩ | ⟨h3,h5,h6⟩
  ·conv=>whnf
   refine nTq (by omega) ?_;conv=>whnf
   exact⟨(),[],trivial,⟨q2r,q2r,q2r,q2r,q2r,q2r,q2r,q2r,q2r,q2r,trivial⟩,⟨q3r,q3r,q3r,trivial⟩,rfl⟩
  ·conv=>whnf
   refine nFq (by omega) ?_;conv=>whnf
   refine nTq (by omega) ?_;conv=>whnf
   exact⟨(),[],trivial,⟨q2r,q2r,q2r,q2r,q2r,q2r,q2r,q2r,q2r,q2r,trivial⟩,⟨q3r,q3r,q3r,trivial⟩,rfl⟩
  ·conv=>whnf
   refine nFq (by omega) ?_;conv=>whnf
   refine nFq (by omega) ?_;conv=>whnf
   refine nTq (by omega) ?_;conv=>whnf
   exact⟨(),[],trivial,⟨q2r,q2r,q2r,q2r,q2r,q2r,q2r,q2r,q2r,q2r,trivial⟩,⟨q3r,q3r,q3r,trivial⟩,rfl⟩
 obtain⟨n1,hn1⟩:∃ n1,n1=if n=1 then m else n:=⟨_,rfl⟩
 refine SW.cutM TTok (fun _:Unit=>[(0,.val (.int .i32 f)),(1,.val (.int .i32 g)),(4,.val (.int .i64 most)),(7,.lp 0 0),(8,.lp 8 0),(10,.lp 16 0),(11,.val (.int .i64 0)),(12,.val (.int .i64 (kk:Int))),(13,.val (.int .i64 (n1:Int))),(14,.val (.int .i64 (m:Int)))]) (fun _=>[(0,.cells 4 [[.sl 1 (irows .i64 sA) false,.val (.bool ca),.sl 1 (irows .i32 ta) false,.sl 3 (qa.map rowN) false]]),(8,.cells 4 [[.sl 1 (irows .i64 sB) false,.val (.bool cb),.sl 1 (irows .i32 tb) false,.sl 3 (qb.map rowN) false]]),(16,.cells 4 [[.sl 0 [] true,.val (.bool false),.sl 0 [] true,.sl 0 [] true]])]) 440 167 rfl (fun _=>True) ?_ (fun _ _=>?_)
 ·by_cases h1:n=1
  ·rw[if_pos h1]at hn1;conv=>whnf
   refine oTq (by omega) ?_;conv=>whnf
   exact⟨(),[],trivial,⟨q2r,q2r,q2r,q2r,q2r,q2r,q2r,q2r,⟨valI (by rw[hn1]),rfl⟩,q2r,trivial⟩,⟨q3r,q3r,q3r,trivial⟩,rfl⟩
  ·rw[if_neg h1]at hn1;conv=>whnf
   refine oFq (by omega) ?_;conv=>whnf
   exact⟨(),[],trivial,⟨q2r,q2r,q2r,q2r,q2r,q2r,q2r,q2r,⟨valI (by rw[hn1]),rfl⟩,q2r,trivial⟩,⟨q3r,q3r,q3r,trivial⟩,rfl⟩
 refine SW.cutM TTok (fun _:Unit=>[(0,.val (.int .i32 f)),(1,.val (.int .i32 g)),(4,.val (.int .i64 most)),(7,.lp 0 0),(8,.lp 8 0),(10,.lp 16 0),(11,.val (.int .i64 0)),(12,.val (.int .i64 (kk:Int))),(13,.val (.int .i64 (long:Int)))]) (fun _=>[(0,.cells 4 [[.sl 1 (irows .i64 sA) false,.val (.bool ca),.sl 1 (irows .i32 ta) false,.sl 3 (qa.map rowN) false]]),(8,.cells 4 [[.sl 1 (irows .i64 sB) false,.val (.bool cb),.sl 1 (irows .i32 tb) false,.sl 3 (qb.map rowN) false]]),(16,.cells 4 [[.sl 0 [] true,.val (.bool false),.sl 0 [] true,.sl 0 [] true]])]) 464 167 rfl (fun _=>True) ?_ (fun _ _=>?_)
 ·by_cases h1:m=0
  ·have hl:long=0:=by rw[hlong,if_pos (.inr h1)]
   conv=>whnf
   refine oTq (by omega) ?_;conv=>whnf
   exact⟨(),[],trivial,⟨q2r,q2r,q2r,q2r,q2r,q2r,q2r,q2r,⟨valI (by rw[hl];rfl),rfl⟩,trivial⟩,⟨q3r,q3r,q3r,trivial⟩,rfl⟩
  ·have hl:n1=long:=by
    rw[hn1,hlong];by_cases h0:n=0
    ·rw[if_neg (show ¬n=1 by omega),if_pos (.inl h0)];exact h0
    ·rw[if_neg (c:=n=0∨m=0) (by omega)];split<;>omega
   conv=>whnf
   refine oFq (by omega) ?_;conv=>whnf
   exact⟨(),[],trivial,⟨q2r,q2r,q2r,q2r,q2r,q2r,q2r,q2r,⟨valI (by rw[hl]),rfl⟩,trivial⟩,⟨q3r,q3r,q3r,trivial⟩,rfl⟩
 refine SW.seqA TTok ?_;conv=>whnf
 refine⟨by omega,?_⟩;conv=>whnf
 rw[dA];conv=>whnf
 refine⟨_,hAl,?_⟩;conv=>whnf
 refine⟨by omega,?_⟩;conv=>whnf
 rw[dB];conv=>whnf
 refine⟨_,hBl,?_⟩;conv=>whnf
 refine⟨by kernel_rfl,?_⟩;conv=>whnf
 refine SW.seqA TTok ?_;conv=>whnf
 refine⟨by omega,?_⟩;conv=>whnf
 rw[dA];refine⟨⟨Nat.le_refl _,by show (0+(irows .i64 fr).length)*8≤140737488355328;omega⟩,?_⟩;conv=>whnf
 refine⟨by omega,?_⟩;conv=>whnf
 rw[dB];refine⟨⟨by show 0+(0+(irows .i64 fr).length)≤(List.take 0 (List.drop 0 ([]:List (List AV)))++irows .i64 fr).length;simp,by show (0+(irows .i64 fr).length+(irows .i64 bk).length)*8≤140737488355328;omega⟩,?_⟩;conv=>whnf
 refine⟨by kernel_rfl,?_⟩;conv=>whnf
 refine SW.weak (Wk.frz 17 624 0 (0+(irows .i64 fr).length+(irows .i64 bk).length) 1 rfl rfl (by decide) (by show 0+(0+(irows .i64 fr).length+(irows .i64 bk).length)≤(List.take (0+(irows .i64 fr).length) (List.drop 0 (List.take 0 (List.drop 0 ([]:List (List AV)))++irows .i64 fr))++irows .i64 bk).length;simp) (by show NoId (.sl 1 (List.take (0+(irows .i64 fr).length+(irows .i64 bk).length) (List.drop 0 (List.take (0+(irows .i64 fr).length) (List.drop 0 (List.take 0 (List.drop 0 ([]:List (List AV)))++irows .i64 fr))++irows .i64 bk))) false);rw[cat2_key];exact noid_sl _ _ _)) rfl ?_;refine axp_sound TTok _ _ _ ?_;rw[←cat2_key]at hRm;by_cases hr:roomE (fr++bk)=0
 case neg =>
  have hE:=hbad hr;rw[e2 (by rw[hE];exact hr),hE];generalize roomE (fr++bk)=e at *;conv=>whnf
  refine⟨_,hRm,?_⟩;conv=>whnf
  refine nFq (by omega) ?_;(conv=>whnf);exact rfl
 have hall:=hgood hr;have hE0:=hE0 hr;have hvv:=vS_pr (room_vS hr);rw[pr_append,←hma,←hwi,←hall]at hvv;have a4:=hvv.2;rw[hr]at hRm;conv=>whnf
 refine⟨_,hRm,?_⟩;conv=>whnf
 refine SW.nilC 696 3 3 rfl rfl ?_;refine SW.loopM TTok (fun r:Nat=>[(0,.val (.int .i32 f)),(1,.val (.int .i32 g)),(4,.val (.int .i64 most)),(7,.lp 0 0),(8,.lp 8 0),(10,.lp 16 0),(11,.val (.int .i64 0)),(12,.val (.int .i64 (kk:Int))),(13,.val (.int .i64 (long:Int))),(15,.sl 1 (lrows (allS fr)) false),(16,.sl 1 (lrows (allS bk)) false),(19,.lp 696 0),(20,.val (.int .i64 (r:Int)))])
  (fun r=>[(0,.cells 4 [[.sl 1 (irows .i64 sA) false,.val (.bool ca),.sl 1 (irows .i32 ta) false,.sl 3 (qa.map rowN) false]]),(8,.cells 4 [[.sl 1 (irows .i64 sB) false,.val (.bool cb),.sl 1 (irows .i32 tb) false,.sl 3 (qb.map rowN) false]]),(16,.cells 4 [[.sl 0 [] true,.val (.bool false),.sl 0 [] true,.sl 0 [] true]]),(696,.cells 4 [[.sl 1 (irows .i64 (fr++bk)) false,.val (.bool false),.sl 0 [] true,.own 720 0 (r*wide)]]),(720,.cells 3 ((V.take (r*wide)).map rowN))]) 728 167 rfl (fun r=>many-r) (fun r=>r≤many∧∀i,i<r*wide→E1 i=0∧E2 i=0) 0 [] ⟨Nat.zero_le _,fun i hi=>by rw[Nat.zero_mul]at hi;exact absurd hi (Nat.not_lt_zero _)⟩
  ⟨q2r,q2r,q2r,q2r,q2r,q2r,q2r,q2r,q2r,q2r,q2r,q2r,q2r,trivial⟩ ⟨q3r,q3r,q3r,⟨rfl,.inr ⟨celE (by rw[Nat.zero_mul,←cat2_key];rfl),rfl⟩⟩,⟨rfl,.inl ⟨celE (by rw[Nat.zero_mul];rfl),rowsN_noid _⟩⟩,trivial⟩ rfl ?_
 intro r hJ;have hrm:r≤many:=hJ.1;have hz:∀i,i<r*wide→E1 i=0∧E2 i=0:=hJ.2;clear hJ;by_cases hlt:r<many
 ·have eI:IntKind.i64.wrap ((r:Int)+1)=((r+1:Nat):Int):=by rw[IntWalk.i64_in _ (by omega)];omega
  have hil:(r+1)*wide≤all:=by rw[hall];exact Nat.mul_le_mul_right _ hlt
  rw[Nat.add_mul,Nat.one_mul]at hil;conv=>whnf
  refine oTq (by omega) ?_;conv=>whnf
  refine SW.loopM TTok (fun k:Nat=>[(0,.val (.int .i32 f)),(1,.val (.int .i32 g)),(4,.val (.int .i64 most)),(7,.lp 0 0),(8,.lp 8 0),(10,.lp 16 0),(11,.val (.int .i64 0)),(12,.val (.int .i64 (kk:Int))),(13,.val (.int .i64 (long:Int))),(15,.sl 1 (lrows (allS fr)) false),(16,.sl 1 (lrows (allS bk)) false),(19,.lp 696 0),(20,.val (.int .i64 (r:Int))),(21,.val (.int .i64 (k:Int)))])
   (fun k=>[(0,.cells 4 [[.sl 1 (irows .i64 sA) false,.val (.bool ca),.sl 1 (irows .i32 ta) false,.sl 3 (qa.map rowN) false]]),(8,.cells 4 [[.sl 1 (irows .i64 sB) false,.val (.bool cb),.sl 1 (irows .i32 tb) false,.sl 3 (qb.map rowN) false]]),(16,.cells 4 [[.sl 0 [] true,.val (.bool false),.sl 0 [] true,.sl 0 [] true]]),(696,.cells 4 [[.sl 1 (irows .i64 (fr++bk)) false,.val (.bool false),.sl 0 [] true,.own 720 0 (r*wide+k)]]),(720,.cells 3 ((V.take (r*wide+k)).map rowN))]) 768 167 rfl (fun k=>wide-k) (fun k=>k≤wide∧∀i,i<r*wide+k→E1 i=0∧E2 i=0) 0 [] ⟨Nat.zero_le _,hz⟩
   ⟨q2r,q2r,q2r,q2r,q2r,q2r,q2r,q2r,q2r,q2r,q2r,q2r,q2r,q2r,trivial⟩ ⟨q3r,q3r,q3r,q3r,⟨rfl,.inl ⟨rfl,rowsN_noid _⟩⟩,trivial⟩ rfl ?_
  intro k hJ;have hk:k≤wide:=hJ.1;have hz2:∀i,i<r*wide+k→E1 i=0∧E2 i=0:=hJ.2;clear hJ;have lr:((V.take (r*wide+k)).map rowN).length=r*wide+k:=by rw[List.length_map,List.length_take];omega
  by_cases hkt:k<wide
  ·have eK:IntKind.i64.wrap ((k:Int)+1)=((k+1:Nat):Int):=by rw[IntWalk.i64_in _ (by omega)];omega
   have xA:=hRA r hlt;have xB:=hRB k hkt;have yA:=hFA r hlt;have yB:=hFB k hkt;have zA:=hPA r hlt _ (e1L _ (lA r hlt)).symm;have zB:=hPB k hkt _ (e1L _ (lB k hkt)).symm;have hiV:r*wide+k<V.length:=by omega
   have h78:=h78 r k hlt hkt;have h19:=h19 _ hiV;have hE1:=hE1 _ (by omega) hz2;have hE2:=hE2 _ (by omega) hz2;have hsn:(V.take (r*wide+k)).map rowN++[rowN V[r*wide+k]]=(V.take (r*wide+(k+1))).map rowN:=by
    rw[show r*wide+(k+1)=r*wide+k+1 by omega,take_snoc hiV,List.map_append];rfl
   have htk:List.take (r*wide+k) (List.drop 0 ((V.take (r*wide+k)).map rowN))=(V.take (r*wide+k)).map rowN:=by rw[List.drop_zero,List.take_of_length_le (by omega)]
   have gk1:=ka r hlt;have gk2:=kb k hkt;generalize V[r*wide+k]=x at *;unfold resP PA at h78 h19;conv=>whnf
   refine oTq (by omega) ?_;conv=>whnf
   refine⟨_,⟨by omega,by rw[Int.toNat_natCast];exact gk1⟩,?_⟩;conv=>whnf
   refine⟨_,xA,?_⟩;conv=>whnf
   refine⟨_,yA,?_⟩;conv=>whnf
   refine⟨_,⟨by omega,by rw[Int.toNat_natCast];exact gk2⟩,?_⟩;by_cases he:E1 (r*wide+k)=0
   case neg =>
    rw[if_neg he]at h78;rw[e2 (by rw[hE1 he];exact he),hE1 he];conv=>whnf
    refine⟨_,xB,?_⟩;conv=>whnf
    refine⟨_,yB,?_⟩;conv=>whnf
    refine⟨by kernel_rfl,?_⟩;conv=>whnf
    refine⟨(nbq rfl),_,zA,?_⟩;conv=>whnf
    refine⟨(nbq rfl),_,zB,?_⟩;conv=>whnf
    refine⟨_,h78,?_⟩;conv=>whnf
    refine⟨by kernel_rfl,?_⟩;conv=>whnf
    refine nFq (by omega) ?_;(conv=>whnf);exact rfl
   rw[if_pos he]at h78;have h19:=h19 he;by_cases he2:E2 (r*wide+k)=0
   case neg =>
    rw[if_neg he2]at h19;rw[e2 (by rw[hE2 he he2];exact he2),hE2 he he2];conv=>whnf
    refine⟨_,xB,?_⟩;conv=>whnf
    refine⟨_,yB,?_⟩;conv=>whnf
    refine⟨by kernel_rfl,?_⟩;conv=>whnf
    refine⟨(nbq rfl),_,zA,?_⟩;conv=>whnf
    refine⟨(nbq rfl),_,zB,?_⟩;conv=>whnf
    refine⟨_,h78,?_⟩;conv=>whnf
    refine⟨by kernel_rfl,?_⟩;conv=>whnf
    refine⟨_,h19,?_⟩;conv=>whnf
    refine nFq (by omega) ?_;(conv=>whnf);exact rfl
   rw[if_pos he2]at h19;conv=>whnf
   refine⟨_,xB,?_⟩;conv=>whnf
   refine⟨_,yB,?_⟩;conv=>whnf
   refine⟨by kernel_rfl,?_⟩;conv=>whnf
   refine⟨(nbq rfl),_,zA,?_⟩;conv=>whnf
   refine⟨(nbq rfl),_,zB,?_⟩;conv=>whnf
   refine⟨_,h78,?_⟩;conv=>whnf
   refine⟨by kernel_rfl,?_⟩;conv=>whnf
   refine⟨_,h19,?_⟩;conv=>whnf
   refine⟨⟨by show 0+(r*wide+k)≤_;omega,by show (r*wide+k+1)*40≤140737488355328;omega⟩,?_⟩;conv=>whnf
   refine⟨k+1,[(720,1272)],(by show wide-(k+1)<wide-k;omega),⟨hkt,fun i hi=>?_⟩,⟨q2r,q2r,q2r,q2r,q2r,q2r,q2r,q2r,q2r,q2r,q2r,q2r,q2r,⟨valI eK,rfl⟩,trivial⟩,⟨q3r,q3r,q3r,q3r,⟨rfl,.inl ⟨celE ?_,rowsN_noid _⟩⟩,trivial⟩,rfl⟩
   ·by_cases hie:i=r*wide+k
    ·rw[hie];exact⟨he,he2⟩
    ·exact hz2 i (by omega)
   ·rw[←hsn];show List.take (r*wide+k) (List.drop 0 ((V.take (r*wide+k)).map rowN))++_=_;rw[htk];rfl
  ·have hke:k=wide:=by omega
   conv=>whnf
   refine oFq (by omega) ?_;conv=>whnf
   exact⟨r+1,[],(by show many-(r+1)<many-r;omega),⟨hlt,by rw[hke]at hz2;rw[Nat.add_mul,Nat.one_mul];exact hz2⟩,⟨q2r,q2r,q2r,q2r,q2r,q2r,q2r,q2r,q2r,q2r,q2r,q2r,⟨valI eI,rfl⟩,trivial⟩,⟨q3r,q3r,q3r,⟨rfl,.inr ⟨celE (by rw[hke,Nat.add_mul,Nat.one_mul];rfl),rfl⟩⟩,⟨rfl,.inl ⟨celE (by rw[hke,Nat.add_mul,Nat.one_mul]),rowsN_noid _⟩⟩,trivial⟩,rfl⟩
 ·have hie:r=many:=by omega
  have hil:r*wide=all:=by rw[hie];exact hall.symm
  have hE:E=0:=hE0 (by rw[←hil];exact hz);have eV:V.take (r*wide)=V:=List.take_of_length_le (by omega);rw[e1 hE,eV,hil];have lV':(V.map rowN).length=all:=by rw[List.length_map];exact lV
  conv=>whnf
  refine oFq (by omega) ?_;conv=>whnf
  refine⟨by show 0+all≤_;omega,?_⟩;show AV.tup [AV.agg [_,_,_,AV.sl 3 (List.take all (List.drop 0 (V.map rowN))) false],_]=_;rw[List.drop_zero,List.take_of_length_le (by omega)];rfl
end
end
section
theorem listS_vS {s:List Int} (hv:vS s):vS (listS s):=by
 unfold listS;by_cases h:s=[]
 ·rw[if_pos h];exact (vS_single 1 (by decide)).1
 ·rw[if_neg h];exact hv
theorem unit01 {c u:Int} (hu:unitQ c=some u):u=0∨u=1:=by
 unfold unitQ at hu;split at hu
 ·exact .inl (Option.some.inj hu).symm
 ·split at hu
  ·exact .inr (Option.some.inj hu).symm
  ·exact nomatch hu
theorem fold_sz (c most:Int) (hm:most≤20):∀l:List El,(∀x∈l,Sz x.2.2 20)→(foldE c most l).2=0→Sz (foldE c most l).1.2.2 20
 | [],_,_=>Sz_zero.mono (by decide)
 | [x],h,_=>by rw[foldE_one];exact h x (List.mem_singleton.2 rfl)
 | x :: y :: l,h,h0=>by
  rw[foldE_cons _ _ _ (List.cons_ne_nil y l)]at h0 ⊢;by_cases h1:(foldE c most (y :: l)).2≠0
  ·rw[if_pos h1]at h0;exact absurd h0 h1
  ·rw[if_neg h1]at h0 ⊢;by_cases h2:(pairE c most x (foldE c most (y :: l)).1).2≠0
   ·rw[if_pos h2]at h0;exact absurd h0 h2
   ·rw[if_neg h2];exact pair_szm hm (Decidable.byContradiction h2)
section
variable (f g most:Int) (hf:isTwo f) (hg:isTwo g) (hm:most≤20) (sa sb:List Int) (ca cb:Bool) (ta tb:List Int) (qa qb:List Rat)
include hm
theorem innV_sz (n m wide long i:Nat) (h:(innV f g most ca cb ta tb qa qb n m wide long i).2=0):Sz (innV f g most ca cb ta tb qa qb n m wide long i).1 20:=by
 unfold innV at h ⊢;obtain⟨ps,hps⟩:∃ ps,ps=innL g most ca cb ta tb qa qb n m wide long (i/wide) (i % wide):=⟨_,rfl⟩;rw[←hps]at h ⊢;by_cases h1:firstE ps≠0
 ·rw[if_pos h1]at h;exact absurd h h1
 ·rw[if_neg h1]at h ⊢;have h1:firstE ps=0:=Decidable.byContradiction h1;by_cases h2:long=0
  ·rw[if_pos h2]at h ⊢;cases hu:unitQ f with
   | none=>rw[hu]at h;exact absurd h (by show ¬(22:Int)=0;decide)
   | some u =>
    rcases unit01 hu with rfl | rfl
    ·exact Sz_zero.mono (by decide)
    ·exact Sz_one.mono (by decide)
  ·rw[if_neg h2]at h ⊢;refine fold_sz f most hm _ (fun x hx=>?_) h;obtain⟨z,hz,rfl⟩:=List.mem_map.1 hx;have h0:=firstE_in h1 hz;rw[hps]at hz;unfold innL at hz;obtain⟨j,_,rfl⟩:=List.mem_map.1 hz;exact pair_szm hm h0
variable (hQa:∀q∈qa,Sz q 20) (hQb:∀q∈qb,Sz q 20) (va:vS sa) (vb:vS sb) (ka:kinds sa ca ta.length qa.length) (kb:kinds sb cb tb.length qb.length)
 (many n wide m:Nat) (fr bk:List Int) (ea:rowsS sa=(many,n,fr)) (eb:colsS sb=(wide,m,bk))
include hf hg hQa hQb va vb ka kb ea eb
theorem RInner_good (hfit:n=m∨n=1∨m=1) (hl5:0<many*wide→longS n m≤500)
  (V:Nat→Rat×Int) (hV:V=innV f g most ca cb ta tb qa qb n m wide (longS n m)) (F:List (Rat×Int)) (hF:F=(List.range (many*wide)).map V) :
  AC Tryz.prog 31 [.val (.int .i32 f),.val (.int .i32 g),PA sa ca ta qa,PA sb cb tb qb,.val (.int .i64 most)] (.pure (resP (fr++bk) (if roomE (fr++bk)=0 then firstE F else roomE (fr++bk)) (F.map (·.1)))):=by
 obtain⟨k1,k2⟩:=kinds_c va ka;obtain⟨k3,k4⟩:=kinds_c vb kb;have pa4:=(vS_pr va).2;have pb4:=(vS_pr vb).2;have sA:=listS_rows va;have sB:=listS_cols vb;have wA:=listS_vS va;have wB:=listS_vS vb;obtain⟨ra1,ra2,ra3,ra4,ra5⟩:=rowsS_of va;obtain⟨cb1,cb2,cb3,cb4,cb5⟩:=colsS_of vb;rw[ea]at sA ra1 ra2 ra3 ra4 ra5;rw[eb]at sB cb1 cb2 cb3 cb4 cb5;have sA:listS sa=fr++[(n:Int)]:=sA;have sB:listS sb=(m:Int) :: bk:=sB;have ra1:pr sa=many*n:=ra1;have cb1:pr sb=m*wide:=cb1;have ra2:many=pr fr:=ra2;have cb2:wide=pr bk:=cb2;have ra3:vS fr:=ra3;have cb3:vS bk:=cb3;have ra4:n≤4096:=ra4;have cb4:m≤4096:=cb4;have ra5:many≤4096:=ra5;have cb5:wide≤4096:=cb5;have hSA:=list80_ok sa ca ta qa (by have:=va.1;omega);have hSB:=list80_ok sb cb tb qb (by have:=vb.1;omega);rw[sA]at hSA wA;rw[sB]at hSB wB;rw[ra1]at k1 k2 pa4;rw[cb1]at k3 k4 pb4;have lta:ta.length≤5000∧qa.length≤5000:=by
  cases ca
  ·have:=k2 rfl;omega
  ·have:=k1 rfl;omega
 have ltb:tb.length≤5000∧qb.length≤5000:=by
  cases cb
  ·have:=k4 rfl;omega
  ·have:=k3 rfl;omega
 have a1:ca=true→qa=[]∧ta.length=many*n:=fun h=>⟨List.length_eq_zero_iff.1 (k1 h).2,(k1 h).1⟩;have a2:ca=false→ta=[]:=fun h=>List.length_eq_zero_iff.1 (k2 h).2;have b1:cb=true→qb=[]∧tb.length=m*wide:=fun h=>⟨List.length_eq_zero_iff.1 (k3 h).2,(k3 h).1⟩;have b2:cb=false→tb=[]:=fun h=>List.length_eq_zero_iff.1 (k4 h).2;obtain⟨long,hlo⟩:∃ long,long=longS n m:=⟨_,rfl⟩;have hlong:long=if n=0∨m=0 then 0 else max n m:=hlo
 have hl4:long≤4096:=by rw[hlong];split<;>omega
 have hpos:0<long→0<n∧0<m:=fun h=>by
  by_cases h0:n=0∨m=0
  ·rw[hlong,if_pos h0]at h;omega
  ·omega
 have fA:n=long∨n=1:=by
  by_cases h0:n=0∨m=0
  ·rw[hlong,if_pos h0];omega
  ·rw[hlong,if_neg h0];omega
 have fB:m=long∨m=1:=by
  by_cases h0:n=0∨m=0
  ·rw[hlong,if_pos h0];omega
  ·rw[hlong,if_neg h0];omega
 rw[←hlo]at hl5 hV;obtain⟨all,hall⟩:∃ all,all=if roomE (fr++bk)=0 then many*wide else 0:=⟨_,rfl⟩
 have hle:all≤many*wide:=by rw[hall];split<;>omega
 have hal:roomE (fr++bk)=0→all=many*wide:=fun h=>by rw[hall,if_pos h]
 have hroom:∀i,i<all→roomE (fr++bk)=0:=fun i hi=>by
  by_cases h:roomE (fr++bk)=0
  ·exact h
  ·rw[hall,if_neg h]at hi;omega
 obtain⟨L,hL⟩:∃ L,L=innL g most ca cb ta tb qa qb n m wide long:=⟨_,rfl⟩;have hz:∀i,(V i).2=0→firstE (L (i/wide) (i % wide))=0:=fun i=>by rw[hV,hL];exact innV_zero f g most ca cb ta tb qa qb n m wide long i
 have hy:∀i,firstE (L (i/wide) (i % wide))≠0→(V i).2=firstE (L (i/wide) (i % wide)):=fun i=>by rw[hV,hL];exact innV_first f g most ca cb ta tb qa qb n m wide long i
 have hrd:∀i (hi:i<many*wide),_:=fun i hi=>inn_roundR f g most hf hg hm ca cb ta tb qa qb hQa hQb n m many wide long (hl5 (by omega)) hpos a1 a2 b1 b2 i hi _ _ rfl rfl;rw[←hL,←hV]at hrd;obtain⟨X,hX⟩:∃ X,X=(List.range all).map fun i=>(V i).1:=⟨_,rfl⟩;have lX:X.length=all:=by rw[hX,List.length_map,List.length_range]
 have hXi:∀i (h:i<X.length),X[i]=(V i).1:=fun i h=>by subst hX;rw[List.getElem_map,List.getElem_range]
 have hrun:=RInner_run f g most hf hg sa sb ca cb ta tb qa qb n m fr bk hSA hSB ra3.1 cb3.1 hfit long hlong ra4 cb4 many wide ra2 cb2 ra3 cb3 all (if roomE (fr++bk)=0 then firstE F else roomE (fr++bk)) (fun h=>if_neg h) hal X lX
  (fun r=>(List.range n).map fun j:Nat=>((r*n+j:Nat):Int)) (fun k=>(List.range m).map fun j:Nat=>((j*wide+k:Nat):Int))
  (fun r=>(List.range long).map fun j:Nat=>((r*n+min j (n-1):Nat):Int)) (fun k=>(List.range long).map fun j:Nat=>((min j (m-1)*wide+k:Nat):Int)) _ _ _ _ (fun i=>(L (i/wide) (i % wide)).map (·.1)) (fun i=>firstE (L (i/wide) (i % wide))) (fun i=>(V i).2)
  (fun r _=>by rw[List.length_map,List.length_range]) (fun k _=>by rw[List.length_map,List.length_range])
  (fun r hr=>?_) (fun k hk=>?_) (fun r hr=>?_) (fun k hk=>?_)
  (fun r hr z hz=>by rw[hz];exact RPick_any _ ca ta qa [(long:Int)] _ (by show 1≤1000;omega) (by rw[List.length_map,List.length_range];omega) lta.1 lta.2 (fun h=>(a1 h).1) a2)
  (fun k hk z hz=>by rw[hz];exact RPick_any _ cb tb qb [(long:Int)] _ (by show 1≤1000;omega) (by rw[List.length_map,List.length_range];omega) ltb.1 ltb.2 (fun h=>(b1 h).1) b2)
  (fun r k hr hk=>?_) (fun i hi h=>?_) (fun h h1=>?_) (fun i hi h1 h2=>?_) (fun i hi h1 h2 h3=>?_)
 ·have e:resP (fr++bk) (if roomE (fr++bk)=0 then firstE F else roomE (fr++bk)) X=resP (fr++bk) (if roomE (fr++bk)=0 then firstE F else roomE (fr++bk)) (F.map (·.1)):=by
   by_cases h:roomE (fr++bk)=0
   ·have:X=F.map (·.1):=by rw[hX,hF,hal h,List.map_map];rfl
    rw[this]
   ·rw[if_neg h];unfold resP;rw[if_neg h,if_neg h]
  rw[←e];exact hrun
 ·have h:=Row_ok (fr++[(n:Int)]) (dig fr r) fr.length n (by rw[List.length_append];show _<_+1;omega) (by rw[List.getElem_append_right (Nat.le_refl _)];simp) wA (by rw[dig_len,List.length_append];rfl);rw[row_A fr n r (by rw[←ra2];exact hr)]at h;exact h
 ·have h:=Row_ok ((m:Int) :: bk) (dig bk k) 0 m (Nat.succ_pos _) rfl wB (by rw[dig_len];rfl);rw[row_B bk m k (by rw[←cb2];exact hk),←cb2]at h;exact h
 ·have h:=fit81_ok ((List.range n).map fun j:Nat=>((r*n+j:Nat):Int)) long (by rw[List.length_map,List.length_range];omega) (by omega) (by rw[List.length_map,List.length_range];omega);rw[fitL_range (fun j=>((r*n+j:Nat):Int)) n long fA]at h;exact h
 ·have h:=fit81_ok ((List.range m).map fun j:Nat=>((j*wide+k:Nat):Int)) long (by rw[List.length_map,List.length_range];omega) (by omega) (by rw[List.length_map,List.length_range];omega);rw[fitL_range (fun j=>((j*wide+k:Nat):Int)) m long fB]at h;exact h
 ·have hi:r*wide+k<many*wide:=by
   have:(r+1)*wide≤many*wide:=Nat.mul_le_mul_right _ hr;rw[Nat.add_mul,Nat.one_mul]at this;omega
  have d1:(r*wide+k)/wide=r:=by rw[Nat.mul_comm,Nat.mul_add_div (by omega),Nat.div_eq_of_lt hk,Nat.add_zero]
  have d2:(r*wide+k) % wide=k:=by rw[Nat.mul_comm,Nat.mul_add_mod,Nat.mod_eq_of_lt hk]
  have h:=(hrd _ hi).1;rw[d1,d2]at h;show AC Tryz.prog 78 _ (.pure (resP _ (firstE (L ((r*wide+k)/wide) ((r*wide+k) % wide))) ((L ((r*wide+k)/wide) ((r*wide+k) % wide)).map (·.1))));rw[d1,d2];exact h
 ·rw[hXi i hi];exact (hrd i (by omega)).2 h
 ·rw[if_pos h,hF];refine firstE_zero fun x hx=>?_;obtain⟨i,hi,rfl⟩:=List.mem_map.1 hx;exact (h1 i (by rw[hal h];exact List.mem_range.1 hi)).2
 ·rw[if_pos (hroom i hi),hF,firstE_map V _ i (by omega) (fun j hj=>(h1 j hj).2) (by rw[hy i h2];exact h2),hy i h2]
 ·rw[if_pos (hroom i hi),hF,firstE_map V _ i (by omega) (fun j hj=>(h1 j hj).2) h3]
end
end
end Go.Proofs.YtbdklokfijjifaaGreat

namespace Go.Proofs.YtbdklokfijjifaaGreat.productInners
open Go Go.AL NM
section
section
variable (f g:Int) (sa sb:List Int) (ca cb:Bool) (ta tb:List Int)
theorem bad (La Lb:List TX) (h1:AC Tryz.prog 28 [PB sa ca ta La,PB sb cb tb Lb] (.pure (.val (.bool false)))):AC Tryz.prog 8 [.val (.int .i32 f),.val (.int .i32 g),PB sa ca ta La,PB sb cb tb Lb] (.pure (.val (.bool true))):=by
 refine AC.of_body TTok Tryz.func8 rfl (enter_of Tryz.func8 (by kernel_rfl) (by kernel_rfl)) (noidF (.val _) (.val _) (PB_noid _ _ _ _) (PB_noid _ _ _ _)) (.val _) (nbq rfl) ?_;have hA:=awake20_ok;unfold PB at *;repeat ((conv=>whnf);(first | refine⟨_,‹_›,?_⟩|exact rfl))
theorem both (qa qb:List Rat) (va:vS sa) (vb:vS sb) (ka:kinds sa ca ta.length qa.length) (kb:kinds sb cb tb.length qb.length) (ta1:ta.length≤40) (tb1:tb.length≤40) (qa1:qa.length≤40) (qb1:qb.length≤40) (Sa:∀q∈qa,Sz q 20) (Sb:∀q∈qb,Sz q 20) :
  ∃ sh k t n z e sh' k' t' n',AC Tryz.prog 23 [.val (.int .i32 f),.val (.int .i32 g),AA sa ca ta (qa.map ofX) true,AA sb cb tb (qb.map ofX) true,.val (.int .i64 6)] (.pure (.tup [AA sh k t n z,.val (.int .i64 e)])) ∧
   AC Tryz.prog 31 [.val (.int .i32 f),.val (.int .i32 g),PA sa ca ta qa,PA sb cb tb qb,.val (.int .i64 6)] (.pure (.tup [PA sh' k' t' n',.val (.int .i64 e)])) ∧
   AC Tryz.prog 30 [AA sh k t n z,.val (.int .i64 e),PA sh' k' t' n',.val (.int .i64 e)] (.pure (.val (.bool true))):=by
 by_cases hc:isTwo f∧isTwo g
 ·obtain⟨hf,hg⟩:=hc;obtain⟨many,n,fr,ea⟩:∃ many n fr,rowsS sa=(many,n,fr):=⟨_,_,_,rfl⟩;obtain⟨wide,m,bk,eb⟩:∃ wide m bk,colsS sb=(wide,m,bk):=⟨_,_,_,rfl⟩;obtain⟨ra1,ra2,ra3,ra4,ra5⟩:=rowsS_of va;obtain⟨cb1,cb2,cb3,cb4,cb5⟩:=colsS_of vb;by_cases hfit:n=m∨n=1∨m=1
  ·rw[ea]at ra1 ra3;rw[eb]at cb1 cb3;have ra1:pr sa=many*n:=ra1;have cb1:pr sb=m*wide:=cb1;have f8:fr.length≤8:=ra3.1;have b8:bk.length≤8:=cb3.1;have h8:(fr++bk).length≤1000:=by rw[List.length_append];omega
   have e1:ta.length+qa.length=many*n:=by
    obtain⟨k1,k2⟩:=kinds_c va ka;cases ca
    ·have:=k2 rfl;omega
    ·have:=k1 rfl;omega
   have e2:tb.length+qb.length=m*wide:=by
    obtain⟨k1,k2⟩:=kinds_c vb kb;cases cb
    ·have:=k2 rfl;omega
    ·have:=k1 rfl;omega
   have hl5:0<many*wide→longS n m≤500:=fun h=>by
    have h1:0<many:=Nat.pos_of_mul_pos_right h;have h2:0<wide:=Nat.pos_of_mul_pos_left h;have n8:n≤many*n:=Nat.le_mul_of_pos_left _ h1;have m8:m≤m*wide:=Nat.le_mul_of_pos_right _ h2;unfold longS;split<;>omega
   obtain⟨V,hV⟩:∃ V,V=innV f g 6 ca cb ta tb qa qb n m wide (longS n m):=⟨_,rfl⟩;obtain⟨F,hF⟩:∃ F,F=(List.range (many*wide)).map V:=⟨_,rfl⟩;obtain⟨X,x1,x2,x3,x4⟩:=Inner_good f g 6 hf hg (by decide) sa sb ca cb ta tb (qa.map ofX) (qb.map ofX) qa qb (map_valX_of qa) (map_valX_of qb) (ofX_ok qa) (ofX_ok qb) Sa Sb va vb (by rw[List.length_map];exact ka) (by rw[List.length_map];exact kb) many n wide m fr bk ea eb hfit hl5 V hV F hF;have d:=RInner_good f g 6 hf hg (by decide) sa sb ca cb ta tb qa qb Sa Sb va vb ka kb many n wide m fr bk ea eb hfit hl5 V hV F hF;by_cases hr:roomE (fr++bk)=0
   ·rw[if_pos hr]at x4 d;obtain⟨sh,k,t,n',z,e,sh',k',t',n'',g1,g2,g3⟩:=showsP (fr++bk) h8 X F (x1 hr) x2 x3 (fun z hz h0=>by
     rw[hF]at hz;obtain⟨i,_,rfl⟩:=List.mem_map.1 hz;rw[hV]at h0 ⊢;exact innV_sz f g 6 (by decide) ca cb ta tb qa qb n m wide _ i h0)
    rw[g1]at x4;rw[g2]at d;exact⟨sh,k,t,n',z,e,sh',k',t',n'',x4,d,g3⟩
   ·rw[if_neg hr]at x4 d;unfold resF at x4;unfold resP at d;rw[if_neg hr]at x4 d;exact⟨_,_,_,_,_,_,_,_,_,_,x4,d,shows20_err _ hr _ _ _ _⟩
  ·have h1:(rowsS sa).2.1≠(colsS sb).2.1:=by rw[ea,eb];exact fun h=>hfit (.inl h)
   have h2:(rowsS sa).2.1≠1:=by rw[ea];exact fun h=>hfit (.inr (.inl h))
   have h3:(colsS sb).2.1≠1:=by rw[eb];exact fun h=>hfit (.inr (.inr h))
   have hSA:=list80_ok sa ca ta qa (by have:=va.1;omega);have hSB:=list80_ok sb cb tb qb (by have:=vb.1;omega);rw[listS_rows va]at hSA;rw[listS_cols vb]at hSB;exact⟨_,_,_,_,_,_,_,_,_,_,Inner_len f g 6 sa sb ca cb ta tb _ _ hf hg va vb h1 h2 h3,RInner_len f g 6 hf hg sa sb ca cb ta tb qa qb _ _ _ _ hSA hSB ra3.1 h1 h2 h3,shows20_err 24 (by decide) _ _ _ _⟩
 ·exact⟨_,_,_,_,_,_,_,_,_,_,Inner_not f g 6 sa sb ca cb ta tb _ _ hc,RInner_not f g 6 sa sb ca cb ta tb qa qb hc,shows20_err 20 (by decide) _ _ _ _⟩
theorem good (qa qb:List Rat) (h1:AC Tryz.prog 28 [PA sa ca ta qa,PA sb cb tb qb] (.pure (.val (.bool true))))
  (va:vS sa) (vb:vS sb) (ka:kinds sa ca ta.length qa.length) (kb:kinds sb cb tb.length qb.length) (ta1:ta.length≤40) (tb1:tb.length≤40) (qa1:qa.length≤40) (qb1:qb.length≤40) (Qa:∀q∈qa,QR q) (Qb:∀q∈qb,QR q) :
  AC Tryz.prog 8 [.val (.int .i32 f),.val (.int .i32 g),PA sa ca ta qa,PA sb cb tb qb] (.pure (.val (.bool true))):=by
 refine AC.of_body TTok Tryz.func8 rfl (enter_of Tryz.func8 (by kernel_rfl) (by kernel_rfl)) (noidF (.val _) (.val _) (PA_noid _ _ _ _) (PA_noid _ _ _ _)) (.val _) (nbq rfl) ?_;have hA:=awake20_ok;have o1:=LOf_ok sa ca ta qa va ka Qa (by omega) (by omega);have o2:=LOf_ok sb cb tb qb vb kb Qb (by omega) (by omega);obtain⟨sh,k,t,n,z,e,sh',k',t',n',f1,f2,hS⟩:=both f g sa sb ca cb ta tb qa qb va vb ka kb ta1 tb1 qa1 qb1 (fun q h=>((Qa q h).sz).mono (by decide)) (fun q h=>((Qb q h).sz).mono (by decide));unfold PA AA at *;conv=>whnf
 refine⟨_,h1,?_⟩;conv=>whnf
 refine⟨_,o1,?_⟩;conv=>whnf
 refine⟨_,o2,?_⟩;conv=>whnf
 refine⟨_,f1,?_⟩;conv=>whnf
 refine⟨by kernel_rfl,?_⟩;conv=>whnf
 refine⟨_,f2,?_⟩;conv=>whnf
 refine⟨_,hS,?_⟩;(conv=>whnf);refine⟨_,‹_›,?_⟩;(conv=>whnf);exact rfl
end
theorem holds (f g:Int) (sa:List Int) (ca:Bool) (ta:List Int) (La:List TX) (sb:List Int) (cb:Bool) (tb:List Int) (Lb:List TX) (wf:-2147483648≤f∧f<2147483648) (wg:-2147483648≤g∧g<2147483648)
  (za:sa.length<9223372036854775808∧ta.length<9223372036854775808∧La.length<9223372036854775808∧GN La) (zb:sb.length<9223372036854775808∧tb.length<9223372036854775808∧Lb.length<9223372036854775808∧GN Lb) :
  AC Tryz.prog 8 [.val (.int .i32 f),.val (.int .i32 g),PB sa ca ta La,PB sb cb tb Lb] (.pure (.val (.bool true))):=by
 obtain⟨r,h1,h⟩:=lite20 sa ca ta La sb cb tb Lb za zb;cases r
 ·exact bad f g sa sb ca cb ta tb La Lb h1
 obtain⟨qa,qb,⟨ea,va,ka,ta1,qa1,Qa⟩,⟨eb,vb,kb,tb1,qb1,Qb⟩,h3⟩:=h rfl;rw[ea,eb]at h1 ⊢;exact good f g sa sb ca cb ta tb qa qb h1 va vb ka kb ta1 tb1 qa1 qb1 Qa Qb
end
end Go.Proofs.YtbdklokfijjifaaGreat.productInners
