/- Shapes: all indices of a shape, and where they lie (plain laws). -/
import Derived.Test.YtbdklokfijjifaaGreatB3
import Derived.Test.YtbdklokfijjifaaGreatB4
set_option linter.unusedVariables false
namespace Go.Proofs.YtbdklokfijjifaaGreat
open Go Go.AL
section
def pr:List Int→Nat
 | []=>1
 | d :: v=>d.toNat*pr v
def dig:List Int→Nat→List Int
 | [],_=>[]
 | _ :: v,i=>((i/pr v:Nat):Int) :: dig v (i % pr v)
def allS:List Int→List (List Int)
 | []=>[[]]
 | d :: v=>(List.range d.toNat).flatMap fun n:Nat=>(allS v).map fun w=>(n:Int) :: w
def plS (n:Int):List Int→List Int→Int
 | d :: v,a :: w=>if a<0∨d≤a then -1 else plS (n*d+a) v w
 | _,_=>n
theorem pr_append (u v:List Int):pr (u++v)=pr u*pr v:=by
 induction u with
 | nil=>rw[List.nil_append];exact (Nat.one_mul _).symm
 | cons d u ih=>show d.toNat*pr (u++v)=d.toNat*pr u*pr v;rw[ih,Nat.mul_assoc]
theorem range_mul (d L:Nat):List.range (d*L)=(List.range d).flatMap fun n=>(List.range L).map fun j=>n*L+j:=by
 induction d with
 | zero=>rw[Nat.zero_mul];rfl
 | succ d ih =>
  rw[Nat.succ_mul,List.range_add,ih,List.range_succ,List.flatMap_append];simp
theorem allS_eq (s:List Int):allS s=(List.range (pr s)).map (dig s):=by
 induction s with
 | nil=>rfl
 | cons d v ih =>
  show (List.range d.toNat).flatMap (fun n:Nat=>(allS v).map fun w=>(n:Int) :: w)=(List.range (d.toNat*pr v)).map (dig (d :: v));rw[range_mul,List.map_flatMap,ih];have:∀n:Nat,((List.range (pr v)).map (dig v)).map (fun w=>(n:Int) :: w)=((List.range (pr v)).map fun j=>n*pr v+j).map (dig (d :: v)):=fun n=>by
   rw[List.map_map,List.map_map];refine List.map_congr_left fun j hj=>?_;have hj:=List.mem_range.1 hj;show (n:Int) :: dig v j=(((n*pr v+j)/pr v:Nat):Int) :: dig v ((n*pr v+j) % pr v);rw[Nat.mul_comm n,Nat.mul_add_div (by omega),Nat.div_eq_of_lt hj,Nat.add_zero,Nat.mul_add_mod,Nat.mod_eq_of_lt hj]
  simp only[this]
theorem allS_len (s:List Int):(allS s).length=pr s:=by rw[allS_eq,List.length_map,List.length_range]
theorem allS_get (s:List Int) (i:Nat) (h:i<pr s):(allS s)[i]?=some (dig s i):=by
 rw[allS_eq,List.getElem?_map,List.getElem?_range h];rfl
theorem dig_len (s:List Int):∀i,(dig s i).length=s.length:=by
 induction s with
 | nil=>intro i;rfl
 | cons d v ih=>intro i;show (dig v _).length+1=_;rw[ih];rfl
theorem dig_append (u v:List Int):∀i,i<pr (u++v)→dig (u++v) i=dig u (i/pr v)++dig v (i % pr v):=by
 induction u with
 | nil =>
  intro i h;have h:i<pr v:=h;show dig v i=dig v (i % pr v);rw[Nat.mod_eq_of_lt h]
 | cons d u ih =>
  intro i h;have h:i<d.toNat*pr (u++v):=h;have hp:0<pr (u++v):=Nat.pos_of_ne_zero fun e=>by rw[e]at h;omega
  show ((i/pr (u++v):Nat):Int) :: dig (u++v) (i % pr (u++v))=((i/pr v/pr u:Nat):Int) :: (dig u (i/pr v % pr u)++dig v (i % pr v));rw[ih _ (Nat.mod_lt _ hp),pr_append];rw[Nat.div_div_eq_div_mul,Nat.mul_comm (pr v)];congr 2
  ·congr 1;exact Nat.mod_mul_left_div_self _ _ _
  ·congr 1;exact Nat.mod_mul_left_mod _ _ _
theorem pl_dig (s:List Int):∀(n:Nat) (i:Nat),i<pr s→plS (n:Int) s (dig s i)=((n*pr s+i:Nat):Int):=by
 induction s with
 | nil =>
  intro n i h;have h:i<1:=h;show (n:Int)=((n*1+i:Nat):Int);omega
 | cons d v ih =>
  intro n i h;have h:i<d.toNat*pr v:=h;have hp:0<pr v:=Nat.pos_of_ne_zero fun e=>by rw[e]at h;omega
  have hq:i/pr v<d.toNat:=Nat.div_lt_of_lt_mul (by rw[Nat.mul_comm];exact h);show (if ((i/pr v:Nat):Int)<0∨d≤((i/pr v:Nat):Int) then -1 else plS ((n:Int)*d+((i/pr v:Nat):Int)) v (dig v (i % pr v)))=((n*(d.toNat*pr v)+i:Nat):Int);have e2:∀q:Nat,q<d.toNat→¬((q:Int)<0∨d≤(q:Int))∧((d.toNat:Nat):Int)=d:=fun q hq=>by omega
  rw[if_neg (e2 _ hq).1];have e:(n:Int)*d+((i/pr v:Nat):Int)=((n*d.toNat+i/pr v:Nat):Int):=by
   rw[Int.natCast_add,Int.natCast_mul,(e2 _ hq).2]
  rw[e,ih _ _ (Nat.mod_lt _ hp)];congr 1;rw[Nat.add_mul,Nat.mul_assoc,Nat.add_assoc,Nat.mul_comm (i/pr v),Nat.div_add_mod]
theorem pl_append (u v:List Int):∀(n:Int) (a b:List Int),a.length=u.length→(∀m,plS n u a=m→m≠-1)→plS n (u++v) (a++b)=plS (plS n u a) v b:=by
 induction u with
 | nil =>
  intro n a b h _;have:a=[]:=List.length_eq_zero_iff.1 h;subst this;rfl
 | cons d u ih =>
  intro n a b h h1;cases a with
  | nil=>cases h
  | cons x a =>
   have h1:∀m,(if x<0∨d≤x then -1 else plS (n*d+x) u a)=m→m≠-1:=h1;by_cases hx:x<0∨d≤x
   ·rw[if_pos hx]at h1;exact absurd rfl (h1 _ rfl)
   ·rw[if_neg hx]at h1;show (if x<0∨d≤x then -1 else plS (n*d+x) (u++v) (a++b))=plS (if x<0∨d≤x then -1 else plS (n*d+x) u a) v b;rw[if_neg hx,if_neg hx];exact ih _ _ _ (by simpa using h) h1
theorem pl_axis (u v:List Int) (d n:Int) (k:Nat) (hn:(k:Int)<n) (i:Nat) (h:i<pr (u++d :: v)) :
  dig (u++d :: v) i=dig u (i/pr v/d.toNat)++((i/pr v % d.toNat:Nat):Int) :: dig v (i % pr v) ∧
  plS 0 (u++n :: v) (dig u (i/pr v/d.toNat)++(k:Int) :: dig v (i % pr v))=(((i/pr v/d.toNat)*n.toNat+k)*pr v+i % pr v:Nat):=by
 have h':=h;rw[pr_append]at h';have h':i<pr u*(d.toNat*pr v):=h';have hv:0<pr v:=Nat.pos_of_ne_zero fun e=>by rw[e]at h';omega
 have hd:0<d.toNat:=Nat.pos_of_ne_zero fun e=>by rw[e]at h';omega
 have hu:i/pr v/d.toNat<pr u:=by
  rw[Nat.div_div_eq_div_mul];exact Nat.div_lt_of_lt_mul (by rw[Nat.mul_comm,Nat.mul_comm (pr v)];exact h')
 refine⟨?_,?_⟩
 ·rw[dig_append _ _ _ h];show dig u (i/(d.toNat*pr v))++(((i % (d.toNat*pr v))/pr v:Nat):Int) :: dig v (i % (d.toNat*pr v) % pr v)=_;rw[Nat.mod_mul_left_mod,Nat.mod_mul_left_div_self,Nat.div_div_eq_div_mul,Nat.mul_comm (pr v)]
 ·have e1:=pl_dig u 0 _ hu;rw[Nat.zero_mul,Nat.zero_add]at e1;have e1:plS 0 u (dig u (i/pr v/d.toNat))=((i/pr v/d.toNat:Nat):Int):=e1;rw[pl_append u (n :: v) 0 _ _ (dig_len _ _) (fun m hm=>by rw[e1]at hm;rw[←hm];exact Int.noConfusion),e1];show (if (k:Int)<0∨n≤(k:Int) then -1 else plS (((i/pr v/d.toNat:Nat):Int)*n+(k:Int)) v (dig v (i % pr v)))=_;rw[if_neg (by omega)];have e:((i/pr v/d.toNat:Nat):Int)*n+(k:Int)=((i/pr v/d.toNat*n.toNat+k:Nat):Int):=by
   have:((n.toNat:Nat):Int)=n:=by omega
   rw[Int.natCast_add,Int.natCast_mul,this]
  rw[e,pl_dig v _ _ (Nat.mod_lt _ hv)]
end
end Go.Proofs.YtbdklokfijjifaaGreat

namespace Go.Proofs.YtbdklokfijjifaaGreat
open Go Go.AL NM
section
theorem pm_from (v:List Int):∀n:Int,v.foldl (fun n d=>n*max 1 d) n=n*pmI v:=by
 induction v with
 | nil=>intro n;exact (Int.mul_one n).symm
 | cons d v ih =>
  intro n;show v.foldl (fun n d=>n*max 1 d) (n*max 1 d)=n*v.foldl (fun n d=>n*max 1 d) (1*max 1 d);rw[ih,ih,Int.one_mul,Int.mul_assoc]
theorem pm_cons (d:Int) (v:List Int):pmI (d :: v)=max 1 d*pmI v:=by
 show v.foldl (fun n d=>n*max 1 d) (1*max 1 d)=_;rw[pm_from,Int.one_mul]
theorem pm_append (u v:List Int):pmI (u++v)=pmI u*pmI v:=by
 induction u with
 | nil=>exact (Int.one_mul _).symm
 | cons d u ih=>rw[List.cons_append,pm_cons,pm_cons,ih,Int.mul_assoc]
theorem pr_zero {s:List Int} (h:0∈s):pr s=0:=by
 induction s with
 | nil=>cases h
 | cons d v ih =>
  show d.toNat*pr v=0;rcases List.mem_cons.1 h with h | h
  ·rw[←h];exact Nat.zero_mul _
  ·rw[ih h,Nat.mul_zero]
theorem cnt_pr {s:List Int} (h:∀d∈s,0≤d):cntI s=(pr s:Int):=by
 unfold cntI;by_cases h0:0∈s
 ·rw[if_pos h0,pr_zero h0];rfl
 ·rw[if_neg h0];induction s with
  | nil=>rfl
  | cons d v ih =>
   rw[pm_cons];have hd:=h d List.mem_cons_self;have hn:d≠0:=fun e=>h0 (by rw[e];exact List.mem_cons_self);rw[ih (fun x hx=>h x (List.mem_cons_of_mem _ hx)) (fun hx=>h0 (List.mem_cons_of_mem _ hx))];show _=((d.toNat*pr v:Nat):Int);rw[Int.natCast_mul,show max 1 d=((d.toNat:Nat):Int) by omega]
theorem pr_le_pm {s:List Int} (h:∀d∈s,0≤d):(pr s:Int)≤pmI s:=by
 rw[←cnt_pr h];unfold cntI;split
 ·have:=pm_pos s;omega
 ·exact Int.le_refl _
theorem vS_pr {s:List Int} (h:vS s):cntI s=(pr s:Int)∧pr s≤4096:=by
 refine⟨cnt_pr h.2.1,?_⟩;have:=pr_le_pm h.2.1;have:=h.2.2;omega
theorem mid_split {s:List Int} {k:Nat} (hk:k<s.length):s=s.take k++s[k] :: s.drop (k+1):=by
 rw[←List.drop_eq_getElem_cons hk,List.take_append_drop]
theorem vS_mid {u v:List Int} {d:Int}:vS (u++d :: v)↔u.length+v.length≤7∧(∀x∈u,0≤x)∧0≤d∧(∀x∈v,0≤x)∧pmI u*(max 1 d*pmI v)≤4096:=by
 unfold vS;rw[pm_append,pm_cons,List.length_append,List.length_cons];constructor
 ·rintro⟨h1,h2,h3⟩;exact⟨by omega,fun x hx=>h2 x (List.mem_append_left _ hx),h2 d (List.mem_append_right _ List.mem_cons_self),fun x hx=>h2 x (List.mem_append_right _ (List.mem_cons_of_mem _ hx)),h3⟩
 ·rintro⟨h1,h2,h3,h4,h5⟩;refine⟨by omega,fun x hx=>?_,h5⟩;rcases List.mem_append.1 hx with h | h
  ·exact h2 x h
  ·rcases List.mem_cons.1 h with rfl | h
   ·exact h3
   ·exact h4 x h
theorem vS_app {u v:List Int}:vS (u++v)↔u.length+v.length≤8∧(∀x∈u,0≤x)∧(∀x∈v,0≤x)∧pmI u*pmI v≤4096:=by
 unfold vS;rw[pm_append,List.length_append];constructor
 ·rintro⟨h1,h2,h3⟩;exact⟨h1,fun x hx=>h2 x (List.mem_append_left _ hx),fun x hx=>h2 x (List.mem_append_right _ hx),h3⟩
 ·rintro⟨h1,h2,h3,h4⟩;refine⟨h1,fun x hx=>?_,h4⟩;rcases List.mem_append.1 hx with h | h
  ·exact h2 x h
  ·exact h3 x h
theorem vS_parts {u v:List Int} (h:vS (u++v)):vS u∧vS v:=by
 obtain⟨h1,h2,h3,h4⟩:=vS_app.1 h;have p1:=pm_pos u;have p2:=pm_pos v;have m1:pmI u*1≤pmI u*pmI v:=Int.mul_le_mul_of_nonneg_left p2 (by omega);have m2:1*pmI v≤pmI u*pmI v:=Int.mul_le_mul_of_nonneg_right p1 (by omega);exact⟨⟨by omega,h2,by omega⟩,⟨by omega,h3,by omega⟩⟩
theorem vS_dim {s:List Int} (h:vS s) {d:Int} (hd:d∈s):d≤4096:=by
 obtain⟨u,v,rfl⟩:=List.append_of_mem hd;obtain⟨h1,h2,h3,h4,h5⟩:=vS_mid.1 h;have p1:=pm_pos u;have p2:=pm_pos v;have m1:max 1 d*1≤max 1 d*pmI v:=Int.mul_le_mul_of_nonneg_left p2 (by omega);have m2:1*(max 1 d*pmI v)≤pmI u*(max 1 d*pmI v):=Int.mul_le_mul_of_nonneg_right p1 (by omega);omega
theorem allS_snoc (u:List Int) (d:Int):allS (u++[d])=(allS u).flatMap fun w=>(List.range d.toNat).map fun n:Nat=>w++[(n:Int)]:=by
 induction u with
 | nil =>
  show (List.range d.toNat).flatMap (fun n:Nat=>([[]]:List (List Int)).map fun w=>(n:Int) :: w)=([[]]:List (List Int)).flatMap _;simp[List.flatMap_cons,List.map_eq_flatMap]
 | cons e u ih =>
  show (List.range e.toNat).flatMap (fun n:Nat=>(allS (u++[d])).map fun w=>(n:Int) :: w)=((List.range e.toNat).flatMap fun n:Nat=>(allS u).map fun w=>(n:Int) :: w).flatMap _;rw[List.flatMap_assoc];congr 1;funext m;rw[ih,List.map_flatMap,List.flatMap_map];congr 1;funext w;rw[List.map_map];rfl
end
end Go.Proofs.YtbdklokfijjifaaGreat

set_option linter.unusedSimpArgs false
namespace Go.AL
open Go Go.RowKit
end Go.AL

namespace Go.Proofs.YtbdklokfijjifaaGreat
open Go Go.AL NM
section
theorem Grow_zero:AC Tryz.prog 124 [.sl 0 [] true,.val (.int .i64 0)] (.pure (.sl 0 [] true)):=by
 refine AC.of_body TTok Tryz.func124 rfl (enter_of Tryz.func124 (by kernel_rfl) (by kernel_rfl)) (noid2 (.sl _ _ _ (fun r hr=>nomatch hr)) (.val _)) (.sl _ _ _ (fun r hr=>nomatch hr)) (nbq rfl) ?_;(conv=>whnf);exact rfl
theorem Grow_pos (n:Nat) (h0:0<n) (hb:n≤1000000):AC Tryz.prog 124 [.sl 0 [] true,.val (.int .i64 (n:Int))] (.fresh 1 []):=by
 have e1:IntKind.i64.wrap ((n:Int)-IntKind.i64.wrap ((([]:List (List AV)).length:Int)-(([]:List (List AV)).length:Int)))=(n:Int):=by
  rw[show (([]:List (List AV)).length:Int)-(([]:List (List AV)).length:Int)=0 from rfl,show IntKind.i64.wrap 0=0 by decide,Int.sub_zero,IntWalk.i64_in _ (by omega)]
 refine AC.of_body TTok Tryz.func124 rfl (enter_of Tryz.func124 (by kernel_rfl) (by kernel_rfl)) (noid2 (.sl _ _ _ (fun r hr=>nomatch hr)) (.val _)) (fun r hr=>nomatch hr) (nbq rfl) ?_;conv=>whnf
 refine caseb (fun _=>?_) (fun h=>absurd (of_decide_eq_false h) (by rw[e1];omega));conv=>whnf
 refine⟨by decide,?_⟩;conv=>whnf
 refine⟨by rw[e1];exact⟨by omega,by show (n:Int)*8≤140737488355328;omega⟩,?_⟩;conv=>whnf
 refine⟨⟨Int.le_refl _,Int.natCast_nonneg _⟩,?_⟩;conv=>whnf
 exact⟨rfl,Nat.zero_le _,rfl⟩
def lrows (ls:List (List Int)):List (List AV):=ls.map fun l=>[.sl 1 (irows .i64 l) false]
theorem lrows_len (ls:List (List Int)):(lrows ls).length=ls.length:=List.length_map _
theorem lrows_noid (ls:List (List Int)):∀r∈lrows ls,∀x∈r,NoId x:=by
 intro r hr x hx;obtain⟨l,_,rfl⟩:=List.mem_map.1 hr;rw[List.mem_singleton.1 hx];exact noid_sl _ _ _
theorem flat_snoc {ls:List (List Int)} {i:Nat} (h:i<ls.length):(ls.take (i+1)).flatten=(ls.take i).flatten++ls[i]:=by
 rw[take_snoc h,List.flatten_append];simp
theorem Concat_ok (ls:List (List Int)) (hl:ls.length≤1000) (hb:ls.flatten.length≤100000):AC Tryz.prog 91 [.sl 1 (lrows ls) false] (.pure (.sl 1 (irows .i64 ls.flatten) false)):=by
 have lr:=lrows_len ls;have hle:∀i,i≤ls.length→(ls.take i).flatten.length≤ls.flatten.length:=fun i hi=>by
  have:=List.take_append_drop i ls;have h2:ls.flatten=(ls.take i).flatten++(ls.drop i).flatten:=by rw[←List.flatten_append,this]
  rw[h2,List.length_append];omega
 refine AC.of_body TTok Tryz.func91 rfl (enter_of Tryz.func91 (by kernel_rfl) (by kernel_rfl)) (noid1 (.sl _ _ _ (lrows_noid _))) (noid_sl _ _ _) (nbq rfl) ?_;conv=>whnf
 refine SW.loopM TTok (fun i:Nat=>[(0,.sl 1 (lrows ls) false),(3,.val (.int .i64 ((ls.take i).flatten.length:Nat))),(9,.sl 1 (lrows ls) false),(10,.val (.int .i64 ((lrows ls).length:Nat))),(11,.val (.int .i64 (i:Int)))]) (fun _=>[]) 40 36 rfl (fun i=>ls.length-i) (fun i=>i≤ls.length) 0 [] (Nat.zero_le _)
  ⟨q2r,q2r,q2r,q2r,q2r,trivial⟩ trivial rfl ?_
 intro i hJ;have hi:i≤ls.length:=hJ;clear hJ;have b1:=hle i hi;by_cases hlt:i<ls.length
 ·have eI:IntKind.i64.wrap ((i:Int)+1)=((i+1:Nat):Int):=by rw[IntWalk.i64_in _ (by omega)];omega
  have b2:=hle (i+1) hlt;have hg:(lrows ls)[i]?=some [.sl 1 (irows .i64 ls[i]) false]:=by unfold lrows;rw[List.getElem?_map,List.getElem?_eq_getElem hlt];rfl
  have hs:=flat_snoc hlt;have hsl:(ls.take (i+1)).flatten.length=(ls.take i).flatten.length+ls[i].length:=by rw[hs,List.length_append]
  have ln:=irows_len .i64 ls[i];have eS:IntKind.i64.wrap (((ls.take i).flatten.length:Nat)+((irows .i64 ls[i]).length:Int))=(((ls.take (i+1)).flatten.length:Nat):Int):=by rw[ln,IntWalk.i64_in _ (by omega),hsl];omega
  conv=>whnf
  refine oTq (by omega) ?_;conv=>whnf
  refine⟨_,⟨by omega,by rw[Int.toNat_natCast];exact hg⟩,?_⟩;conv=>whnf
  refine caseb (fun h=>absurd (of_decide_eq_true h) (by rw[eS];omega)) (fun _=>?_);conv=>whnf
  exact⟨i+1,[],(by show ls.length-(i+1)<ls.length-i;omega),hlt,⟨q2r,⟨valI eS,rfl⟩,q2r,q2r,⟨valI eI,rfl⟩,trivial⟩,trivial,rfl⟩
 ·have hie:i=ls.length:=by omega
  have e0:ls.take i=ls:=by rw[hie,List.take_length]
  rw[e0];obtain⟨n,hn⟩:∃ n,n=ls.flatten.length:=⟨_,rfl⟩;rw[←hn]at hb hle ⊢;by_cases hn0:n=0
  ·subst hn0;have hG:=Grow_zero;conv=>whnf
   refine oFq (by omega) ?_;conv=>whnf
   refine⟨_,hG,?_⟩;conv=>whnf
   refine SW.nil 6 1 rfl ?_;refine SW.loopM TTok (fun i:Nat=>[(6,.own 96 0 (ls.take i).flatten.length),(25,.sl 1 (lrows ls) false),(26,.val (.int .i64 ((lrows ls).length:Nat))),(27,.val (.int .i64 (i:Int)))]) (fun i=>[(96,.cells 1 (irows .i64 (ls.take i).flatten))]) 104 36 rfl (fun i=>ls.length-i) (fun i=>i≤ls.length) 0 [] (Nat.zero_le _)
    ⟨q2r,q2r,q2r,q2r,trivial⟩ ⟨q3r,trivial⟩ rfl ?_
   intro i hJ;have hi:i≤ls.length:=hJ;clear hJ;have b1:=hle i hi;have lf:=irows_len .i64 (ls.take i).flatten;by_cases hlt:i<ls.length
   ·have eI:IntKind.i64.wrap ((i:Int)+1)=((i+1:Nat):Int):=by rw[IntWalk.i64_in _ (by omega)];omega
    have b2:=hle (i+1) hlt;have hg:(lrows ls)[i]?=some [.sl 1 (irows .i64 ls[i]) false]:=by unfold lrows;rw[List.getElem?_map,List.getElem?_eq_getElem hlt];rfl
    have hs:=flat_snoc hlt;have hsl:(ls.take (i+1)).flatten.length=(ls.take i).flatten.length+ls[i].length:=by rw[hs,List.length_append]
    have ln:=irows_len .i64 ls[i];conv=>whnf
    refine oTq (by omega) ?_;conv=>whnf
    refine⟨_,⟨by omega,by rw[Int.toNat_natCast];exact hg⟩,?_⟩;conv=>whnf
    refine⟨⟨by show 0+_≤_;omega,by show ((ls.take i).flatten.length+(irows .i64 ls[i]).length)*8≤140737488355328;omega⟩,?_⟩;conv=>whnf
    refine⟨i+1,[(96,152)],(by show ls.length-(i+1)<ls.length-i;omega),hlt,⟨⟨ownE rfl (by rw[hsl,ln]),rfl⟩,q2r,q2r,⟨valI eI,rfl⟩,trivial⟩,⟨⟨rfl,.inl ⟨celE ?_,irows_noid _ _⟩⟩,trivial⟩,rfl⟩;show List.take _ (List.drop 0 (irows .i64 (ls.take i).flatten))++irows .i64 ls[i]=_;rw[List.drop_zero,List.take_of_length_le (by omega),hs,←irows_append]
   ·have hie:i=ls.length:=by omega
    have e0:ls.take i=ls:=by rw[hie,List.take_length]
    rw[e0]at lf ⊢;conv=>whnf
    refine oFq (by omega) ?_;conv=>whnf
    refine⟨by show 0+_≤_;omega,?_⟩;show AV.sl 1 (List.take _ (List.drop 0 (irows .i64 ls.flatten))) false=_;rw[List.drop_zero,List.take_of_length_le (by omega)]
  ·have hG:=Grow_pos n (by omega) (by omega);conv=>whnf
   refine oFq (by omega) ?_;conv=>whnf
   refine⟨_,hG,?_⟩;conv=>whnf
   refine SW.loopM TTok (fun i:Nat=>[(6,.own 56 0 (ls.take i).flatten.length),(25,.sl 1 (lrows ls) false),(26,.val (.int .i64 ((lrows ls).length:Nat))),(27,.val (.int .i64 (i:Int)))]) (fun i=>[(56,.cells 1 (irows .i64 (ls.take i).flatten))]) 96 36 rfl (fun i=>ls.length-i) (fun i=>i≤ls.length) 0 [] (Nat.zero_le _)
    ⟨q2r,q2r,q2r,q2r,trivial⟩ ⟨q3r,trivial⟩ rfl ?_
   intro i hJ;have hi:i≤ls.length:=hJ;clear hJ;have b1:=hle i hi;have lf:=irows_len .i64 (ls.take i).flatten;by_cases hlt:i<ls.length
   ·have eI:IntKind.i64.wrap ((i:Int)+1)=((i+1:Nat):Int):=by rw[IntWalk.i64_in _ (by omega)];omega
    have b2:=hle (i+1) hlt;have hg:(lrows ls)[i]?=some [.sl 1 (irows .i64 ls[i]) false]:=by unfold lrows;rw[List.getElem?_map,List.getElem?_eq_getElem hlt];rfl
    have hs:=flat_snoc hlt;have hsl:(ls.take (i+1)).flatten.length=(ls.take i).flatten.length+ls[i].length:=by rw[hs,List.length_append]
    have ln:=irows_len .i64 ls[i];conv=>whnf
    refine oTq (by omega) ?_;conv=>whnf
    refine⟨_,⟨by omega,by rw[Int.toNat_natCast];exact hg⟩,?_⟩;conv=>whnf
    refine⟨⟨by show 0+_≤_;omega,by show ((ls.take i).flatten.length+(irows .i64 ls[i]).length)*8≤140737488355328;omega⟩,?_⟩;conv=>whnf
    refine⟨i+1,[(56,144)],(by show ls.length-(i+1)<ls.length-i;omega),hlt,⟨⟨ownE rfl (by rw[hsl,ln]),rfl⟩,q2r,q2r,⟨valI eI,rfl⟩,trivial⟩,⟨⟨rfl,.inl ⟨celE ?_,irows_noid _ _⟩⟩,trivial⟩,rfl⟩;show List.take _ (List.drop 0 (irows .i64 (ls.take i).flatten))++irows .i64 ls[i]=_;rw[List.drop_zero,List.take_of_length_le (by omega),hs,←irows_append]
   ·have hie:i=ls.length:=by omega
    have e0:ls.take i=ls:=by rw[hie,List.take_length]
    rw[e0]at lf ⊢;conv=>whnf
    refine oFq (by omega) ?_;conv=>whnf
    refine⟨by show 0+_≤_;omega,?_⟩;show AV.sl 1 (List.take _ (List.drop 0 (irows .i64 ls.flatten))) false=_;rw[List.drop_zero,List.take_of_length_le (by omega)]
theorem ShJoin_ok (ls:List (List Int)) (hl:ls.length≤1000) (hb:ls.flatten.length≤100000):AC Tryz.prog 64 [.sl 1 (lrows ls) false] (.pure (.sl 1 (irows .i64 ls.flatten) false)):=by
 have hC:=Concat_ok ls hl hb;refine AC.of_body TTok Tryz.func64 rfl (enter_of Tryz.func64 (by kernel_rfl) (by kernel_rfl)) (noid1 (.sl _ _ _ (lrows_noid _))) (noid_sl _ _ _) (nbq rfl) ?_;(conv=>whnf);refine⟨_,‹_›,?_⟩;(conv=>whnf);exact rfl
end
section
theorem irows_set (k:IntKind) (l:List Int) (i:Nat) (x:Int):(irows k l).set i [.val (.int k x)]=irows k (l.set i x):=by unfold irows;rw[List.map_set]
theorem irows_take (k:IntKind) (l:List Int) (i:Nat):(irows k l).take i=irows k (l.take i):=by unfold irows;rw[List.map_take]
theorem irows_drop (k:IntKind) (l:List Int) (i:Nat):(irows k l).drop i=irows k (l.drop i):=by unfold irows;rw[List.map_drop]
theorem Without_ok (s:List Int) (k:Nat) (hk:k<s.length) (hb:s.length≤100000):AC Tryz.prog 39 [.sl 1 (irows .i64 s) false,.val (.int .i64 (k:Int))] (.pure (.sl 1 (irows .i64 (s.take k++s.drop (k+1))) false)):=by
 have hC:=Concat_ok [s.take k,s.drop (k+1)] (by show 2≤1000;omega) (by simp;omega);rw[show [s.take k,s.drop (k+1)].flatten=s.take k++s.drop (k+1) by simp]at hC;have ln:=irows_len .i64 s;have eK:IntKind.i64.wrap ((k:Int)+1)=((k+1:Nat):Int):=by rw[IntWalk.i64_in _ (by omega)];omega
 have e1:lrows [s.take k,s.drop (k+1)]=[[.sl 1 (List.drop 0 (List.take (k:Int).toNat (irows .i64 s))) false],[.sl 1 (List.drop (IntKind.i64.wrap ((k:Int)+1)).toNat (List.take (irows .i64 s).length (irows .i64 s))) false]]:=by
  rw[eK,Int.toNat_natCast,Int.toNat_natCast,List.drop_zero,List.take_length,irows_take,irows_drop];rfl
 rw[e1]at hC;refine AC.of_body TTok Tryz.func39 rfl (enter_of Tryz.func39 (by kernel_rfl) (by kernel_rfl)) (noid2 (noid_sl _ _ _) (.val _)) (noid_sl _ _ _) (nbq rfl) ?_;conv=>whnf
 refine oFq (by omega) ?_;conv=>whnf
 refine⟨by omega,?_⟩;conv=>whnf
 refine⟨by rw[eK];omega,?_⟩;conv=>whnf
 refine⟨(nbq rfl),_,hC,?_⟩;conv=>whnf
 refine⟨by kernel_rfl,?_⟩;(conv=>whnf);exact rfl
theorem Split_ok (s:List Int) (k:Nat) (hk:k<s.length) (hv:vS s):AC Tryz.prog 109 [.sl 1 (irows .i64 s) false,.val (.int .i64 (k:Int))] (.pure (.tup [.val (.int .i64 (pr (s.take k))),.val (.int .i64 s[k]),.val (.int .i64 (pr (s.drop (k+1)))),.val (.bool true)])):=by
 have h8:=hv.1;have hp:=mid_split hk;have v1:vS (s.take k):=(vS_parts (by rw[←List.take_append_drop k s]at hv;exact hv)).1;have v2:vS (s.drop (k+1)):=(vS_parts (by rw[←List.take_append_drop (k+1) s]at hv;exact hv)).2;have c0:=Count_ok s (by omega);have c1:=Count_ok (s.take k) (by rw[List.length_take];omega);have c2:=Count_ok (s.drop (k+1)) (by rw[List.length_drop];omega);rw[CNT_good hv]at c0;rw[CNT_good v1,(vS_pr v1).1]at c1;rw[CNT_good v2,(vS_pr v2).1]at c2;have ln:=irows_len .i64 s;have eK:IntKind.i64.wrap ((k:Int)+1)=((k+1:Nat):Int):=by rw[IntWalk.i64_in _ (by omega)];omega
 have e1:irows .i64 (s.take k)=List.drop 0 (List.take (k:Int).toNat (irows .i64 s)):=by rw[Int.toNat_natCast,List.drop_zero,irows_take]
 have e2:irows .i64 (s.drop (k+1))=List.drop (IntKind.i64.wrap ((k:Int)+1)).toNat (List.take (irows .i64 s).length (irows .i64 s)):=by rw[eK,Int.toNat_natCast,List.take_length,irows_drop]
 rw[e1]at c1;rw[e2]at c2;have hg:(irows .i64 s)[k]?=some [.val (.int .i64 s[k])]:=irows_get .i64 s (List.getElem?_eq_getElem hk);refine AC.of_body TTok Tryz.func109 rfl (enter_of Tryz.func109 (by kernel_rfl) (by kernel_rfl)) (noid2 (noid_sl _ _ _) (.val _)) (.tup _ (noidF (.val _) (.val _) (.val _) (.val _))) (nbq rfl) ?_;conv=>whnf
 refine⟨_,c0,?_⟩;conv=>whnf
 refine oFq (by omega) ?_;conv=>whnf
 refine⟨by omega,?_⟩;conv=>whnf
 refine⟨_,c1,?_⟩;conv=>whnf
 refine⟨by rw[eK];omega,?_⟩;conv=>whnf
 refine⟨_,c2,?_⟩;conv=>whnf
 refine⟨_,⟨by omega,by rw[Int.toNat_natCast];exact hg⟩,?_⟩;(conv=>whnf);refine⟨by kernel_rfl,?_⟩;(conv=>whnf);exact rfl
end
section
end
section
theorem plS_neg (v w:List Int) (d a n:Int) (h:a<0∨d≤a):plS n (d :: v) (a :: w)=-1:=if_pos h
def plB (s:List Int) (i:Nat) (n:Int):Prop:=0≤n∧n<pmI (s.take i)
theorem plB_step {s:List Int} (hv:vS s) {i:Nat} (hi:i<s.length) {n a:Int} (h:plB s i n) (h0:0≤a) (h1:a<s[i]):plB s (i+1) (n*s[i]+a):=by
 obtain⟨b0,b1⟩:=h;rw[plB,pm_take hi];have hd:0≤s[i]:=by omega
 have m0:0≤n*s[i]:=Int.mul_nonneg b0 hd;have m1:(n+1)*s[i]≤pmI (s.take i)*s[i]:=Int.mul_le_mul_of_nonneg_right (by omega) hd;rw[Int.add_mul,Int.one_mul]at m1;rw[show max 1 s[i]=s[i] by omega];omega
theorem plB_small {s:List Int} (hv:vS s) {i:Nat} {n:Int} (h:plB s i n):0≤n∧n<4096:=by
 have:=pm_mono s i;have:=hv.2.2;exact⟨h.1,by have:=h.2;omega⟩
theorem RPlace_ok (s idx:List Int) (hv:vS s) (hl:idx.length=s.length):AC Tryz.prog 103 [.sl 1 (irows .i64 s) false,.sl 1 (irows .i64 idx) false] (.pure (.val (.int .i64 (plS 0 s idx)))):=by
 have h8:=hv.1;have ls:=irows_len .i64 s;have li:=irows_len .i64 idx;obtain⟨res,hres⟩:∃ res,res=plS 0 s idx:=⟨_,rfl⟩;rw[←hres];refine AC.of_body TTok Tryz.func103 rfl (enter_of Tryz.func103 (by kernel_rfl) (by kernel_rfl)) (noid2 (noid_sl _ _ _) (noid_sl _ _ _)) (.val _) (nbq rfl) ?_;conv=>whnf
 refine SW.loopM TTok (fun x:Nat×Int=>[(0,.sl 1 (irows .i64 s) false),(1,.sl 1 (irows .i64 idx) false),(5,.val (.int .i64 x.2)),(6,.val (.int .i64 (x.1:Int)))]) (fun _=>[]) 24 47 rfl (fun x=>s.length-x.1) (fun x=>x.1≤s.length∧plB s x.1 x.2∧plS x.2 (s.drop x.1) (idx.drop x.1)=res) (0,0) [] ⟨Nat.zero_le _,⟨Int.le_refl _,by show (0:Int)<1;decide⟩,hres.symm⟩
  ⟨q2r,q2r,q2r,q2r,trivial⟩ trivial rfl ?_
 rintro⟨i,n⟩ ⟨hi,hB,hP⟩;have hi:i≤s.length:=hi;have hP:plS n (s.drop i) (idx.drop i)=res:=hP;have hB:plB s i n:=hB;obtain⟨b0,b1⟩:=plB_small hv hB;by_cases hlt:i<s.length
 ·have eI:IntKind.i64.wrap ((i:Int)+1)=((i+1:Nat):Int):=by rw[IntWalk.i64_in _ (by omega)];omega
  have hlx:i<idx.length:=by omega
  have hg1:(irows .i64 s)[i]?=some [.val (.int .i64 s[i])]:=irows_get .i64 s (List.getElem?_eq_getElem hlt);have hg2:(irows .i64 idx)[i]?=some [.val (.int .i64 idx[i])]:=irows_get .i64 idx (List.getElem?_eq_getElem hlx);rw[List.drop_eq_getElem_cons hlt,List.drop_eq_getElem_cons hlx]at hP;have hd4:=vS_dim hv (List.getElem_mem hlt);obtain⟨a,ha⟩:∃ a,a=idx[i]:=⟨_,rfl⟩;obtain⟨d,hd⟩:∃ d,d=s[i]:=⟨_,rfl⟩;rw[←ha,←hd]at hP;rw[←ha]at hg2;rw[←hd]at hg1 hd4;by_cases h0:a<0
  ·rw[plS_neg _ _ _ _ _ (.inl h0)]at hP;subst hP;conv=>whnf
   refine oTq (by omega) ?_;conv=>whnf
   refine oTq (by omega) ?_;conv=>whnf
   refine⟨_,⟨by omega,by rw[Int.toNat_natCast];exact hg2⟩,?_⟩;conv=>whnf
   refine oTq (by omega) ?_;(conv=>whnf);refine⟨by kernel_rfl,?_⟩;(conv=>whnf);exact rfl
  ·by_cases h1:d≤a
   ·rw[plS_neg _ _ _ _ _ (.inr h1)]at hP;subst hP;conv=>whnf
    refine oTq (by omega) ?_;conv=>whnf
    refine oTq (by omega) ?_;conv=>whnf
    refine⟨_,⟨by omega,by rw[Int.toNat_natCast];exact hg2⟩,?_⟩;conv=>whnf
    refine oFq (by omega) ?_;conv=>whnf
    refine⟨_,⟨by omega,by rw[Int.toNat_natCast];exact hg2⟩,?_⟩;conv=>whnf
    refine⟨_,⟨by omega,by rw[Int.toNat_natCast];exact hg1⟩,?_⟩;conv=>whnf
    refine⟨by kernel_rfl,?_⟩;conv=>whnf
    refine oTq (by omega) ?_;(conv=>whnf);exact rfl
   ·have hst:=plB_step hv hlt hB (a:=a) (by omega) (by rw[←hd];omega);rw[←hd]at hst;obtain⟨c0,c1⟩:=plB_small hv hst;have m0:0≤n*d:=Int.mul_nonneg b0 (by omega);have eN:IntKind.i64.wrap (IntKind.i64.wrap (n*d)+a)=n*d+a:=by rw[IntWalk.i64_in (n*d) (by omega),IntWalk.i64_in _ (by omega)]
    have hP':(if a<0∨d≤a then -1 else plS (n*d+a) (s.drop (i+1)) (idx.drop (i+1)))=res:=hP;rw[if_neg (by omega)]at hP';conv=>whnf
    refine oTq (by omega) ?_;conv=>whnf
    refine oTq (by omega) ?_;conv=>whnf
    refine⟨_,⟨by omega,by rw[Int.toNat_natCast];exact hg2⟩,?_⟩;conv=>whnf
    refine oFq (by omega) ?_;conv=>whnf
    refine⟨_,⟨by omega,by rw[Int.toNat_natCast];exact hg2⟩,?_⟩;conv=>whnf
    refine⟨_,⟨by omega,by rw[Int.toNat_natCast];exact hg1⟩,?_⟩;conv=>whnf
    refine⟨by kernel_rfl,?_⟩;conv=>whnf
    refine oFq (by omega) ?_;conv=>whnf
    refine⟨_,⟨by omega,by rw[Int.toNat_natCast];exact hg1⟩,?_⟩;conv=>whnf
    refine⟨_,⟨by omega,by rw[Int.toNat_natCast];exact hg2⟩,?_⟩;conv=>whnf
    refine⟨by kernel_rfl,?_⟩;conv=>whnf
    exact⟨(i+1,n*d+a),[],(by show s.length-(i+1)<s.length-i;omega),⟨hlt,hst,hP'⟩,⟨q2r,q2r,⟨valI eN,rfl⟩,⟨valI eI,rfl⟩,trivial⟩,trivial,rfl⟩
 ·have hie:i=s.length:=by omega
  have e1:s.drop i=[]:=List.drop_of_length_le (by omega);have e2:idx.drop i=[]:=List.drop_of_length_le (by omega);rw[e1,e2]at hP;have hP:n=res:=hP;subst hP;conv=>whnf
  refine oFq (by omega) ?_;(conv=>whnf);exact rfl
end
section
def gA (D:Nat) (w:List Int):List (List Int):=(List.range D).map fun n:Nat=>w++[(n:Int)]
theorem gA_len (D:Nat) (w:List Int):(gA D w).length=D:=by unfold gA;rw[List.length_map,List.length_range]
theorem flatA_len (D:Nat) (Y:List (List Int)):(Y.flatMap (gA D)).length=Y.length*D:=by
 induction Y with
 | nil=>exact (Nat.zero_mul D).symm
 | cons w Y ih=>rw[List.flatMap_cons,List.length_append,ih,gA_len,List.length_cons,Nat.add_mul,Nat.one_mul,Nat.add_comm]
theorem lrows_append (a b:List (List Int)):lrows (a++b)=lrows a++lrows b:=List.map_append
set_option maxRecDepth 20000 in
theorem All_ok (s:List Int) (hv:vS s):AC Tryz.prog 52 [.sl 1 (irows .i64 s) false] (.pure (.sl 1 (lrows (allS s)) false)):=by
 have ls:=irows_len .i64 s;have h8:=hv.1;obtain⟨W,hW⟩:∃ W,W=allS s:=⟨_,rfl⟩;rw[←hW];refine AC.of_body TTok Tryz.func52 rfl (enter_of Tryz.func52 (by kernel_rfl) (by kernel_rfl)) (noid1 (noid_sl _ _ _)) (.sl _ _ _ (lrows_noid _)) (nbq rfl) ?_;conv=>whnf
 refine⟨⟨Nat.le_refl _,noid1 (.sl _ _ _ (fun r hr=>nomatch hr))⟩,?_⟩;conv=>whnf
 refine SW.loopM TTok (fun i:Nat=>[(0,.sl 1 (irows .i64 s) false),(3,.own 16 0 (allS (s.take i)).length),(4,.val (.int .i64 (i:Int)))]) (fun i=>[(16,.cells 1 (lrows (allS (s.take i))))]) 40 48 rfl (fun i=>s.length-i) (fun i=>i≤s.length) 0 [] (Nat.zero_le _)
  ⟨q2r,q2r,q2r,trivial⟩ ⟨q3r,trivial⟩ rfl ?_
 intro i hJ;have hi:i≤s.length:=hJ;clear hJ;obtain⟨Y,hY⟩:∃ Y,Y=allS (s.take i):=⟨_,rfl⟩;rw[←hY];have vi:vS (s.take i):=(vS_parts (by rw[←List.take_append_drop i s]at hv;exact hv)).1;have lY:Y.length≤4096:=by rw[hY,allS_len];exact (vS_pr vi).2
 by_cases hlt:i<s.length
 ·have eI:IntKind.i64.wrap ((i:Int)+1)=((i+1:Nat):Int):=by rw[IntWalk.i64_in _ (by omega)];omega
  obtain⟨D,hD⟩:∃ D:Nat,(D:Int)=s[i]:=⟨s[i].toNat,by have:=hv.2.1 _ (List.getElem_mem hlt);omega⟩;have hD4:D≤4096:=by have:=vS_dim hv (List.getElem_mem hlt);omega
  have hg1:(irows .i64 s)[i]?=some [.val (.int .i64 (D:Int))]:=by rw[hD];exact irows_get .i64 s (List.getElem?_eq_getElem hlt)
  have hnext:allS (s.take (i+1))=Y.flatMap (gA D):=by
   rw[take_snoc hlt,allS_snoc,←hY,←hD,Int.toNat_natCast];rfl
  conv=>whnf
  refine oTq (by omega) ?_;conv=>whnf
  refine SW.nil 5 1 rfl ?_;refine SW.loopM TTok (fun k:Nat=>[(0,.sl 1 (irows .i64 s) false),(3,.own 16 0 Y.length),(4,.val (.int .i64 (i:Int))),(5,.own 88 0 (k*D)),(6,.val (.int .i64 (k:Int)))]) (fun k=>[(16,.cells 1 (lrows Y)),(88,.cells 1 (lrows ((Y.take k).flatMap (gA D))))]) 96 48 rfl (fun k=>Y.length-k) (fun k=>k≤Y.length) 0 [] (Nat.zero_le _)
   ⟨q2r,q2r,q2r,⟨ownE rfl (Nat.zero_mul D).symm,rfl⟩,q2r,trivial⟩ ⟨⟨rfl,.inl ⟨rfl,lrows_noid _⟩⟩,q3r,trivial⟩ rfl ?_
  intro k hJ;have hk:k≤Y.length:=hJ;clear hJ;by_cases hkt:k<Y.length
  ·have eK:IntKind.i64.wrap ((k:Int)+1)=((k+1:Nat):Int):=by rw[IntWalk.i64_in _ (by omega)];omega
   have hgY:(lrows Y)[k]?=some [.sl 1 (irows .i64 Y[k]) false]:=by unfold lrows;rw[List.getElem?_map,List.getElem?_eq_getElem hkt];rfl
   have lw:Y[k].length≤8:=by
    have:Y[k]?=some Y[k]:=List.getElem?_eq_getElem hkt;have h2:Y[k]?=some (dig (s.take i) k):=by rw[hY];exact allS_get _ _ (by rw[←allS_len,←hY];exact hkt)
    rw[this]at h2;rw[Option.some.inj h2,dig_len,List.length_take];omega
   obtain⟨w,hw⟩:∃ w,w=Y[k]:=⟨_,rfl⟩;rw[←hw]at hgY lw;have lnw:=irows_len .i64 w;have lZ:(lrows ((Y.take k).flatMap (gA D))).length=k*D:=by rw[lrows_len,flatA_len,List.length_take,Nat.min_eq_left (by omega)]
   have hkD:k*D≤4096*4096:=Nat.mul_le_mul (by omega) hD4;obtain⟨Z,hZ⟩:∃ Z,Z=(Y.take k).flatMap (gA D):=⟨_,rfl⟩;rw[←hZ]at lZ ⊢;obtain⟨z,hz⟩:∃ z:Nat→Int,∀j,z j=(j:Int):=⟨fun j=>j,fun _=>rfl⟩;conv=>whnf
   refine oTq (by omega) ?_;conv=>whnf
   refine SW.loopM TTok (fun j:Nat=>[(0,.sl 1 (irows .i64 s) false),(3,.own 16 0 Y.length),(4,.val (.int .i64 (i:Int))),(5,.own 88 0 (k*D+j)),(6,.val (.int .i64 (k:Int))),(7,.val (.int .i64 (z j)))]) (fun j=>[(16,.cells 1 (lrows Y)),(88,.cells 1 (lrows (Z++(gA D w).take j)))]) 136 48 rfl (fun j=>D-j) (fun j=>j≤D) 0 [] (Nat.zero_le _)
    ⟨q2r,q2r,q2r,q2r,q2r,⟨valI (hz 0).symm,rfl⟩,trivial⟩ ⟨⟨rfl,.inl ⟨rfl,lrows_noid _⟩⟩,⟨rfl,.inl ⟨celE (by rw[List.take_zero,List.append_nil]),lrows_noid _⟩⟩,trivial⟩ rfl ?_
   intro j hJ;have hj:j≤D:=hJ;clear hJ;have lX:(lrows (Z++(gA D w).take j)).length=k*D+j:=by
    rw[lrows_append,List.length_append,lZ,lrows_len,List.length_take,gA_len,Nat.min_eq_left hj]
   by_cases hjt:j<D
   ·have hzj:=hz j;have eJ:IntKind.i64.wrap (z j+1)=z (j+1):=by rw[hz (j+1),IntWalk.i64_in _ (by omega)];omega
    have hgj:(gA D w).take (j+1)=(gA D w).take j++[w++[(j:Int)]]:=by
     rw[take_snoc (by rw[gA_len];exact hjt)];congr 2;unfold gA;rw[List.getElem_map,List.getElem_range]
    conv=>whnf
    refine⟨_,⟨by omega,by rw[Int.toNat_natCast];exact hg1⟩,?_⟩;conv=>whnf
    refine oTq (by omega) ?_;conv=>whnf
    refine oTq (by omega) ?_;conv=>whnf
    refine⟨by omega,?_⟩;conv=>whnf
    refine⟨_,by rw[Nat.zero_add,Int.toNat_natCast];exact hgY,?_⟩;conv=>whnf
    refine⟨⟨Nat.le_refl _,by show (0+(irows .i64 w).length)*8≤140737488355328;omega⟩,?_⟩;conv=>whnf
    refine⟨⟨by show 0+(0+(irows .i64 w).length)≤(List.take 0 (List.drop 0 ([]:List (List AV)))++irows .i64 w).length;simp,by show (0+(irows .i64 w).length+1)*8≤140737488355328;omega,Nat.le_refl _⟩,?_⟩;conv=>whnf
    have key:List.take (0+(irows .i64 w).length+1) (List.drop 0 (List.take (0+(irows .i64 w).length) (List.drop 0 (List.take 0 (List.drop 0 ([]:List (List AV)))++irows .i64 w))++[[AV.val (.int .i64 (z j))]]))=irows .i64 (w++[(j:Int)]):=by
     simp only[List.drop_zero,List.take_zero,List.nil_append,Nat.zero_add,List.take_length];rw[List.take_of_length_le (by simp),hzj,←irows_append];rfl
    refine⟨⟨by show 0+(0+(irows .i64 w).length+1)≤(List.take (0+(irows .i64 w).length) (List.drop 0 (List.take 0 (List.drop 0 ([]:List (List AV)))++irows .i64 w))++[[AV.val (.int .i64 (z j))]]).length;simp,noid1 (by show NoId (.sl 1 (List.take (0+(irows .i64 w).length+1) (List.drop 0 (List.take (0+(irows .i64 w).length) (List.drop 0 (List.take 0 (List.drop 0 ([]:List (List AV)))++irows .i64 w))++[[AV.val (.int .i64 (z j))]]))) false);rw[key];exact noid_sl _ _ _)⟩,?_⟩;conv=>whnf
    refine⟨⟨by show 0+(k*D+j)≤(lrows (Z++(gA D w).take j)).length;omega,by show (k*D+j+1)*24≤140737488355328;omega,Nat.le_refl _⟩,?_⟩;conv=>whnf
    refine⟨j+1,[(88,304)],(by show D-(j+1)<D-j;omega),hjt,⟨q2r,q2r,q2r,q2r,q2r,⟨valI eJ,rfl⟩,trivial⟩,⟨⟨rfl,.inl ⟨rfl,lrows_noid _⟩⟩,⟨rfl,.inl ⟨celE ?_,lrows_noid _⟩⟩,trivial⟩,rfl⟩;have hA:List.take (k*D+j) (List.drop 0 (lrows (Z++(gA D w).take j)))=lrows (Z++(gA D w).take j):=by rw[List.drop_zero,List.take_of_length_le (by omega)]
    show List.take (k*D+j) (List.drop 0 (lrows (Z++(gA D w).take j)))++[[AV.sl 1 (List.take (0+(irows .i64 w).length+1) (List.drop 0 (List.take (0+(irows .i64 w).length) (List.drop 0 (List.take 0 (List.drop 0 ([]:List (List AV)))++irows .i64 w))++[[AV.val (.int .i64 (z j))]]))) false]]=_;rw[key,hA,hgj,←List.append_assoc,lrows_append (Z++(gA D w).take j)];rfl
   ·have hje:j=D:=by omega
    have eT:(gA D w).take j=gA D w:=List.take_of_length_le (by rw[gA_len];omega);have hzj:=hz j;have hfl:(Y.take (k+1)).flatMap (gA D)=Z++gA D w:=by
     rw[take_snoc hkt,List.flatMap_append,←hw,hZ];simp
    rw[eT];conv=>whnf
    refine⟨_,⟨by omega,by rw[Int.toNat_natCast];exact hg1⟩,?_⟩;conv=>whnf
    refine oFq (by omega) ?_;conv=>whnf
    exact⟨k+1,[],(by show Y.length-(k+1)<Y.length-k;omega),hkt,⟨q2r,q2r,q2r,⟨ownE rfl (by rw[hje,Nat.succ_mul]),rfl⟩,⟨valI eK,rfl⟩,trivial⟩,⟨⟨rfl,.inl ⟨rfl,lrows_noid _⟩⟩,⟨rfl,.inl ⟨celE (by rw[hfl]),lrows_noid _⟩⟩,trivial⟩,rfl⟩
  ·have hke:k=Y.length:=by omega
   have eT:Y.take k=Y:=List.take_of_length_le (by omega);rw[eT];conv=>whnf
   refine oFq (by omega) ?_;conv=>whnf
   exact⟨i+1,[(16,88)],(by show s.length-(i+1)<s.length-i;omega),hlt,⟨q2r,⟨ownE rfl (by rw[hnext,flatA_len,hke]),rfl⟩,⟨valI eI,rfl⟩,trivial⟩,⟨⟨rfl,.inl ⟨celE (by rw[hnext]),lrows_noid _⟩⟩,trivial⟩,rfl⟩
 ·have hie:i=s.length:=by omega
  have eT:s.take i=s:=List.take_of_length_le (by omega);have hYW:Y=W:=by rw[hY,hW,eT]
  rw[hYW];have lW:=lrows_len W;conv=>whnf
  refine oFq (by omega) ?_;conv=>whnf
  refine⟨by show 0+W.length≤_;omega,?_⟩;show AV.sl 1 (List.take W.length (List.drop 0 (lrows W))) false=_;rw[List.drop_zero,List.take_of_length_le (by omega)]
end
end Go.Proofs.YtbdklokfijjifaaGreat

set_option linter.unusedSimpArgs false
namespace Go.AL
open Go Go.RowKit
end Go.AL

namespace Go.Proofs.YtbdklokfijjifaaGreat
open Go Go.AL NM
section
def getX (ns:List (Option (Rat×Nat))) (k:Int):Option (Rat×Nat):=if 0≤k then ns.getD k.toNat none else none
def getT (tx:List Int) (k:Int):Int:=if 0≤k then tx.getD k.toNat 32 else 32
def getQ (qs:List Rat) (k:Int):Rat:=if 0≤k then qs.getD k.toNat 0 else 0
theorem getX_in {ns:List (Option (Rat×Nat))} {k:Nat} (h:k<ns.length):getX ns (k:Int)=ns[k]:=by
 unfold getX;rw[if_pos (by omega),Int.toNat_natCast,List.getD_eq_getElem?_getD,List.getElem?_eq_getElem h];rfl
theorem getX_out {ns:List (Option (Rat×Nat))} {k:Int} (h:k<0∨(ns.length:Int)≤k):getX ns k=none:=by
 unfold getX;split
 ·rw[List.getD_eq_getElem?_getD,List.getElem?_eq_none (by omega)];rfl
 ·rfl
theorem getT_in {tx:List Int} {k:Nat} (h:k<tx.length):getT tx (k:Int)=tx[k]:=by
 unfold getT;rw[if_pos (by omega),Int.toNat_natCast,List.getD_eq_getElem?_getD,List.getElem?_eq_getElem h];rfl
theorem getT_out {tx:List Int} {k:Int} (h:k<0∨(tx.length:Int)≤k):getT tx k=32:=by
 unfold getT;split
 ·rw[List.getD_eq_getElem?_getD,List.getElem?_eq_none (by omega)];rfl
 ·rfl
theorem getQ_in {qs:List Rat} {k:Nat} (h:k<qs.length):getQ qs (k:Int)=qs[k]:=by
 unfold getQ;rw[if_pos (by omega),Int.toNat_natCast,List.getD_eq_getElem?_getD,List.getElem?_eq_getElem h];rfl
theorem getQ_out {qs:List Rat} {k:Int} (h:k<0∨(qs.length:Int)≤k):getQ qs k=0:=by
 unfold getQ;split
 ·rw[List.getD_eq_getElem?_getD,List.getElem?_eq_none (by omega)];rfl
 ·rfl
theorem getX_val (ns:List (Option (Rat×Nat))) (k:Int):valX (getX ns k)=getQ (ns.map valX) k:=by
 by_cases h:k<0∨(ns.length:Int)≤k
 ·rw[getX_out h,getQ_out (by rw[List.length_map];exact h)];rfl
 ·obtain⟨j,rfl⟩:=Int.eq_ofNat_of_zero_le (show 0≤k by omega);rw[getX_in (show j<ns.length by omega),getQ_in (show j<(ns.map valX).length by rw[List.length_map];omega),List.getElem_map]
theorem getX_ok {ns:List (Option (Rat×Nat))} (h:∀o∈ns,okX o) (k:Int):okX (getX ns k):=by
 by_cases hk:k<0∨(ns.length:Int)≤k
 ·rw[getX_out hk];trivial
 ·obtain⟨j,rfl⟩:=Int.eq_ofNat_of_zero_le (show 0≤k by omega);rw[getX_in (show j<ns.length by omega)];exact h _ (List.getElem_mem _)
theorem RatAny_ok (sh:List Int) (ch:Bool) (tx:List Int) (ns:List (Option (Rat×Nat))) (made:Bool) (k:Int) (hb:ns.length≤1000000):AC Tryz.prog 15 [AA sh ch tx ns made,.val (.int .i64 k)] (.pure (.agg (rowX (getX ns k)))):=by
 by_cases h:k<0∨(ns.length:Int)≤k
 ·rw[getX_out h];refine AC.of_body TTok Tryz.func15 rfl (enter_of Tryz.func15 (by kernel_rfl) (by kernel_rfl)) (noid2 (AA_noid _ _ _ _ _) (.val _)) (.agg _ (rowX_noid none)) (nbq rfl) ?_;have hlen:(ns.map rowX).length=ns.length:=List.length_map _;unfold AA;by_cases h0:k<0
  ·conv=>whnf
   refine oTq (by omega) ?_;(conv=>whnf);exact rfl
  ·conv=>whnf
   refine oFq (by omega) ?_;conv=>whnf
   refine oTq (by omega) ?_;(conv=>whnf);exact rfl
 ·obtain⟨j,rfl⟩:=Int.eq_ofNat_of_zero_le (show 0≤k by omega);rw[getX_in (show j<ns.length by omega)];exact RatI_ok sh ch tx ns made j (by omega) hb
theorem rowX_eq (o:Option (Rat×Nat)):∃ (k:Nat) (l1 l2:List (List AV)) (z:Bool) (b:Bool),rowX o=[.sl k l1 z,.val (.bool b),.sl k l2 z]:=by
 cases o with
 | none=>exact⟨0,[],[],true,false,rfl⟩
 | some p=>exact⟨1,_,_,false,_,rfl⟩
theorem PickN_ok (sh:List Int) (tx:List Int) (ns:List (Option (Rat×Nat))) (s at_:List Int) (hv:vS s) (hc:cntI s=(at_.length:Int)) (hb:ns.length≤100000) :
  AC Tryz.prog 108 [AA sh false tx ns true,.sl 1 (irows .i64 s) false,.sl 1 (irows .i64 at_) false] (.pure (.tup [AA s false [] (at_.map (getX ns)) true,.val (.bool true)])):=by
 have l4:at_.length≤4096:=by have:=vS_pr hv;omega
 have hC:=Count_ok s (by have:=hv.1;omega);rw[CNT_good hv,hc]at hC;have hK:=CloneI_ok s (by have:=hv.1;omega);have la:=irows_len .i64 at_;obtain⟨Y,hY⟩:∃ Y,Y=at_.map (getX ns):=⟨_,rfl⟩;have lY:Y.length=at_.length:=by rw[hY,List.length_map]
 have hYi:∀i (h:i<at_.length),Y[i]'(by omega)=getX ns at_[i]:=fun i h=>by subst hY;rw[List.getElem_map]
 have hR:∀i (h:i<at_.length),AC Tryz.prog 15 [AA sh false tx ns true,.val (.int .i64 at_[i])] (.pure (.agg (rowX (getX ns at_[i])))):=fun i h=>RatAny_ok sh false tx ns true _ (by omega);rw[←hY];refine AC.le_res (?_:AC Tryz.prog 108 _ (.pure (.tup [.agg [.sl 1 (irows .i64 s) false,.val (.bool false),.sl 0 [] true,.sl 3 (Y.map rowX) false,.val (.bool true)],.val (.bool true)]))) (.tup2 (le_agg5 (.refl _) (.refl _) (le_nil 1) (.refl _) (.refl _)) (.refl _)) (.tup _ (noid2 (AA_noid _ _ _ _ _) (.val _)));refine AC.of_body TTok Tryz.func108 rfl (enter_of Tryz.func108 (by kernel_rfl) (by kernel_rfl)) (noid3 (AA_noid _ _ _ _ _) (noid_sl _ _ _) (noid_sl _ _ _)) (.tup _ (noid2 (.agg _ (noid5 (noid_sl _ _ _) (.val _) (.sl _ _ _ (fun r hr=>nomatch hr)) (slX_noid _) (.val _))) (.val _))) (nbq rfl) ?_;unfold AA at hR ⊢;conv=>whnf
 refine⟨_,hC,?_⟩;conv=>whnf
 refine nTq (by omega) ?_;conv=>whnf
 refine⟨_,hK,?_⟩;conv=>whnf
 refine⟨by kernel_rfl,?_⟩;conv=>whnf
 refine SW.nilC 184 3 3 rfl rfl ?_;refine SW.loopM TTok (fun i:Nat=>[(3,.lp 0 0),(6,.lp 8 0),(10,.lp 184 0),(32,.sl 1 (irows .i64 at_) false),(33,.val (.int .i64 ((irows .i64 at_).length:Nat))),(34,.val (.int .i64 (i:Int)))])
  (fun i=>[(0,.cells 5 [[.sl 1 (irows .i64 sh) false,.val (.bool false),.sl 1 (irows .i32 tx) false,.sl 3 (ns.map rowX) false,.val (.bool true)]]),(8,.cells 5 [[.sl 0 [] true,.val (.bool false),.sl 0 [] true,.sl 0 [] true,.val (.bool false)]]),(184,.cells 5 [[.sl 1 (irows .i64 s) false,.val (.bool false),.sl 0 [] true,.own 224 0 i,.val (.bool true)]]),(224,.cells 3 ((Y.take i).map rowX))]) 232 77 rfl (fun i=>at_.length-i) (fun i=>i≤at_.length) 0 [] (Nat.zero_le _)
  ⟨q2r,q2r,q2r,q2r,q2r,q2r,trivial⟩ ⟨q3r,q3r,q3r,q3r,trivial⟩ rfl ?_
 intro i hJ;have hi:i≤at_.length:=hJ;clear hJ;have lr:((Y.take i).map rowX).length=i:=by rw[List.length_map,List.length_take];omega
 by_cases hlt:i<at_.length
 ·have eI:IntKind.i64.wrap ((i:Int)+1)=((i+1:Nat):Int):=by rw[IntWalk.i64_in _ (by omega)];omega
  have hg:(irows .i64 at_)[i]?=some [.val (.int .i64 at_[i])]:=irows_get .i64 at_ (List.getElem?_eq_getElem hlt);have d2:=hR i hlt;have hsn:(Y.take i).map rowX++[rowX (getX ns at_[i])]=(Y.take (i+1)).map rowX:=by
   rw[take_snoc (show i<Y.length by omega),List.map_append,hYi i hlt];rfl
  have htk:List.take i (List.drop 0 ((Y.take i).map rowX))=(Y.take i).map rowX:=by rw[List.drop_zero,List.take_of_length_le (by omega)]
  obtain⟨k,l1,l2,z,b,hrow⟩:=rowX_eq (getX ns at_[i]);rw[hrow]at d2 hsn;conv=>whnf
  refine oTq (by omega) ?_;conv=>whnf
  refine⟨_,⟨by omega,by rw[Int.toNat_natCast];exact hg⟩,?_⟩;conv=>whnf
  refine⟨_,d2,?_⟩;conv=>whnf
  refine⟨⟨by show 0+i≤_;omega,by show (i+1)*56≤140737488355328;omega,nbq rfl⟩,?_⟩;conv=>whnf
  refine⟨by kernel_rfl,?_⟩;conv=>whnf
  refine⟨i+1,[(224,344)],(by show at_.length-(i+1)<at_.length-i;omega),hlt,⟨q2r,q2r,q2r,q2r,q2r,⟨valI eI,rfl⟩,trivial⟩,⟨q3r,q3r,q3r,⟨rfl,.inl ⟨celE ?_,rowsX_noid _⟩⟩,trivial⟩,rfl⟩;rw[←hsn];show List.take i (List.drop 0 ((Y.take i).map rowX))++[_]=_;rw[htk];rfl
 ·have hie:i=at_.length:=by omega
  have e1:Y.take i=Y:=List.take_of_length_le (by omega);rw[e1]at lr ⊢;have key:List.take i (List.drop 0 (Y.map rowX))=Y.map rowX:=by rw[List.drop_zero,List.take_of_length_le (by omega)]
  conv=>whnf
  refine oFq (by omega) ?_;conv=>whnf
  refine⟨by show 0+i≤_;omega,?_⟩;show AV.tup [AV.agg [_,_,_,AV.sl 3 (List.take i (List.drop 0 (Y.map rowX))) false,_],_]=_;rw[key];rfl
theorem PickT_ok (sh:List Int) (tx:List Int) (ns:List (Option (Rat×Nat))) (s at_:List Int) (hv:vS s) (hc:cntI s=(at_.length:Int)) (hb:tx.length≤100000) :
  AC Tryz.prog 108 [AA sh true tx ns true,.sl 1 (irows .i64 s) false,.sl 1 (irows .i64 at_) false] (.pure (.tup [AA s true (at_.map (getT tx)) [] true,.val (.bool true)])):=by
 have l4:at_.length≤4096:=by have:=vS_pr hv;omega
 have hC:=Count_ok s (by have:=hv.1;omega);rw[CNT_good hv,hc]at hC;have hK:=CloneI_ok s (by have:=hv.1;omega);have la:=irows_len .i64 at_;have lt:=irows_len .i32 tx;obtain⟨Y,hY⟩:∃ Y,Y=at_.map (getT tx):=⟨_,rfl⟩;have lY:Y.length=at_.length:=by rw[hY,List.length_map]
 have hYi:∀i (h:i<at_.length),Y[i]'(by omega)=getT tx at_[i]:=fun i h=>by subst hY;rw[List.getElem_map]
 rw[←hY];refine AC.le_res (?_:AC Tryz.prog 108 _ (.pure (.tup [.agg [.sl 1 (irows .i64 s) false,.val (.bool true),.sl 1 (irows .i32 Y) false,.sl 0 [] true,.val (.bool true)],.val (.bool true)]))) (.tup2 (le_agg5 (.refl _) (.refl _) (.refl _) (le_nil 3) (.refl _)) (.refl _)) (.tup _ (noid2 (AA_noid _ _ _ _ _) (.val _)));refine AC.of_body TTok Tryz.func108 rfl (enter_of Tryz.func108 (by kernel_rfl) (by kernel_rfl)) (noid3 (AA_noid _ _ _ _ _) (noid_sl _ _ _) (noid_sl _ _ _)) (.tup _ (noid2 (.agg _ (noid5 (noid_sl _ _ _) (.val _) (noid_sl _ _ _) (.sl _ _ _ (fun r hr=>nomatch hr)) (.val _))) (.val _))) (nbq rfl) ?_;unfold AA;conv=>whnf
 refine⟨_,hC,?_⟩;conv=>whnf
 refine nTq (by omega) ?_;conv=>whnf
 refine⟨_,hK,?_⟩;conv=>whnf
 refine⟨by kernel_rfl,?_⟩;conv=>whnf
 refine SW.nilC 184 2 1 rfl rfl ?_;refine SW.loopM TTok (fun i:Nat=>[(3,.lp 0 0),(6,.lp 8 0),(10,.lp 184 0),(32,.sl 1 (irows .i64 at_) false),(33,.val (.int .i64 ((irows .i64 at_).length:Nat))),(34,.val (.int .i64 (i:Int)))])
  (fun i=>[(0,.cells 5 [[.sl 1 (irows .i64 sh) false,.val (.bool true),.sl 1 (irows .i32 tx) false,.sl 3 (ns.map rowX) false,.val (.bool true)]]),(8,.cells 5 [[.sl 0 [] true,.val (.bool false),.sl 0 [] true,.sl 0 [] true,.val (.bool false)]]),(184,.cells 5 [[.sl 1 (irows .i64 s) false,.val (.bool true),.own 224 0 i,.sl 0 [] true,.val (.bool true)]]),(224,.cells 1 (irows .i32 (Y.take i)))]) 232 77 rfl (fun i=>at_.length-i) (fun i=>i≤at_.length) 0 [] (Nat.zero_le _)
  ⟨q2r,q2r,q2r,q2r,q2r,q2r,trivial⟩ ⟨q3r,q3r,q3r,q3r,trivial⟩ rfl ?_
 intro i hJ;have hi:i≤at_.length:=hJ;clear hJ;have lr:(irows .i32 (Y.take i)).length=i:=by rw[irows_len,List.length_take];omega
 by_cases hlt:i<at_.length
 ·have eI:IntKind.i64.wrap ((i:Int)+1)=((i+1:Nat):Int):=by rw[IntWalk.i64_in _ (by omega)];omega
  have hg:(irows .i64 at_)[i]?=some [.val (.int .i64 at_[i])]:=irows_get .i64 at_ (List.getElem?_eq_getElem hlt);have hsn:irows .i32 (Y.take i)++irows .i32 [getT tx at_[i]]=irows .i32 (Y.take (i+1)):=by
   rw[take_snoc (show i<Y.length by omega),hYi i hlt,irows_append]
  have htk:List.take i (List.drop 0 (irows .i32 (Y.take i)))=irows .i32 (Y.take i):=by rw[List.drop_zero,List.take_of_length_le (by omega)]
  obtain⟨k,hk⟩:∃ k,k=at_[i]:=⟨_,rfl⟩;rw[←hk]at hg hsn;by_cases h0:k<0
  ·rw[getT_out (.inl h0)]at hsn;conv=>whnf
   refine oTq (by omega) ?_;conv=>whnf
   refine⟨_,⟨by omega,by rw[Int.toNat_natCast];exact hg⟩,?_⟩;conv=>whnf
   refine oTq (by omega) ?_;conv=>whnf
   refine⟨⟨by show 0+i≤_;omega,by show (i+1)*4≤140737488355328;omega,nbq rfl⟩,?_⟩;conv=>whnf
   refine⟨i+1,[(224,400)],(by show at_.length-(i+1)<at_.length-i;omega),hlt,⟨q2r,q2r,q2r,q2r,q2r,⟨valI eI,rfl⟩,trivial⟩,⟨q3r,q3r,q3r,⟨rfl,.inl ⟨celE ?_,irows_noid _ _⟩⟩,trivial⟩,rfl⟩;rw[←hsn];show List.take i (List.drop 0 (irows .i32 (Y.take i)))++[_]=_;rw[htk];rfl
  ·by_cases h1:(tx.length:Int)≤k
   ·rw[getT_out (.inr h1)]at hsn;conv=>whnf
    refine oTq (by omega) ?_;conv=>whnf
    refine⟨_,⟨by omega,by rw[Int.toNat_natCast];exact hg⟩,?_⟩;conv=>whnf
    refine oFq (by omega) ?_;conv=>whnf
    refine oTq (by omega) ?_;conv=>whnf
    refine⟨⟨by show 0+i≤_;omega,by show (i+1)*4≤140737488355328;omega,nbq rfl⟩,?_⟩;conv=>whnf
    refine⟨i+1,[(224,400)],(by show at_.length-(i+1)<at_.length-i;omega),hlt,⟨q2r,q2r,q2r,q2r,q2r,⟨valI eI,rfl⟩,trivial⟩,⟨q3r,q3r,q3r,⟨rfl,.inl ⟨celE ?_,irows_noid _ _⟩⟩,trivial⟩,rfl⟩;rw[←hsn];show List.take i (List.drop 0 (irows .i32 (Y.take i)))++[_]=_;rw[htk];rfl
   ·obtain⟨j,rfl⟩:=Int.eq_ofNat_of_zero_le (show 0≤k by omega);rw[getT_in (show j<tx.length by omega)]at hsn;have hg2:(irows .i32 tx)[j]?=some [.val (.int .i32 tx[j])]:=irows_get .i32 tx (List.getElem?_eq_getElem (by omega));conv=>whnf
    refine oTq (by omega) ?_;conv=>whnf
    refine⟨_,⟨by omega,by rw[Int.toNat_natCast];exact hg⟩,?_⟩;conv=>whnf
    refine oFq (by omega) ?_;conv=>whnf
    refine⟨_,⟨by omega,by rw[Int.toNat_natCast];exact hg2⟩,?_⟩;conv=>whnf
    refine⟨⟨by show 0+i≤_;omega,by show (i+1)*4≤140737488355328;omega,nbq rfl⟩,?_⟩;conv=>whnf
    refine⟨by kernel_rfl,?_⟩;conv=>whnf
    refine⟨i+1,[(224,440)],(by show at_.length-(i+1)<at_.length-i;omega),hlt,⟨q2r,q2r,q2r,q2r,q2r,⟨valI eI,rfl⟩,trivial⟩,⟨q3r,q3r,q3r,⟨rfl,.inl ⟨celE ?_,irows_noid _ _⟩⟩,trivial⟩,rfl⟩;rw[←hsn];show List.take i (List.drop 0 (irows .i32 (Y.take i)))++[_]=_;rw[htk];rfl
 ·have hie:i=at_.length:=by omega
  have e1:Y.take i=Y:=List.take_of_length_le (by omega);rw[e1]at lr ⊢;have key:List.take i (List.drop 0 (irows .i32 Y))=irows .i32 Y:=by rw[List.drop_zero,List.take_of_length_le (by omega)]
  conv=>whnf
  refine oFq (by omega) ?_;conv=>whnf
  refine⟨by show 0+i≤_;omega,?_⟩;show AV.tup [AV.agg [_,_,AV.sl 1 (List.take i (List.drop 0 (irows .i32 Y))) false,_,_],_]=_;rw[key];rfl
end
section
theorem RPickN_ok (sh:List Int) (qs:List Rat) (s at_:List Int) (hs:s.length≤1000) (ha:at_.length≤5000) (hb:qs.length≤100000) :
  AC Tryz.prog 82 [PA sh false [] qs,.sl 1 (irows .i64 s) false,.sl 1 (irows .i64 at_) false] (.pure (PA s false [] (at_.map (getQ qs)))):=by
 have hL:=RLen_ok sh false [] qs (by decide) (by omega);have hZ:=SZero_ok;have la:=irows_len .i64 at_;have lq:(qs.map rowN).length=qs.length:=List.length_map _;obtain⟨Y,hY⟩:∃ Y,Y=at_.map (getQ qs):=⟨_,rfl⟩;have lY:Y.length=at_.length:=by rw[hY,List.length_map]
 have hYi:∀i (h:i<at_.length),Y[i]'(by omega)=getQ qs at_[i]:=fun i h=>by subst hY;rw[List.getElem_map]
 rw[←hY];refine AC.le_res (?_:AC Tryz.prog 82 _ (.pure (.agg [.sl 1 (irows .i64 s) false,.val (.bool false),.sl 0 [] true,.sl 3 (Y.map rowN) false]))) (le_agg4 (.refl _) (.refl _) (le_nil 1) (.refl _)) (PA_noid _ _ _ _);refine AC.of_body TTok Tryz.func82 rfl (enter_of Tryz.func82 (by kernel_rfl) (by kernel_rfl)) (noid3 (PA_noid _ _ _ _) (noid_sl _ _ _) (noid_sl _ _ _)) (.agg _ (noidF (noid_sl _ _ _) (.val _) (.sl _ _ _ (fun r hr=>nomatch hr)) (slN_noid _))) (nbq rfl) ?_;unfold PA at hL ⊢;unfold RN at hZ;conv=>whnf
 refine SW.nilC 48 3 3 rfl rfl ?_;refine SW.loopM TTok (fun i:Nat=>[(2,.sl 1 (irows .i64 at_) false),(3,.lp 0 0),(6,.lp 8 0),(7,.lp 48 0),(8,.val (.int .i64 (i:Int)))])
  (fun i=>[(0,.cells 4 [[.sl 1 (irows .i64 sh) false,.val (.bool false),.sl 1 (irows .i32 []) false,.sl 3 (qs.map rowN) false]]),(8,.cells 4 [[.sl 0 [] true,.val (.bool false),.sl 0 [] true,.sl 0 [] true]]),(48,.cells 4 [[.sl 1 (irows .i64 s) false,.val (.bool false),.sl 0 [] true,.own 72 0 i]]),(72,.cells 3 ((Y.take i).map rowN))]) 80 73 rfl (fun i=>at_.length-i) (fun i=>i≤at_.length) 0 [] (Nat.zero_le _)
  ⟨q2r,q2r,q2r,q2r,q2r,trivial⟩ ⟨q3r,q3r,q3r,q3r,trivial⟩ rfl ?_
 intro i hJ;have hi:i≤at_.length:=hJ;clear hJ;have lr:((Y.take i).map rowN).length=i:=by rw[List.length_map,List.length_take];omega
 have h0len:([]:List Int).length=0:=rfl;by_cases hlt:i<at_.length
 ·have eI:IntKind.i64.wrap ((i:Int)+1)=((i+1:Nat):Int):=by rw[IntWalk.i64_in _ (by omega)];omega
  have hg:(irows .i64 at_)[i]?=some [.val (.int .i64 at_[i])]:=irows_get .i64 at_ (List.getElem?_eq_getElem hlt);have hsn:(Y.take i).map rowN++[rowN (getQ qs at_[i])]=(Y.take (i+1)).map rowN:=by
   rw[take_snoc (show i<Y.length by omega),List.map_append,hYi i hlt];rfl
  have htk:List.take i (List.drop 0 ((Y.take i).map rowN))=(Y.take i).map rowN:=by rw[List.drop_zero,List.take_of_length_le (by omega)]
  obtain⟨k,hk⟩:∃ k,k=at_[i]:=⟨_,rfl⟩;rw[←hk]at hg hsn;by_cases h0:k<0
  ·rw[getQ_out (.inl h0)]at hsn;conv=>whnf
   refine oTq (by omega) ?_;conv=>whnf
   refine⟨_,⟨by omega,by rw[Int.toNat_natCast];exact hg⟩,?_⟩;conv=>whnf
   refine oFq (by omega) ?_;conv=>whnf
   refine⟨_,hZ,?_⟩;conv=>whnf
   refine⟨⟨by show 0+i≤_;omega,by show (i+1)*40≤140737488355328;omega,nbq rfl⟩,?_⟩;conv=>whnf
   refine⟨by kernel_rfl,?_⟩;conv=>whnf
   refine⟨i+1,[(72,320)],(by show at_.length-(i+1)<at_.length-i;omega),hlt,⟨q2r,q2r,q2r,q2r,⟨valI eI,rfl⟩,trivial⟩,⟨q3r,q3r,q3r,⟨rfl,.inl ⟨celE ?_,rowsN_noid _⟩⟩,trivial⟩,rfl⟩;rw[←hsn];show List.take i (List.drop 0 ((Y.take i).map rowN))++[_]=_;rw[htk];rfl
  ·by_cases h1:(qs.length:Int)≤k
   ·rw[getQ_out (.inr h1)]at hsn;conv=>whnf
    refine oTq (by omega) ?_;conv=>whnf
    refine⟨_,⟨by omega,by rw[Int.toNat_natCast];exact hg⟩,?_⟩;conv=>whnf
    refine oTq (by omega) ?_;conv=>whnf
    refine⟨_,hL,?_⟩;conv=>whnf
    refine oFq (by omega) ?_;conv=>whnf
    refine⟨_,hZ,?_⟩;conv=>whnf
    refine⟨⟨by show 0+i≤_;omega,by show (i+1)*40≤140737488355328;omega,nbq rfl⟩,?_⟩;conv=>whnf
    refine⟨by kernel_rfl,?_⟩;conv=>whnf
    refine⟨i+1,[(72,320)],(by show at_.length-(i+1)<at_.length-i;omega),hlt,⟨q2r,q2r,q2r,q2r,⟨valI eI,rfl⟩,trivial⟩,⟨q3r,q3r,q3r,⟨rfl,.inl ⟨celE ?_,rowsN_noid _⟩⟩,trivial⟩,rfl⟩;rw[←hsn];show List.take i (List.drop 0 ((Y.take i).map rowN))++[_]=_;rw[htk];rfl
   ·obtain⟨j,rfl⟩:=Int.eq_ofNat_of_zero_le (show 0≤k by omega);rw[getQ_in (show j<qs.length by omega)]at hsn;have hg2:(qs.map rowN)[j]?=some [.val (.bool (decide (qs[j].num<0))),.val (.string (decS qs[j].num.natAbs)),.val (.string (decS qs[j].den))]:=by rw[List.getElem?_map,List.getElem?_eq_getElem (show j<qs.length by omega)];rfl
    conv=>whnf
    refine oTq (by omega) ?_;conv=>whnf
    refine⟨_,⟨by omega,by rw[Int.toNat_natCast];exact hg⟩,?_⟩;conv=>whnf
    refine⟨_,hL,?_⟩;conv=>whnf
    refine oTq (by omega) ?_;conv=>whnf
    refine⟨_,⟨by omega,by rw[Int.toNat_natCast];exact hg2⟩,?_⟩;conv=>whnf
    refine⟨⟨by show 0+i≤_;omega,by show (i+1)*40≤140737488355328;omega,nbq rfl⟩,?_⟩;conv=>whnf
    refine⟨by kernel_rfl,?_⟩;conv=>whnf
    refine⟨i+1,[(72,352)],(by show at_.length-(i+1)<at_.length-i;omega),hlt,⟨q2r,q2r,q2r,q2r,⟨valI eI,rfl⟩,trivial⟩,⟨q3r,q3r,q3r,⟨rfl,.inl ⟨celE ?_,rowsN_noid _⟩⟩,trivial⟩,rfl⟩;rw[←hsn];show List.take i (List.drop 0 ((Y.take i).map rowN))++[_]=_;rw[htk];rfl
 ·have hie:i=at_.length:=by omega
  have e1:Y.take i=Y:=List.take_of_length_le (by omega);rw[e1]at lr ⊢;have key:List.take i (List.drop 0 (Y.map rowN))=Y.map rowN:=by rw[List.drop_zero,List.take_of_length_le (by omega)]
  conv=>whnf
  refine oFq (by omega) ?_;conv=>whnf
  refine⟨by show 0+i≤_;omega,?_⟩;show AV.agg [_,_,_,AV.sl 3 (List.take i (List.drop 0 (Y.map rowN))) false]=_;rw[key]
theorem RPickT_ok (sh:List Int) (tx:List Int) (s at_:List Int) (hs:s.length≤1000) (ha:at_.length≤5000) (hb:tx.length≤100000) :
  AC Tryz.prog 82 [PA sh true tx [],.sl 1 (irows .i64 s) false,.sl 1 (irows .i64 at_) false] (.pure (PA s true (at_.map (getT tx)) [])):=by
 have hL:=RLen_ok sh true tx [] (by omega) (by decide);have la:=irows_len .i64 at_;have lt:=irows_len .i32 tx;obtain⟨Y,hY⟩:∃ Y,Y=at_.map (getT tx):=⟨_,rfl⟩;have lY:Y.length=at_.length:=by rw[hY,List.length_map]
 have hYi:∀i (h:i<at_.length),Y[i]'(by omega)=getT tx at_[i]:=fun i h=>by subst hY;rw[List.getElem_map]
 rw[←hY];refine AC.le_res (?_:AC Tryz.prog 82 _ (.pure (.agg [.sl 1 (irows .i64 s) false,.val (.bool true),.sl 1 (irows .i32 Y) false,.sl 0 [] true]))) (le_agg4 (.refl _) (.refl _) (.refl _) (le_nil 3)) (PA_noid _ _ _ _);refine AC.of_body TTok Tryz.func82 rfl (enter_of Tryz.func82 (by kernel_rfl) (by kernel_rfl)) (noid3 (PA_noid _ _ _ _) (noid_sl _ _ _) (noid_sl _ _ _)) (.agg _ (noidF (noid_sl _ _ _) (.val _) (noid_sl _ _ _) (.sl _ _ _ (fun r hr=>nomatch hr)))) (nbq rfl) ?_;unfold PA at hL ⊢;conv=>whnf
 refine SW.nilC 48 2 1 rfl rfl ?_;refine SW.loopM TTok (fun i:Nat=>[(2,.sl 1 (irows .i64 at_) false),(3,.lp 0 0),(6,.lp 8 0),(7,.lp 48 0),(8,.val (.int .i64 (i:Int)))])
  (fun i=>[(0,.cells 4 [[.sl 1 (irows .i64 sh) false,.val (.bool true),.sl 1 (irows .i32 tx) false,.sl 3 (([]:List Rat).map rowN) false]]),(8,.cells 4 [[.sl 0 [] true,.val (.bool false),.sl 0 [] true,.sl 0 [] true]]),(48,.cells 4 [[.sl 1 (irows .i64 s) false,.val (.bool true),.own 72 0 i,.sl 0 [] true]]),(72,.cells 1 (irows .i32 (Y.take i)))]) 80 73 rfl (fun i=>at_.length-i) (fun i=>i≤at_.length) 0 [] (Nat.zero_le _)
  ⟨q2r,q2r,q2r,q2r,q2r,trivial⟩ ⟨q3r,q3r,q3r,q3r,trivial⟩ rfl ?_
 intro i hJ;have hi:i≤at_.length:=hJ;clear hJ;have lr:(irows .i32 (Y.take i)).length=i:=by rw[irows_len,List.length_take];omega
 have h0len:([]:List Rat).length=0:=rfl;by_cases hlt:i<at_.length
 ·have eI:IntKind.i64.wrap ((i:Int)+1)=((i+1:Nat):Int):=by rw[IntWalk.i64_in _ (by omega)];omega
  have hg:(irows .i64 at_)[i]?=some [.val (.int .i64 at_[i])]:=irows_get .i64 at_ (List.getElem?_eq_getElem hlt);have hsn:irows .i32 (Y.take i)++irows .i32 [getT tx at_[i]]=irows .i32 (Y.take (i+1)):=by
   rw[take_snoc (show i<Y.length by omega),hYi i hlt,irows_append]
  have htk:List.take i (List.drop 0 (irows .i32 (Y.take i)))=irows .i32 (Y.take i):=by rw[List.drop_zero,List.take_of_length_le (by omega)]
  obtain⟨k,hk⟩:∃ k,k=at_[i]:=⟨_,rfl⟩;rw[←hk]at hg hsn;by_cases h0:k<0
  ·rw[getT_out (.inl h0)]at hsn;conv=>whnf
   refine oTq (by omega) ?_;conv=>whnf
   refine⟨_,⟨by omega,by rw[Int.toNat_natCast];exact hg⟩,?_⟩;conv=>whnf
   refine oFq (by omega) ?_;conv=>whnf
   refine⟨⟨by show 0+i≤_;omega,by show (i+1)*4≤140737488355328;omega,nbq rfl⟩,?_⟩;conv=>whnf
   refine⟨i+1,[(72,304)],(by show at_.length-(i+1)<at_.length-i;omega),hlt,⟨q2r,q2r,q2r,q2r,⟨valI eI,rfl⟩,trivial⟩,⟨q3r,q3r,q3r,⟨rfl,.inl ⟨celE ?_,irows_noid _ _⟩⟩,trivial⟩,rfl⟩;rw[←hsn];show List.take i (List.drop 0 (irows .i32 (Y.take i)))++[_]=_;rw[htk];rfl
  ·by_cases h1:(tx.length:Int)≤k
   ·rw[getT_out (.inr h1)]at hsn;conv=>whnf
    refine oTq (by omega) ?_;conv=>whnf
    refine⟨_,⟨by omega,by rw[Int.toNat_natCast];exact hg⟩,?_⟩;conv=>whnf
    refine oTq (by omega) ?_;conv=>whnf
    refine⟨_,hL,?_⟩;conv=>whnf
    refine oFq (by omega) ?_;conv=>whnf
    refine⟨⟨by show 0+i≤_;omega,by show (i+1)*4≤140737488355328;omega,nbq rfl⟩,?_⟩;conv=>whnf
    refine⟨i+1,[(72,304)],(by show at_.length-(i+1)<at_.length-i;omega),hlt,⟨q2r,q2r,q2r,q2r,⟨valI eI,rfl⟩,trivial⟩,⟨q3r,q3r,q3r,⟨rfl,.inl ⟨celE ?_,irows_noid _ _⟩⟩,trivial⟩,rfl⟩;rw[←hsn];show List.take i (List.drop 0 (irows .i32 (Y.take i)))++[_]=_;rw[htk];rfl
   ·obtain⟨j,rfl⟩:=Int.eq_ofNat_of_zero_le (show 0≤k by omega);rw[getT_in (show j<tx.length by omega)]at hsn;have hg2:(irows .i32 tx)[j]?=some [.val (.int .i32 tx[j])]:=irows_get .i32 tx (List.getElem?_eq_getElem (by omega));conv=>whnf
    refine oTq (by omega) ?_;conv=>whnf
    refine⟨_,⟨by omega,by rw[Int.toNat_natCast];exact hg⟩,?_⟩;conv=>whnf
    refine⟨_,hL,?_⟩;conv=>whnf
    refine oTq (by omega) ?_;conv=>whnf
    refine⟨_,⟨by omega,by rw[Int.toNat_natCast];exact hg2⟩,?_⟩;conv=>whnf
    refine⟨⟨by show 0+i≤_;omega,by show (i+1)*4≤140737488355328;omega,nbq rfl⟩,?_⟩;conv=>whnf
    refine⟨by kernel_rfl,?_⟩;conv=>whnf
    refine⟨i+1,[(72,328)],(by show at_.length-(i+1)<at_.length-i;omega),hlt,⟨q2r,q2r,q2r,q2r,⟨valI eI,rfl⟩,trivial⟩,⟨q3r,q3r,q3r,⟨rfl,.inl ⟨celE ?_,irows_noid _ _⟩⟩,trivial⟩,rfl⟩;rw[←hsn];show List.take i (List.drop 0 (irows .i32 (Y.take i)))++[_]=_;rw[htk];rfl
 ·have hie:i=at_.length:=by omega
  have e1:Y.take i=Y:=List.take_of_length_le (by omega);rw[e1]at lr ⊢;have key:List.take i (List.drop 0 (irows .i32 Y))=irows .i32 Y:=by rw[List.drop_zero,List.take_of_length_le (by omega)]
  conv=>whnf
  refine oFq (by omega) ?_;conv=>whnf
  refine⟨by show 0+i≤_;omega,?_⟩;show AV.agg [_,_,AV.sl 1 (List.take i (List.drop 0 (irows .i32 Y))) false,_]=_;rw[key]
end
section
def fitJ (sh s:List Int) (k:Nat):List Int×Bool×Int :=
 if sh=[] then (s.set k 1,true,0)
 else if (if sh.length+1=s.length then sh.take k++1 :: sh.drop k else sh).length≠s.length then ([],false,23)
 else if (if sh.length+1=s.length then sh.take k++1 :: sh.drop k else sh).take k++(if sh.length+1=s.length then sh.take k++1 :: sh.drop k else sh).drop (k+1)≠s.take k++s.drop (k+1) then ([],false,24)
 else ((if sh.length+1=s.length then sh.take k++1 :: sh.drop k else sh),false,0)
def atJ (n m I la:Nat) (one two:Bool) (i:Nat):Int :=
 if i/I % (n+m)<n then (if one then 0 else ((((i/I/(n+m))*n+i/I % (n+m))*I+i % I:Nat):Int))
 else (if two then (la:Int) else ((la+((i/I/(n+m))*m+(i/I % (n+m)-n))*I+i % I:Nat):Int))
def docJ (n:Nat) (x y:List Int) (la:Nat) (one two:Bool) (k:Nat) (idx:List Int):Int :=
 if idx.getD k 0<(n:Int) then (if one then 0 else plS 0 x idx) else (la:Int)+(if two then 0 else plS 0 y (idx.set k (idx.getD k 0-(n:Int))))
end
section
theorem CloneQ_freshA (l:List (Option (Rat×Nat))) (hb:l.length≤1000000):AC Tryz.prog 44 [.sl 3 (l.map rowX) false] (.fresh 3 (l.map rowX)):=by
 by_cases hne:l=[]
 ·subst hne;refine AC.of_sw TTok Tryz.func44 rfl (enter_of Tryz.func44 (by kernel_rfl) (by kernel_rfl)) (noid1 (slX_noid _)) (rowsX_noid _) (nbq rfl) ?_;refine SW.seqA TTok ?_;conv=>whnf
  refine SW.seq (SW.seq ?_);refine SW.regionNil (sz:=3) (rows:=([]:List (Option (Rat×Nat))).map rowX) (tight:=false) TTok _ rfl rfl rfl rfl (show Tryz.prog.underlying 30=some (.slice 45) by kernel_rfl) ?_;conv=>whnf
  refine⟨rfl,rfl,by decide,fun bv hbv=>?_⟩;conv=>whnf
  cases bv with
  | true =>
   refine SW.cond (t:=true) rfl (fun _=>?_) (fun h=>Bool.noConfusion h);refine SW.seqA TTok ?_;conv=>whnf
   refine SW.nil 2 3 rfl ?_;refine SW.ret ?_;exact⟨rfl,Nat.le_refl _,rfl⟩
  | false =>
   refine SW.cond (t:=false) rfl (fun h=>Bool.noConfusion h) (fun _=>?_);refine axp_sound TTok _ _ _ ?_;conv=>whnf
   refine axp_sound TTok _ _ _ ?_;conv=>whnf
   refine⟨⟨Nat.le_refl _,by show 0*56≤140737488355328;decide⟩,?_⟩;conv=>whnf
   exact⟨rfl,Nat.le_refl _,rfl⟩
 ·exact CloneQ_fresh l hne hb
section
variable (sh:List Int) (ch:Bool) (tx:List Int) (ns:List (Option (Rat×Nat)))
theorem Rats_freshA (h:ns.length≤1000000):AC Tryz.prog 114 [AA sh ch tx ns true] (.fresh 3 (ns.map rowX)):=by
 have hC:=CloneQ_freshA ns h;refine AC.of_body TTok Tryz.func114 rfl (enter_of Tryz.func114 (by kernel_rfl) (by kernel_rfl)) (noid1 (AA_noid _ _ _ _ _)) (rowsX_noid _) (nbq rfl) ?_;unfold AA;conv=>whnf
 refine⟨_,hC,?_⟩;conv=>whnf
 refine⟨rfl,by show 0+_≤_;omega,?_⟩;show (ns.map rowX).take (ns.map rowX).length=_;rw[List.take_length]
end
theorem None_ok (c:Bool):AC Tryz.prog 70 [.val (.bool c)] (.pure (AA [0] c [] [] true)):=by
 refine AC.le_res (?_:AC Tryz.prog 70 _ (.pure (.agg [.sl 1 (irows .i64 [0]) false,.val (.bool c),.sl 0 [] true,.sl 0 [] true,.val (.bool true)]))) (le_agg5 (.refl _) (.refl _) (le_nil 1) (le_nil 3) (.refl _)) (AA_noid _ _ _ _ _);refine AC.of_body TTok Tryz.func70 rfl (enter_of Tryz.func70 (by kernel_rfl) (by kernel_rfl)) (noid1 (.val _)) (.agg _ (noid5 (noid_sl _ _ _) (.val _) (.sl _ _ _ (fun r hr=>nomatch hr)) (.sl _ _ _ (fun r hr=>nomatch hr)) (.val _))) (nbq rfl) ?_;conv=>whnf
 exact⟨Nat.le_refl _,rfl⟩
theorem vS_single (n:Nat) (h:n≤4096):vS [(n:Int)]∧cntI [(n:Int)]=(n:Int):=by
 have hv:vS [(n:Int)]:=⟨by show 1≤8;omega,fun d hd=>by rw[List.mem_singleton.1 hd];omega,by show 1*max 1 (n:Int)≤4096;omega⟩;refine⟨hv,?_⟩;rw[cnt_pr hv.2.1];show (((n:Int).toNat*1:Nat):Int)=_;omega
end
section
abbrev El:=Bool×Int×Rat
def numE (q:Rat):El:=(false,0,q)
def pairE (c most:Int) (x y:El):Rat×Int:=pairV c x.1 y.1 x.2.1 y.2.1 x.2.2 y.2.2 most
def foldE (c most:Int):List El→El×Int
 | []=>(numE 0,0)
 | x :: l=>match l with
  | []=>(x,0)
  | _ :: _=>if (foldE c most l).2≠0 then (numE 0,(foldE c most l).2)
   else if (pairE c most x (foldE c most l).1).2≠0 then (numE 0,(pairE c most x (foldE c most l).1).2) else (numE (pairE c most x (foldE c most l).1).1,0)
theorem foldE_one (c most:Int) (x:El):foldE c most [x]=(x,0):=by unfold foldE;rfl
theorem foldE_cons (c most:Int) (x:El) {l:List El} (hl:l≠[]):foldE c most (x :: l)=if (foldE c most l).2≠0 then (numE 0,(foldE c most l).2)
   else if (pairE c most x (foldE c most l).1).2≠0 then (numE 0,(pairE c most x (foldE c most l).1).2) else (numE (pairE c most x (foldE c most l).1).1,0):=by
 cases l with
 | nil=>exact absurd rfl hl
 | cons y l=>rw[foldE]
def elA (c:Bool) (tx:List Int) (qs:List Rat) (i:Nat):El:=(c,tx.getD i 0,qs.getD i 0)
def lineE (c:Bool) (tx:List Int) (qs:List Rat) (t n I r:Nat):List El:=(List.range t).map fun i=>elA c tx qs ((r/I*n+i)*I+r % I)
theorem lineE_len (c:Bool) (tx:List Int) (qs:List Rat) (t n I r:Nat):(lineE c tx qs t n I r).length=t:=by unfold lineE;rw[List.length_map,List.length_range]
def fst0:List Int→Int
 | []=>0
 | e :: l=>if e≠0 then e else fst0 l
def rowsE (c most:Int) (L:List (List El)) (i:Nat):Int:=fst0 (L.map fun l=>(foldE c most (l.drop i)).2)
def redE (c most:Int) (L:List (List El)) (n:Nat):Int:=fst0 ((List.range (n-1)).reverse.map (rowsE c most L))
theorem fst0_zero {l:List Int} (h:fst0 l=0):∀e∈l,e=0:=by
 induction l with
 | nil=>intro e he;exact nomatch he
 | cons a l ih =>
  unfold fst0 at h;by_cases ha:a≠0
  ·rw[if_pos ha]at h;exact absurd h ha
  ·rw[if_neg ha]at h;intro e he;rcases List.mem_cons.1 he with rfl | he
   ·exact Decidable.byContradiction ha
   ·exact ih h e he
theorem fst0_of {l:List Int} (h:∀e∈l,e=0):fst0 l=0:=by
 induction l with
 | nil=>rfl
 | cons a l ih =>
  unfold fst0;rw[if_neg (fun ha=>ha (h a List.mem_cons_self))];exact ih fun e he=>h e (List.mem_cons_of_mem _ he)
theorem fst0_at {l:List Int} {i:Nat} (hi:i<l.length) (hz:∀e∈l.take i,e=0) (hne:l[i]≠0):fst0 l=l[i]:=by
 induction l generalizing i with
 | nil=>exact absurd hi (Nat.not_lt_zero _)
 | cons a l ih =>
  unfold fst0;cases i with
  | zero=>rw[if_pos (by exact hne)];rfl
  | succ i =>
   have ha:a=0:=hz a (by simp);rw[if_neg (fun h=>h ha)];exact ih (by simpa using hi) (fun e he=>hz e (by simp[he])) (by simpa using hne)
def unitQ (c:Int):Option Int :=
 if c=43∨c=45∨c=124∨c=60∨c=62∨c=8800∨c=8744 then some 0
 else if c=215∨c=247∨c=42∨c=33∨c=8804∨c=61∨c=8805∨c=8743 then some 1 else none
theorem redE_from (c most:Int) (L:List (List El)) (n i:Nat) (hi:i+1<n) (hz:∀j,i<j→j<n→rowsE c most L j=0) (hne:rowsE c most L i≠0):redE c most L n=rowsE c most L i:=by
 have key:(List.range (n-1)).reverse[n-2-i]?=some i:=by
  rw[List.getElem?_reverse (by rw[List.length_range];omega),List.length_range,List.getElem?_range (by omega)];congr 1;omega
 have hlen:n-2-i<((List.range (n-1)).reverse.map (rowsE c most L)).length:=by rw[List.length_map,List.length_reverse,List.length_range];omega
 have hat:((List.range (n-1)).reverse.map (rowsE c most L))[n-2-i]=rowsE c most L i:=by
  have:((List.range (n-1)).reverse.map (rowsE c most L))[n-2-i]?=some (rowsE c most L i):=by rw[List.getElem?_map,key];rfl
  rw[List.getElem?_eq_getElem hlen]at this;exact Option.some.inj this
 unfold redE;rw[fst0_at hlen (fun e he=>?_) (by rw[hat];exact hne),hat];rw[←List.map_take]at he;obtain⟨j,hj,rfl⟩:=List.mem_map.1 he;obtain⟨k,hk,hkj⟩:=List.getElem_of_mem hj;rw[List.length_take,List.length_reverse,List.length_range]at hk;rw[List.getElem_take,List.getElem_reverse,List.getElem_range,List.length_range]at hkj;exact hz j (by omega) (by omega)
theorem redE_zero (c most:Int) (L:List (List El)) (n:Nat) (hz:∀j,j+1<n→rowsE c most L j=0):redE c most L n=0:=by
 refine fst0_of fun e he=>?_;obtain⟨j,hj,rfl⟩:=List.mem_map.1 he;have:=List.mem_range.1 (List.mem_reverse.1 hj);exact hz j (by omega)
theorem firstE_fst0 (l:List (Rat×Int)):firstE l=fst0 (l.map (·.2)):=by
 induction l with
 | nil=>rfl
 | cons x l ih =>
  show (if x.2=0 then firstE l else x.2)=(if x.2≠0 then x.2 else fst0 (l.map (·.2)));by_cases h:x.2=0
  ·rw[if_pos h,if_neg (fun h'=>h' h),ih]
  ·rw[if_neg h,if_pos h]
theorem lineE_drop (c:Bool) (tx:List Int) (qs:List Rat) (t n I r i:Nat) (hi:i<t):(lineE c tx qs t n I r).drop i=elA c tx qs ((r/I*n+i)*I+r % I) :: (lineE c tx qs t n I r).drop (i+1):=by
 have hlen:i<(lineE c tx qs t n I r).length:=by rw[lineE_len];exact hi
 rw[List.drop_eq_getElem_cons hlen];congr 1;have h:(lineE c tx qs t n I r)[i]?=some (elA c tx qs ((r/I*n+i)*I+r % I)):=by
  unfold lineE;rw[List.getElem?_map,List.getElem?_range hi];rfl
 rw[List.getElem?_eq_getElem hlen]at h;exact Option.some.inj h
theorem lineE_last (c most:Int) (ch:Bool) (tx:List Int) (qs:List Rat) (t n I r:Nat) (hn:0<t):foldE c most ((lineE ch tx qs t n I r).drop (t-1))=(elA ch tx qs ((r/I*n+(t-1))*I+r % I),0):=by
 rw[lineE_drop _ _ _ _ _ _ _ _ (by omega),show (lineE ch tx qs t n I r).drop (t-1+1)=[] from List.drop_of_length_le (by rw[lineE_len];omega),foldE_one]
theorem drop_ne {α:Type} {l:List α} {i:Nat} (h:i<l.length):l.drop i≠[]:=fun e=>by
 have:=congrArg List.length e;rw[List.length_drop,List.length_nil]at this;omega
def rowsL (c:Bool) (tx:List Int) (qs:List Rat) (t n I R:Nat):List (List El):=(List.range R).map (lineE c tx qs t n I)
theorem rows_step (c most:Int) (ch:Bool) (tx:List Int) (qs:List Rat) (t n I R i:Nat) (hi:i+1<t) (hz:rowsE c most (rowsL ch tx qs t n I R) (i+1)=0) :
  rowsE c most (rowsL ch tx qs t n I R) i=firstE ((List.range R).map fun r=>pairE c most (elA ch tx qs ((r/I*n+i)*I+r % I)) (foldE c most ((lineE ch tx qs t n I r).drop (i+1))).1) ∧
  (rowsE c most (rowsL ch tx qs t n I R) i=0→∀r,r<R→(foldE c most ((lineE ch tx qs t n I r).drop i))=(numE (pairE c most (elA ch tx qs ((r/I*n+i)*I+r % I)) (foldE c most ((lineE ch tx qs t n I r).drop (i+1))).1).1,0)):=by
 have hz':∀r,r<R→(foldE c most ((lineE ch tx qs t n I r).drop (i+1))).2=0:=fun r hr=>by
  refine fst0_zero hz _ ?_;unfold rowsL;rw[List.map_map];exact List.mem_map.2 ⟨r,List.mem_range.2 hr,rfl⟩
 have hst:∀r,r<R→foldE c most ((lineE ch tx qs t n I r).drop i)=if (pairE c most (elA ch tx qs ((r/I*n+i)*I+r % I)) (foldE c most ((lineE ch tx qs t n I r).drop (i+1))).1).2≠0 then (numE 0,(pairE c most (elA ch tx qs ((r/I*n+i)*I+r % I)) (foldE c most ((lineE ch tx qs t n I r).drop (i+1))).1).2) else (numE (pairE c most (elA ch tx qs ((r/I*n+i)*I+r % I)) (foldE c most ((lineE ch tx qs t n I r).drop (i+1))).1).1,0):=fun r hr=>by
  rw[lineE_drop _ _ _ _ _ _ _ _ (by omega),foldE_cons _ _ _ (drop_ne (by rw[lineE_len];omega)),if_neg (fun h=>h (hz' r hr))]
 have hE:rowsE c most (rowsL ch tx qs t n I R) i=firstE ((List.range R).map fun r=>pairE c most (elA ch tx qs ((r/I*n+i)*I+r % I)) (foldE c most ((lineE ch tx qs t n I r).drop (i+1))).1):=by
  rw[firstE_fst0];unfold rowsE rowsL;rw[List.map_map,List.map_map];congr 1;refine List.map_congr_left fun r hr=>?_;have hr:=List.mem_range.1 hr;show (foldE c most ((lineE ch tx qs t n I r).drop i)).2=(pairE c most (elA ch tx qs ((r/I*n+i)*I+r % I)) (foldE c most ((lineE ch tx qs t n I r).drop (i+1))).1).2;rw[hst r hr];split
  ·rfl
  ·rename_i h;exact (Decidable.byContradiction h).symm
 refine⟨hE,fun h0 r hr=>?_⟩;rw[hE,firstE_fst0]at h0;have:=fst0_zero h0 _ (List.mem_map.2 ⟨_,List.mem_map.2 ⟨r,List.mem_range.2 hr,rfl⟩,rfl⟩);rw[hst r hr,if_neg (fun h=>h this)]
theorem rows_last (c most:Int) (ch:Bool) (tx:List Int) (qs:List Rat) (t n I R:Nat) (hn:0<t):rowsE c most (rowsL ch tx qs t n I R) (t-1)=0:=by
 refine fst0_of fun e he=>?_;unfold rowsL at he;rw[List.map_map]at he;obtain⟨r,_,rfl⟩:=List.mem_map.1 he;show (foldE c most ((lineE ch tx qs t n I r).drop (t-1))).2=0;rw[lineE_last _ _ _ _ _ _ _ _ _ hn]
theorem two_szm {c:Int} {p q:Rat} {most:Int} (hm:most≤20) (h:(twoQ c p q most).2=0):Sz (twoQ c p q most).1 20:=by
 unfold twoQ at *;by_cases h1:isCmp c
 ·rw[if_pos h1];exact (tq_sz _).mono (by decide)
 ·rw[if_neg h1]at h ⊢;by_cases h2:isJdg c
  ·rw[if_pos h2];unfold judgeQ;split
   ·exact (tq_sz _).mono (by decide)
   ·exact Sz_zero.mono (by decide)
  ·rw[if_neg h2]at h ⊢;by_cases h3:¬isRec c
   ·rw[if_pos h3];exact Sz_zero.mono (by decide)
   ·rw[if_neg h3]at h ⊢;by_cases h4:(reckonQ c p q most).2≠0
    ·rw[if_pos h4]at h;exact absurd h h4
    ·rw[if_neg h4]at h ⊢;by_cases h5:most<(qLimbs (reckonQ c p q most).1.num (reckonQ c p q most).1.den:Nat)
     ·rw[if_pos h5]at h;exact absurd h (by show ¬(26:Int)=0;decide)
     ·rw[if_neg h5];unfold qLimbs at h5;exact⟨by show (limbs (reckonQ c p q most).1.num.natAbs).length≤20;omega,by show (limbs (reckonQ c p q most).1.den).length≤20;omega⟩
theorem pair_szm {c most:Int} (hm:most≤20) {x y:El} (h:(pairE c most x y).2=0):Sz (pairE c most x y).1 20:=by
 unfold pairE pairV at *;split
 ·split
  ·show Sz (if _ then 1 else 0) 20;split
   ·exact Sz_one.mono (by decide)
   ·exact Sz_zero.mono (by decide)
  ·exact Sz_zero.mono (by decide)
 ·rename_i h1;rw[if_neg h1]at h;exact two_szm hm h
def slabL (n I R i:Nat):List Int:=(List.range R).map fun r=>(((r/I*n+i)*I+r % I:Nat):Int)
theorem slabL_len (n I R i:Nat):(slabL n I R i).length=R:=by unfold slabL;rw[List.length_map,List.length_range]
theorem getT_nat (tx:List Int) {k:Nat} (h:k<tx.length):getT tx (k:Int)=tx.getD k 0:=by
 rw[getT_in h,List.getD_eq_getElem?_getD,List.getElem?_eq_getElem h];rfl
theorem getQ_nat (qs:List Rat) (k:Nat):getQ qs (k:Int)=qs.getD k 0:=by
 unfold getQ;rw[if_pos (by omega),Int.toNat_natCast]
theorem getD_map_slab {β:Type} (f:Int→β) (d:β) (n I R i r:Nat) (hr:r<R):((slabL n I R i).map f).getD r d=f (((r/I*n+i)*I+r % I:Nat):Int):=by
 unfold slabL;rw[List.getD_eq_getElem?_getD,List.getElem?_map,List.getElem?_map,List.getElem?_range hr];rfl
theorem el_slab {c:Bool} {tx:List Int} {qs:List Rat} {n I R i r:Nat} (hr:r<R) (hc:c=true→qs=[]∧(r/I*n+i)*I+r % I<tx.length) (hn:c=false→tx=[]) :
  elA c (if c then (slabL n I R i).map (getT tx) else []) (if c then [] else (slabL n I R i).map (getQ qs)) r=elA c tx qs ((r/I*n+i)*I+r % I):=by
 cases c
 ·have:=hn rfl;subst this;unfold elA;rw[if_neg Bool.false_ne_true,if_neg Bool.false_ne_true,getD_map_slab _ _ _ _ _ _ _ hr,getQ_nat];rfl
 ·obtain⟨h1,h2⟩:=hc rfl;subst h1;unfold elA;rw[if_pos rfl,if_pos rfl,getD_map_slab _ _ _ _ _ _ _ hr,getT_nat _ h2];rfl
theorem place_lt {O I n r i:Nat} (hr:r<O*I) (hi:i<n):(r/I*n+i)*I+r % I<O*(n*I):=by
 have hI:0<I:=Nat.pos_of_ne_zero fun e=>by rw[e]at hr;omega
 have h1:r/I<O:=Nat.div_lt_of_lt_mul (by rw[Nat.mul_comm];exact hr);have h2:r % I<I:=Nat.mod_lt _ hI;have h3:r/I*n+i+1≤O*n:=by
  have:(r/I+1)*n≤O*n:=Nat.mul_le_mul_right _ h1;rw[Nat.add_mul,Nat.one_mul]at this;omega
 have h4:(r/I*n+i+1)*I≤O*n*I:=Nat.mul_le_mul_right _ h3;rw[Nat.add_mul (r/I*n+i) 1 I,Nat.one_mul,Nat.mul_assoc O]at h4;omega
end
section
theorem wrap_nat' (a:Nat) (h:a<9223372036854775808):IntKind.i64.wrap (a:Int)=(a:Int):=IntWalk.i64_in _ (by omega)
theorem place_wrap (o n K I j q:Nat) (h1:o*n+K≤q) (h2:q*I+j≤5000) (hI:0<I) :
  IntKind.i64.wrap (IntKind.i64.wrap (IntKind.i64.wrap (IntKind.i64.wrap ((o:Int)*(n:Int))+(K:Int))*(I:Int))+(j:Int))=(((o*n+K)*I+j:Nat):Int):=by
 have a1:(o*n+K)*I≤q*I:=Nat.mul_le_mul_right _ h1;have a2:q≤q*I:=Nat.le_mul_of_pos_right _ hI;rw[←Int.natCast_mul,wrap_nat' _ (by omega),←Int.natCast_add,wrap_nat' _ (by omega),←Int.natCast_mul,wrap_nat' _ (by omega),←Int.natCast_add,wrap_nat' _ (by omega)]
theorem axis_split {s:List Int} {k:Nat} (hk:k<s.length) (hv:vS s):∃ n:Nat,s[k]=(n:Int)∧s=s.take k++(n:Int) :: s.drop (k+1)∧vS (s.take k++s.drop (k+1))∧pr s=pr (s.take k)*(n*pr (s.drop (k+1)))∧pr (s.take k++s.drop (k+1))=pr (s.take k)*pr (s.drop (k+1))∧pr s≤4096∧pr (s.take k)*pr (s.drop (k+1))≤4096∧vS (s.take k)∧vS (s.drop (k+1)):=by
 have h0:=hv.2.1 _ (List.getElem_mem hk);have hs:=mid_split hk;have hn:s[k]=(s[k].toNat:Int):=(Int.toNat_of_nonneg h0).symm;have hv':=hv;rw[hs]at hv';have hr:vS (s.take k++s.drop (k+1)):=by
  rw[vS_mid]at hv';rw[vS_app];obtain⟨a1,a2,a3,a4,a5⟩:=hv';refine⟨by omega,a2,a4,?_⟩;have e0:=pm_pos (s.take k);have e1:pmI (s.drop (k+1))≤max 1 s[k]*pmI (s.drop (k+1)):=by
   have e2:=pm_pos (s.drop (k+1));have:1*pmI (s.drop (k+1))≤max 1 s[k]*pmI (s.drop (k+1)):=Int.mul_le_mul_of_nonneg_right (by omega) (by omega);rw[Int.one_mul]at this;exact this
  have e3:pmI (s.take k)*pmI (s.drop (k+1))≤pmI (s.take k)*(max 1 s[k]*pmI (s.drop (k+1))):=Int.mul_le_mul_of_nonneg_left e1 (by omega);omega
 have hp:pr s=pr (s.take k)*(s[k].toNat*pr (s.drop (k+1))):=by
  conv=>lhs;rw[hs]
  rw[pr_append];rfl
 have hpr:pr (s.take k++s.drop (k+1))=pr (s.take k)*pr (s.drop (k+1)):=pr_append _ _;refine⟨s[k].toNat,hn,by rw[←hn];exact hs,hr,hp,hpr,(vS_pr hv).2,by rw[←hpr];exact (vS_pr hr).2,(vS_parts hr).1,(vS_parts hr).2⟩
theorem kinds_c {s:List Int} {c:Bool} {a b:Nat} (hv:vS s) (h:kinds s c a b):(c=true→a=pr s∧b=0)∧(c=false→b=pr s∧a=0):=by
 have hc:=(vS_pr hv).1;unfold kinds at h;rw[hc]at h;cases c
 ·exact⟨fun h=>Bool.noConfusion h,fun _=>⟨by have:=h.1;omega,h.2⟩⟩
 ·exact⟨fun _=>⟨by have:=h.1;omega,h.2⟩,fun h=>Bool.noConfusion h⟩
set_option maxRecDepth 20000 in
theorem slab_ok (s:List Int) (k:Nat) (c:Bool) (tx:List Int) (na:List (Option (Rat×Nat))) (hk:k<s.length) (hv:vS s) (ka:kinds s c tx.length na.length) (n:Nat) (hn:s[k]=(n:Int)) (i:Nat) (hi:i<n) :
  AC Tryz.prog 90 [AA s c tx na true,.val (.int .i64 (k:Int)),.val (.int .i64 (i:Int))] (.pure (AA (s.take k++s.drop (k+1)) c
   (if c then (slabL n (pr (s.drop (k+1))) (pr (s.take k)*pr (s.drop (k+1))) i).map (getT tx) else [])
   (if c then [] else (slabL n (pr (s.drop (k+1))) (pr (s.take k)*pr (s.drop (k+1))) i).map (getX na)) true)):=by
 have h8:=hv.1;obtain⟨n',hn',_,hr,hp,hpr,p4,r4,vu,vv⟩:=axis_split hk hv;have:n'=n:=by rw[hn]at hn';omega
 subst this;have hS:=Shape_ok s c tx na (by omega);have hSp:=Split_ok s k hk hv;rw[hn]at hSp;have hWo:=Without_ok s k hk (by omega);have l2:=(kinds_c hv ka);have ltx:tx.length≤4096∧na.length≤4096:=by
  cases c
  ·have:=l2.2 rfl;omega
  ·have:=l2.1 rfl;omega
 obtain⟨O,hO⟩:∃ O,O=pr (s.take k):=⟨_,rfl⟩;obtain⟨I,hI⟩:∃ I,I=pr (s.drop (k+1)):=⟨_,rfl⟩;rw[←hO,←hI]at hp hpr r4 hSp ⊢;rw[hp]at p4;obtain⟨rest,hrest⟩:∃ rest,rest=s.take k++s.drop (k+1):=⟨_,rfl⟩;rw[←hrest]at hr hpr hWo ⊢;have lO:O≤4096:=by rw[hO];exact (vS_pr vu).2
 have lI:I≤4096:=by rw[hI];exact (vS_pr vv).2
 have ln:n'≤4096:=by have:=vS_dim hv (List.getElem_mem hk);omega
 obtain⟨Y,hY⟩:∃ Y,Y=slabL n' I (O*I) i:=⟨_,rfl⟩;rw[←hY];have lY:Y.length=O*I:=by rw[hY];exact slabL_len _ _ _ _
 have hYr:∀r (h:r<O*I),Y[r]'(by omega)=(((r/I*n'+i)*I+r % I:Nat):Int):=fun r h=>by subst hY;unfold slabL;rw[List.getElem_map,List.getElem_range]
 have hc1:cntI rest=(Y.length:Int):=by rw[(vS_pr hr).1,hpr,lY]
 have lYr:=irows_len .i64 Y;have hP:AC Tryz.prog 108 [AA s c tx na true,.sl 1 (irows .i64 rest) false,.sl 1 (irows .i64 Y) false] (.pure (.tup [AA rest c (if c then Y.map (getT tx) else []) (if c then [] else Y.map (getX na)) true,.val (.bool true)])):=by
  cases c
  ·exact PickN_ok s tx na rest Y hr hc1 (by omega)
  ·exact PickT_ok s tx na rest Y hr hc1 (by omega)
 have eP:irows .i64 Y=List.take (O*I) (List.drop 0 (irows .i64 Y)):=by rw[List.drop_zero,List.take_of_length_le (by omega)]
 rw[eP]at hP;have eOI:IntKind.i64.wrap ((O:Int)*(I:Int))=((O*I:Nat):Int):=by rw[←Int.natCast_mul,wrap_nat' _ (by omega)]
 refine AC.of_body TTok Tryz.func90 rfl (enter_of Tryz.func90 (by kernel_rfl) (by kernel_rfl)) (noid3 (AA_noid _ _ _ _ _) (.val _) (.val _)) (AA_noid _ _ _ _ _) (nbq rfl) ?_;unfold AA at *;conv=>whnf
 refine⟨_,hS,?_⟩;conv=>whnf
 refine⟨_,hSp,?_⟩;conv=>whnf
 refine⟨⟨by decide,by rw[eOI];omega,by rw[eOI];show ((O*I:Nat):Int)*((8:Nat):Int)≤140737488355328;omega⟩,?_⟩;conv=>whnf
 refine SW.loopM TTok (fun o:Nat=>[(1,.val (.int .i64 (k:Int))),(2,.val (.int .i64 (i:Int))),(3,.lp 0 0),(6,.lp 8 0),(7,.sl 1 (irows .i64 s) false),(9,.val (.int .i64 (n':Int))),(10,.val (.int .i64 (I:Int))),(12,.own 160 0 (o*I)),(31,.val (.int .i64 (O:Int))),(32,.val (.int .i64 (o:Int)))])
  (fun o=>[(0,.cells 5 [[.sl 1 (irows .i64 s) false,.val (.bool c),.sl 1 (irows .i32 tx) false,.sl 3 (na.map rowX) false,.val (.bool true)]]),(8,.cells 5 [[.sl 0 [] true,.val (.bool false),.sl 0 [] true,.sl 0 [] true,.val (.bool false)]]),(160,.cells 1 (irows .i64 (Y.take (o*I))))]) 192 63 rfl (fun o=>O-o) (fun o=>o≤O) 0 [] (Nat.zero_le _)
  ⟨q2r,q2r,q2r,q2r,q2r,q2r,q2r,⟨ownE rfl (Nat.zero_mul I).symm,rfl⟩,q2r,q2r,trivial⟩ ⟨q3r,q3r,⟨rfl,.inl ⟨celE (by rw[Nat.zero_mul];rfl),irows_noid _ _⟩⟩,trivial⟩ rfl ?_
 intro o hJ;have ho:o≤O:=hJ;clear hJ;by_cases hlt:o<O
 ·have eO:IntKind.i64.wrap ((o:Int)+1)=((o+1:Nat):Int):=by rw[IntWalk.i64_in _ (by omega)];omega
  conv=>whnf
  refine oTq (by omega) ?_;conv=>whnf
  refine SW.loopM TTok (fun j:Nat=>[(1,.val (.int .i64 (k:Int))),(2,.val (.int .i64 (i:Int))),(3,.lp 0 0),(6,.lp 8 0),(7,.sl 1 (irows .i64 s) false),(9,.val (.int .i64 (n':Int))),(10,.val (.int .i64 (I:Int))),(12,.own 160 0 (o*I+j)),(13,.val (.int .i64 (o:Int))),(31,.val (.int .i64 (O:Int))),(32,.val (.int .i64 (o:Int))),(35,.val (.int .i64 (I:Int))),(36,.val (.int .i64 (j:Int)))])
   (fun j=>[(0,.cells 5 [[.sl 1 (irows .i64 s) false,.val (.bool c),.sl 1 (irows .i32 tx) false,.sl 3 (na.map rowX) false,.val (.bool true)]]),(8,.cells 5 [[.sl 0 [] true,.val (.bool false),.sl 0 [] true,.sl 0 [] true,.val (.bool false)]]),(160,.cells 1 (irows .i64 (Y.take (o*I+j))))]) 232 63 rfl (fun j=>I-j) (fun j=>j≤I) 0 [] (Nat.zero_le _)
   ⟨q2r,q2r,q2r,q2r,q2r,q2r,q2r,q2r,q2r,q2r,q2r,q2r,q2r,trivial⟩ ⟨q3r,q3r,⟨rfl,.inl ⟨rfl,irows_noid _ _⟩⟩,trivial⟩ rfl ?_
  intro j hJ;have hj:j≤I:=hJ;clear hJ;have hoI:(o+1)*I≤O*I:=Nat.mul_le_mul_right _ hlt;rw[Nat.add_mul,Nat.one_mul]at hoI;have lr:(irows .i64 (Y.take (o*I+j))).length=o*I+j:=by rw[irows_len,List.length_take];omega
  by_cases hjt:j<I
  ·have eJ:IntKind.i64.wrap ((j:Int)+1)=((j+1:Nat):Int):=by rw[IntWalk.i64_in _ (by omega)];omega
   have hr':o*I+j<O*I:=by omega
   have hpl:=place_lt (O:=O) (I:=I) (n:=n') (r:=o*I+j) (i:=i) hr' hi;have d1:(o*I+j)/I=o:=by rw[Nat.mul_comm,Nat.mul_add_div (by omega),Nat.div_eq_of_lt hjt,Nat.add_zero]
   have d2:(o*I+j) % I=j:=by rw[Nat.mul_comm,Nat.mul_add_mod,Nat.mod_eq_of_lt hjt]
   have hYj:=hYr _ hr';rw[d1,d2]at hYj hpl;have hsn:irows .i64 (Y.take (o*I+j))++[[.val (.int .i64 (((o*n'+i)*I+j:Nat):Int))]]=irows .i64 (Y.take (o*I+(j+1))):=by
    rw[show o*I+(j+1)=o*I+j+1 by omega,take_snoc (show o*I+j<Y.length by omega),hYj,←irows_append];rfl
   have htk:List.take (o*I+j) (List.drop 0 (irows .i64 (Y.take (o*I+j))))=irows .i64 (Y.take (o*I+j)):=by rw[List.drop_zero,List.take_of_length_le (by omega)]
   have P1:=place_wrap o n' i I j (o*n'+i) (Nat.le_refl _) (by omega) (by omega);conv=>whnf
   refine oTq (by omega) ?_;conv=>whnf
   refine⟨⟨by show 0+(o*I+j)≤_;omega,by show (o*I+j+1)*8≤140737488355328;omega,nbq rfl⟩,?_⟩;conv=>whnf
   refine⟨j+1,[(160,344)],(by show I-(j+1)<I-j;omega),hjt,⟨q2r,q2r,q2r,q2r,q2r,q2r,q2r,q2r,q2r,q2r,q2r,q2r,⟨valI eJ,rfl⟩,trivial⟩,⟨q3r,q3r,⟨rfl,.inl ⟨celE ?_,irows_noid _ _⟩⟩,trivial⟩,rfl⟩;rw[←hsn];show List.take (o*I+j) (List.drop 0 (irows .i64 (Y.take (o*I+j))))++[[.val (.int .i64 (IntKind.i64.wrap (IntKind.i64.wrap (IntKind.i64.wrap (IntKind.i64.wrap ((o:Int)*(n':Int))+(i:Int))*(I:Int))+(j:Int))))]]=_;rw[htk,P1]
  ·have hje:j=I:=by omega
   conv=>whnf
   refine oFq (by omega) ?_;conv=>whnf
   exact⟨o+1,[],(by show O-(o+1)<O-o;omega),hlt,⟨q2r,q2r,q2r,q2r,q2r,q2r,q2r,⟨ownE rfl (by rw[hje,Nat.add_mul,Nat.one_mul]),rfl⟩,q2r,⟨valI eO,rfl⟩,trivial⟩,⟨q3r,q3r,⟨rfl,.inl ⟨celE (by rw[hje,Nat.add_mul,Nat.one_mul]),irows_noid _ _⟩⟩,trivial⟩,rfl⟩
 ·have hoe:o=O:=by omega
  subst hoe;have e1:Y.take (o*I)=Y:=List.take_of_length_le (by omega);rw[e1];conv=>whnf
  refine oFq (by omega) ?_;conv=>whnf
  refine⟨_,hWo,?_⟩;conv=>whnf
  refine⟨by show 0+o*I≤_;omega,_,hP,?_⟩;conv=>whnf
  refine⟨by kernel_rfl,?_⟩;(conv=>whnf);exact rfl
end
section
def resF (sh:List Int) (ch:Bool) (tx:List Int) (na:List (Option (Rat×Nat))) (E:Int):AV:=if E=0 then .tup [AA sh ch tx na true,.val (.int .i64 0)] else .tup [AA [] false [] [] false,.val (.int .i64 E)]
theorem resF_noid (sh:List Int) (ch:Bool) (tx:List Int) (na:List (Option (Rat×Nat))) (E:Int):NoId (resF sh ch tx na E):=by
 unfold resF;split
 ·exact .tup _ (noid2 (AA_noid _ _ _ _ _) (.val _))
 ·exact .tup _ (noid2 (AA_noid _ _ _ _ _) (.val _))
def StF (c most:Int) (rest:List Int) (ch:Bool) (tx:List Int) (qs:List Rat) (t n I R i:Nat) (x:Bool×List Int×List (Option (Rat×Nat))):Prop :=
 x.1=(ch&&decide (i+1=t))∧kinds rest x.1 x.2.1.length x.2.2.length∧(∀o∈x.2.2,okX o)∧(∀q∈x.2.2.map valX,Sz q 20)∧∀r,r<R→elA x.1 x.2.1 (x.2.2.map valX) r=(foldE c most ((lineE ch tx qs t n I r).drop i)).1
def slabX (ch:Bool) (tx:List Int) (na:List (Option (Rat×Nat))) (n I R i:Nat):Bool×List Int×List (Option (Rat×Nat)) :=
 (ch,if ch then (slabL n I R i).map (getT tx) else [],if ch then [] else (slabL n I R i).map (getX na))
theorem getX_map (na:List (Option (Rat×Nat))) (L:List Int):(L.map (getX na)).map valX=L.map (getQ (na.map valX)):=by
 rw[List.map_map];exact List.map_congr_left fun k _=>getX_val na k
theorem ifnil {c:Bool} {α β:Type} (f:List α→List β) (hf:f []=[]) (l:List α):f (if c then [] else l)=if c then [] else f l:=by
 cases c<;>simp[hf]
theorem slab_el (ch:Bool) (tx:List Int) (na:List (Option (Rat×Nat))) (qs:List Rat) (na1:na.map valX=qs) (n I O:Nat) (k1:ch=true→na=[]∧tx.length=O*(n*I)) (k2:ch=false→tx=[]∧na.length=O*(n*I)) (i:Nat) (hi:i<n) (r:Nat) (hrr:r<O*I):elA ch (slabX ch tx na n I (O*I) i).2.1 ((slabX ch tx na n I (O*I) i).2.2.map valX) r=elA ch tx qs ((r/I*n+i)*I+r % I):=by
 have e:(slabX ch tx na n I (O*I) i).2.2.map valX=if ch then [] else (slabL n I (O*I) i).map (getQ qs):=by
  unfold slabX;show List.map valX (if ch then [] else (slabL n I (O*I) i).map (getX na))=_;rw[ifnil (List.map valX) rfl,getX_map,na1]
 rw[e];unfold slabX;refine el_slab hrr (fun h=>?_) (fun h=>(k2 h).1);obtain⟨g1,g2⟩:=k1 h;have:=place_lt (n:=n) hrr hi;exact⟨by rw[←na1,g1];rfl,by omega⟩
section
variable (c most:Int) (hc:isTwo c) (hm:most≤200) (ch:Bool) (tx:List Int) (na:List (Option (Rat×Nat))) (qs:List Rat) (na1:na.map valX=qs) (oa:∀o∈na,okX o) (hQ:∀q∈qs,Sz q 20) (rest:List Int) (hr:vS rest) (n I O:Nat)
 (hR:pr rest=O*I) (h5:O*I≤500) (k1:ch=true→na=[]∧tx.length=O*(n*I)) (k2:ch=false→tx=[]∧na.length=O*(n*I))
include na1 oa hQ hr hR k1 k2
theorem slab_kinds (i:Nat):kinds rest ch (slabX ch tx na n I (O*I) i).2.1.length (slabX ch tx na n I (O*I) i).2.2.length∧(∀o∈(slabX ch tx na n I (O*I) i).2.2,okX o)∧∀q∈(slabX ch tx na n I (O*I) i).2.2.map valX,Sz q 20:=by
 have hcn:=(vS_pr hr).1;rw[hR]at hcn;unfold slabX;cases ch
 ·refine⟨?_,?_,?_⟩
  ·show ((((slabL n I (O*I) i).map (getX na)).length:Nat):Int)=cntI rest∧(0=0);rw[List.length_map,slabL_len,hcn];exact q2r
  ·intro o ho;have ho:o∈(slabL n I (O*I) i).map (getX na):=ho;obtain⟨k,_,rfl⟩:=List.mem_map.1 ho;exact getX_ok oa k
  ·intro q hq;have hq:q∈((slabL n I (O*I) i).map (getX na)).map valX:=hq;rw[getX_map,na1]at hq;obtain⟨k,_,rfl⟩:=List.mem_map.1 hq;unfold getQ;split
   ·exact getD_sz (by decide) hQ _
   ·exact Sz_zero.mono (by decide)
 ·refine⟨?_,(fun o ho=>nomatch ho),(fun q hq=>nomatch hq)⟩;show ((((slabL n I (O*I) i).map (getT tx)).length:Nat):Int)=cntI rest∧(0=0);rw[List.length_map,slabL_len,hcn];exact q2r
theorem StF_base (t:Nat) (h0:0<t) (ht:t≤n):StF c most rest ch tx qs t n I (O*I) (t-1) (slabX ch tx na n I (O*I) (t-1)):=by
 obtain⟨g1,g2,g3⟩:=slab_kinds ch tx na qs na1 oa hQ rest hr n I O hR k1 k2 (t-1);refine⟨?_,g1,g2,g3,fun r hrr=>?_⟩
 ·show ch=_;rw[decide_eq_true (by omega),Bool.and_true]
 ·rw[lineE_last _ _ _ _ _ _ _ _ _ h0];exact slab_el ch tx na qs na1 n I O k1 k2 (t-1) (by omega) r hrr
include hc hm h5
theorem StF_step (t:Nat) (ht:t≤n) (hb:∀i r,r<O*I→(pairE c most (elA ch tx qs ((r/I*n+i)*I+r % I)) (foldE c most ((lineE ch tx qs t n I r).drop (i+1))).1).2=0→Sz (pairE c most (elA ch tx qs ((r/I*n+i)*I+r % I)) (foldE c most ((lineE ch tx qs t n I r).drop (i+1))).1).1 20) (i:Nat) (hi:i+1<t) (x:Bool×List Int×List (Option (Rat×Nat))) (hx:StF c most rest ch tx qs t n I (O*I) (i+1) x) (hz:rowsE c most (rowsL ch tx qs t n I (O*I)) (i+1)=0) :
  ∃ l:List (Option (Rat×Nat)),(rowsE c most (rowsL ch tx qs t n I (O*I)) i=0→StF c most rest ch tx qs t n I (O*I) i (false,[],l)) ∧
   AC Tryz.prog 66 [.val (.int .i32 c),AA rest ch (slabX ch tx na n I (O*I) i).2.1 (slabX ch tx na n I (O*I) i).2.2 true,AA rest x.1 x.2.1 x.2.2 true,.val (.int .i64 most)] (.pure (resA rest (rowsE c most (rowsL ch tx qs t n I (O*I)) i) l)):=by
 obtain⟨x1,x2,x3,x4,x5⟩:=hx;obtain⟨g1,g2,g3⟩:=slab_kinds ch tx na qs na1 oa hQ rest hr n I O hR k1 k2 i;have hel:=slab_el ch tx na qs na1 n I O k1 k2 i (by omega);obtain⟨hs1,hs2⟩:=rows_step c most ch tx qs t n I (O*I) i hi hz;generalize slabX ch tx na n I (O*I) i=y at *;obtain⟨_,ty,ny⟩:=y;obtain⟨cb,tb,nb⟩:=x;have hcn:=(vS_pr hr).1;have la:=(kinds_len g1).1;have lb:=(kinds_len x2).1;rw[hcn,hR]at la lb;have la':ty.length+ny.length=O*I:=by
  have la:((ty.length+ny.length:Nat):Int)=((O*I:Nat):Int):=la;omega
 have lb':tb.length+nb.length=O*I:=by
  have lb:((tb.length+nb.length:Nat):Int)=((O*I:Nat):Int):=lb;omega
 have hT:=PTwoN_ok c rest rest ch cb ty tb ny nb g2 x3 (ny.map valX) (nb.map valX) rfl rfl most (by omega) hr hr (by rw[List.length_map];exact g1) (by rw[List.length_map];exact x2) (by omega) (by omega) (by rw[List.length_map];omega) (by rw[List.length_map];omega) g3 x4;have fit:fitS rest rest (ty.length+(ny.map valX).length) (tb.length+(nb.map valX).length)=(rest,false,false,0):=if_pos rfl;have hE:twoE c rest rest ch cb ty tb (ny.map valX) (nb.map valX) most=rowsE c most (rowsL ch tx qs t n I (O*I)) i:=by
  unfold twoE;rw[if_pos hc,fit,if_neg (fun h=>h rfl),hs1];show firstE ((List.range (cntI rest).toNat).map _)=_;rw[hcn,hR,Int.toNat_natCast];congr 1;refine List.map_congr_left fun r hrr=>?_;have hrr:=List.mem_range.1 hrr;rw[←x5 r hrr,←hel r hrr];rfl
 have hV:twoV c rest rest ch cb ty tb (ny.map valX) (nb.map valX) most=(List.range (O*I)).map fun r=>(pairE c most (elA ch tx qs ((r/I*n+i)*I+r % I)) (foldE c most ((lineE ch tx qs t n I r).drop (i+1))).1).1:=by
  unfold twoV;rw[fit];show (List.range (cntI rest).toNat).map _=_;rw[hcn,hR,Int.toNat_natCast];refine List.map_congr_left fun r hrr=>?_;have hrr:=List.mem_range.1 hrr;rw[←x5 r hrr,←hel r hrr];rfl
 obtain⟨l,w1,w2,w3,w4⟩:=hT;rw[fit,hE]at w4;rw[hE,hV]at w1;refine⟨l,fun h0=>?_,w4⟩;have w1:=w1 h0;have ll:l.length=O*I:=by
  have:=congrArg List.length w1;rw[List.length_map,List.length_map,List.length_range]at this;exact this
 have hs2:=hs2 h0;refine⟨?_,?_,w2,?_,fun r hrr=>?_⟩
 ·show false=_;rw[decide_eq_false (by omega),Bool.and_false]
 ·show ((l.length:Nat):Int)=cntI rest∧(0=0);rw[hcn,hR,ll];exact q2r
 ·intro q hq;have hq:q∈l.map valX:=hq;rw[w1]at hq;obtain⟨r,hrr,rfl⟩:=List.mem_map.1 hq;have hrr:=List.mem_range.1 hrr;refine hb i r hrr ?_;have:=hs1;rw[h0]at this;have h2:=fst0_zero ((firstE_fst0 _).symm.trans this.symm) _ (List.mem_map.2 ⟨_,List.mem_map.2 ⟨r,List.mem_range.2 hrr,rfl⟩,rfl⟩);exact h2
 ·rw[hs2 r hrr];show elA false [] (l.map valX) r=_;rw[w1];have hg:((List.range (O*I)).map fun r=>(pairE c most (elA ch tx qs ((r/I*n+i)*I+r % I)) (foldE c most ((lineE ch tx qs t n I r).drop (i+1))).1).1).getD r 0=(pairE c most (elA ch tx qs ((r/I*n+i)*I+r % I)) (foldE c most ((lineE ch tx qs t n I r).drop (i+1))).1).1:=by
   rw[List.getD_eq_getElem?_getD,List.getElem?_map,List.getElem?_range hrr];rfl
  unfold elA numE at *;rw[hg];rfl
theorem StF_chain (t:Nat) (h0:0<t) (ht:t≤n) (hb:∀i r,r<O*I→(pairE c most (elA ch tx qs ((r/I*n+i)*I+r % I)) (foldE c most ((lineE ch tx qs t n I r).drop (i+1))).1).2=0→Sz (pairE c most (elA ch tx qs ((r/I*n+i)*I+r % I)) (foldE c most ((lineE ch tx qs t n I r).drop (i+1))).1).1 20):∀m,m<t→∃ f:Nat→Bool×List Int×List (Option (Rat×Nat)),f (t-1)=slabX ch tx na n I (O*I) (t-1) ∧
  (∀i,t-1-m≤i→i<t→(∀j,i≤j→j<t→rowsE c most (rowsL ch tx qs t n I (O*I)) j=0)→StF c most rest ch tx qs t n I (O*I) i (f i)) ∧
  (∀i,t-1-m≤i→i+1<t→(∀j,i<j→j<t→rowsE c most (rowsL ch tx qs t n I (O*I)) j=0)→(f i).1=false∧(f i).2.1=[] ∧
   AC Tryz.prog 66 [.val (.int .i32 c),AA rest ch (slabX ch tx na n I (O*I) i).2.1 (slabX ch tx na n I (O*I) i).2.2 true,AA rest (f (i+1)).1 (f (i+1)).2.1 (f (i+1)).2.2 true,.val (.int .i64 most)] (.pure (resA rest (rowsE c most (rowsL ch tx qs t n I (O*I)) i) (f i).2.2))):=by
 intro m;induction m with
 | zero =>
  intro hmn;refine⟨fun _=>slabX ch tx na n I (O*I) (t-1),rfl,fun i h1 h2 _=>?_,fun i h1 h2=>absurd h2 (by omega)⟩;have:i=t-1:=by omega
  subst this;exact StF_base c most ch tx na qs na1 oa hQ rest hr n I O hR k1 k2 t h0 ht
 | succ m ih =>
  intro hmn;obtain⟨f,f1,f2,f3⟩:=ih (by omega);obtain⟨i0,hi0⟩:∃ i0,i0=t-1-(m+1):=⟨_,rfl⟩;by_cases hz:∀j,i0<j→j<t→rowsE c most (rowsL ch tx qs t n I (O*I)) j=0
  ·have hS:=f2 (i0+1) (by omega) (by omega) (fun j h1 h2=>hz j (by omega) h2);obtain⟨l,w1,w2⟩:=StF_step c most hc hm ch tx na qs na1 oa hQ rest hr n I O hR h5 k1 k2 t ht hb i0 (by omega) (f (i0+1)) hS (hz (i0+1) (by omega) (by omega));refine⟨fun i=>if i=i0 then (false,[],l) else f i,?_,fun i h1 h2 h3=>?_,fun i h1 h2 h3=>?_⟩
   ·show (if t-1=i0 then _ else _)=_;rw[if_neg (by omega)];exact f1
   ·by_cases hii:i=i0
    ·subst hii;show StF _ _ _ _ _ _ _ _ _ _ _ (if i=i then _ else _);rw[if_pos rfl];exact w1 (h3 i (Nat.le_refl _) h2)
    ·show StF _ _ _ _ _ _ _ _ _ _ _ (if i=i0 then _ else _);rw[if_neg hii];exact f2 i (by omega) h2 h3
   ·by_cases hii:i=i0
    ·subst hii;show (if i=i then _ else _:Bool×List Int×List (Option (Rat×Nat))).1=false∧(if i=i then _ else _:Bool×List Int×List (Option (Rat×Nat))).2.1=[]∧AC Tryz.prog 66 [_,_,AA rest (if i+1=i then _ else _:Bool×List Int×List (Option (Rat×Nat))).1 (if i+1=i then _ else _:Bool×List Int×List (Option (Rat×Nat))).2.1 (if i+1=i then _ else _:Bool×List Int×List (Option (Rat×Nat))).2.2 true,_] (.pure (resA rest _ (if i=i then _ else _:Bool×List Int×List (Option (Rat×Nat))).2.2));rw[if_pos rfl,if_neg (by omega)];exact⟨rfl,rfl,w2⟩
    ·show (if i=i0 then _ else _:Bool×List Int×List (Option (Rat×Nat))).1=false∧(if i=i0 then _ else _:Bool×List Int×List (Option (Rat×Nat))).2.1=[]∧AC Tryz.prog 66 [_,_,AA rest (if i+1=i0 then _ else _:Bool×List Int×List (Option (Rat×Nat))).1 (if i+1=i0 then _ else _:Bool×List Int×List (Option (Rat×Nat))).2.1 (if i+1=i0 then _ else _:Bool×List Int×List (Option (Rat×Nat))).2.2 true,_] (.pure (resA rest _ (if i=i0 then _ else _:Bool×List Int×List (Option (Rat×Nat))).2.2));rw[if_neg hii,if_neg (by omega)];exact f3 i (by omega) h2 h3
  ·refine⟨f,f1,fun i h1 h2 h3=>?_,fun i h1 h2 h3=>?_⟩
   ·by_cases hii:i=i0
    ·exact absurd (fun j h4 h5=>h3 j (by omega) h5) hz
    ·exact f2 i (by omega) h2 h3
   ·by_cases hii:i=i0
    ·subst hii;exact absurd h3 hz
    ·exact f3 i (by omega) h2 h3
end
end
section
theorem AZf_noid (e:Int):NoId (.tup [AZ,.val (.int .i64 e)]):=.tup _ (noid2 AZ_noid (.val _))
theorem kinds_axis {s:List Int} {k:Nat} {c:Bool} {a b:Nat} {n:Nat} (hv:vS s) (hp:pr s=pr (s.take k)*(n*pr (s.drop (k+1)))) (h:kinds s c a b) :
  (c=true→b=0∧a=pr (s.take k)*(n*pr (s.drop (k+1))))∧(c=false→a=0∧b=pr (s.take k)*(n*pr (s.drop (k+1)))):=by
 obtain⟨h1,h2⟩:=kinds_c hv h;rw[hp]at h1 h2;exact⟨fun h=>⟨(h1 h).2,(h1 h).1⟩,fun h=>⟨(h2 h).2,(h2 h).1⟩⟩
theorem run_any (c most:Int) (hc:isTwo c) (hm:most≤200) (s:List Int) (k:Nat) (ch:Bool) (tx:List Int) (na:List (Option (Rat×Nat))) (qs:List Rat) (na1:na.map valX=qs) (oa:∀o∈na,okX o) (hQ:∀q∈qs,Sz q 20)
  (hk:k<s.length) (hv:vS s) (ka:kinds s ch tx.length na.length) (n:Nat) (hn:s[k]=(n:Int)) (t:Nat) (h0:0<t) (ht:t≤n) (hb:∀i r,r<pr (s.take k)*pr (s.drop (k+1))→(pairE c most (elA ch tx qs ((r/pr (s.drop (k+1))*n+i)*pr (s.drop (k+1))+r % pr (s.drop (k+1)))) (foldE c most ((lineE ch tx qs t n (pr (s.drop (k+1))) r).drop (i+1))).1).2=0→Sz (pairE c most (elA ch tx qs ((r/pr (s.drop (k+1))*n+i)*pr (s.drop (k+1))+r % pr (s.drop (k+1)))) (foldE c most ((lineE ch tx qs t n (pr (s.drop (k+1))) r).drop (i+1))).1).1 20) (h5:pr (s.take k)*pr (s.drop (k+1))≤500) :
  ∃ x:Bool×List Int×List (Option (Rat×Nat)),(redE c most (rowsL ch tx qs t n (pr (s.drop (k+1))) (pr (s.take k)*pr (s.drop (k+1)))) t=0→StF c most (s.take k++s.drop (k+1)) ch tx qs t n (pr (s.drop (k+1))) (pr (s.take k)*pr (s.drop (k+1))) 0 x) ∧
   AC Tryz.prog 38 [.val (.int .i32 c),AA s ch tx na true,.val (.int .i64 (k:Int)),.val (.int .i64 ((t-1:Nat):Int)),.val (.int .i64 most)]
    (.pure (resF (s.take k++s.drop (k+1)) x.1 x.2.1 x.2.2 (redE c most (rowsL ch tx qs t n (pr (s.drop (k+1))) (pr (s.take k)*pr (s.drop (k+1)))) t))):=by
 obtain⟨n',hn',_,hr,hp,hpr,p4,r4,vu,vv⟩:=axis_split hk hv;have:n'=n:=by rw[hn]at hn';omega
 subst this;have ln:n'≤4096:=by have:=vS_dim hv (List.getElem_mem hk);omega
 obtain⟨k1,k2⟩:=kinds_axis hv hp ka;have hSl:=fun i hi=>slab_ok s k ch tx na hk hv ka n' hn i hi;obtain⟨O,hO⟩:∃ O,O=pr (s.take k):=⟨_,rfl⟩;obtain⟨I,hI⟩:∃ I,I=pr (s.drop (k+1)):=⟨_,rfl⟩;rw[←hO,←hI]at hp hpr r4 h5 k1 k2 hSl ⊢;rw[←hI,←hO]at hb;obtain⟨rest,hrest⟩:∃ rest,rest=s.take k++s.drop (k+1):=⟨_,rfl⟩;rw[←hrest]at hr hpr hSl ⊢;have k1:ch=true→na=[]∧tx.length=O*(n'*I):=fun h=>⟨List.length_eq_zero_iff.1 (k1 h).1,(k1 h).2⟩;have k2:ch=false→tx=[]∧na.length=O*(n'*I):=fun h=>⟨List.length_eq_zero_iff.1 (k2 h).1,(k2 h).2⟩;obtain⟨f,f1,f2,f3⟩:=StF_chain c most hc hm ch tx na qs na1 oa hQ rest hr n' I O hpr h5 k1 k2 t h0 ht hb (t-1) (by omega);have hSl:∀i,i<n'→AC Tryz.prog 90 [AA s ch tx na true,.val (.int .i64 (k:Int)),.val (.int .i64 (i:Int))] (.pure (AA rest (slabX ch tx na n' I (O*I) i).1 (slabX ch tx na n' I (O*I) i).2.1 (slabX ch tx na n' I (O*I) i).2.2 true)):=hSl
 refine⟨f 0,fun hz=>f2 0 (by omega) h0 (fun j _ hj=>?_),?_⟩
 ·by_cases hjn:j+1<t
  ·refine fst0_zero hz _ (List.mem_map.2 ⟨j,List.mem_reverse.2 (List.mem_range.2 (by omega)),rfl⟩)
  ·have:j=t-1:=by omega
   subst this;exact rows_last c most ch tx qs t n' I (O*I) h0
 obtain⟨E,hE⟩:∃ E,E=redE c most (rowsL ch tx qs t n' I (O*I)) t:=⟨_,rfl⟩;rw[←hE];obtain⟨r',hle,hno,e1,e2⟩:∃ r',AVle r' (resF rest (f 0).1 (f 0).2.1 (f 0).2.2 E)∧NoId r'∧(E=0→r' = .tup [AA rest (f 0).1 (f 0).2.1 (f 0).2.2 true,.val (.int .i64 0)])∧(E≠0→r' = .tup [AZ,.val (.int .i64 E)]):=by
  unfold resF;by_cases h:E=0
  ·rw[if_pos h];exact⟨_,.refl _,.tup _ (noid2 (AA_noid _ _ _ _ _) (.val _)),fun _=>rfl,fun h'=>absurd h h'⟩
  ·rw[if_neg h];exact⟨_,.tup2 AZ_le (.refl _),AZf_noid _,fun h'=>absurd h' h,fun _=>rfl⟩
 refine AC.le_res (?_:AC Tryz.prog 38 _ (.pure r')) hle (resF_noid _ _ _ _ _);have hlast:=hSl (t-1) (by omega);rw[←f1]at hlast;refine AC.of_body TTok Tryz.func38 rfl (enter_of Tryz.func38 (by kernel_rfl) (by kernel_rfl)) (noid5 (.val _) (AA_noid _ _ _ _ _) (.val _) (.val _) (.val _)) hno (nbq rfl) ?_;unfold AA AZ at *;conv=>whnf
 refine⟨_,hlast,?_⟩;conv=>whnf
 refine SW.loopM TTok (fun x:Nat=>[(0,.val (.int .i32 c)),(2,.val (.int .i64 (k:Int))),(4,.val (.int .i64 most)),(6,.lp 0 0),(10,.lp 8 0),(11,.val (.int .i64 0)),(12,.lp 56 0),(13,.val (.int .i64 ((x:Int)-1)))])
  (fun x=>[(0,.cells 5 [[.sl 1 (irows .i64 s) false,.val (.bool ch),.sl 1 (irows .i32 tx) false,.sl 3 (na.map rowX) false,.val (.bool true)]]),(8,.cells 5 [[.sl 0 [] true,.val (.bool false),.sl 0 [] true,.sl 0 [] true,.val (.bool false)]]),(56,.cells 5 [[.sl 1 (irows .i64 rest) false,.val (.bool (f x).1),.sl 1 (irows .i32 (f x).2.1) false,.sl 3 ((f x).2.2.map rowX) false,.val (.bool true)]])]) 96 43 rfl (fun x=>x) (fun x=>x≤t-1∧∀j,x≤j→j<t→rowsE c most (rowsL ch tx qs t n' I (O*I)) j=0) (t-1) [] ⟨Nat.le_refl _,fun j h1 h2=>by
   have:j=t-1:=by omega
   subst this;exact rows_last c most ch tx qs t n' I (O*I) h0⟩
  ⟨q2r,q2r,q2r,q2r,q2r,q2r,q2r,⟨valI (IntWalk.i64_in _ (by omega)),rfl⟩,trivial⟩ ⟨q3r,q3r,q3r,trivial⟩ rfl ?_
 intro x hJ;have hx:x≤t-1:=hJ.1;have hz:∀j,x≤j→j<t→rowsE c most (rowsL ch tx qs t n' I (O*I)) j=0:=hJ.2;clear hJ;cases x with
 | zero =>
  have hE0:E=0:=by
   rw[hE];exact redE_zero _ _ _ _ (fun j hj=>hz j (Nat.zero_le _) (by omega))
  rw[e1 hE0];(conv=>whnf);exact rfl
 | succ i =>
  have eI:((i+1:Nat):Int)-1=(i:Int):=by omega
  have hS:=hSl i (by omega);obtain⟨g1,g2,g3⟩:=f3 i (by omega) (by omega) (fun j h1 h2=>hz j (by omega) h2);rw[←eI]at hS;have eJ:IntKind.i64.wrap (((i+1:Nat):Int)-1-1)=(i:Int)-1:=by rw[IntWalk.i64_in _ (by omega)];omega
  have hS:AC Tryz.prog 90 [AA s ch tx na true,.val (.int .i64 (k:Int)),.val (.int .i64 (((i+1:Nat):Int)-1))] (.pure (AA rest ch (slabX ch tx na n' I (O*I) i).2.1 (slabX ch tx na n' I (O*I) i).2.2 true)):=hS;generalize slabX ch tx na n' I (O*I) i=y at hS g3;obtain⟨_,ty,ny⟩:=y;have hS:AC Tryz.prog 90 [AA s ch tx na true,.val (.int .i64 (k:Int)),.val (.int .i64 (((i+1:Nat):Int)-1))] (.pure (AA rest ch ty ny true)):=hS;have g3:AC Tryz.prog 66 [.val (.int .i32 c),AA rest ch ty ny true,AA rest (f (i+1)).1 (f (i+1)).2.1 (f (i+1)).2.2 true,.val (.int .i64 most)] (.pure (resA rest (rowsE c most (rowsL ch tx qs t n' I (O*I)) i) (f i).2.2)):=g3;unfold AA at hS;unfold resA AA at g3;by_cases he:rowsE c most (rowsL ch tx qs t n' I (O*I)) i=0
  ·rw[if_pos he]at g3;conv=>whnf
   refine oTq (by omega) ?_;conv=>whnf
   refine⟨_,hS,?_⟩;conv=>whnf
   refine⟨_,g3,?_⟩;conv=>whnf
   refine⟨by kernel_rfl,?_⟩;conv=>whnf
   refine⟨i,[],Nat.lt_succ_self _,⟨by omega,fun j h1 h2=>?_⟩,⟨q2r,q2r,q2r,q2r,q2r,q2r,q2r,⟨valI eJ,rfl⟩,trivial⟩,⟨q3r,q3r,⟨rfl,.inr ⟨celE ?_,rfl⟩⟩,trivial⟩,rfl⟩
   ·by_cases hji:j=i
    ·rw[hji];exact he
    ·exact hz j (by omega) h2
   ·rw[g1,g2];rfl
  ·rw[if_neg he]at g3;have hE1:E=rowsE c most (rowsL ch tx qs t n' I (O*I)) i:=by
    rw[hE];exact redE_from _ _ _ _ _ (by omega) (fun j h1 h2=>hz j (by omega) h2) he
   rw[e2 (by rw[hE1];exact he),hE1];generalize rowsE c most (rowsL ch tx qs t n' I (O*I)) i=e at *;conv=>whnf
   refine oTq (by omega) ?_;conv=>whnf
   refine⟨_,hS,?_⟩;conv=>whnf
   refine⟨_,g3,?_⟩;conv=>whnf
   refine⟨by kernel_rfl,?_⟩;conv=>whnf
   refine nFq (by omega) ?_;(conv=>whnf);exact rfl
theorem run_ok (c most:Int) (hc:isTwo c) (hm:most≤20) (s:List Int) (k:Nat) (ch:Bool) (tx:List Int) (na:List (Option (Rat×Nat))) (qs:List Rat) (na1:na.map valX=qs) (oa:∀o∈na,okX o) (hQ:∀q∈qs,Sz q 20)
  (hk:k<s.length) (hv:vS s) (ka:kinds s ch tx.length na.length) (n:Nat) (hn:s[k]=(n:Int)) (t:Nat) (h0:0<t) (ht:t≤n) (h5:pr (s.take k)*pr (s.drop (k+1))≤500) :
  ∃ x:Bool×List Int×List (Option (Rat×Nat)),(redE c most (rowsL ch tx qs t n (pr (s.drop (k+1))) (pr (s.take k)*pr (s.drop (k+1)))) t=0→StF c most (s.take k++s.drop (k+1)) ch tx qs t n (pr (s.drop (k+1))) (pr (s.take k)*pr (s.drop (k+1))) 0 x) ∧
   AC Tryz.prog 38 [.val (.int .i32 c),AA s ch tx na true,.val (.int .i64 (k:Int)),.val (.int .i64 ((t-1:Nat):Int)),.val (.int .i64 most)]
    (.pure (resF (s.take k++s.drop (k+1)) x.1 x.2.1 x.2.2 (redE c most (rowsL ch tx qs t n (pr (s.drop (k+1))) (pr (s.take k)*pr (s.drop (k+1)))) t))) :=
 run_any c most hc (by omega) s k ch tx na qs na1 oa hQ hk hv ka n hn t h0 ht (fun _ _ _ h=>pair_szm hm h) h5
end
section
theorem AWhole_ok (sh:List Int) (l:List Int) (hl:l.length≤1000) (hI:∀n∈l,i64b n):AC Tryz.prog 107 [AA sh false [] (l.map intX) true] (.pure (.tup [.sl 1 (irows .i64 l) false,.val (.bool true)])):=by
 refine AC.of_body TTok Tryz.func107 rfl (enter_of Tryz.func107 (by kernel_rfl) (by kernel_rfl)) (noid1 (AA_noid _ _ _ _ _)) (.tup _ (noid2 (noid_sl _ _ _) (.val _))) (nbq rfl) ?_;unfold AA;have lm:((l.map intX).map rowX).length=l.length:=by rw[List.length_map,List.length_map]
 conv=>whnf
 refine SW.nil 4 1 rfl ?_;refine SW.loopM TTok (fun i:Nat=>[(1,.lp 0 0),(4,.own 120 0 i),(17,.sl 3 ((l.map intX).map rowX) false),(18,.val (.int .i64 (((l.map intX).map rowX).length:Nat))),(19,.val (.int .i64 (i:Int)))])
  (fun i=>[(0,.cells 5 [[.sl 1 (irows .i64 sh) false,.val (.bool false),.sl 1 (irows .i32 []) false,.sl 3 ((l.map intX).map rowX) false,.val (.bool true)]]),(120,.cells 1 (irows .i64 (l.take i)))]) 128 36 rfl (fun i=>l.length-i) (fun i=>i≤l.length) 0 [] (Nat.zero_le _)
  ⟨q2r,q2r,q2r,q2r,q2r,trivial⟩ ⟨q3r,q3r,trivial⟩ rfl ?_
 intro i hJ;have hi:i≤l.length:=hJ;clear hJ;have lr:(irows .i64 (l.take i)).length=i:=by rw[irows_len,List.length_take];omega
 by_cases hlt:i<l.length
 ·have eI:IntKind.i64.wrap ((i:Int)+1)=((i+1:Nat):Int):=by rw[IntWalk.i64_in _ (by omega)];omega
  have hsn:irows .i64 (l.take i)++[[.val (.int .i64 l[i])]]=irows .i64 (l.take (i+1)):=by
   rw[take_snoc hlt,←irows_append];rfl
  have htk:List.take i (List.drop 0 (irows .i64 (l.take i)))=irows .i64 (l.take i):=by rw[List.drop_zero,List.take_of_length_le (by omega)]
  obtain⟨b1,b2⟩:=hI l[i] (List.getElem_mem hlt);have hg:((l.map intX).map rowX)[i]?=some (rowX (intX l[i])):=by rw[List.getElem?_map,List.getElem?_map,List.getElem?_eq_getElem hlt];rfl
  rw[intX_row]at hg;obtain⟨n,hn⟩:∃ n,n=l[i]:=⟨_,rfl⟩;rw[←hn]at hg hsn b1 b2;have hR:=RInt_ok n 1;have hf:fitQ n (dn 1):=⟨rfl,by unfold fit;omega⟩;rw[if_pos hf,decide_eq_true hf]at hR;unfold RA at hR;conv=>whnf
  refine oTq (by omega) ?_;conv=>whnf
  refine⟨_,⟨by omega,by rw[Int.toNat_natCast];exact hg⟩,?_⟩;conv=>whnf
  refine⟨_,hR,?_⟩;conv=>whnf
  refine⟨⟨by show 0+i≤_;omega,by show (i+1)*8≤140737488355328;omega,nbq rfl⟩,?_⟩;conv=>whnf
  refine⟨i+1,[(120,264)],(by show l.length-(i+1)<l.length-i;omega),hlt,⟨q2r,q2r,q2r,q2r,⟨valI eI,rfl⟩,trivial⟩,⟨q3r,⟨rfl,.inl ⟨celE ?_,irows_noid _ _⟩⟩,trivial⟩,rfl⟩;rw[←hsn];show List.take i (List.drop 0 (irows .i64 (l.take i)))++[_]=_;rw[htk];rfl
 ·have hie:i=l.length:=by omega
  have e1:l.take i=l:=List.take_of_length_le (by omega);rw[e1]at lr ⊢;subst hie;conv=>whnf
  refine oFq (by omega) ?_;conv=>whnf
  refine⟨by show 0+l.length≤_;omega,?_⟩;show AV.tup [AV.sl 1 (List.take l.length (List.drop 0 (irows .i64 l))) false,_]=_;rw[List.drop_zero,List.take_of_length_le (by omega)];rfl
theorem Unit_ok (c:Int):AC Tryz.prog 9 [.val (.int .i32 c)] (.pure (.tup [.val (.int .i64 ((unitQ c).getD 0)),.val (.bool (unitQ c).isSome)])):=by
 have nd:=noid1 (NoId.val (.int .i32 c));by_cases h43:c=43
 ·subst h43;refine AC.of_body TTok Tryz.func9 rfl (enter_of Tryz.func9 (by kernel_rfl) (by kernel_rfl)) nd (.tup _ (noid2 (.val _) (.val _))) (nbq rfl) ?_;(conv=>whnf);exact rfl
 by_cases h45:c=45
 ·subst h45;refine AC.of_body TTok Tryz.func9 rfl (enter_of Tryz.func9 (by kernel_rfl) (by kernel_rfl)) nd (.tup _ (noid2 (.val _) (.val _))) (nbq rfl) ?_;(conv=>whnf);exact rfl
 by_cases h124:c=124
 ·subst h124;refine AC.of_body TTok Tryz.func9 rfl (enter_of Tryz.func9 (by kernel_rfl) (by kernel_rfl)) nd (.tup _ (noid2 (.val _) (.val _))) (nbq rfl) ?_;(conv=>whnf);exact rfl
 by_cases h60:c=60
 ·subst h60;refine AC.of_body TTok Tryz.func9 rfl (enter_of Tryz.func9 (by kernel_rfl) (by kernel_rfl)) nd (.tup _ (noid2 (.val _) (.val _))) (nbq rfl) ?_;(conv=>whnf);exact rfl
 by_cases h62:c=62
 ·subst h62;refine AC.of_body TTok Tryz.func9 rfl (enter_of Tryz.func9 (by kernel_rfl) (by kernel_rfl)) nd (.tup _ (noid2 (.val _) (.val _))) (nbq rfl) ?_;(conv=>whnf);exact rfl
 by_cases h8800:c=8800
 ·subst h8800;refine AC.of_body TTok Tryz.func9 rfl (enter_of Tryz.func9 (by kernel_rfl) (by kernel_rfl)) nd (.tup _ (noid2 (.val _) (.val _))) (nbq rfl) ?_;(conv=>whnf);exact rfl
 by_cases h8744:c=8744
 ·subst h8744;refine AC.of_body TTok Tryz.func9 rfl (enter_of Tryz.func9 (by kernel_rfl) (by kernel_rfl)) nd (.tup _ (noid2 (.val _) (.val _))) (nbq rfl) ?_;(conv=>whnf);exact rfl
 by_cases h215:c=215
 ·subst h215;refine AC.of_body TTok Tryz.func9 rfl (enter_of Tryz.func9 (by kernel_rfl) (by kernel_rfl)) nd (.tup _ (noid2 (.val _) (.val _))) (nbq rfl) ?_;(conv=>whnf);exact rfl
 by_cases h247:c=247
 ·subst h247;refine AC.of_body TTok Tryz.func9 rfl (enter_of Tryz.func9 (by kernel_rfl) (by kernel_rfl)) nd (.tup _ (noid2 (.val _) (.val _))) (nbq rfl) ?_;(conv=>whnf);exact rfl
 by_cases h42:c=42
 ·subst h42;refine AC.of_body TTok Tryz.func9 rfl (enter_of Tryz.func9 (by kernel_rfl) (by kernel_rfl)) nd (.tup _ (noid2 (.val _) (.val _))) (nbq rfl) ?_;(conv=>whnf);exact rfl
 by_cases h33:c=33
 ·subst h33;refine AC.of_body TTok Tryz.func9 rfl (enter_of Tryz.func9 (by kernel_rfl) (by kernel_rfl)) nd (.tup _ (noid2 (.val _) (.val _))) (nbq rfl) ?_;(conv=>whnf);exact rfl
 by_cases h8804:c=8804
 ·subst h8804;refine AC.of_body TTok Tryz.func9 rfl (enter_of Tryz.func9 (by kernel_rfl) (by kernel_rfl)) nd (.tup _ (noid2 (.val _) (.val _))) (nbq rfl) ?_;(conv=>whnf);exact rfl
 by_cases h61:c=61
 ·subst h61;refine AC.of_body TTok Tryz.func9 rfl (enter_of Tryz.func9 (by kernel_rfl) (by kernel_rfl)) nd (.tup _ (noid2 (.val _) (.val _))) (nbq rfl) ?_;(conv=>whnf);exact rfl
 by_cases h8805:c=8805
 ·subst h8805;refine AC.of_body TTok Tryz.func9 rfl (enter_of Tryz.func9 (by kernel_rfl) (by kernel_rfl)) nd (.tup _ (noid2 (.val _) (.val _))) (nbq rfl) ?_;(conv=>whnf);exact rfl
 by_cases h8743:c=8743
 ·subst h8743;refine AC.of_body TTok Tryz.func9 rfl (enter_of Tryz.func9 (by kernel_rfl) (by kernel_rfl)) nd (.tup _ (noid2 (.val _) (.val _))) (nbq rfl) ?_;(conv=>whnf);exact rfl
 have e:unitQ c=none:=by unfold unitQ;rw[if_neg (by omega),if_neg (by omega)]
 rw[e];refine AC.of_body TTok Tryz.func9 rfl (enter_of Tryz.func9 (by kernel_rfl) (by kernel_rfl)) nd (.tup _ (noid2 (.val _) (.val _))) (nbq rfl) ?_;repeat ((conv=>whnf);(first | exact rfl | refine oFq (by omega) ?_))
section
variable (s:List Int) (ch:Bool) (tx:List Int) (na:List (Option (Rat×Nat))) (axis:Int)
def isAx (len:Nat) (axis:Int) (k:Nat):Prop:=k<len∧(axis=(k:Int)∨axis<0∧k+1=len)
theorem Axis_ok (k:Nat) (h:isAx s.length axis k) (h8:s.length≤1000):AC Tryz.prog 37 [AA s ch tx na true,.val (.int .i64 axis)] (.pure (.tup [.val (.int .i64 (k:Int)),.val (.bool true)])):=by
 obtain⟨hk,h⟩:=h;have hR:=Rank_ok s ch tx na (by omega);refine AC.of_body TTok Tryz.func37 rfl (enter_of Tryz.func37 (by kernel_rfl) (by kernel_rfl)) (noid2 (AA_noid _ _ _ _ _) (.val _)) (.tup _ (noid2 (.val _) (.val _))) (nbq rfl) ?_;unfold AA at *;by_cases h0:axis<0
 ·have e:IntKind.i64.wrap ((s.length:Int)-1)=(k:Int):=by rw[IntWalk.i64_in _ (by omega)];omega
  rw[←e];have t1:decide (IntKind.i64.wrap ((s.length:Int)-1)≥0)=true:=decide_eq_true (by rw[e];omega);have t2:decide (IntKind.i64.wrap ((s.length:Int)-1)<((s.length:Nat):Int))=true:=decide_eq_true (by rw[e];omega);conv=>whnf
  refine oTq (by omega) ?_;conv=>whnf
  refine⟨_,hR,?_⟩;conv=>whnf
  refine cTq (t1) ?_;conv=>whnf
  refine⟨_,hR,?_⟩;conv=>whnf
  rw[t2];rfl
 ·have e:axis=(k:Int):=by omega
  subst e;have t2:decide ((k:Int)<((s.length:Nat):Int))=true:=decide_eq_true (by omega);conv=>whnf
  refine⟨_,hR,?_⟩;conv=>whnf
  rw[t2];rfl
end
theorem list_ok (r:List Int) (h:r.length≤1000) (hI:∀n∈r,i64b n):AC Tryz.prog 60 [AA [(r.length:Int)] false [] (r.map intX) true] (.pure (.tup [.sl 1 (irows .i64 r) false,.val (.int .i64 0)])):=by
 have hR:=Rank_ok [(r.length:Int)] false [] (r.map intX) (by show 1≤1000000;omega);have hW:=AWhole_ok [(r.length:Int)] r h hI;refine AC.of_body TTok Tryz.func60 rfl (enter_of Tryz.func60 (by kernel_rfl) (by kernel_rfl)) (noid1 (AA_noid _ _ _ _ _)) (.tup _ (noid2 (noid_sl _ _ _) (.val _))) (nbq rfl) ?_;unfold AA at *;repeat ((conv=>whnf);(first | refine⟨_,‹_›,?_⟩|exact rfl))
theorem picked_ok (a:AV) (s:List Int) (at_:List Int) (sh:List Int) (c:Bool) (tx:List Int) (na:List (Option (Rat×Nat))) (sh':List Int) (c':Bool) (tx':List Int) (na':List (Option (Rat×Nat)))
  (h:AC Tryz.prog 108 [AA sh' c' tx' na' true,.sl 1 (irows .i64 s) false,.sl 1 (irows .i64 at_) false] (.pure (.tup [AA sh c tx na true,.val (.bool true)]))) :
  AC Tryz.prog 61 [AA sh' c' tx' na' true,.sl 1 (irows .i64 s) false,.sl 1 (irows .i64 at_) false] (.pure (.tup [AA sh c tx na true,.val (.int .i64 0)])):=by
 refine AC.of_body TTok Tryz.func61 rfl (enter_of Tryz.func61 (by kernel_rfl) (by kernel_rfl)) (noid3 (AA_noid _ _ _ _ _) (noid_sl _ _ _) (noid_sl _ _ _)) (.tup _ (noid2 (AA_noid _ _ _ _ _) (.val _))) (nbq rfl) ?_;unfold AA at *;(conv=>whnf);refine⟨_,‹_›,?_⟩;(conv=>whnf);exact rfl
theorem rep_set (n i:Nat) (x:List AV):(List.replicate n x).set i x=List.replicate n x:=by
 refine List.ext_getElem? fun j=>?_;rw[List.getElem?_set];by_cases h:i=j
 ·rw[if_pos h,List.length_replicate];subst h;by_cases h2:i<n
  ·rw[if_pos h2,List.getElem?_replicate,if_pos h2]
  ·rw[if_neg h2,List.getElem?_replicate,if_neg h2]
 ·rw[if_neg h]
theorem set_set' (l:List (List AV)) (i:Nat) (x y:List AV):(l.set i x).set i y=l.set i y:=List.set_set ..
theorem irows_rep (n:Nat):irows .i64 (List.replicate n 0)=List.replicate n [.val (.int .i64 0)]:=by unfold irows;rw[List.map_replicate]
theorem Reshape_one (r:List Int) (hv:vS r) (x:Option (Rat×Nat)):AC Tryz.prog 22 [AA [(r.length:Int)] false [] (r.map intX) true,AA [] false [] [x] true] (.pure (.tup [AA r false [] (List.replicate (pr r) x) true,.val (.int .i64 0)])):=by
 have h8:=hv.1;have lr:=irows_len .i64 r;have hl:=list_ok r (by omega) (fun n hn=>by have h1:=hv.2.1 n hn;have h2:=vS_dim hv hn;exact⟨by omega,by omega⟩);have hC:=Count_ok r (by omega);have p4:=(vS_pr hv).2;rw[CNT_good hv,(vS_pr hv).1]at hC;have hA:AC Tryz.prog 57 [AA [] false [] [x] true] (.pure (.val (.int .i64 1))):=ALen_ok [] false [] [x] true (by decide) (by show 1≤1000000;omega);have hP:=PickN_ok [] [] [x] r (List.replicate (pr r) 0) hv (by rw[List.length_replicate];exact (vS_pr hv).1) (by show 1≤100000;omega);have e0:(List.replicate (pr r) (0:Int)).map (getX [x])=List.replicate (pr r) x:=by rw[List.map_replicate];rfl
 rw[e0]at hP;have hP:=picked_ok AZ r _ _ _ _ _ _ _ _ _ hP;have lrep:(List.replicate (pr r) ([.val (.int .i64 0)]:List AV)).length=pr r:=List.length_replicate;rw[irows_rep]at hP;have eP:List.replicate (pr r) ([.val (.int .i64 0)]:List AV)=List.take (pr r) (List.drop 0 (List.replicate (pr r) [.val (.int .i64 0)])):=by rw[List.drop_zero,List.take_of_length_le (by omega)]
 rw[eP]at hP;have nrep:∀y∈List.replicate (pr r) ([.val (.int .i64 0)]:List AV),∀z∈y,NoId z:=fun y hy=>by
  rw[(List.mem_replicate.1 hy).2];exact noid1 (.val _)
 refine AC.of_body TTok Tryz.func22 rfl (enter_of Tryz.func22 (by kernel_rfl) (by kernel_rfl)) (noid2 (AA_noid _ _ _ _ _) (AA_noid _ _ _ _ _)) (.tup _ (noid2 (AA_noid _ _ _ _ _) (.val _))) (nbq rfl) ?_;unfold AA at *;conv=>whnf
 refine⟨_,hl,?_⟩;conv=>whnf
 refine SW.loopM TTok (fun i:Nat=>[(2,.lp 0 0),(3,.lp 8 0),(4,.lp 16 0),(5,.val (.int .i64 0)),(6,.sl 1 (irows .i64 r) false),(23,.sl 1 (irows .i64 r) false),(24,.val (.int .i64 ((irows .i64 r).length:Nat))),(25,.val (.int .i64 (i:Int)))])
  (fun _=>[(0,.cells 5 [[.sl 1 (irows .i64 [(r.length:Int)]) false,.val (.bool false),.sl 1 (irows .i32 []) false,.sl 3 ((r.map intX).map rowX) false,.val (.bool true)]]),(8,.cells 5 [[.sl 1 (irows .i64 []) false,.val (.bool false),.sl 1 (irows .i32 []) false,.sl 3 ([x].map rowX) false,.val (.bool true)]]),(16,.cells 5 [[.sl 0 [] true,.val (.bool false),.sl 0 [] true,.sl 0 [] true,.val (.bool false)]])]) 136 78 rfl (fun i=>r.length-i) (fun i=>i≤r.length) 0 [] (Nat.zero_le _)
  ⟨q2r,q2r,q2r,q2r,q2r,q2r,q2r,q2r,trivial⟩ ⟨q3r,q3r,q3r,trivial⟩ rfl ?_
 intro i hi;have hi:i≤r.length:=hi;by_cases hlt:i<r.length
 ·have eI:IntKind.i64.wrap ((i:Int)+1)=((i+1:Nat):Int):=by rw[IntWalk.i64_in _ (by omega)];omega
  have hg:=irows_get .i64 r (List.getElem?_eq_getElem hlt);have hd:=hv.2.1 _ (List.getElem_mem hlt);conv=>whnf
  refine oTq (by omega) ?_;conv=>whnf
  refine⟨_,⟨by omega,by rw[Int.toNat_natCast];exact hg⟩,?_⟩;conv=>whnf
  refine oFq (by omega) ?_;conv=>whnf
  exact⟨i+1,[],(by show r.length-(i+1)<r.length-i;omega),hlt,⟨q2r,q2r,q2r,q2r,q2r,q2r,q2r,⟨valI eI,rfl⟩,trivial⟩,⟨q3r,q3r,q3r,trivial⟩,rfl⟩
 ·conv=>whnf
  refine oFq (by omega) ?_;conv=>whnf
  refine⟨_,hC,?_⟩;conv=>whnf
  refine⟨⟨by omega,by omega,by show ((pr r:Nat):Int)*((8:Nat):Int)≤140737488355328;omega⟩,?_⟩;conv=>whnf
  refine SW.loopM TTok (fun i:Nat=>[(2,.lp 0 0),(3,.lp 8 0),(4,.lp 16 0),(5,.val (.int .i64 0)),(6,.sl 1 (irows .i64 r) false),(12,.own 296 0 (pr r)),(54,.val (.int .i64 (pr r:Int))),(55,.val (.int .i64 (i:Int)))])
   (fun _=>[(0,.cells 5 [[.sl 1 (irows .i64 [(r.length:Int)]) false,.val (.bool false),.sl 1 (irows .i32 []) false,.sl 3 ((r.map intX).map rowX) false,.val (.bool true)]]),(8,.cells 5 [[.sl 1 (irows .i64 []) false,.val (.bool false),.sl 1 (irows .i32 []) false,.sl 3 ([x].map rowX) false,.val (.bool true)]]),(16,.cells 5 [[.sl 0 [] true,.val (.bool false),.sl 0 [] true,.sl 0 [] true,.val (.bool false)]]),(296,.cells 1 (List.replicate (pr r) [.val (.int .i64 0)]))]) 336 78 rfl (fun i=>pr r-i) (fun i=>i≤pr r) 0 [] (Nat.zero_le _)
   ⟨q2r,q2r,q2r,q2r,q2r,q2r,q2r,q2r,trivial⟩ ⟨q3r,q3r,q3r,⟨rfl,.inl ⟨rfl,nrep⟩⟩,trivial⟩ rfl ?_
  intro i hi;have hi:i≤pr r:=hi;by_cases hlt:i<pr r
  ·have eI:IntKind.i64.wrap ((i:Int)+1)=((i+1:Nat):Int):=by rw[IntWalk.i64_in _ (by omega)];omega
   have e1:((i:Int)).tmod 1=0:=by rw[Int.tmod_eq_emod_of_nonneg (Int.natCast_nonneg _)];omega
   conv=>whnf
   refine oTq (by omega) ?_;conv=>whnf
   refine⟨by omega,?_⟩;conv=>whnf
   refine⟨by rw[Nat.zero_add,Int.toNat_natCast];omega,?_⟩;conv=>whnf
   refine⟨_,hA,?_⟩;conv=>whnf
   refine⟨_,hA,?_⟩;conv=>whnf
   refine⟨by decide,?_⟩;conv=>whnf
   refine⟨by omega,?_⟩;conv=>whnf
   refine⟨by rw[List.length_set,Nat.zero_add,Int.toNat_natCast];omega,?_⟩;conv=>whnf
   refine⟨i+1,[],(by show pr r-(i+1)<pr r-i;omega),hlt,⟨q2r,q2r,q2r,q2r,q2r,q2r,q2r,⟨valI eI,rfl⟩,trivial⟩,⟨q3r,q3r,q3r,⟨rfl,.inl ⟨celE ?_,nrep⟩⟩,trivial⟩,rfl⟩;show ((List.replicate (pr r) ([.val (.int .i64 0)]:List AV)).set _ _).set _ [.val (.int .i64 (((i:Int)).tmod 1))]=_;rw[set_set',e1,rep_set]
  ·have hie:i=pr r:=by omega
   conv=>whnf
   refine oFq (by omega) ?_;conv=>whnf
   refine⟨by show 0+pr r≤_;omega,_,hP,?_⟩;(conv=>whnf);exact rfl
end
section
section
variable (c:Int) (s:List Int) (ch:Bool) (tx:List Int) (na:List (Option (Rat×Nat))) (axis most:Int)
theorem red_nd:∀x∈[AV.val (.int .i32 c),AA s ch tx na true,.val (.int .i64 axis),.val (.int .i64 most)],NoId x:=noidF (.val _) (AA_noid _ _ _ _ _) (.val _) (.val _)
theorem Red_err {P:Program} {f:FuncId} {args:List AV} {e:Int} (h:AC P f args (.pure (.tup [AZ,.val (.int .i64 e)]))):AC P f args (.pure (.tup [AA [] false [] [] false,.val (.int .i64 e)])) :=
 AC.le_res h (.tup2 AZ_le (.refl _)) (.tup _ (noid2 (AA_noid _ _ _ _ _) (.val _)))
theorem Red_run (h:isTwo c) (k:Nat) (hx:isAx s.length axis k) (hs:s.length≤8) (n:Nat) (hn:s[k]'hx.1=(n:Int)) (h0:0<n) (hn4:n≤5000) (sh:List Int) (c':Bool) (tx':List Int) (na':List (Option (Rat×Nat))) (E:Int)
  (hRun:AC Tryz.prog 38 [.val (.int .i32 c),AA s ch tx na true,.val (.int .i64 (k:Int)),.val (.int .i64 ((n-1:Nat):Int)),.val (.int .i64 most)] (.pure (resF sh c' tx' na' E))) :
  AC Tryz.prog 12 [.val (.int .i32 c),AA s ch tx na true,.val (.int .i64 axis),.val (.int .i64 most)] (.pure (resF sh c' tx' na' E)):=by
 have hk:=hx.1;have hH:=Has_ok c;rw[decide_eq_true h]at hH;have hR:=Rank_ok s ch tx na (by omega);have hS:=Shape_ok s ch tx na (by omega);have hA:=Axis_ok s ch tx na axis k hx (by omega);have lr:=irows_len .i64 s;have hg:(irows .i64 s)[k]?=some [.val (.int .i64 (n:Int))]:=by rw[←hn];exact irows_get .i64 s (List.getElem?_eq_getElem hk)
 have e:IntKind.i64.wrap ((n:Int)-1)=((n-1:Nat):Int):=by rw[IntWalk.i64_in _ (by omega)];omega
 rw[←e]at hRun;refine AC.of_body TTok Tryz.func12 rfl (enter_of Tryz.func12 (by kernel_rfl) (by kernel_rfl)) (red_nd c s ch tx na axis most) (resF_noid _ _ _ _ _) (nbq rfl) ?_;unfold resF at *;by_cases hE:E=0
 ·rw[if_pos hE]at hRun ⊢;unfold AA at *;conv=>whnf
  refine⟨_,hH,?_⟩;conv=>whnf
  refine⟨_,hR,?_⟩;conv=>whnf
  refine oFq (by omega) ?_;conv=>whnf
  refine⟨_,hA,?_⟩;conv=>whnf
  refine⟨_,hS,?_⟩;conv=>whnf
  refine⟨_,⟨by omega,by rw[Int.toNat_natCast];exact hg⟩,?_⟩;conv=>whnf
  refine oTq (by omega) ?_;conv=>whnf
  refine⟨_,hRun,?_⟩;(conv=>whnf);exact rfl
 ·rw[if_neg hE]at hRun ⊢;unfold AA at *;conv=>whnf
  refine⟨_,hH,?_⟩;conv=>whnf
  refine⟨_,hR,?_⟩;conv=>whnf
  refine oFq (by omega) ?_;conv=>whnf
  refine⟨_,hA,?_⟩;conv=>whnf
  refine⟨_,hS,?_⟩;conv=>whnf
  refine⟨_,⟨by omega,by rw[Int.toNat_natCast];exact hg⟩,?_⟩;conv=>whnf
  refine oTq (by omega) ?_;conv=>whnf
  refine⟨_,hRun,?_⟩;(conv=>whnf);exact rfl
theorem Red_none (h:isTwo c) (k:Nat) (hx:isAx s.length axis k) (hs:s.length≤8) (hn:s[k]'hx.1=0) (hu:unitQ c=none) :
  AC Tryz.prog 12 [.val (.int .i32 c),AA s ch tx na true,.val (.int .i64 axis),.val (.int .i64 most)] (.pure (.tup [AA [] false [] [] false,.val (.int .i64 22)])):=by
 have hk:=hx.1;have hH:=Has_ok c;rw[decide_eq_true h]at hH;have hR:=Rank_ok s ch tx na (by omega);have hS:=Shape_ok s ch tx na (by omega);have hA:=Axis_ok s ch tx na axis k hx (by omega);have lr:=irows_len .i64 s;have hg:(irows .i64 s)[k]?=some [.val (.int .i64 0)]:=by rw[←hn];exact irows_get .i64 s (List.getElem?_eq_getElem hk)
 have hU:=Unit_ok c;rw[hu]at hU;refine Red_err ?_;refine AC.of_body TTok Tryz.func12 rfl (enter_of Tryz.func12 (by kernel_rfl) (by kernel_rfl)) (red_nd c s ch tx na axis most) (AZf_noid _) (nbq rfl) ?_;unfold AA AZ at *;conv=>whnf
 refine⟨_,hH,?_⟩;conv=>whnf
 refine⟨_,hR,?_⟩;conv=>whnf
 refine oFq (by omega) ?_;conv=>whnf
 refine⟨_,hA,?_⟩;conv=>whnf
 refine⟨_,hS,?_⟩;conv=>whnf
 refine⟨_,⟨by omega,by rw[Int.toNat_natCast];exact hg⟩,?_⟩;conv=>whnf
 refine⟨_,hU,?_⟩;(conv=>whnf);exact rfl
theorem Red_unit (h:isTwo c) (k:Nat) (hx:isAx s.length axis k) (hv:vS s) (hn:s[k]'hx.1=0) (u:Int) (hu:unitQ c=some u) :
  AC Tryz.prog 12 [.val (.int .i32 c),AA s ch tx na true,.val (.int .i64 axis),.val (.int .i64 most)] (.pure (.tup [AA (s.take k++s.drop (k+1)) false [] (List.replicate (pr (s.take k)*pr (s.drop (k+1))) (some ((u:Rat),1))) true,.val (.int .i64 0)])):=by
 have hk:=hx.1;have h8:=hv.1;have hH:=Has_ok c;rw[decide_eq_true h]at hH;have hR:=Rank_ok s ch tx na (by omega);have hS:=Shape_ok s ch tx na (by omega);have hA:=Axis_ok s ch tx na axis k hx (by omega);have hWo:=Without_ok s k hk (by omega);have lr:=irows_len .i64 s;have hg:(irows .i64 s)[k]?=some [.val (.int .i64 0)]:=by rw[←hn];exact irows_get .i64 s (List.getElem?_eq_getElem hk)
 have hU:=Unit_ok c;rw[hu]at hU;obtain⟨n',hn',_,hr,_,hpr,_,_,_,_⟩:=axis_split hk hv;have hu01:u=0∨u=1:=by
  unfold unitQ at hu;split at hu
  ·exact .inl (Option.some.inj hu).symm
  ·split at hu
   ·exact .inr (Option.some.inj hu).symm
   ·exact nomatch hu
 have hIs:=AInts_ok (s.take k++s.drop (k+1)) (by have:=hr.1;omega) (fun d hd=>by have h1:=hr.2.1 d hd;have h2:=vS_dim hr hd;exact⟨by omega,by omega⟩);have hI:=AInt_ok u (by omega);have hRe:=Reshape_one (s.take k++s.drop (k+1)) hr (some ((u:Rat),1));rw[hpr]at hRe;refine AC.of_body TTok Tryz.func12 rfl (enter_of Tryz.func12 (by kernel_rfl) (by kernel_rfl)) (red_nd c s ch tx na axis most) (.tup _ (noid2 (AA_noid _ _ _ _ _) (.val _))) (nbq rfl) ?_;unfold AA at *;conv=>whnf
 refine⟨_,hH,?_⟩;conv=>whnf
 refine⟨_,hR,?_⟩;conv=>whnf
 refine oFq (by omega) ?_;conv=>whnf
 refine⟨_,hA,?_⟩;conv=>whnf
 refine⟨_,hS,?_⟩;conv=>whnf
 refine⟨_,⟨by omega,by rw[Int.toNat_natCast];exact hg⟩,?_⟩;conv=>whnf
 refine⟨_,hU,?_⟩;conv=>whnf
 refine⟨_,hS,?_⟩;conv=>whnf
 refine⟨_,hWo,?_⟩;conv=>whnf
 refine⟨_,hIs,?_⟩;conv=>whnf
 refine⟨_,hI,?_⟩;conv=>whnf
 refine⟨_,hRe,?_⟩;(conv=>whnf);exact rfl
end
end
section
def prow (x:Option (Rat×Nat)):List AV:=[.sl 1 (irows .i64 []) false,.val (.bool false),.sl 1 (irows .i32 []) false,.sl 3 ([x].map rowX) false,.val (.bool true)]
def zrow:List AV:=[.sl 0 [] true,.val (.bool false),.sl 0 [] true,.sl 0 [] true,.val (.bool false)]
end
section
theorem foldE_tail (c most:Int) (x:El) (l:List El) (h:(foldE c most (x :: l)).2=0):(foldE c most l).2=0:=by
 cases l with
 | nil=>rfl
 | cons y l =>
  rw[foldE_cons _ _ _ (List.cons_ne_nil _ _)]at h;by_cases h2:(foldE c most (y :: l)).2≠0
  ·rw[if_pos h2]at h;exact absurd h h2
  ·exact Decidable.byContradiction h2
theorem foldE_drop (c most:Int):∀(i:Nat) (l:List El),(foldE c most l).2=0→(foldE c most (l.drop i)).2=0
 | 0,l,h=>h
 | i+1,[],h=>h
 | i+1,x :: l,h=>foldE_drop c most i l (foldE_tail c most x l h)
theorem line_list (qs:List Rat) (t n:Nat) (ht:t≤qs.length):lineE false [] qs t n 1 0=(qs.take t).map numE:=by
 refine List.ext_getElem? fun i=>?_;unfold lineE;rw[List.getElem?_map,List.getElem?_map,List.getElem?_take];by_cases hi:i<t
 ·rw[if_pos hi,List.getElem?_range hi,List.getElem?_eq_getElem (by omega)];show some (elA false [] qs ((0/1*n+i)*1+0 % 1))=some (numE qs[i]);have e:(0/1*n+i)*1+0 % 1=i:=by simp
  rw[e];unfold elA numE;rw[List.getD_eq_getElem?_getD,List.getD_eq_getElem?_getD,List.getElem?_eq_getElem (show i<qs.length by omega)];rfl
 ·rw[if_neg hi,List.getElem?_eq_none (by rw[List.length_range];omega)];rfl
section
variable (c most:Int) (hc:isTwo c) (hm:most≤200) (na:List (Option (Rat×Nat))) (qs:List Rat) (na1:na.map valX=qs) (oa:∀o∈na,okX o) (hQ:∀q∈qs,Sz q 20)
include hc hm na1 oa hQ
theorem run_list (h4:qs.length≤500) (t:Nat) (h0:0<t) (ht:t≤qs.length) (hz:(foldE c most ((qs.take t).map numE)).2=0)
  (hb:∀i,(pairE c most (elA false [] qs i) (foldE c most (((qs.take t).map numE).drop (i+1))).1).2=0→Sz (pairE c most (elA false [] qs i) (foldE c most (((qs.take t).map numE).drop (i+1))).1).1 20) :
  ∃ o,okX o∧numE (valX o)=(foldE c most ((qs.take t).map numE)).1 ∧
   AC Tryz.prog 38 [.val (.int .i32 c),AA [(qs.length:Int)] false [] na true,.val (.int .i64 0),.val (.int .i64 ((t-1:Nat):Int)),.val (.int .i64 most)] (.pure (.tup [AA [] false [] [o] true,.val (.int .i64 0)])):=by
 have la:na.length=qs.length:=by rw[←na1,List.length_map]
 obtain⟨v1,c1⟩:=vS_single qs.length (by omega);have hk:kinds [(qs.length:Int)] false ([]:List Int).length na.length:=by
  show ((na.length:Nat):Int)=cntI [(qs.length:Int)]∧(0=0);rw[c1,la];exact q2r
 have hl:=line_list qs t qs.length ht;obtain⟨x,hx1,hx2⟩:=run_any c most hc hm [(qs.length:Int)] 0 false [] na qs na1 oa hQ (by show 0<1;omega) v1 hk qs.length rfl t h0 ht
  (fun i r hr h=>by
   have hr0:r=0:=by
    have hr:r<1*1:=hr;omega
   subst hr0;have e:(0/1*qs.length+i)*1+0 % 1=i:=by simp
   have h:(pairE c most (elA false [] qs ((0/1*qs.length+i)*1+0 % 1)) (foldE c most ((lineE false [] qs t qs.length 1 0).drop (i+1))).1).2=0:=h;show Sz (pairE c most (elA false [] qs ((0/1*qs.length+i)*1+0 % 1)) (foldE c most ((lineE false [] qs t qs.length 1 0).drop (i+1))).1).1 20;rw[e,hl]at h ⊢;exact hb i h) (by show 1*1≤500;omega)
 have hE:redE c most (rowsL false [] qs t qs.length (pr ([]:List Int)) (pr ([]:List Int)*pr ([]:List Int))) t=0:=by
  refine redE_zero _ _ _ _ (fun j hj=>?_);refine fst0_of fun e he=>?_;obtain⟨l,hl2,rfl⟩:=List.mem_map.1 he;obtain⟨r,hr,rfl⟩:=List.mem_map.1 hl2;have hr0:r=0:=by
   have:r<1*1:=List.mem_range.1 hr;omega
  subst hr0;show (foldE c most ((lineE false [] qs t qs.length 1 0).drop j)).2=0;rw[hl];exact foldE_drop c most j _ hz
 have hx1:=hx1 hE;have hx2:AC Tryz.prog 38 [.val (.int .i32 c),AA [(qs.length:Int)] false [] na true,.val (.int .i64 0),.val (.int .i64 ((t-1:Nat):Int)),.val (.int .i64 most)] (.pure (resF [] x.1 x.2.1 x.2.2 (redE c most (rowsL false [] qs t qs.length (pr ([]:List Int)) (pr ([]:List Int)*pr ([]:List Int))) t))):=hx2;obtain⟨y1,y2,y3,_,y5⟩:=hx1;obtain⟨xc,xt,xn⟩:=x;have y1:xc=false:=y1;subst y1;have y2:((xn.length:Nat):Int)=cntI []∧xt.length=0:=y2;have xt0:xt=[]:=List.length_eq_zero_iff.1 y2.2;subst xt0;have xl:xn.length=1:=by have:=y2.1;rw[show cntI []=1 from rfl]at this;omega
 obtain⟨o,rfl⟩:=List.length_eq_one_iff.1 xl;rw[hE]at hx2;refine⟨o,y3 o (List.mem_singleton.2 rfl),?_,hx2⟩;have y5:=y5 0 (by show 0<1*1;omega);have y5:elA false [] [valX o] 0=(foldE c most ((lineE false [] qs t qs.length 1 0).drop 0)).1:=y5;rw[hl]at y5;exact y5
theorem Red_list (axis:Int) (hax:axis<0) (h4:qs.length≤500) (h0:0<qs.length) (hz:(foldE c most (qs.map numE)).2=0)
  (hb:∀i,(pairE c most (elA false [] qs i) (foldE c most ((qs.map numE).drop (i+1))).1).2=0→Sz (pairE c most (elA false [] qs i) (foldE c most ((qs.map numE).drop (i+1))).1).1 20) :
  ∃ o,okX o∧numE (valX o)=(foldE c most (qs.map numE)).1 ∧
   AC Tryz.prog 12 [.val (.int .i32 c),AA [(qs.length:Int)] false [] na true,.val (.int .i64 axis),.val (.int .i64 most)] (.pure (.tup [AA [] false [] [o] true,.val (.int .i64 0)])):=by
 have ht:qs.take qs.length=qs:=List.take_length;obtain⟨o,o1,o2,o3⟩:=run_list c most hc hm na qs na1 oa hQ h4 qs.length h0 (Nat.le_refl _) (by rw[ht];exact hz) (by rw[ht];exact hb);rw[ht]at o2;exact⟨o,o1,o2,Red_run c [(qs.length:Int)] false [] na axis most hc 0 ⟨by show 0<1;omega,.inr ⟨hax,rfl⟩⟩ (by show 1≤8;omega) qs.length rfl h0 (by omega) [] false [] [o] 0 o3⟩
end
end
section
def zlU:List Int:=[43,45,124,60,62,8800,8744]
def olU:List Int:=[215,247,42,33,8804,61,8805,8743]
theorem unitQ_zero {c:Int} (h:c∈zlU):unitQ c=some 0:=by
 unfold zlU at h;simp only[List.mem_cons,List.not_mem_nil,or_false]at h;exact if_pos h
theorem unitQ_one {c:Int} (h:c∉zlU) (h1:c∈olU):unitQ c=some 1:=by
 unfold zlU at h;unfold olU at h1;simp only[List.mem_cons,List.not_mem_nil,or_false]at h h1;exact (if_neg h).trans (if_pos h1)
theorem unitQ_none {c:Int} (h:c∉zlU) (h1:c∉olU):unitQ c=none:=by
 unfold zlU at h;unfold olU at h1;simp only[List.mem_cons,List.not_mem_nil,or_false]at h h1;exact (if_neg h).trans (if_neg h1)
theorem not_mem_of {l:List Int} {c:Int} {n:Nat} (hn:l.length=n) (h:∀j (hj:j<l.length),j<n→l[j]≠c):c∉l:=fun hc=>by
 obtain⟨j,hj,e⟩:=List.getElem_of_mem hc;exact h j hj (by omega) e
theorem RUnit_ok (c:Int):AC Tryz.prog 10 [.val (.int .i32 c)] (.pure (.tup [.val (.int .i64 ((unitQ c).getD 0)),.val (.bool (unitQ c).isSome)])):=by
 obtain⟨zl,hzl⟩:∃ zl,zl=zlU:=⟨_,rfl⟩;obtain⟨ol,hol⟩:∃ ol,ol=olU:=⟨_,rfl⟩;have l1:zl.length=7:=by rw[hzl];rfl
 have l2:ol.length=8:=by rw[hol];rfl
 have e1:irows .i32 zl=[[.val (.int .i32 43)],[.val (.int .i32 45)],[.val (.int .i32 124)],[.val (.int .i32 60)],[.val (.int .i32 62)],[.val (.int .i32 8800)],[.val (.int .i32 8744)]]:=by rw[hzl];rfl
 have e2:irows .i32 ol=[[.val (.int .i32 215)],[.val (.int .i32 247)],[.val (.int .i32 42)],[.val (.int .i32 33)],[.val (.int .i32 8804)],[.val (.int .i32 61)],[.val (.int .i32 8805)],[.val (.int .i32 8743)]]:=by rw[hol];rfl
 have lr1:=irows_len .i32 zl;have lr2:=irows_len .i32 ol;obtain⟨r,hr⟩:∃ r:AV,r = .tup [.val (.int .i64 ((unitQ c).getD 0)),.val (.bool (unitQ c).isSome)]:=⟨_,rfl⟩;have rn:NoId r:=by rw[hr];exact .tup _ (noid2 (.val _) (.val _))
 have r0:c∈zl→r = .tup [.val (.int .i64 0),.val (.bool true)]:=fun h=>by rw[hr,unitQ_zero (by rw[←hzl];exact h)];rfl
 have r1:c∉zl→c∈ol→r = .tup [.val (.int .i64 1),.val (.bool true)]:=fun h h'=>by rw[hr,unitQ_one (by rw[←hzl];exact h) (by rw[←hol];exact h')];rfl
 have r2:c∉zl→c∉ol→r = .tup [.val (.int .i64 0),.val (.bool false)]:=fun h h'=>by rw[hr,unitQ_none (by rw[←hzl];exact h) (by rw[←hol];exact h')];rfl
 rw[←hr];clear hr hzl hol;refine AC.of_body TTok Tryz.func10 rfl (enter_of Tryz.func10 (by kernel_rfl) (by kernel_rfl)) (noid1 (.val _)) rn (nbq rfl) ?_;conv=>whnf
 refine SW.loopM TTok (fun i:Nat=>[(0,.val (.int .i32 c)),(4,.own 16 0 7),(5,.own 32 0 8),(6,.val (.int .i64 (i:Int)))]) (fun _=>[(16,.cells 1 (irows .i32 zl)),(32,.cells 1 (irows .i32 ol))]) 56 34 rfl (fun i=>7-i) (fun i=>i≤7∧∀j (hj:j<zl.length),j<i→zl[j]≠c) 0 [] ⟨Nat.zero_le _,fun j _ hj=>absurd hj (Nat.not_lt_zero _)⟩
  ⟨q2r,q2r,q2r,q2r,trivial⟩ ⟨⟨rfl,.inl ⟨celE (by rw[e1];rfl),irows_noid _ _⟩⟩,⟨rfl,.inl ⟨celE (by rw[e2];rfl),irows_noid _ _⟩⟩,trivial⟩ rfl ?_
 intro i hJ;have hi:i≤7:=hJ.1;have hq:∀j (hj:j<zl.length),j<i→zl[j]≠c:=hJ.2;clear hJ;by_cases hlt:i<7
 ·have eI:IntKind.i64.wrap ((i:Int)+1)=((i+1:Nat):Int):=by rw[IntWalk.i64_in _ (by omega)];omega
  have hil:i<zl.length:=by omega
  have hg:=irows_get .i32 zl (List.getElem?_eq_getElem hil);obtain⟨x,hx⟩:∃ x,x=zl[i]:=⟨_,rfl⟩;rw[←hx]at hg;by_cases hxc:x=c
  ·rw[r0 (by rw[←hxc,hx];exact List.getElem_mem hil)];conv=>whnf
   refine oTq (by omega) ?_;conv=>whnf
   refine⟨by omega,?_⟩;conv=>whnf
   refine⟨_,by rw[Nat.zero_add,Int.toNat_natCast];exact hg,?_⟩;conv=>whnf
   refine oTq (by omega) ?_;(conv=>whnf);exact rfl
  ·conv=>whnf
   refine oTq (by omega) ?_;conv=>whnf
   refine⟨by omega,?_⟩;conv=>whnf
   refine⟨_,by rw[Nat.zero_add,Int.toNat_natCast];exact hg,?_⟩;conv=>whnf
   refine oFq (by omega) ?_;conv=>whnf
   refine⟨i+1,[],(by show 7-(i+1)<7-i;omega),⟨hlt,fun j hj h=>?_⟩,⟨q2r,q2r,q2r,⟨valI eI,rfl⟩,trivial⟩,⟨⟨rfl,.inl ⟨rfl,irows_noid _ _⟩⟩,⟨rfl,.inl ⟨rfl,irows_noid _ _⟩⟩,trivial⟩,rfl⟩;by_cases hji:j=i
   ·subst hji;rw[←hx];exact hxc
   ·exact hq j hj (by omega)
 ·have hnz:c∉zl:=not_mem_of l1 (fun j hj h=>hq j hj (by omega));conv=>whnf
  refine oFq (by omega) ?_;conv=>whnf
  refine SW.loopM TTok (fun i:Nat=>[(0,.val (.int .i32 c)),(5,.own 32 0 8),(7,.val (.int .i64 (i:Int)))]) (fun _=>[(32,.cells 1 (irows .i32 ol))]) 96 34 rfl (fun i=>8-i) (fun i=>i≤8∧∀j (hj:j<ol.length),j<i→ol[j]≠c) 0 [] ⟨Nat.zero_le _,fun j _ hj=>absurd hj (Nat.not_lt_zero _)⟩
   ⟨q2r,q2r,q2r,trivial⟩ ⟨⟨rfl,.inl ⟨rfl,irows_noid _ _⟩⟩,trivial⟩ rfl ?_
  intro i hJ;have hi:i≤8:=hJ.1;have hq2:∀j (hj:j<ol.length),j<i→ol[j]≠c:=hJ.2;clear hJ;by_cases hlt:i<8
  ·have eI:IntKind.i64.wrap ((i:Int)+1)=((i+1:Nat):Int):=by rw[IntWalk.i64_in _ (by omega)];omega
   have hil:i<ol.length:=by omega
   have hg:=irows_get .i32 ol (List.getElem?_eq_getElem hil);obtain⟨x,hx⟩:∃ x,x=ol[i]:=⟨_,rfl⟩;rw[←hx]at hg;by_cases hxc:x=c
   ·rw[r1 hnz (by rw[←hxc,hx];exact List.getElem_mem hil)];conv=>whnf
    refine oTq (by omega) ?_;conv=>whnf
    refine⟨by omega,?_⟩;conv=>whnf
    refine⟨_,by rw[Nat.zero_add,Int.toNat_natCast];exact hg,?_⟩;conv=>whnf
    refine oTq (by omega) ?_;(conv=>whnf);exact rfl
   ·conv=>whnf
    refine oTq (by omega) ?_;conv=>whnf
    refine⟨by omega,?_⟩;conv=>whnf
    refine⟨_,by rw[Nat.zero_add,Int.toNat_natCast];exact hg,?_⟩;conv=>whnf
    refine oFq (by omega) ?_;conv=>whnf
    refine⟨i+1,[],(by show 8-(i+1)<8-i;omega),⟨hlt,fun j hj h=>?_⟩,⟨q2r,q2r,⟨valI eI,rfl⟩,trivial⟩,⟨⟨rfl,.inl ⟨rfl,irows_noid _ _⟩⟩,trivial⟩,rfl⟩;by_cases hji:j=i
    ·subst hji;rw[←hx];exact hxc
    ·exact hq2 j hj (by omega)
  ·have hno:c∉ol:=not_mem_of l2 (fun j hj h=>hq2 j hj (by omega));rw[r2 hnz hno];conv=>whnf
   refine oFq (by omega) ?_;(conv=>whnf);exact rfl
theorem RIntP_ok (n:Int) (hn:-9223372036854775808≤n∧n<9223372036854775808):AC Tryz.prog 33 [.val (.int .i64 n)] (.pure (PA [] false [] [(n:Rat)])):=by
 have hF:=SFrom_ok n hn;have hN:AC Tryz.prog 85 [RN n 1] (.pure (PA [] false [] [(n:Rat)])):=by
  refine AC.le_res (?_:AC Tryz.prog 85 _ (.pure (.agg [.sl 0 [] true,.val (.bool false),.sl 0 [] true,.sl 3 ([(n:Rat)].map rowN) false]))) (le_agg4 (le_nil 1) (.refl _) (le_nil 1) (.refl _)) (PA_noid _ _ _ _);refine AC.of_body TTok Tryz.func85 rfl (enter_of Tryz.func85 (by kernel_rfl) (by kernel_rfl)) (noid1 (RN_noid _ _)) (.agg _ (noidF (.sl _ _ _ (fun r hr=>nomatch hr)) (.val _) (.sl _ _ _ (fun r hr=>nomatch hr)) (slN_noid _))) (nbq rfl) ?_;show axp _ _ _ _ _;rw[show [(n:Rat)].map rowN=[[.val (.bool (decide (n<0))),.val (.string (decS n.natAbs)),.val (.string (decS 1))]] by rw[List.map_cons,intN_row];rfl];unfold RN;conv=>whnf
  exact⟨Nat.le_refl _,rfl⟩
 refine AC.of_body TTok Tryz.func33 rfl (enter_of Tryz.func33 (by kernel_rfl) (by kernel_rfl)) (noid1 (.val _)) (PA_noid _ _ _ _) (nbq rfl) ?_;unfold RN PA at *;repeat ((conv=>whnf);(first | refine⟨_,‹_›,?_⟩|exact rfl))
theorem sz_natI (n:Nat) (h:n<4294967296):Sz ((n:Int):Rat) 20:=(sz_nat n h).mono (by decide)
theorem numE_inj {a b:Rat} (h:numE a=numE b):a=b:=congrArg (fun x:El=>x.2.2) h
end
section
def pickT (ch:Bool) (tx:List Int) (L:List Int):List Int:=if ch then L.map (getT tx) else []
def pickX (ch:Bool) (na:List (Option (Rat×Nat))) (L:List Int):List (Option (Rat×Nat)):=if ch then [] else L.map (getX na)
theorem spread_ok (sh:List Int) (ch:Bool) (tx:List Int) (na:List (Option (Rat×Nat))) (L:List Int) (hL:L.length≤4096) (h1:tx.length≤5000) (h2:na.length≤5000) :
  AC Tryz.prog 67 [AA sh ch tx na true,.sl 1 (irows .i64 L) false] (.pure (AA [(L.length:Int)] ch (pickT ch tx L) (pickX ch na L) true)):=by
 obtain⟨v1,c1⟩:=vS_single L.length hL;have lL:=irows_len .i64 L;have hP:AC Tryz.prog 108 [AA sh ch tx na true,.sl 1 (irows .i64 [(L.length:Int)]) false,.sl 1 (irows .i64 L) false] (.pure (.tup [AA [(L.length:Int)] ch (pickT ch tx L) (pickX ch na L) true,.val (.bool true)])):=by
  cases ch
  ·exact PickN_ok sh tx na [(L.length:Int)] L v1 c1 (by omega)
  ·exact PickT_ok sh tx na [(L.length:Int)] L v1 c1 (by omega)
 generalize pickT ch tx L=T at *;generalize pickX ch na L=X at *;refine AC.of_body TTok Tryz.func67 rfl (enter_of Tryz.func67 (by kernel_rfl) (by kernel_rfl)) (noid2 (AA_noid _ _ _ _ _) (noid_sl _ _ _)) (AA_noid _ _ _ _ _) (nbq rfl) ?_;have e:irows .i64 [(L.length:Int)]=[[.val (.int .i64 ((irows .i64 L).length:Nat))]]:=by rw[lL];rfl
 rw[e]at hP;unfold AA at *;conv=>whnf
 refine⟨(nbq rfl),_,hP,?_⟩;(conv=>whnf);exact rfl
def roomE (s:List Int):Int:=if 8<s.length then 23 else if vS s then 0 else 26
theorem room_ok (s:List Int) (h:s.length≤1000):AC Tryz.prog 65 [.sl 1 (irows .i64 s) false] (.pure (.tup [.val (.int .i64 (if roomE s=0 then cntI s else 0)),.val (.int .i64 (roomE s))])):=by
 have hC:=Count_ok s (by omega);have ls:=irows_len .i64 s;refine AC.of_body TTok Tryz.func65 rfl (enter_of Tryz.func65 (by kernel_rfl) (by kernel_rfl)) (noid1 (noid_sl _ _ _)) (.tup _ (noid2 (.val _) (.val _))) (nbq rfl) ?_;unfold roomE;by_cases h8:8<s.length
 ·rw[if_pos h8,if_neg (by decide)];rw[CNT_bad (fun hv=>absurd hv.1 (by omega))]at hC;conv=>whnf
  refine⟨_,hC,?_⟩;conv=>whnf
  refine oTq (by omega) ?_;(conv=>whnf);exact rfl
 ·rw[if_neg h8];by_cases hv:vS s
  ·rw[if_pos hv,if_pos rfl];rw[CNT_good hv]at hC;conv=>whnf
   refine⟨_,hC,?_⟩;conv=>whnf
   refine oFq (by omega) ?_;(conv=>whnf);exact rfl
  ·rw[if_neg hv,if_neg (by decide)];rw[CNT_bad hv]at hC;conv=>whnf
   refine⟨_,hC,?_⟩;conv=>whnf
   refine oFq (by omega) ?_;(conv=>whnf);exact rfl
theorem roomR_ok (s:List Int) (h:s.length≤1000):AC Tryz.prog 77 [.sl 1 (irows .i64 s) false] (.pure (.val (.int .i64 (roomE s)))):=by
 have hC:=RCount_ok s (by omega);have ls:=irows_len .i64 s;refine AC.of_body TTok Tryz.func77 rfl (enter_of Tryz.func77 (by kernel_rfl) (by kernel_rfl)) (noid1 (noid_sl _ _ _)) (.val _) (nbq rfl) ?_;unfold roomE;by_cases h8:8<s.length
 ·rw[if_pos h8];conv=>whnf
  refine oTq (by omega) ?_;(conv=>whnf);exact rfl
 ·rw[if_neg h8];by_cases hv:vS s
  ·rw[if_pos hv];rw[CNT_good hv]at hC;conv=>whnf
   refine oFq (by omega) ?_;(conv=>whnf);refine⟨_,‹_›,?_⟩;(conv=>whnf);exact rfl
  ·rw[if_neg hv];rw[CNT_bad hv]at hC;conv=>whnf
   refine oFq (by omega) ?_;(conv=>whnf);refine⟨_,‹_›,?_⟩;(conv=>whnf);exact rfl
theorem shaped_ok (sh:List Int) (na:List (Option (Rat×Nat))) (s:List Int) (hv:vS s) (hc:cntI s=(na.length:Int)):AC Tryz.prog 69 [AA sh false [] na true,.sl 1 (irows .i64 s) false] (.pure (AA s false [] na true)):=by
 obtain⟨n,hn⟩:∃ n,n=na.length:=⟨_,rfl⟩;have n4:n≤4096:=by have:=vS_pr hv;omega
 have hL:AC Tryz.prog 57 [AA sh false [] na true] (.pure (.val (.int .i64 (n:Int)))):=by
  have:=ALen_ok sh false [] na true (by decide) (by omega);rw[show ([]:List Int).length+na.length=n by rw[hn];exact Nat.zero_add _]at this;exact this
 obtain⟨Y,hY⟩:∃ Y:List Int,Y=(List.range n).map fun i:Nat=>(i:Int):=⟨_,rfl⟩;have lY:Y.length=n:=by rw[hY,List.length_map,List.length_range]
 have hYi:∀i (h:i<n),Y[i]'(by omega)=(i:Int):=fun i h=>by subst hY;rw[List.getElem_map,List.getElem_range]
 have hP:=PickN_ok sh [] na s Y hv (by rw[lY,hn];exact hc) (by omega);have hYx:Y.map (getX na)=na:=by
  rw[hY,List.map_map];refine List.ext_getElem? fun i=>?_;rw[List.getElem?_map];by_cases hi:i<n
  ·rw[List.getElem?_range hi];show some (getX na (i:Int))=_;rw[getX_in (by omega),List.getElem?_eq_getElem (by omega)]
  ·rw[List.getElem?_eq_none (by rw[List.length_range];omega),List.getElem?_eq_none (by omega)];rfl
 rw[hYx]at hP;have lYr:=irows_len .i64 Y;have eP:irows .i64 Y=List.take n (List.drop 0 (irows .i64 Y)):=by rw[List.drop_zero,List.take_of_length_le (by omega)]
 rw[eP]at hP;have lz:∀k,(List.replicate k ([.val (.int .i64 0)]:List AV)).length=k:=fun k=>List.length_replicate;have nz:∀(L:List Int) k,∀r∈irows .i64 L++List.replicate k ([.val (.int .i64 0)]:List AV),∀x∈r,NoId x:=fun L k r hr=>by
  rcases List.mem_append.1 hr with h | h
  ·exact irows_noid _ _ r h
  ·rw[(List.mem_replicate.1 h).2];exact noid1 (.val _)
 refine AC.of_body TTok Tryz.func69 rfl (enter_of Tryz.func69 (by kernel_rfl) (by kernel_rfl)) (noid2 (AA_noid _ _ _ _ _) (noid_sl _ _ _)) (AA_noid _ _ _ _ _) (nbq rfl) ?_;unfold AA at *;conv=>whnf
 refine⟨_,hL,?_⟩;conv=>whnf
 refine⟨⟨by omega,by omega,by show ((n:Nat):Int)*((8:Nat):Int)≤140737488355328;omega⟩,?_⟩;conv=>whnf
 refine SW.loopM TTok (fun i:Nat=>[(1,.sl 1 (irows .i64 s) false),(2,.lp 0 0),(4,.lp 8 0),(5,.own 32 0 n),(13,.val (.int .i64 (n:Int))),(14,.val (.int .i64 (i:Int)))])
  (fun i=>[(0,.cells 5 [[.sl 1 (irows .i64 sh) false,.val (.bool false),.sl 1 (irows .i32 []) false,.sl 3 (na.map rowX) false,.val (.bool true)]]),(8,.cells 5 [[.sl 0 [] true,.val (.bool false),.sl 0 [] true,.sl 0 [] true,.val (.bool false)]]),(32,.cells 1 (irows .i64 (Y.take i)++List.replicate (n-i) ([.val (.int .i64 0)]:List AV)))]) 72 30 rfl (fun i=>n-i) (fun i=>i≤n) 0 [] (Nat.zero_le _)
  ⟨q2r,q2r,q2r,q2r,q2r,q2r,trivial⟩ ⟨q3r,q3r,⟨rfl,.inl ⟨rfl,nz _ _⟩⟩,trivial⟩ rfl ?_
 intro i hi;have hi:i≤n:=hi;have ltk:(irows .i64 (Y.take i)).length=i:=by rw[irows_len,List.length_take];omega
 have lr:(irows .i64 (Y.take i)++List.replicate (n-i) ([.val (.int .i64 0)]:List AV)).length=n:=by rw[List.length_append,ltk,lz];omega
 by_cases hlt:i<n
 ·have eI:IntKind.i64.wrap ((i:Int)+1)=((i+1:Nat):Int):=by rw[IntWalk.i64_in _ (by omega)];omega
  have hset:(irows .i64 (Y.take i)++List.replicate (n-i) ([.val (.int .i64 0)]:List AV)).set i [.val (.int .i64 (i:Int))]=irows .i64 (Y.take (i+1))++List.replicate (n-(i+1)) [.val (.int .i64 0)]:=by
   rw[rep_drop _ n i hlt,take_snoc (show i<Y.length by omega),hYi i hlt,←irows_append];have:=set_mid (irows .i64 (Y.take i)) [.val (.int .i64 0)] [.val (.int .i64 (i:Int))] (List.replicate (n-(i+1)) [.val (.int .i64 0)]);rw[ltk]at this;rw[this,List.append_assoc];rfl
  conv=>whnf
  refine oTq (by omega) ?_;conv=>whnf
  refine⟨by omega,?_⟩;conv=>whnf
  refine⟨by rw[Nat.zero_add,Int.toNat_natCast];omega,?_⟩;conv=>whnf
  refine⟨i+1,[],(by show n-(i+1)<n-i;omega),hlt,⟨q2r,q2r,q2r,q2r,q2r,⟨valI eI,rfl⟩,trivial⟩,⟨q3r,q3r,⟨rfl,.inl ⟨celE ?_,nz _ _⟩⟩,trivial⟩,rfl⟩;rw[←hset];show List.set _ (0+(i:Int).toNat) _=_;rw[Nat.zero_add,Int.toNat_natCast]
 ·have hie:i=n:=by omega
  have e1:Y.take i=Y:=List.take_of_length_le (by omega);rw[e1,hie,Nat.sub_self,List.replicate_zero,List.append_nil];conv=>whnf
  refine oFq (by omega) ?_;conv=>whnf
  refine⟨by show 0+n≤_;omega,_,hP,?_⟩;(conv=>whnf);exact rfl
end
section
theorem el_pick {ch:Bool} {tx:List Int} {na:List (Option (Rat×Nat))} {qs:List Rat} (na1:na.map valX=qs) {L:List Int} {i p:Nat} (hL:L[i]?=some (p:Int)) (hc:ch=true→qs=[]∧p<tx.length) (hn:ch=false→tx=[]) :
  elA ch (pickT ch tx L) ((pickX ch na L).map valX) i=elA ch tx qs p:=by
 have e:(pickX ch na L).map valX=if ch then [] else L.map (getQ qs):=by
  unfold pickX;rw[ifnil (List.map valX) rfl,getX_map,na1]
 rw[e];unfold pickT elA;cases ch
 ·have:=hn rfl;subst this;rw[if_neg Bool.false_ne_true,if_neg Bool.false_ne_true,List.getD_eq_getElem?_getD (l:=L.map (getQ qs)),List.getElem?_map,hL];show (false,([]:List Int).getD i 0,getQ qs (p:Int))=_;rw[getQ_nat];rfl
 ·obtain⟨h1,h2⟩:=hc rfl;subst h1;rw[if_pos rfl,if_pos rfl,List.getD_eq_getElem?_getD (l:=L.map (getT tx)),List.getElem?_map,hL];show (true,getT tx (p:Int),([]:List Rat).getD i 0)=_;rw[getT_nat _ h2];rfl
theorem pick_len {ch:Bool} {tx:List Int} {na:List (Option (Rat×Nat))} (L:List Int):(pickT ch tx L).length+(pickX ch na L).length=L.length∧(ch=true→(pickX ch na L).length=0)∧(ch=false→(pickT ch tx L).length=0):=by
 unfold pickT pickX;cases ch
 ·exact⟨by rw[if_neg Bool.false_ne_true,if_neg Bool.false_ne_true,List.length_map];exact Nat.zero_add _,fun h=>Bool.noConfusion h,fun _=>rfl⟩
 ·exact⟨by rw[if_pos rfl,if_pos rfl,List.length_map];rfl,fun _=>rfl,fun h=>Bool.noConfusion h⟩
theorem pick_ok {ch:Bool} {na:List (Option (Rat×Nat))} {qs:List Rat} (na1:na.map valX=qs) (oa:∀o∈na,okX o) (hQ:∀q∈qs,Sz q 20) (L:List Int):(∀o∈pickX ch na L,okX o)∧∀q∈(pickX ch na L).map valX,Sz q 20:=by
 unfold pickX;cases ch
 ·rw[if_neg Bool.false_ne_true];refine⟨fun o ho=>?_,fun q hq=>?_⟩
  ·obtain⟨k,_,rfl⟩:=List.mem_map.1 ho;exact getX_ok oa k
  ·rw[getX_map,na1]at hq;obtain⟨k,_,rfl⟩:=List.mem_map.1 hq;unfold getQ;split
   ·exact getD_sz (by decide) hQ _
   ·exact Sz_zero.mono (by decide)
 ·rw[if_pos rfl];exact⟨(fun o ho=>nomatch ho),(fun q hq=>nomatch hq)⟩
theorem two_pick (c most:Int) (hc:isTwo c) (hm:most≤200) (ca cb:Bool) (ta tb:List Int) (na nb:List (Option (Rat×Nat))) (qa qb:List Rat) (na1:na.map valX=qa) (nb1:nb.map valX=qb) (oa:∀o∈na,okX o) (ob:∀o∈nb,okX o) (hQa:∀q∈qa,Sz q 20) (hQb:∀q∈qb,Sz q 20)
  (n:Nat) (hn:n≤500) (A B:List Int) (f g:Nat→Nat) (lA:A.length=n) (lB:B.length=n) (hA:∀i,i<n→A[i]?=some (f i:Int)) (hB:∀i,i<n→B[i]?=some (g i:Int))
  (a1:ca=true→qa=[]∧∀i,i<n→f i<ta.length) (a2:ca=false→ta=[]) (b1:cb=true→qb=[]∧∀i,i<n→g i<tb.length) (b2:cb=false→tb=[]) :
  ∃ l:List (Option (Rat×Nat)),(firstE ((List.range n).map fun i=>pairE c most (elA ca ta qa (f i)) (elA cb tb qb (g i)))=0→l.map valX=(List.range n).map fun i=>(pairE c most (elA ca ta qa (f i)) (elA cb tb qb (g i))).1)∧(∀o∈l,okX o)∧l.length≤5000 ∧
   AC Tryz.prog 66 [.val (.int .i32 c),AA [(n:Int)] ca (pickT ca ta A) (pickX ca na A) true,AA [(n:Int)] cb (pickT cb tb B) (pickX cb nb B) true,.val (.int .i64 most)] (.pure (resA [(n:Int)] (firstE ((List.range n).map fun i=>pairE c most (elA ca ta qa (f i)) (elA cb tb qb (g i)))) l)):=by
 obtain⟨v1,c1⟩:=vS_single n (by omega);obtain⟨p1,p2,p3⟩:=pick_len (ch:=ca) (tx:=ta) (na:=na) A;obtain⟨q1,q2,q3⟩:=pick_len (ch:=cb) (tx:=tb) (na:=nb) B;obtain⟨o1,s1⟩:=pick_ok (ch:=ca) na1 oa hQa A;obtain⟨o2,s2⟩:=pick_ok (ch:=cb) nb1 ob hQb B;have k1:kinds [(n:Int)] ca (pickT ca ta A).length (pickX ca na A).length:=by
  unfold kinds;rw[c1];cases ca
  ·have:=p3 rfl;exact⟨by omega,this⟩
  ·have:=p2 rfl;exact⟨by omega,this⟩
 have k2:kinds [(n:Int)] cb (pickT cb tb B).length (pickX cb nb B).length:=by
  unfold kinds;rw[c1];cases cb
  ·have:=q3 rfl;exact⟨by omega,this⟩
  ·have:=q2 rfl;exact⟨by omega,this⟩
 obtain⟨l,w1,w2,w3,w4⟩:=PTwoN_ok c [(n:Int)] [(n:Int)] ca cb (pickT ca ta A) (pickT cb tb B) (pickX ca na A) (pickX cb nb B) o1 o2 _ _ rfl rfl most hm v1 v1 (by rw[List.length_map];exact k1) (by rw[List.length_map];exact k2) (by omega) (by omega) (by rw[List.length_map];omega) (by rw[List.length_map];omega) s1 s2;have fit:fitS [(n:Int)] [(n:Int)] ((pickT ca ta A).length+((pickX ca na A).map valX).length) ((pickT cb tb B).length+((pickX cb nb B).map valX).length)=([(n:Int)],false,false,0):=if_pos rfl;have he:∀i,i<n→elemF c ca cb (pickT ca ta A) (pickT cb tb B) ((pickX ca na A).map valX) ((pickX cb nb B).map valX) false false most i=pairE c most (elA ca ta qa (f i)) (elA cb tb qb (g i)):=fun i hi=>by
  rw[←el_pick na1 (hA i hi) (fun h=>⟨(a1 h).1,(a1 h).2 i hi⟩) a2,←el_pick nb1 (hB i hi) (fun h=>⟨(b1 h).1,(b1 h).2 i hi⟩) b2];rfl
 have hE:twoE c [(n:Int)] [(n:Int)] ca cb (pickT ca ta A) (pickT cb tb B) ((pickX ca na A).map valX) ((pickX cb nb B).map valX) most=firstE ((List.range n).map fun i=>pairE c most (elA ca ta qa (f i)) (elA cb tb qb (g i))):=by
  unfold twoE;rw[if_pos hc,fit,if_neg (fun h=>h rfl)];show firstE ((List.range (cntI [(n:Int)]).toNat).map _)=_;rw[c1,Int.toNat_natCast];congr 1;exact List.map_congr_left fun i hi=>he i (List.mem_range.1 hi)
 have hV:twoV c [(n:Int)] [(n:Int)] ca cb (pickT ca ta A) (pickT cb tb B) ((pickX ca na A).map valX) ((pickX cb nb B).map valX) most=(List.range n).map fun i=>(pairE c most (elA ca ta qa (f i)) (elA cb tb qb (g i))).1:=by
  unfold twoV;rw[fit];show (List.range (cntI [(n:Int)]).toNat).map _=_;rw[c1,Int.toNat_natCast];exact List.map_congr_left fun i hi=>congrArg Prod.fst (he i (List.mem_range.1 hi))
 rw[fit,hE]at w4;rw[hE,hV]at w1;exact⟨l,w1,w2,w3,w4⟩
section
variable (c most:Int) (sa sb:List Int) (ca cb:Bool) (ta tb:List Int) (na nb:List (Option (Rat×Nat)))
theorem out_nd:∀x∈[AV.val (.int .i32 c),AA sa ca ta na true,AA sb cb tb nb true,.val (.int .i64 most)],NoId x:=noidF (.val _) (AA_noid _ _ _ _ _) (AA_noid _ _ _ _ _) (.val _)
theorem join2 (h1:sa.length≤8) (h2:sb.length≤8):AC Tryz.prog 64 [.sl 1 [[.sl 1 (irows .i64 sa) false],[.sl 1 (irows .i64 sb) false]] false] (.pure (.sl 1 (irows .i64 (sa++sb)) false)):=by
 have hc:=ShJoin_ok [sa,sb] (by show 2≤1000;omega) (by simp;omega);rw[show [sa,sb].flatten=sa++sb by simp]at hc;exact hc
end
end
section
def outP (c most:Int) (ca cb:Bool) (ta tb:List Int) (qa qb:List Rat) (lb n:Nat):List (Rat×Int):=(List.range n).map fun i=>pairE c most (elA ca ta qa (i/lb)) (elA cb tb qb (i % lb))
theorem nz_noid (L:List Int) (k:Nat):∀r∈irows .i64 L++List.replicate k ([.val (.int .i64 0)]:List AV),∀x∈r,NoId x:=fun r hr=>by
 rcases List.mem_append.1 hr with h | h
 ·exact irows_noid _ _ r h
 ·rw[(List.mem_replicate.1 h).2];exact noid1 (.val _)
theorem fill_set (Y:List Int) (n i:Nat) (y:Int) (hi:i<n) (lY:Y.length=n) (hy:Y[i]?=some y) :
  (irows .i64 (Y.take i)++List.replicate (n-i) ([.val (.int .i64 0)]:List AV)).set i [.val (.int .i64 y)]=irows .i64 (Y.take (i+1))++List.replicate (n-(i+1)) [.val (.int .i64 0)]:=by
 have ltk:(irows .i64 (Y.take i)).length=i:=by rw[irows_len,List.length_take];omega
 have hY:Y[i]'(by omega)=y:=by rw[List.getElem?_eq_getElem (by omega)]at hy;exact Option.some.inj hy
 rw[rep_drop _ n i hi,take_snoc (show i<Y.length by omega),hY,←irows_append];have:=set_mid (irows .i64 (Y.take i)) [.val (.int .i64 0)] [.val (.int .i64 y)] (List.replicate (n-(i+1)) [.val (.int .i64 0)]);rw[ltk]at this;rw[this,List.append_assoc];rfl
set_option maxRecDepth 20000 in
theorem Outer_good (c most:Int) (hc:isTwo c) (hm:most≤200) (sa sb:List Int) (ca cb:Bool) (ta tb:List Int) (na nb:List (Option (Rat×Nat))) (qa qb:List Rat) (na1:na.map valX=qa) (nb1:nb.map valX=qb) (oa:∀o∈na,okX o) (ob:∀o∈nb,okX o) (hQa:∀q∈qa,Sz q 20) (hQb:∀q∈qb,Sz q 20)
  (va:vS sa) (vb:vS sb) (ka:kinds sa ca ta.length na.length) (kb:kinds sb cb tb.length nb.length) (hr:roomE (sa++sb)=0) (n5:pr sa*pr sb≤500) :
  ∃ l:List (Option (Rat×Nat)),(firstE (outP c most ca cb ta tb qa qb (pr sb) (pr sa*pr sb))=0→l.map valX=(outP c most ca cb ta tb qa qb (pr sb) (pr sa*pr sb)).map (·.1))∧(∀o∈l,okX o)∧l.length≤5000 ∧
   AC Tryz.prog 24 [.val (.int .i32 c),AA sa ca ta na true,AA sb cb tb nb true,.val (.int .i64 most)] (.pure (resF (sa++sb) false [] l (firstE (outP c most ca cb ta tb qa qb (pr sb) (pr sa*pr sb))))):=by
 have hv:vS (sa++sb):=by
  unfold roomE at hr;by_cases h8:8<(sa++sb).length
  ·rw[if_pos h8]at hr;exact absurd hr (by decide)
  ·rw[if_neg h8]at hr;by_cases hv:vS (sa++sb)
   ·exact hv
   ·rw[if_neg hv]at hr;exact absurd hr (by decide)
 obtain⟨k1,k2⟩:=kinds_c va ka;obtain⟨k3,k4⟩:=kinds_c vb kb;have pa4:=(vS_pr va).2;have pb4:=(vS_pr vb).2;obtain⟨la,hla⟩:∃ la,la=pr sa:=⟨_,rfl⟩;obtain⟨lb,hlb⟩:∃ lb,lb=pr sb:=⟨_,rfl⟩;have hcn:cntI (sa++sb)=((la*lb:Nat):Int):=by rw[(vS_pr hv).1,pr_append,hla,hlb]
 rw[←hla]at k1 k2 pa4;rw[←hlb]at k3 k4 pb4;rw[←hla,←hlb]at n5 ⊢;obtain⟨n,hn⟩:∃ n,n=la*lb:=⟨_,rfl⟩;rw[←hn]at hcn n5 ⊢;have lqa:qa.length=na.length:=by rw[←na1,List.length_map]
 have lqb:qb.length=nb.length:=by rw[←nb1,List.length_map]
 have ltb:tb.length+nb.length=lb:=by
  cases cb
  ·have:=k4 rfl;omega
  ·have:=k3 rfl;omega
 have lta:ta.length+na.length=la:=by
  cases ca
  ·have:=k2 rfl;omega
  ·have:=k1 rfl;omega
 have hH:=Has_ok c;rw[decide_eq_true hc]at hH;have hSa:=Shape_ok sa ca ta na (by have:=va.1;omega);have hSb:=Shape_ok sb cb tb nb (by have:=vb.1;omega);have hJ:=join2 sa sb va.1 vb.1;have hR:=room_ok (sa++sb) (by rw[List.length_append];have:=va.1;have:=vb.1;omega);rw[if_pos hr,hr,hcn]at hR;have hL:=ALen_ok sb cb tb nb true (by omega) (by omega);rw[ltb]at hL;obtain⟨A,hA⟩:∃ A:List Int,A=(List.range n).map fun i:Nat=>((i/lb:Nat):Int):=⟨_,rfl⟩;obtain⟨B,hB⟩:∃ B:List Int,B=(List.range n).map fun i:Nat=>((i % lb:Nat):Int):=⟨_,rfl⟩;have lA:A.length=n:=by rw[hA,List.length_map,List.length_range]
 have lB:B.length=n:=by rw[hB,List.length_map,List.length_range]
 have hAi:∀i,i<n→A[i]?=some ((i/lb:Nat):Int):=fun i hi=>by rw[hA,List.getElem?_map,List.getElem?_range hi];rfl
 have hBi:∀i,i<n→B[i]?=some ((i % lb:Nat):Int):=fun i hi=>by rw[hB,List.getElem?_map,List.getElem?_range hi];rfl
 have hdiv:∀i,i<n→i/lb<la∧i % lb<lb:=fun i hi=>by
  rw[hn]at hi;have hp:0<lb:=Nat.pos_of_ne_zero fun e=>by rw[e]at hi;omega
  exact⟨Nat.div_lt_of_lt_mul (by rw[Nat.mul_comm];exact hi),Nat.mod_lt _ hp⟩
 have hSpA:=spread_ok sa ca ta na A (by omega) (by omega) (by omega);have hSpB:=spread_ok sb cb tb nb B (by omega) (by omega) (by omega);rw[lA]at hSpA;rw[lB]at hSpB;have lAr:=irows_len .i64 A;have lBr:=irows_len .i64 B;have eA:irows .i64 A=List.take n (List.drop 0 (irows .i64 A)):=by rw[List.drop_zero,List.take_of_length_le (by omega)]
 have eB:irows .i64 B=List.take n (List.drop 0 (irows .i64 B)):=by rw[List.drop_zero,List.take_of_length_le (by omega)]
 rw[eA]at hSpA;rw[eB]at hSpB;obtain⟨l,w1,w2,w3,w4⟩:=two_pick c most hc hm ca cb ta tb na nb qa qb na1 nb1 oa ob hQa hQb n n5 A B (fun i=>i/lb) (fun i=>i % lb) lA lB hAi hBi
  (fun h=>⟨List.length_eq_zero_iff.1 (by rw[lqa];exact (k1 h).2),fun i hi=>by have:=(hdiv i hi).1;have:=(k1 h).1;omega⟩) (fun h=>List.length_eq_zero_iff.1 (k2 h).2)
  (fun h=>⟨List.length_eq_zero_iff.1 (by rw[lqb];exact (k3 h).2),fun i hi=>by have:=(hdiv i hi).2;have:=(k3 h).1;omega⟩) (fun h=>List.length_eq_zero_iff.1 (k4 h).2)
 have w4:AC Tryz.prog 66 [.val (.int .i32 c),AA [(n:Int)] ca (pickT ca ta A) (pickX ca na A) true,AA [(n:Int)] cb (pickT cb tb B) (pickX cb nb B) true,.val (.int .i64 most)] (.pure (resA [(n:Int)] (firstE (outP c most ca cb ta tb qa qb lb n)) l)):=w4;have w1:firstE (outP c most ca cb ta tb qa qb lb n)=0→l.map valX=(outP c most ca cb ta tb qa qb lb n).map (·.1):=fun h=>by rw[w1 h];unfold outP;rw[List.map_map];rfl
 refine⟨l,w1,w2,w3,?_⟩;have ll:firstE (outP c most ca cb ta tb qa qb lb n)=0→l.length=n:=fun h=>by
  have:=congrArg List.length (w1 h);unfold outP at this;rw[List.length_map,List.length_map,List.length_map,List.length_range]at this;exact this
 have hSh:firstE (outP c most ca cb ta tb qa qb lb n)=0→AC Tryz.prog 69 [AA [(n:Int)] false [] l true,.sl 1 (irows .i64 (sa++sb)) false] (.pure (AA (sa++sb) false [] l true)):=fun h=>shaped_ok [(n:Int)] l (sa++sb) hv (by rw[hcn,ll h]);generalize firstE (outP c most ca cb ta tb qa qb lb n)=E at *;generalize pickT ca ta A=TA at *;generalize pickT cb tb B=TB at *;generalize pickX ca na A=XA at *;generalize pickX cb nb B=XB at *;obtain⟨r',hle,hno,e1,e2⟩:∃ r',AVle r' (resF (sa++sb) false [] l E)∧NoId r'∧(E=0→r' = .tup [AA (sa++sb) false [] l true,.val (.int .i64 0)])∧(E≠0→r' = .tup [AZ,.val (.int .i64 E)]):=by
  unfold resF;by_cases h:E=0
  ·rw[if_pos h];exact⟨_,.refl _,.tup _ (noid2 (AA_noid _ _ _ _ _) (.val _)),fun _=>rfl,fun h'=>absurd h h'⟩
  ·rw[if_neg h];exact⟨_,.tup2 AZ_le (.refl _),AZf_noid _,fun h'=>absurd h' h,fun _=>rfl⟩
 refine AC.le_res (?_:AC Tryz.prog 24 _ (.pure r')) hle (resF_noid _ _ _ _ _);have lz:∀k,(List.replicate k ([.val (.int .i64 0)]:List AV)).length=k:=fun k=>List.length_replicate;clear w1 ll hA hB eA eB;refine AC.of_body TTok Tryz.func24 rfl (enter_of Tryz.func24 (by kernel_rfl) (by kernel_rfl)) (out_nd c most sa sb ca cb ta tb na nb) hno (nbq rfl) ?_;unfold AA AZ at *;conv=>whnf
 refine⟨_,hH,?_⟩;conv=>whnf
 refine⟨_,hSa,?_⟩;conv=>whnf
 refine⟨_,hSb,?_⟩;conv=>whnf
 refine⟨(nbq rfl),_,hJ,?_⟩;conv=>whnf
 refine⟨by kernel_rfl,?_⟩;conv=>whnf
 refine⟨_,hR,?_⟩;conv=>whnf
 refine⟨⟨by omega,by omega,by show ((n:Nat):Int)*((8:Nat):Int)≤140737488355328;omega⟩,?_⟩;conv=>whnf
 refine⟨⟨by omega,by omega,by show ((n:Nat):Int)*((8:Nat):Int)≤140737488355328;omega⟩,?_⟩;conv=>whnf
 refine⟨by kernel_rfl,?_⟩;conv=>whnf
 refine SW.loopM TTok (fun i:Nat=>[(0,.val (.int .i32 c)),(3,.val (.int .i64 most)),(5,.lp 0 0),(6,.lp 8 0),(8,.lp 16 0),(9,.val (.int .i64 0)),(10,.sl 1 (irows .i64 (sa++sb)) false),(13,.own 192 0 n),(14,.own 208 0 n),(40,.val (.int .i64 (n:Int))),(41,.val (.int .i64 (i:Int)))])
  (fun i=>[(0,.cells 5 [[.sl 1 (irows .i64 sa) false,.val (.bool ca),.sl 1 (irows .i32 ta) false,.sl 3 (na.map rowX) false,.val (.bool true)]]),(8,.cells 5 [[.sl 1 (irows .i64 sb) false,.val (.bool cb),.sl 1 (irows .i32 tb) false,.sl 3 (nb.map rowX) false,.val (.bool true)]]),(16,.cells 5 [[.sl 0 [] true,.val (.bool false),.sl 0 [] true,.sl 0 [] true,.val (.bool false)]]),(192,.cells 1 (irows .i64 (A.take i)++List.replicate (n-i) ([.val (.int .i64 0)]:List AV))),(208,.cells 1 (irows .i64 (B.take i)++List.replicate (n-i) ([.val (.int .i64 0)]:List AV)))]) 248 78 rfl (fun i=>n-i) (fun i=>i≤n) 0 [] (Nat.zero_le _)
  ⟨q2r,q2r,q2r,q2r,q2r,q2r,q2r,q2r,q2r,q2r,q2r,trivial⟩ ⟨q3r,q3r,q3r,⟨rfl,.inl ⟨rfl,nz_noid _ _⟩⟩,⟨rfl,.inl ⟨rfl,nz_noid _ _⟩⟩,trivial⟩ rfl ?_
 intro i hJ;have hi:i≤n:=hJ;clear hJ;have ltA:(irows .i64 (A.take i)).length=i:=by rw[irows_len,List.length_take];omega
 have ltB:(irows .i64 (B.take i)).length=i:=by rw[irows_len,List.length_take];omega
 have lrA:(irows .i64 (A.take i)++List.replicate (n-i) ([.val (.int .i64 0)]:List AV)).length=n:=by rw[List.length_append,ltA,lz];omega
 have lrB:(irows .i64 (B.take i)++List.replicate (n-i) ([.val (.int .i64 0)]:List AV)).length=n:=by rw[List.length_append,ltB,lz];omega
 by_cases hlt:i<n
 ·have eI:IntKind.i64.wrap ((i:Int)+1)=((i+1:Nat):Int):=by rw[IntWalk.i64_in _ (by omega)];omega
  have hsA:=fill_set A n i _ hlt lA (hAi i hlt);have hsB:=fill_set B n i _ hlt lB (hBi i hlt);have hp:lb≠0:=fun e=>by rw[hn,e]at hlt;omega
  have dq:IntKind.i64.wrap (((i:Int)).tdiv (lb:Int))=((i/lb:Nat):Int):=by
   have:=Nat.div_le_self i lb;rw[Int.tdiv_eq_ediv_of_nonneg (Int.natCast_nonneg _),←Int.natCast_ediv,wrap_nat' _ (by omega)]
  have dr:((i:Int)).tmod (lb:Int)=((i % lb:Nat):Int):=by rw[Int.tmod_eq_emod_of_nonneg (Int.natCast_nonneg _),←Int.natCast_emod]
  conv=>whnf
  refine oTq (by omega) ?_;conv=>whnf
  refine⟨_,hL,?_⟩;conv=>whnf
  refine⟨by omega,?_⟩;conv=>whnf
  refine⟨_,hL,?_⟩;conv=>whnf
  refine⟨by omega,?_⟩;conv=>whnf
  refine⟨by omega,?_⟩;conv=>whnf
  refine⟨by rw[Nat.zero_add,Int.toNat_natCast];omega,?_⟩;conv=>whnf
  refine⟨by omega,?_⟩;conv=>whnf
  refine⟨by rw[Nat.zero_add,Int.toNat_natCast];omega,?_⟩;conv=>whnf
  refine⟨by kernel_rfl,?_⟩;conv=>whnf
  refine⟨i+1,[],(by show n-(i+1)<n-i;omega),hlt,⟨q2r,q2r,q2r,q2r,q2r,q2r,q2r,q2r,q2r,q2r,⟨valI eI,rfl⟩,trivial⟩,⟨q3r,q3r,q3r,⟨rfl,.inl ⟨celE ?_,nz_noid _ _⟩⟩,⟨rfl,.inl ⟨celE ?_,nz_noid _ _⟩⟩,trivial⟩,rfl⟩
  ·rw[←hsA];show List.set _ (0+(i:Int).toNat) [AV.val (.int .i64 (IntKind.i64.wrap (((i:Int)).tdiv (lb:Int))))]=_;rw[Nat.zero_add,Int.toNat_natCast,dq]
  ·rw[←hsB];show List.set _ (0+(i:Int).toNat) [AV.val (.int .i64 (((i:Int)).tmod (lb:Int)))]=_;rw[Nat.zero_add,Int.toNat_natCast,dr]
 ·have hie:i=n:=by omega
  have e3:A.take i=A:=List.take_of_length_le (by omega);have e4:B.take i=B:=List.take_of_length_le (by omega);rw[e3,e4,hie,Nat.sub_self,List.replicate_zero,List.append_nil,List.append_nil];unfold resA AA at w4;by_cases hE:E=0
  ·rw[if_pos hE]at w4;rw[e1 hE];have hSh:=hSh hE;conv=>whnf
   refine oFq (by omega) ?_;conv=>whnf
   refine⟨by show 0+n≤_;omega,_,hSpA,?_⟩;conv=>whnf
   refine⟨by show 0+n≤_;omega,_,hSpB,?_⟩;conv=>whnf
   refine⟨_,w4,?_⟩;conv=>whnf
   refine⟨by kernel_rfl,?_⟩;conv=>whnf
   refine⟨_,hSh,?_⟩;(conv=>whnf);exact rfl
  ·rw[if_neg hE]at w4;rw[e2 hE];conv=>whnf
   refine oFq (by omega) ?_;conv=>whnf
   refine⟨by show 0+n≤_;omega,_,hSpA,?_⟩;conv=>whnf
   refine⟨by show 0+n≤_;omega,_,hSpB,?_⟩;conv=>whnf
   refine⟨_,w4,?_⟩;conv=>whnf
   refine⟨by kernel_rfl,?_⟩;conv=>whnf
   refine nFq (by omega) ?_;(conv=>whnf);exact rfl
end
section
def PAe (ch:Bool) (t:Int) (q:Rat):AV:=PA [] ch (if ch then [t] else []) (if ch then [] else [q])
theorem PAe_noid (ch:Bool) (t:Int) (q:Rat):NoId (PAe ch t q):=PA_noid _ _ _ _
theorem RPick_nil {a:AV} {at_:List Int} {r:AV} (ha:NoId a) (h:AC Tryz.prog 82 [a,.sl 1 (irows .i64 []) false,.sl 1 (irows .i64 at_) false] (.pure r)):AC Tryz.prog 82 [a,.sl 0 [] true,.sl 1 (irows .i64 at_) false] (.pure r) :=
 AC.le_args h rfl (fun i x y hx hy=>by
  rcases i with _ | _ | _ | i
  ·simp at hx hy;subst hx;subst hy;exact .refl _
  ·simp at hx hy;subst hx;subst hy;exact le_nil 1
  ·simp at hx hy;subst hx;subst hy;exact .refl _
  ·simp at hx) (noid3 ha (.sl _ _ _ (fun r hr=>nomatch hr)) (noid_sl _ _ _))
theorem two_one (c most:Int) (hm:most≤200) (ca cb:Bool) (x y:Int) (p q:Rat) (lp:Sz p 20) (lq:Sz q 20) (hc:isTwo c) :
  AC Tryz.prog 78 [.val (.int .i32 c),PAe ca x p,PAe cb y q,.val (.int .i64 most)] (.pure (resP [] (pairV c ca cb x y p q most).2 [(pairV c ca cb x y p q most).1])):=by
 have k:∀(ch:Bool) (t:Int) (w:Rat),kinds [] ch (if ch then [t] else []).length (if ch then [] else [w]).length:=fun ch t w=>by
  cases ch
  ·exact q2r
  ·exact q2r
 have l1:∀(ch:Bool) (t:Int),(if ch then [t] else []).length≤500:=fun ch t=>by
  cases ch
  ·show 0≤500;omega
  ·show 1≤500;omega
 have l2:∀(ch:Bool) (w:Rat),(if ch then [] else [w]).length≤500:=fun ch w=>by
  cases ch
  ·show 1≤500;omega
  ·show 0≤500;omega
 have s1:∀(ch:Bool) (w:Rat),Sz w 20→∀z∈(if ch then [] else [w]),Sz z 20:=fun ch w hw z hz=>by
  cases ch
  ·rw[List.mem_singleton.1 hz];exact hw
  ·exact nomatch hz
 have h:=RTwoN_ok c [] [] ca cb (if ca then [x] else []) (if cb then [y] else []) (if ca then [] else [p]) (if cb then [] else [q]) most hm (by decide) (by decide) (k ca x p) (k cb y q) (l1 ca x) (l1 cb y) (l2 ca p) (l2 cb q) (s1 ca p lp) (s1 cb q lq);have fit:fitS [] [] ((if ca then [x] else []).length+(if ca then [] else [p]).length) ((if cb then [y] else []).length+(if cb then [] else [q]).length)=([],false,false,0):=if_pos rfl;have he:elemF c ca cb (if ca then [x] else []) (if cb then [y] else []) (if ca then [] else [p]) (if cb then [] else [q]) false false most 0=pairV c ca cb x y p q most:=by
  cases ca<;>cases cb<;>rfl
 have hE:twoE c [] [] ca cb (if ca then [x] else []) (if cb then [y] else []) (if ca then [] else [p]) (if cb then [] else [q]) most=(pairV c ca cb x y p q most).2:=by
  unfold twoE;rw[if_pos hc,fit,if_neg (fun h=>h rfl)];show firstE [elemF c ca cb (if ca then [x] else []) (if cb then [y] else []) (if ca then [] else [p]) (if cb then [] else [q]) false false most 0]=_;rw[he,firstE_fst0];show (if (pairV c ca cb x y p q most).2≠0 then (pairV c ca cb x y p q most).2 else 0)=_;split
  ·rfl
  ·rename_i h;exact (Decidable.byContradiction h).symm
 have hV:twoV c [] [] ca cb (if ca then [x] else []) (if cb then [y] else []) (if ca then [] else [p]) (if cb then [] else [q]) most=[(pairV c ca cb x y p q most).1]:=by
  unfold twoV;rw[fit];show [(elemF c ca cb (if ca then [x] else []) (if cb then [y] else []) (if ca then [] else [p]) (if cb then [] else [q]) false false most 0).1]=_;rw[he]
 rw[fit,hE,hV]at h;exact h
end
section
theorem cat2_key (sa sb:List Int):List.take (0+(irows .i64 sa).length+(irows .i64 sb).length) (List.drop 0 (List.take (0+(irows .i64 sa).length) (List.drop 0 (List.take 0 (List.drop 0 ([]:List (List AV)))++irows .i64 sa))++irows .i64 sb))=irows .i64 (sa++sb):=by
 simp only[List.drop_zero,List.take_zero,List.nil_append,Nat.zero_add,List.take_length];rw[List.take_of_length_le (by rw[List.length_append];omega),←irows_append]
theorem resP_noid (sh:List Int) (E:Int) (l:List Rat):NoId (resP sh E l):=by
 unfold resP;split
 ·exact .tup _ (noid2 (PA_noid _ _ _ _) (.val _))
 ·exact .tup _ (noid2 (PA_noid _ _ _ _) (.val _))
end
section
section
variable (n:Nat) (na:List (Option (Rat×Nat)))
theorem rows_list (h:n≤4000):AC Tryz.prog 62 [AA [(n:Int)] false [] na true] (.pure (.tup [.val (.int .i64 1),.val (.int .i64 (n:Int)),.sl 1 (irows .i64 []) false])):=by
 have v1:=(vS_single n (by omega)).1;have hS:=Shape_ok [(n:Int)] false [] na (by show 1≤1000000;omega);have hSp:=Split_ok [(n:Int)] 0 (by show 0<1;omega) v1;have hSp:AC Tryz.prog 109 [.sl 1 (irows .i64 [(n:Int)]) false,.val (.int .i64 0)] (.pure (.tup [.val (.int .i64 1),.val (.int .i64 (n:Int)),.val (.int .i64 1),.val (.bool true)])):=hSp;refine AC.of_body TTok Tryz.func62 rfl (enter_of Tryz.func62 (by kernel_rfl) (by kernel_rfl)) (noid1 (AA_noid _ _ _ _ _)) (.tup _ (noid3 (.val _) (.val _) (noid_sl _ _ _))) (nbq rfl) ?_;unfold AA at *;have l1:(irows .i64 [(n:Int)]).length=1:=rfl;conv=>whnf
 refine⟨_,hS,?_⟩;conv=>whnf
 refine⟨_,hSp,?_⟩;conv=>whnf
 refine⟨by rw[l1];decide,?_⟩;(conv=>whnf);refine⟨by kernel_rfl,?_⟩;(conv=>whnf);exact rfl
theorem columns_list (h:n≤4000):AC Tryz.prog 63 [AA [(n:Int)] false [] na true] (.pure (.tup [.val (.int .i64 1),.val (.int .i64 (n:Int)),.sl 1 (irows .i64 []) false])):=by
 have v1:=(vS_single n (by omega)).1;have hS:=Shape_ok [(n:Int)] false [] na (by show 1≤1000000;omega);have hSp:=Split_ok [(n:Int)] 0 (by show 0<1;omega) v1;have hSp:AC Tryz.prog 109 [.sl 1 (irows .i64 [(n:Int)]) false,.val (.int .i64 0)] (.pure (.tup [.val (.int .i64 1),.val (.int .i64 (n:Int)),.val (.int .i64 1),.val (.bool true)])):=hSp;refine AC.of_body TTok Tryz.func63 rfl (enter_of Tryz.func63 (by kernel_rfl) (by kernel_rfl)) (noid1 (AA_noid _ _ _ _ _)) (.tup _ (noid3 (.val _) (.val _) (noid_sl _ _ _))) (nbq rfl) ?_;unfold AA at *;have l1:(irows .i64 [(n:Int)]).length=1:=rfl;conv=>whnf
 refine⟨_,hS,?_⟩;conv=>whnf
 refine⟨_,hSp,?_⟩;conv=>whnf
 refine⟨by rw[l1];decide,?_⟩;(conv=>whnf);refine⟨by kernel_rfl,?_⟩;(conv=>whnf);exact rfl
end
theorem Rats_zero:AC Tryz.prog 114 [AZ] (.fresh 3 []):=by
 have h:AC Tryz.prog 114 [AA [] false [] [] false] (.fresh 3 []):=by
  have hC:=CloneQ_freshA [] (by decide);refine AC.of_body TTok Tryz.func114 rfl (enter_of Tryz.func114 (by kernel_rfl) (by kernel_rfl)) (noid1 (AA_noid _ _ _ _ _)) (fun r hr=>nomatch hr) (nbq rfl) ?_;unfold AA;conv=>whnf
  refine⟨_,hC,?_⟩;conv=>whnf
  exact⟨rfl,Nat.le_refl _,rfl⟩
 exact AC.le_args h rfl (fun i x y hx hy=>by
  rcases i with _ | i
  ·simp at hx hy;subst hx;subst hy;exact AZ_le
  ·simp at hx) (noid1 AZ_noid)
theorem ALen_zero:AC Tryz.prog 57 [AZ] (.pure (.val (.int .i64 0))) :=
 AC.le_args (ALen_ok [] false [] [] false (by decide) (by decide):AC Tryz.prog 57 [AA [] false [] [] false] (.pure (.val (.int .i64 0)))) rfl (fun i x y hx hy=>by
  rcases i with _ | i
  ·simp at hx hy;subst hx;subst hy;exact AZ_le
  ·simp at hx) (noid1 AZ_noid)
theorem more_zero (o:Option (Rat×Nat)):AC Tryz.prog 68 [AZ,AA [] false [] [o] true] (.pure (AA [1] false [] [o] true)):=by
 have hL:=ALen_zero;have hF:=Rats_zero;have hR:AC Tryz.prog 15 [AA [] false [] [o] true,.val (.int .i64 0)] (.pure (.agg (rowX o))):=RatI_ok [] false [] [o] true 0 (by show 0<1;omega) (by show 1≤1000000;omega);have hN:AC Tryz.prog 14 [.sl 1 (irows .i64 [1]) false,.sl 3 ([o].map rowX) false] (.pure (.tup [AA [1] false [] [o] true,.val (.bool true)])):=Nums_ok [1] [o] (by decide) rfl (by show 1≤1000000;omega);obtain⟨k,l1,l2,z,b,hrow⟩:=rowX_eq o;have ho:[o].map rowX=[[.sl k l1 z,.val (.bool b),.sl k l2 z]]:=by show [rowX o]=_;rw[hrow]
 rw[hrow]at hR;have hN':AC Tryz.prog 14 [.sl 1 (irows .i64 [1]) false,.sl 3 [[.sl k l1 z,.val (.bool b),.sl k l2 z]] false] (.pure (.tup [AA [1] false [] [o] true,.val (.bool true)])):=by rw[←ho];exact hN
 refine AC.of_body TTok Tryz.func68 rfl (enter_of Tryz.func68 (by kernel_rfl) (by kernel_rfl)) (noid2 AZ_noid (AA_noid _ _ _ _ _)) (AA_noid _ _ _ _ _) (nbq rfl) ?_;unfold AA AZ at *;conv=>whnf
 refine⟨_,hL,?_⟩;conv=>whnf
 refine⟨_,hF,?_⟩;conv=>whnf
 refine⟨_,hR,?_⟩;conv=>whnf
 refine⟨⟨Nat.le_refl _,by show (0+1)*56≤140737488355328;omega,Nat.le_refl _⟩,?_⟩;conv=>whnf
 refine⟨⟨Nat.le_refl _,Nat.le_refl _⟩,_,hN',?_⟩;conv=>whnf
 refine⟨by kernel_rfl,?_⟩;(conv=>whnf);exact rfl
theorem Inner_vec (f g most:Int) (hf:isTwo f) (hg:isTwo g) (n:Nat) (h0:0<n) (h4:n≤500) (na nb xs:List (Option (Rat×Nat))) (o:Option (Rat×Nat)) (la:na.length=n) (lb:nb.length=n)
  (hT:AC Tryz.prog 66 [.val (.int .i32 g),AA [(n:Int)] false [] na true,AA [(n:Int)] false [] nb true,.val (.int .i64 most)] (.pure (.tup [AA [(n:Int)] false [] xs true,.val (.int .i64 0)])))
  (hR:AC Tryz.prog 12 [.val (.int .i32 f),AA [(n:Int)] false [] xs true,.val (.int .i64 (-1)),.val (.int .i64 most)] (.pure (.tup [AA [] false [] [o] true,.val (.int .i64 0)]))) :
  AC Tryz.prog 23 [.val (.int .i32 f),.val (.int .i32 g),AA [(n:Int)] false [] na true,AA [(n:Int)] false [] nb true,.val (.int .i64 most)] (.pure (.tup [AA [] false [] [o] true,.val (.int .i64 0)])):=by
 have hHf:=Has_ok f;have hHg:=Has_ok g;rw[decide_eq_true hf]at hHf;rw[decide_eq_true hg]at hHg;have hRo:=rows_list n na (by omega);have hCo:=columns_list n nb (by omega);have hJ:=join2 [] [] (by decide) (by decide);have hJ:AC Tryz.prog 64 [.sl 1 [[.sl 1 (irows .i64 []) false],[.sl 1 (irows .i64 []) false]] false] (.pure (.sl 1 (irows .i64 []) false)):=hJ;have hRm:AC Tryz.prog 65 [.sl 1 (irows .i64 []) false] (.pure (.tup [.val (.int .i64 1),.val (.int .i64 0)])):=room_ok [] (by decide);have hM:=more_zero o;have hSh:=shaped_ok [1] [o] [] (by decide) rfl;obtain⟨Y,hY⟩:∃ Y:List Int,Y=(List.range n).map fun i:Nat=>(i:Int):=⟨_,rfl⟩;have lY:Y.length=n:=by rw[hY,List.length_map,List.length_range]
 have hYi:∀i,i<n→Y[i]?=some (i:Int):=fun i h=>by rw[hY,List.getElem?_map,List.getElem?_range h];rfl
 have hYx:∀l:List (Option (Rat×Nat)),l.length=n→Y.map (getX l)=l:=fun l hl=>by
  rw[hY,List.map_map];refine List.ext_getElem? fun i=>?_;rw[List.getElem?_map];by_cases hi:i<n
  ·rw[List.getElem?_range hi];show some (getX l (i:Int))=_;rw[getX_in (by omega),List.getElem?_eq_getElem (by omega)]
  ·rw[List.getElem?_eq_none (by rw[List.length_range];omega),List.getElem?_eq_none (by omega)];rfl
 have hSa:=spread_ok [(n:Int)] false [] na Y (by omega) (by decide) (by omega);have hSb:=spread_ok [(n:Int)] false [] nb Y (by omega) (by decide) (by omega);have hSa:AC Tryz.prog 67 [AA [(n:Int)] false [] na true,.sl 1 (irows .i64 Y) false] (.pure (AA [(Y.length:Int)] false [] (Y.map (getX na)) true)):=hSa;have hSb:AC Tryz.prog 67 [AA [(n:Int)] false [] nb true,.sl 1 (irows .i64 Y) false] (.pure (AA [(Y.length:Int)] false [] (Y.map (getX nb)) true)):=hSb;rw[hYx na la,lY]at hSa;rw[hYx nb lb,lY]at hSb;have lYr:=irows_len .i64 Y;have eY:irows .i64 Y=List.take n (List.drop 0 (irows .i64 Y)):=by rw[List.drop_zero,List.take_of_length_le (by omega)]
 rw[eY]at hSa hSb;clear hY eY;have lz:∀k,(List.replicate k ([.val (.int .i64 0)]:List AV)).length=k:=fun k=>List.length_replicate;refine AC.of_body TTok Tryz.func23 rfl (enter_of Tryz.func23 (by kernel_rfl) (by kernel_rfl)) (noid5 (.val _) (.val _) (AA_noid _ _ _ _ _) (AA_noid _ _ _ _ _) (.val _)) (.tup _ (noid2 (AA_noid _ _ _ _ _) (.val _))) (nbq rfl) ?_;unfold AA AZ at *;conv=>whnf
 refine⟨_,hHf,?_⟩;conv=>whnf
 refine⟨_,hHg,?_⟩;conv=>whnf
 refine⟨_,hRo,?_⟩;conv=>whnf
 refine⟨_,hCo,?_⟩;conv=>whnf
 refine nTq (by omega) ?_;conv=>whnf
 refine oFq (by omega) ?_;conv=>whnf
 refine oFq (by omega) ?_;conv=>whnf
 refine⟨(nbq rfl),_,hJ,?_⟩;conv=>whnf
 refine⟨_,hRm,?_⟩;conv=>whnf
 refine SW.loopM TTok (fun i:Nat=>[(0,.val (.int .i32 f)),(1,.val (.int .i32 g)),(4,.val (.int .i64 most)),(7,.lp 0 0),(8,.lp 8 0),(10,.lp 16 0),(11,.val (.int .i64 0)),(12,.val (.int .i64 1)),(13,.val (.int .i64 (n:Int))),(15,.val (.int .i64 1)),(16,.val (.int .i64 (n:Int))),(18,.val (.int .i64 (n:Int))),(19,.sl 1 (irows .i64 []) false),(20,.val (.int .i64 1)),(22,.lp 520 0),(84,.val (.int .i64 1)),(85,.val (.int .i64 (i:Int)))])
  (fun i=>[(0,.cells 5 [[.sl 1 (irows .i64 [(n:Int)]) false,.val (.bool false),.sl 1 (irows .i32 []) false,.sl 3 (na.map rowX) false,.val (.bool true)]]),(8,.cells 5 [[.sl 1 (irows .i64 [(n:Int)]) false,.val (.bool false),.sl 1 (irows .i32 []) false,.sl 3 (nb.map rowX) false,.val (.bool true)]]),(16,.cells 5 [[.sl 0 [] true,.val (.bool false),.sl 0 [] true,.sl 0 [] true,.val (.bool false)]]),(520,.cells 5 [bif Nat.beq i 0 then [.sl 0 [] true,.val (.bool false),.sl 0 [] true,.sl 0 [] true,.val (.bool false)] else [.sl 1 (irows .i64 [1]) false,.val (.bool false),.sl 1 (irows .i32 []) false,.sl 3 ([o].map rowX) false,.val (.bool true)]])]) 544 166 rfl (fun i=>1-i) (fun i=>i≤1) 0 [] (Nat.zero_le _)
  ⟨q2r,q2r,q2r,q2r,q2r,q2r,q2r,q2r,q2r,q2r,q2r,⟨valI (by show (if (n:Int)>(n:Int) then (n:Int) else (n:Int))=_;split<;>rfl),rfl⟩,q2r,q2r,q2r,q2r,q2r,trivial⟩ ⟨q3r,q3r,q3r,q3r,trivial⟩ rfl ?_
 intro i hJ;have hi:i≤1:=hJ;clear hJ;have hi01:i=0∨i=1:=by omega
 rcases hi01 with rfl | rfl
 ·conv=>whnf
  refine⟨⟨by omega,by omega,by show ((n:Nat):Int)*((8:Nat):Int)≤140737488355328;omega⟩,?_⟩;conv=>whnf
  refine⟨⟨by omega,by omega,by show ((n:Nat):Int)*((8:Nat):Int)≤140737488355328;omega⟩,?_⟩;conv=>whnf
  refine⟨by kernel_rfl,?_⟩;conv=>whnf
  refine SW.loopM TTok (fun k:Nat=>[(0,.val (.int .i32 f)),(1,.val (.int .i32 g)),(4,.val (.int .i64 most)),(7,.lp 0 0),(8,.lp 8 0),(10,.lp 16 0),(11,.val (.int .i64 0)),(12,.val (.int .i64 1)),(13,.val (.int .i64 (n:Int))),(15,.val (.int .i64 1)),(16,.val (.int .i64 (n:Int))),(18,.val (.int .i64 (n:Int))),(19,.sl 1 (irows .i64 []) false),(20,.val (.int .i64 1)),(22,.lp 520 0),(84,.val (.int .i64 1)),(23,.val (.int .i64 0)),(24,.own 576 0 n),(25,.own 592 0 n),(85,.val (.int .i64 0)),(92,.val (.int .i64 (n:Int))),(93,.val (.int .i64 (k:Int)))])
   (fun k=>[(0,.cells 5 [[.sl 1 (irows .i64 [(n:Int)]) false,.val (.bool false),.sl 1 (irows .i32 []) false,.sl 3 (na.map rowX) false,.val (.bool true)]]),(8,.cells 5 [[.sl 1 (irows .i64 [(n:Int)]) false,.val (.bool false),.sl 1 (irows .i32 []) false,.sl 3 (nb.map rowX) false,.val (.bool true)]]),(16,.cells 5 [[.sl 0 [] true,.val (.bool false),.sl 0 [] true,.sl 0 [] true,.val (.bool false)]]),(520,.cells 5 [[.sl 0 [] true,.val (.bool false),.sl 0 [] true,.sl 0 [] true,.val (.bool false)]]),(576,.cells 1 (irows .i64 (Y.take k)++List.replicate (n-k) ([.val (.int .i64 0)]:List AV))),(592,.cells 1 (irows .i64 (Y.take k)++List.replicate (n-k) ([.val (.int .i64 0)]:List AV)))]) 632 166 rfl (fun k=>n-k) (fun k=>k≤n) 0 [] (Nat.zero_le _)
   ⟨q2r,q2r,q2r,q2r,q2r,q2r,q2r,q2r,q2r,q2r,q2r,q2r,q2r,q2r,q2r,q2r,q2r,q2r,q2r,q2r,q2r,q2r,trivial⟩ ⟨q3r,q3r,q3r,q3r,⟨rfl,.inl ⟨rfl,nz_noid _ _⟩⟩,⟨rfl,.inl ⟨rfl,nz_noid _ _⟩⟩,trivial⟩ rfl ?_
  intro k hJ;have hk:k≤n:=hJ;clear hJ;have ltk:(irows .i64 (Y.take k)).length=k:=by rw[irows_len,List.length_take];omega
  have lr:(irows .i64 (Y.take k)++List.replicate (n-k) ([.val (.int .i64 0)]:List AV)).length=n:=by rw[List.length_append,ltk,lz];omega
  by_cases hkt:k<n
  ·have eK:IntKind.i64.wrap ((k:Int)+1)=((k+1:Nat):Int):=by rw[IntWalk.i64_in _ (by omega)];omega
   have hs:=fill_set Y n k _ hkt lY (hYi k hkt);have eM:(if IntKind.i64.wrap ((n:Int)-1)<(k:Int) then IntKind.i64.wrap ((n:Int)-1) else (k:Int))=(k:Int):=if_neg (by rw[IntWalk.i64_in _ (by omega)];omega);have wk:IntKind.i64.wrap (k:Int)=(k:Int):=wrap_nat' _ (by omega);conv=>whnf
   refine oTq (by omega) ?_;conv=>whnf
   refine⟨by decide,?_⟩;conv=>whnf
   refine⟨by decide,?_⟩;conv=>whnf
   refine⟨by omega,?_⟩;conv=>whnf
   refine⟨by rw[Nat.zero_add,Int.toNat_natCast];omega,?_⟩;conv=>whnf
   refine⟨by omega,?_⟩;conv=>whnf
   refine⟨by rw[Nat.zero_add,Int.toNat_natCast];omega,?_⟩;conv=>whnf
   refine⟨by kernel_rfl,?_⟩;conv=>whnf
   refine⟨k+1,[],(by show n-(k+1)<n-k;omega),hkt,⟨q2r,q2r,q2r,q2r,q2r,q2r,q2r,q2r,q2r,q2r,q2r,q2r,q2r,q2r,q2r,q2r,q2r,q2r,q2r,q2r,q2r,⟨valI eK,rfl⟩,trivial⟩,⟨q3r,q3r,q3r,q3r,⟨rfl,.inl ⟨celE ?_,nz_noid _ _⟩⟩,⟨rfl,.inl ⟨celE ?_,nz_noid _ _⟩⟩,trivial⟩,rfl⟩
   ·rw[←hs];show List.set _ (0+(k:Int).toNat) [AV.val (.int .i64 (IntKind.i64.wrap (IntKind.i64.wrap (IntKind.i64.wrap (((0:Int)).tdiv 1)*(n:Int))+(if IntKind.i64.wrap ((n:Int)-1)<(k:Int) then IntKind.i64.wrap ((n:Int)-1) else (k:Int)))))]=_;rw[Nat.zero_add,Int.toNat_natCast,eM,show IntKind.i64.wrap (((0:Int)).tdiv 1)=0 from rfl,Int.zero_mul,show IntKind.i64.wrap 0=0 from rfl,Int.zero_add,wk]
   ·rw[←hs];show List.set _ (0+(k:Int).toNat) [AV.val (.int .i64 (IntKind.i64.wrap (IntKind.i64.wrap ((if IntKind.i64.wrap ((n:Int)-1)<(k:Int) then IntKind.i64.wrap ((n:Int)-1) else (k:Int))*1)+((0:Int)).tmod 1)))]=_;rw[Nat.zero_add,Int.toNat_natCast,eM,Int.mul_one,wk,show ((0:Int)).tmod 1=0 from rfl,Int.add_zero,wk]
  ·have hke:k=n:=by omega
   have e3:Y.take k=Y:=List.take_of_length_le (by omega);rw[e3,hke,Nat.sub_self,List.replicate_zero,List.append_nil];conv=>whnf
   refine oFq (by omega) ?_;conv=>whnf
   refine⟨by show 0+n≤_;omega,_,hSa,?_⟩;conv=>whnf
   refine⟨by show 0+n≤_;omega,_,hSb,?_⟩;conv=>whnf
   refine⟨_,hT,?_⟩;conv=>whnf
   refine⟨by kernel_rfl,?_⟩;conv=>whnf
   refine⟨_,hR,?_⟩;conv=>whnf
   refine⟨_,hM,?_⟩;conv=>whnf
   exact⟨1,[],(by show 1-1<1-0;omega),Nat.le_refl _,⟨q2r,q2r,q2r,q2r,q2r,q2r,q2r,q2r,q2r,q2r,q2r,q2r,q2r,q2r,q2r,q2r,q2r,trivial⟩,⟨q3r,q3r,q3r,q3r,trivial⟩,rfl⟩
 ·conv=>whnf
  refine⟨_,hSh,?_⟩;(conv=>whnf);exact rfl
end
section
theorem shows20_ok (sh:List Int) (ch:Bool) (tx:List Int) (ns:List (Option (Rat×Nat))) (h1:sh.length≤1000) (h2:tx.length≤100000) (h3:ns.length≤100000) (ho:∀o∈ns,okX o∧Sz (valX o) 100000) :
  AC Tryz.prog 30 [AA sh ch tx ns true,.val (.int .i64 0),PA sh ch tx (ns.map valX),.val (.int .i64 0)] (.pure (.val (.bool true))):=by
 refine AC.of_body TTok Tryz.func30 rfl (enter_of Tryz.func30 (by kernel_rfl) (by kernel_rfl)) (noidF (AA_noid _ _ _ _ _) (.val _) (PA_noid _ _ _ _) (.val _)) (.val _) (nbq rfl) ?_;have hP:=Plain_ok sh ch tx ns h1 h2 h3 ho;have hS:=PSame_ok sh ch tx (ns.map valX) h1 h2 (by rw[List.length_map];exact h3);unfold AA PA at *;repeat ((conv=>whnf);(first | refine⟨_,‹_›,?_⟩|refine⟨by kernel_rfl,?_⟩|exact rfl))
theorem shows20_err (e:Int) (he:e≠0) (sh:List Int) (ch:Bool) (tx:List Int) (qs:List Rat) :
  AC Tryz.prog 30 [AA [] false [] [] false,.val (.int .i64 e),PA sh ch tx qs,.val (.int .i64 e)] (.pure (.val (.bool true))):=by
 refine AC.of_body TTok Tryz.func30 rfl (enter_of Tryz.func30 (by kernel_rfl) (by kernel_rfl)) (noidF (AA_noid _ _ _ _ _) (.val _) (PA_noid _ _ _ _) (.val _)) (.val _) (nbq rfl) ?_;have hL:=ALen_ok [] false [] [] false (by decide) (by decide);have t1:(e != e)=false:=by simp
 unfold AA PA at *;conv=>whnf
 refine cFq (t1) ?_;conv=>whnf
 refine nFq (by omega) ?_;(conv=>whnf);refine⟨_,‹_›,?_⟩;(conv=>whnf);exact rfl
theorem wO:outP 43 4 false false [] [] [1,2] [10,20] 2 4=[(11,0),(21,0),(12,0),(22,0)]:=by decide +kernel
theorem wI:(List.range 2).map (fun i=>pairE 215 4 (elA false [] [1,2] i) (elA false [] [3,4] i))=[(3,0),(8,0)]:=by decide +kernel
theorem wR:foldE 43 4 ([3,8].map numE)=(numE 11,0):=by decide +kernel
theorem ints_ok (L:List Int):∀o∈L.map intX,okX o:=fun o ho=>by
 obtain⟨n,_,rfl⟩:=List.mem_map.1 ho;exact (Rat.den_intCast n).symm
theorem sz4 (a b c d:Nat) (h:a<4294967296∧b<4294967296∧c<4294967296∧d<4294967296):∀q∈[((a:Int):Rat),((b:Int):Rat),((c:Int):Rat),((d:Int):Rat)],Sz q 20:=fun q hq=>by
 simp only[List.mem_cons,List.not_mem_nil,or_false]at hq;rcases hq with rfl | rfl | rfl | rfl
 ·exact sz_natI a h.1
 ·exact sz_natI b h.2.1
 ·exact sz_natI c h.2.2.1
 ·exact sz_natI d h.2.2.2
theorem awake20_ok:AC Tryz.prog 21 [] (.pure (.val (.bool true))):=by
 have q1:∀q∈([1,2]:List Rat),Sz q 20:=fun q hq=>sz4 1 2 0 0 (by decide) q (by
  simp only[List.mem_cons,List.not_mem_nil,or_false]at hq ⊢;rcases hq with rfl | rfl
  ·exact .inl rfl
  ·exact .inr (.inl rfl))
 have q2:∀q∈([10,20]:List Rat),Sz q 20:=fun q hq=>sz4 10 20 0 0 (by decide) q (by
  simp only[List.mem_cons,List.not_mem_nil,or_false]at hq ⊢;rcases hq with rfl | rfl
  ·exact .inl rfl
  ·exact .inr (.inl rfl))
 have q3:∀q∈([3,4]:List Rat),Sz q 20:=fun q hq=>sz4 3 4 0 0 (by decide) q (by
  simp only[List.mem_cons,List.not_mem_nil,or_false]at hq ⊢;rcases hq with rfl | rfl
  ·exact .inl rfl
  ·exact .inr (.inl rfl))
 have q4:∀q∈([3,8]:List Rat),Sz q 20:=fun q hq=>sz4 3 8 0 0 (by decide) q (by
  simp only[List.mem_cons,List.not_mem_nil,or_false]at hq ⊢;rcases hq with rfl | rfl
  ·exact .inl rfl
  ·exact .inr (.inl rfl))
 obtain⟨l,l1,l2,_,l4⟩:=Outer_good 43 4 (by unfold isTwo;decide) (by decide) [2] [2] false false [] [] ([1,2].map intX) ([10,20].map intX) [1,2] [10,20] rfl rfl (ints_ok _) (ints_ok _) q1 q2 (by decide) (by decide) ⟨rfl,rfl⟩ ⟨rfl,rfl⟩ (by unfold roomE;decide) (by decide);have l1:firstE (outP 43 4 false false [] [] [1,2] [10,20] 2 4)=0→l.map valX=(outP 43 4 false false [] [] [1,2] [10,20] 2 4).map (·.1):=l1;have l4:AC Tryz.prog 24 [.val (.int .i32 43),AA [2] false [] ([1,2].map intX) true,AA [2] false [] ([10,20].map intX) true,.val (.int .i64 4)] (.pure (resF [2,2] false [] l (firstE (outP 43 4 false false [] [] [1,2] [10,20] 2 4)))):=l4;rw[wO]at l1 l4;have l1:l.map valX=[11,21,12,22]:=l1 rfl
 have l4:AC Tryz.prog 24 [.val (.int .i32 43),AA [2] false [] ([1,2].map intX) true,AA [2] false [] ([10,20].map intX) true,.val (.int .i64 4)] (.pure (.tup [AA [2,2] false [] l true,.val (.int .i64 0)])):=l4;obtain⟨x,x1,x2,_,x4⟩:=two_pick 215 4 (by unfold isTwo;decide) (by decide) false false [] [] ([1,2].map intX) ([3,4].map intX) [1,2] [3,4] rfl rfl (ints_ok _) (ints_ok _) q1 q3 2 (by decide) [0,1] [0,1] id id rfl rfl
  (fun i hi=>by match i,hi with | 0,_=>rfl | 1,_=>rfl) (fun i hi=>by match i,hi with | 0,_=>rfl | 1,_=>rfl) (fun h=>Bool.noConfusion h) (fun _=>rfl) (fun h=>Bool.noConfusion h) (fun _=>rfl)
 have x1:firstE ((List.range 2).map (fun i=>pairE 215 4 (elA false [] [1,2] i) (elA false [] [3,4] i)))=0→x.map valX=((List.range 2).map fun i=>pairE 215 4 (elA false [] [1,2] i) (elA false [] [3,4] i)).map (·.1):=x1;have x4:AC Tryz.prog 66 [.val (.int .i32 215),AA [2] false [] ([1,2].map intX) true,AA [2] false [] ([3,4].map intX) true,.val (.int .i64 4)] (.pure (resA [2] (firstE ((List.range 2).map (fun i=>pairE 215 4 (elA false [] [1,2] i) (elA false [] [3,4] i)))) x)):=x4;rw[wI]at x1 x4;have x1:x.map valX=[3,8]:=x1 rfl;have x4:AC Tryz.prog 66 [.val (.int .i32 215),AA [2] false [] ([1,2].map intX) true,AA [2] false [] ([3,4].map intX) true,.val (.int .i64 4)] (.pure (.tup [AA [2] false [] x true,.val (.int .i64 0)])):=x4
 obtain⟨o,o1,o2,o3⟩:=Red_list 43 4 (by unfold isTwo;decide) (by decide) x [3,8] x1 x2 q4 (-1) (by decide) (by decide) (by decide) (by rw[wR]) (fun _ h=>pair_szm (by decide) h);rw[wR]at o2;have o2:=numE_inj o2;have hI:=Inner_vec 43 215 4 (by unfold isTwo;decide) (by unfold isTwo;decide) 2 (by decide) (by decide) ([1,2].map intX) ([3,4].map intX) x o rfl rfl x4 o3;have hI:AC Tryz.prog 23 [.val (.int .i32 43),.val (.int .i32 215),AA [2] false [] ([1,2].map intX) true,AA [2] false [] ([3,4].map intX) true,.val (.int .i64 4)] (.pure (.tup [AA [] false [] [o] true,.val (.int .i64 0)])):=hI;have i1:AC Tryz.prog 13 [.sl 1 (irows .i64 [1,2]) false] (.pure (AA [2] false [] ([1,2].map intX) true)):=AInts_ok [1,2] (by decide) (fun n hn=>by simp at hn;rcases hn with rfl | rfl<;>exact⟨by decide,by decide⟩)
 have i2:AC Tryz.prog 13 [.sl 1 (irows .i64 [10,20]) false] (.pure (AA [2] false [] ([10,20].map intX) true)):=AInts_ok [10,20] (by decide) (fun n hn=>by simp at hn;rcases hn with rfl | rfl<;>exact⟨by decide,by decide⟩);have i3:AC Tryz.prog 13 [.sl 1 (irows .i64 [3,4]) false] (.pure (AA [2] false [] ([3,4].map intX) true)):=AInts_ok [3,4] (by decide) (fun n hn=>by simp at hn;rcases hn with rfl | rfl<;>exact⟨by decide,by decide⟩);have r1:AC Tryz.prog 34 [.sl 1 (irows .i64 [11,21,12,22]) false] (.pure (PA [4] false [] [11,21,12,22])):=RInts_ok [11,21,12,22] (by decide) (fun n hn=>by simp at hn;rcases hn with rfl | rfl | rfl | rfl<;>exact⟨by decide,by decide⟩);have r2:=RIntP_ok 11 (by decide);have ll:l.length=4:=by have:=congrArg List.length l1;rw[List.length_map]at this;exact this
 have s1:=shows20_ok [2,2] false [] l (by decide) (by decide) (by omega) (fun p hp=>⟨l2 p hp,by
  have:valX p∈l.map valX:=List.mem_map_of_mem hp;rw[l1]at this;exact (sz4 11 21 12 22 (by decide) _ this).mono (by decide)⟩)
 have s2:=shows20_ok [] false [] [o] (by decide) (by decide) (by show 1≤100000;omega) (fun p hp=>by
  rw[List.mem_singleton.1 hp];exact⟨o1,by rw[o2];exact (sz_natI 11 (by decide)).mono (by decide)⟩)
 rw[l1]at s1;rw[show [o].map valX=[((11:Int):Rat)] by show [valX o]=_;rw[o2];rfl]at s2;clear q1 q2 q3 q4 l1 l2 x1 x2 x4 o1 o2 o3 ll;generalize ([1,2]:List Int).map intX=w1 at *;generalize ([10,20]:List Int).map intX=w2 at *;generalize ([3,4]:List Int).map intX=w3 at *;generalize [o]=w4 at *;generalize [((11:Int):Rat)]=w5 at *;generalize ([11,21,12,22]:List Rat)=w6 at *;refine AC.of_body TTok Tryz.func21 rfl (enter_of Tryz.func21 (by kernel_rfl) (by kernel_rfl)) (fun x hx=>nomatch hx) (.val _) (nbq rfl) ?_;unfold AA PA at *;conv=>whnf
 refine⟨(nbq rfl),_,i1,?_⟩;conv=>whnf
 refine⟨(nbq rfl),_,i2,?_⟩;conv=>whnf
 refine⟨_,l4,?_⟩;conv=>whnf
 refine⟨(nbq rfl),_,i1,?_⟩;conv=>whnf
 refine⟨(nbq rfl),_,i3,?_⟩;conv=>whnf
 refine⟨_,hI,?_⟩;conv=>whnf
 refine⟨(nbq rfl),_,r1,?_⟩;conv=>whnf
 refine⟨(nbq rfl),_,s1,?_⟩;conv=>whnf
 refine⟨_,r2,?_⟩;conv=>whnf
 refine⟨_,s2,?_⟩;(conv=>whnf);refine⟨by kernel_rfl,?_⟩;(conv=>whnf);exact rfl
end
section
theorem lite20 (sa:List Int) (ca:Bool) (ta:List Int) (La:List TX) (sb:List Int) (cb:Bool) (tb:List Int) (Lb:List TX)
  (za:sa.length<9223372036854775808∧ta.length<9223372036854775808∧La.length<9223372036854775808∧GN La) (zb:sb.length<9223372036854775808∧tb.length<9223372036854775808∧Lb.length<9223372036854775808∧GN Lb) :
  ∃ r:Bool,AC Tryz.prog 28 [PB sa ca ta La,PB sb cb tb Lb] (.pure (.val (.bool r)))∧(r=true→∃ qa qb,Lite sa ca ta La 40 qa∧Lite sb cb tb Lb 40 qb∧(ta.length+qa.length)*(tb.length+qb.length)≤300):=by
 obtain⟨r1,h1,p1⟩:=lite_ok sa ca ta La 40 (by decide) za;obtain⟨r2,h2,p2⟩:=lite_ok sb cb tb Lb 40 (by decide) zb;have h1:AC Tryz.prog 48 [PB sa ca ta La,.val (.int .i64 40)] (.pure (.val (.bool r1))):=h1;have h2:AC Tryz.prog 48 [PB sb cb tb Lb,.val (.int .i64 40)] (.pure (.val (.bool r2))):=h2;cases r1
 ·refine⟨false,?_,fun h=>Bool.noConfusion h⟩;refine AC.of_body TTok Tryz.func28 rfl (enter_of Tryz.func28 (by kernel_rfl) (by kernel_rfl)) (noid2 (PB_noid _ _ _ _) (PB_noid _ _ _ _)) (.val _) (nbq rfl) ?_;unfold PB at *;conv=>whnf
  refine⟨_,h1,?_⟩;(conv=>whnf);refine⟨by kernel_rfl,?_⟩;(conv=>whnf);exact rfl
 ·cases r2
  ·refine⟨false,?_,fun h=>Bool.noConfusion h⟩;refine AC.of_body TTok Tryz.func28 rfl (enter_of Tryz.func28 (by kernel_rfl) (by kernel_rfl)) (noid2 (PB_noid _ _ _ _) (PB_noid _ _ _ _)) (.val _) (nbq rfl) ?_;unfold PB at *;conv=>whnf
   refine⟨_,h1,?_⟩;conv=>whnf
   refine⟨_,h2,?_⟩;(conv=>whnf);refine⟨by kernel_rfl,?_⟩;(conv=>whnf);exact rfl
  ·obtain⟨qa,la⟩:=p1 rfl;obtain⟨qb,lb⟩:=p2 rfl;have la':=la;have lb':=lb;obtain⟨ea,_,_,a1,a2,_⟩:=la;obtain⟨eb,_,_,b1,b2,_⟩:=lb;refine⟨decide ((ta.length+qa.length)*(tb.length+qb.length)≤300),?_,fun h=>⟨qa,qb,la',lb',of_decide_eq_true h⟩⟩;have hLa:=RLen_ok sa ca ta qa (by omega) (by omega);have hLb:=RLen_ok sb cb tb qb (by omega) (by omega);rw[ea]at h1 ⊢;rw[eb]at h2 ⊢;obtain⟨x,hx⟩:∃ x,x=ta.length+qa.length:=⟨_,rfl⟩;obtain⟨y,hy⟩:∃ y,y=tb.length+qb.length:=⟨_,rfl⟩;rw[←hx]at hLa ⊢;rw[←hy]at hLb ⊢;have hxy:x*y≤80*80:=Nat.mul_le_mul (by omega) (by omega);have e:decide (IntKind.i64.wrap ((x:Int)*(y:Int))≤300)=decide (x*y≤300):=by
    rw[←Int.natCast_mul,wrap_nat' _ (by omega)];by_cases h:x*y≤300
    ·rw[decide_eq_true h,decide_eq_true (by omega)]
    ·rw[decide_eq_false h,decide_eq_false (by omega)]
   refine AC.of_body TTok Tryz.func28 rfl (enter_of Tryz.func28 (by kernel_rfl) (by kernel_rfl)) (noid2 (PA_noid _ _ _ _) (PA_noid _ _ _ _)) (.val _) (nbq rfl) ?_;rw[←e];unfold PA at *;conv=>whnf
   refine⟨_,h1,?_⟩;conv=>whnf
   refine⟨_,h2,?_⟩;conv=>whnf
   refine⟨_,hLa,?_⟩;conv=>whnf
   refine⟨_,hLb,?_⟩;(conv=>whnf);refine⟨by kernel_rfl,?_⟩;(conv=>whnf);exact rfl
theorem showsP (s:List Int) (hs:s.length≤1000) (l:List (Option (Rat×Nat))) (F:List (Rat×Int)) (hl:firstE F=0→l.map valX=F.map (·.1)) (ho:∀o∈l,okX o) (hn:l.length≤5000) (hz:∀z∈F,z.2=0→Sz z.1 20) :
  ∃ sh c t n z e sh' c' t' n',resF s false [] l (firstE F) = .tup [AA sh c t n z,.val (.int .i64 e)]∧resP s (firstE F) (F.map (·.1)) = .tup [PA sh' c' t' n',.val (.int .i64 e)] ∧
   AC Tryz.prog 30 [AA sh c t n z,.val (.int .i64 e),PA sh' c' t' n',.val (.int .i64 e)] (.pure (.val (.bool true))):=by
 unfold resF resP;by_cases hE:firstE F=0
 ·rw[if_pos hE,if_pos hE];refine⟨_,_,_,_,_,_,_,_,_,_,rfl,rfl,?_⟩;rw[←hl hE];refine shows20_ok s false [] l hs (by decide) (by omega) (fun o h=>⟨ho o h,?_⟩);have:valX o∈l.map valX:=List.mem_map_of_mem h;rw[hl hE]at this;obtain⟨z,hzF,hzz⟩:=List.mem_map.1 this;have h0:=fst0_zero ((firstE_fst0 F).symm.trans hE) z.2 (List.mem_map_of_mem hzF);rw[←hzz];exact (hz z hzF h0).mono (by decide)
 ·rw[if_neg hE,if_neg hE];exact⟨_,_,_,_,_,_,_,_,_,_,rfl,rfl,shows20_err _ hE _ _ _ _⟩
end
section
theorem getD_at {l:List Int} {k:Nat} {d:Int} (h:k<l.length):l.getD k d=l[k]:=by rw[List.getD_eq_getElem?_getD,List.getElem?_eq_getElem h];rfl
theorem fold_first (c most:Int):∀l:List El,(foldE c most l).2≠0→∃ i,i+1<l.length∧(foldE c most (l.drop i)).2=(foldE c most l).2∧∀j,i<j→(foldE c most (l.drop j)).2=0
 | [],h=>absurd rfl h
 | [x],h=>absurd (by rw[foldE_one]) h
 | x :: y :: t,h=>by
  by_cases h1:(foldE c most (y :: t)).2=0
  ·refine⟨0,by show 0+1<t.length+1+1;omega,rfl,fun j hj=>?_⟩;obtain⟨k,rfl⟩:∃ k,j=k+1:=⟨j-1,by omega⟩;exact foldE_drop c most k (y :: t) h1
  ·have e:(foldE c most (x :: y :: t)).2=(foldE c most (y :: t)).2:=by
    rw[foldE_cons _ _ _ (List.cons_ne_nil _ _),if_pos h1]
   obtain⟨i,i1,i2,i3⟩:=fold_first c most (y :: t) h1;refine⟨i+1,by rw[List.length_cons];omega,i2.trans e.symm,fun j hj=>?_⟩;obtain⟨k,rfl⟩:∃ k,j=k+1:=⟨j-1,by omega⟩;exact i3 k (by omega)
theorem rows_single (c most:Int) (l:List El) (i:Nat):rowsE c most [l] i=(foldE c most (l.drop i)).2:=by
 show (if (foldE c most (l.drop i)).2≠0 then (foldE c most (l.drop i)).2 else 0)=_;split
 ·rfl
 ·rename_i h;exact (Decidable.byContradiction h).symm
theorem red_single (c most:Int) (l:List El):redE c most [l] l.length=(foldE c most l).2:=by
 by_cases h:(foldE c most l).2=0
 ·rw[h];exact redE_zero _ _ _ _ (fun j _=>by rw[rows_single];exact foldE_drop c most j l h)
 ·obtain⟨i,i1,i2,i3⟩:=fold_first c most l h;rw[redE_from c most [l] l.length i i1 (fun j h1 _=>by rw[rows_single];exact i3 j h1) (by rw[rows_single,i2];exact h),rows_single,i2]
section
variable (c most:Int) (hc:isTwo c) (hm:most≤20) (na:List (Option (Rat×Nat))) (qs:List Rat) (na1:na.map valX=qs) (oa:∀o∈na,okX o) (hQ:∀q∈qs,Sz q 20)
include hc hm na1 oa hQ
theorem Red_listE (axis:Int) (hax:axis<0) (h4:qs.length≤500) (h0:0<qs.length) :
  ∃ o,okX o∧((foldE c most (qs.map numE)).2=0→numE (valX o)=(foldE c most (qs.map numE)).1) ∧
   AC Tryz.prog 12 [.val (.int .i32 c),AA [(qs.length:Int)] false [] na true,.val (.int .i64 axis),.val (.int .i64 most)] (.pure (resF [] false [] [o] (foldE c most (qs.map numE)).2)):=by
 by_cases hz:(foldE c most (qs.map numE)).2=0
 ·obtain⟨o,o1,o2,o3⟩:=Red_list c most hc (by omega) na qs na1 oa hQ axis hax h4 h0 hz (fun _ h=>pair_szm hm h);refine⟨o,o1,fun _=>o2,?_⟩;rw[hz];exact o3
 ·have la:na.length=qs.length:=by rw[←na1,List.length_map]
  obtain⟨v1,c1⟩:=vS_single qs.length (by omega);have hk:kinds [(qs.length:Int)] false ([]:List Int).length na.length:=by
   show ((na.length:Nat):Int)=cntI [(qs.length:Int)]∧(0=0);rw[c1,la];exact q2r
  have hl:=line_list qs qs.length qs.length (Nat.le_refl _);rw[List.take_length]at hl;obtain⟨x,_,hx2⟩:=run_ok c most hc hm [(qs.length:Int)] 0 false [] na qs na1 oa hQ (by show 0<1;omega) v1 hk qs.length rfl qs.length h0 (Nat.le_refl _) (by show 1*1≤500;omega);have hE:redE c most (rowsL false [] qs qs.length qs.length (pr ([]:List Int)) (pr ([]:List Int)*pr ([]:List Int))) qs.length=(foldE c most (qs.map numE)).2:=by
   have e:rowsL false [] qs qs.length qs.length (pr ([]:List Int)) (pr ([]:List Int)*pr ([]:List Int))=[qs.map numE]:=by
    show [lineE false [] qs qs.length qs.length 1 0]=_;rw[hl]
   rw[e];have:=red_single c most (qs.map numE);rw[List.length_map]at this;exact this
  have hx2:AC Tryz.prog 38 [.val (.int .i32 c),AA [(qs.length:Int)] false [] na true,.val (.int .i64 0),.val (.int .i64 ((qs.length-1:Nat):Int)),.val (.int .i64 most)] (.pure (resF [] x.1 x.2.1 x.2.2 (redE c most (rowsL false [] qs qs.length qs.length (pr ([]:List Int)) (pr ([]:List Int)*pr ([]:List Int))) qs.length))):=hx2;rw[hE]at hx2;refine⟨none,trivial,fun h=>absurd h hz,?_⟩;have e:∀(a:Bool) (b:List Int) (d:List (Option (Rat×Nat))),resF [] a b d (foldE c most (qs.map numE)).2=resF [] false [] [none] (foldE c most (qs.map numE)).2:=fun a b d=>by
   unfold resF;rw[if_neg hz,if_neg hz]
  rw[e]at hx2;exact Red_run c [(qs.length:Int)] false [] na axis most hc 0 ⟨by show 0<1;omega,.inr ⟨hax,rfl⟩⟩ (by show 1≤8;omega) qs.length rfl h0 (by omega) [] false [] [none] _ hx2
end
def rowsS (s:List Int):Nat×Nat×List Int:=if s=[] then (1,1,[]) else (pr (s.take (s.length-1)),(s.getD (s.length-1) 0).toNat,s.take (s.length-1))
def colsS (s:List Int):Nat×Nat×List Int:=if s=[] then (1,1,[]) else (pr (s.drop 1),(s.getD 0 0).toNat,s.drop 1)
section
variable (s:List Int) (ch:Bool) (tx:List Int) (na:List (Option (Rat×Nat)))
theorem rows_ok (hv:vS s):AC Tryz.prog 62 [AA s ch tx na true] (.pure (.tup [.val (.int .i64 ((rowsS s).1:Int)),.val (.int .i64 ((rowsS s).2.1:Int)),.sl 1 (irows .i64 (rowsS s).2.2) false])):=by
 have h8:=hv.1;have hS:=Shape_ok s ch tx na (by omega);have ls:=irows_len .i64 s;by_cases h0:s=[]
 ·have e:rowsS s=(1,1,[]):=if_pos h0;rw[e];have l0:s.length=0:=by rw[h0];rfl
  refine AC.le_res (?_:AC Tryz.prog 62 _ (.pure (.tup [.val (.int .i64 1),.val (.int .i64 1),.sl 0 [] true]))) (.tup3 (.refl _) (.refl _) (le_nil 1)) (.tup _ (noid3 (.val _) (.val _) (noid_sl _ _ _)));refine AC.of_body TTok Tryz.func62 rfl (enter_of Tryz.func62 (by kernel_rfl) (by kernel_rfl)) (noid1 (AA_noid _ _ _ _ _)) (.tup _ (noid3 (.val _) (.val _) (.sl _ _ _ (fun r hr=>nomatch hr)))) (nbq rfl) ?_;unfold AA at *;conv=>whnf
  refine⟨_,hS,?_⟩;conv=>whnf
  refine oTq (by omega) ?_;(conv=>whnf);exact rfl
 ·have e:rowsS s=(pr (s.take (s.length-1)),(s.getD (s.length-1) 0).toNat,s.take (s.length-1)):=if_neg h0;have l0:s.length≠0:=fun h=>h0 (List.length_eq_zero_iff.1 h);have hk:s.length-1<s.length:=by omega
  have hSp:=Split_ok s (s.length-1) hk hv;have hg:=hv.2.1 _ (List.getElem_mem hk);have eg:s[s.length-1]=(((s.getD (s.length-1) 0).toNat:Nat):Int):=by rw[getD_at hk,Int.toNat_of_nonneg hg]
  rw[eg]at hSp;rw[e];have ek:IntKind.i64.wrap (((irows .i64 s).length:Int)-1)=((s.length-1:Nat):Int):=by rw[IntWalk.i64_in _ (by omega)];omega
  rw[←ek]at hSp;have kt:List.drop 0 (List.take (IntKind.i64.wrap (((irows .i64 s).length:Int)-1)).toNat (irows .i64 s))=irows .i64 (s.take (s.length-1)):=by rw[ek,Int.toNat_natCast,List.drop_zero,irows_take]
  refine AC.of_body TTok Tryz.func62 rfl (enter_of Tryz.func62 (by kernel_rfl) (by kernel_rfl)) (noid1 (AA_noid _ _ _ _ _)) (.tup _ (noid3 (.val _) (.val _) (noid_sl _ _ _))) (nbq rfl) ?_;unfold AA at *;rw[←kt];conv=>whnf
  refine⟨_,hS,?_⟩;conv=>whnf
  refine oFq (by omega) ?_;conv=>whnf
  refine⟨_,hSp,?_⟩;conv=>whnf
  refine⟨by rw[ek];omega,?_⟩;(conv=>whnf);refine⟨by kernel_rfl,?_⟩;(conv=>whnf);exact rfl
theorem columns_ok (hv:vS s):AC Tryz.prog 63 [AA s ch tx na true] (.pure (.tup [.val (.int .i64 ((colsS s).1:Int)),.val (.int .i64 ((colsS s).2.1:Int)),.sl 1 (irows .i64 (colsS s).2.2) false])):=by
 have h8:=hv.1;have hS:=Shape_ok s ch tx na (by omega);have ls:=irows_len .i64 s;by_cases h0:s=[]
 ·have e:colsS s=(1,1,[]):=if_pos h0;rw[e];have l0:s.length=0:=by rw[h0];rfl
  refine AC.le_res (?_:AC Tryz.prog 63 _ (.pure (.tup [.val (.int .i64 1),.val (.int .i64 1),.sl 0 [] true]))) (.tup3 (.refl _) (.refl _) (le_nil 1)) (.tup _ (noid3 (.val _) (.val _) (noid_sl _ _ _)));refine AC.of_body TTok Tryz.func63 rfl (enter_of Tryz.func63 (by kernel_rfl) (by kernel_rfl)) (noid1 (AA_noid _ _ _ _ _)) (.tup _ (noid3 (.val _) (.val _) (.sl _ _ _ (fun r hr=>nomatch hr)))) (nbq rfl) ?_;unfold AA at *;conv=>whnf
  refine⟨_,hS,?_⟩;conv=>whnf
  refine oTq (by omega) ?_;(conv=>whnf);exact rfl
 ·have e:colsS s=(pr (s.drop 1),(s.getD 0 0).toNat,s.drop 1):=if_neg h0;have l0:s.length≠0:=fun h=>h0 (List.length_eq_zero_iff.1 h);have hk:0<s.length:=by omega
  have hSp:=Split_ok s 0 hk hv;have hg:=hv.2.1 _ (List.getElem_mem hk);have eg:s[0]=(((s.getD 0 0).toNat:Nat):Int):=by rw[getD_at hk,Int.toNat_of_nonneg hg]
  rw[eg]at hSp;have hSp:AC Tryz.prog 109 [.sl 1 (irows .i64 s) false,.val (.int .i64 0)] (.pure (.tup [.val (.int .i64 (pr (s.take 0))),.val (.int .i64 (((s.getD 0 0).toNat:Nat):Int)),.val (.int .i64 (pr (s.drop 1))),.val (.bool true)])):=hSp;rw[e];have kt:List.drop (1:Int).toNat (List.take (irows .i64 s).length (irows .i64 s))=irows .i64 (s.drop 1):=by rw[List.take_length];exact irows_drop .i64 s 1
  refine AC.of_body TTok Tryz.func63 rfl (enter_of Tryz.func63 (by kernel_rfl) (by kernel_rfl)) (noid1 (AA_noid _ _ _ _ _)) (.tup _ (noid3 (.val _) (.val _) (noid_sl _ _ _))) (nbq rfl) ?_;unfold AA at *;rw[←kt];conv=>whnf
  refine⟨_,hS,?_⟩;conv=>whnf
  refine oFq (by omega) ?_;conv=>whnf
  refine⟨_,hSp,?_⟩;conv=>whnf
  refine⟨by omega,?_⟩;(conv=>whnf);refine⟨by kernel_rfl,?_⟩;(conv=>whnf);exact rfl
end
theorem more_ok (L:List (Option (Rat×Nat))) (o:Option (Rat×Nat)) (h:L.length<4096):AC Tryz.prog 68 [AA [(L.length:Int)] false [] L true,AA [] false [] [o] true] (.pure (AA [((L.length+1:Nat):Int)] false [] (L++[o]) true)):=by
 obtain⟨n,hn⟩:∃ n,n=L.length:=⟨_,rfl⟩;obtain⟨v1,c1⟩:=vS_single (n+1) (by omega);have hL:AC Tryz.prog 57 [AA [(n:Int)] false [] L true] (.pure (.val (.int .i64 (n:Int)))):=by
  have:=ALen_ok [(n:Int)] false [] L true (by decide) (by omega);rw[show ([]:List Int).length+L.length=n by rw[hn];exact Nat.zero_add _]at this;exact this
 have hF:=Rats_freshA [(n:Int)] false [] L (by omega);have hR:AC Tryz.prog 15 [AA [] false [] [o] true,.val (.int .i64 0)] (.pure (.agg (rowX o))):=RatI_ok [] false [] [o] true 0 (by show 0<1;omega) (by show 1≤1000000;omega);have hN:=Nums_ok [((n+1:Nat):Int)] (L++[o]) v1 (by rw[c1,List.length_append,hn];rfl) (by rw[List.length_append];show _+1≤_;omega);obtain⟨k,l1,l2,z,b,hrow⟩:=rowX_eq o;rw[hrow]at hR;have eW:IntKind.i64.wrap ((n:Int)+1)=((n+1:Nat):Int):=by rw[IntWalk.i64_in _ (by omega)];omega
 have lm:(L.map rowX).length=n:=by rw[List.length_map,hn]
 have e1:irows .i64 [((n+1:Nat):Int)]=[[.val (.int .i64 (IntKind.i64.wrap ((n:Int)+1)))]]:=by rw[eW];rfl
 have e2:(L++[o]).map rowX=List.take (n+1) (List.drop 0 (List.take n (List.drop 0 (L.map rowX))++[[.sl k l1 z,.val (.bool b),.sl k l2 z]])):=by
  rw[List.drop_zero,List.drop_zero,List.take_of_length_le (show (L.map rowX).length≤n by omega),List.take_of_length_le (by rw[List.length_append,lm];exact Nat.le_refl _),List.map_append];show _++[rowX o]=_;rw[hrow]
 have hN':AC Tryz.prog 14 [.sl 1 [[.val (.int .i64 (IntKind.i64.wrap ((n:Int)+1)))]] false,.sl 3 (List.take (n+1) (List.drop 0 (List.take n (List.drop 0 (L.map rowX))++[[.sl k l1 z,.val (.bool b),.sl k l2 z]]))) false] (.pure (.tup [AA [((n+1:Nat):Int)] false [] (L++[o]) true,.val (.bool true)])):=by
  rw[←e2,←e1];exact hN
 rw[←hn];clear hN e2;refine AC.of_body TTok Tryz.func68 rfl (enter_of Tryz.func68 (by kernel_rfl) (by kernel_rfl)) (noid2 (AA_noid _ _ _ _ _) (AA_noid _ _ _ _ _)) (AA_noid _ _ _ _ _) (nbq rfl) ?_;unfold AA at *;generalize (L++[o]).map rowX=LO at *;conv=>whnf
 refine⟨_,hL,?_⟩;conv=>whnf
 refine⟨_,hF,?_⟩;conv=>whnf
 refine⟨_,hR,?_⟩;conv=>whnf
 rw[lm];refine⟨⟨by show 0+n≤_;omega,by show (n+1)*56≤140737488355328;omega,Nat.le_refl _⟩,?_⟩;conv=>whnf
 refine⟨⟨Nat.le_refl _,by show 0+(n+1)≤_;rw[List.length_append,List.drop_zero,List.length_take,lm];show _≤min n n+1;omega⟩,_,hN',?_⟩;conv=>whnf
 refine⟨by kernel_rfl,?_⟩;(conv=>whnf);exact rfl
end
section
section
variable (f g most:Int) (ca cb:Bool) (ta tb:List Int) (qa qb:List Rat) (n m wide long:Nat)
def innL (r k:Nat):List (Rat×Int):=(List.range long).map fun j=>pairE g most (elA ca ta qa (r*n+min j (n-1))) (elA cb tb qb (min j (m-1)*wide+k))
def innV (i:Nat):Rat×Int :=
 if firstE (innL g most ca cb ta tb qa qb n m wide long (i/wide) (i % wide))≠0 then (0,firstE (innL g most ca cb ta tb qa qb n m wide long (i/wide) (i % wide)))
 else if long=0 then ((((unitQ f).getD 0:Int):Rat),if (unitQ f).isSome then 0 else 22)
 else ((foldE f most ((innL g most ca cb ta tb qa qb n m wide long (i/wide) (i % wide)).map fun z=>numE z.1)).1.2.2,(foldE f most ((innL g most ca cb ta tb qa qb n m wide long (i/wide) (i % wide)).map fun z=>numE z.1)).2)
end
theorem fold_num (c most:Int):∀l:List Rat,0<l.length→(foldE c most (l.map numE)).1=numE (foldE c most (l.map numE)).1.2.2
 | [],h=>absurd h (by decide)
 | [x],_=>by rw[List.map_singleton,foldE_one];rfl
 | x :: y :: l,_=>by
  rw[List.map_cons,foldE_cons _ _ _ (by simp)];split
  ·rfl
  ·split<;>rfl
theorem inn_round (f g most:Int) (hf:isTwo f) (hg:isTwo g) (hm:most≤20) (ca cb:Bool) (ta tb:List Int) (na nb:List (Option (Rat×Nat))) (qa qb:List Rat) (na1:na.map valX=qa) (nb1:nb.map valX=qb) (oa:∀o∈na,okX o) (ob:∀o∈nb,okX o) (hQa:∀q∈qa,Sz q 20) (hQb:∀q∈qb,Sz q 20)
  (n m many wide long:Nat) (hl5:long≤500) (hl:0<long→0<n∧0<m) (a1:ca=true→na=[]∧ta.length=many*n) (a2:ca=false→ta=[]) (b1:cb=true→nb=[]∧tb.length=m*wide) (b2:cb=false→tb=[])
  (i:Nat) (hi:i<many*wide) (A B:List Int) (hA:A=(List.range long).map fun j:Nat=>((i/wide*n+min j (n-1):Nat):Int)) (hB:B=(List.range long).map fun j:Nat=>((min j (m-1)*wide+i % wide:Nat):Int)) :
  ∃ (l:List (Option (Rat×Nat))) (o:Option (Rat×Nat)),okX o∧((innV f g most ca cb ta tb qa qb n m wide long i).2=0→valX o=(innV f g most ca cb ta tb qa qb n m wide long i).1) ∧
   AC Tryz.prog 66 [.val (.int .i32 g),AA [(long:Int)] ca (pickT ca ta A) (pickX ca na A) true,AA [(long:Int)] cb (pickT cb tb B) (pickX cb nb B) true,.val (.int .i64 most)] (.pure (resA [(long:Int)] (firstE (innL g most ca cb ta tb qa qb n m wide long (i/wide) (i % wide))) l)) ∧
   (firstE (innL g most ca cb ta tb qa qb n m wide long (i/wide) (i % wide))=0→AC Tryz.prog 12 [.val (.int .i32 f),AA [(long:Int)] false [] l true,.val (.int .i64 (-1)),.val (.int .i64 most)] (.pure (resF [] false [] [o] (innV f g most ca cb ta tb qa qb n m wide long i).2))):=by
 have hw:0<wide:=Nat.pos_of_ne_zero fun e=>by rw[e]at hi;omega
 have hr:i/wide<many:=Nat.div_lt_of_lt_mul (by rw[Nat.mul_comm];exact hi);have hk:i % wide<wide:=Nat.mod_lt _ hw;have inA:∀j,j<long→i/wide*n+min j (n-1)<many*n:=fun j hj=>by
  have h0:=(hl (by omega)).1;have:(i/wide+1)*n≤many*n:=Nat.mul_le_mul_right _ hr;rw[Nat.add_mul,Nat.one_mul]at this;omega
 have inB:∀j,j<long→min j (m-1)*wide+i % wide<m*wide:=fun j hj=>by
  have h0:=(hl (by omega)).2;have:(min j (m-1)+1)*wide≤m*wide:=Nat.mul_le_mul_right _ (by omega);rw[Nat.add_mul,Nat.one_mul]at this;omega
 obtain⟨l,w1,w2,w3,w4⟩:=two_pick g most hg (by omega) ca cb ta tb na nb qa qb na1 nb1 oa ob hQa hQb long hl5 A B (fun j=>i/wide*n+min j (n-1)) (fun j=>min j (m-1)*wide+i % wide)
  (by rw[hA,List.length_map,List.length_range]) (by rw[hB,List.length_map,List.length_range])
  (fun j hj=>by rw[hA,List.getElem?_map,List.getElem?_range hj];rfl) (fun j hj=>by rw[hB,List.getElem?_map,List.getElem?_range hj];rfl)
  (fun h=>⟨by rw[←na1,(a1 h).1];rfl,fun j hj=>by rw[(a1 h).2];exact inA j hj⟩) a2 (fun h=>⟨by rw[←nb1,(b1 h).1];rfl,fun j hj=>by rw[(b1 h).2];exact inB j hj⟩) b2
 have w4:AC Tryz.prog 66 [.val (.int .i32 g),AA [(long:Int)] ca (pickT ca ta A) (pickX ca na A) true,AA [(long:Int)] cb (pickT cb tb B) (pickX cb nb B) true,.val (.int .i64 most)] (.pure (resA [(long:Int)] (firstE (innL g most ca cb ta tb qa qb n m wide long (i/wide) (i % wide))) l)):=w4;have w1:firstE (innL g most ca cb ta tb qa qb n m wide long (i/wide) (i % wide))=0→l.map valX=(innL g most ca cb ta tb qa qb n m wide long (i/wide) (i % wide)).map (·.1):=fun h=>by rw[w1 h];unfold innL;rw[List.map_map];rfl
 obtain⟨ps,hps⟩:∃ ps,ps=innL g most ca cb ta tb qa qb n m wide long (i/wide) (i % wide):=⟨_,rfl⟩;have lps:ps.length=long:=by rw[hps];unfold innL;rw[List.length_map,List.length_range]
 have hV:innV f g most ca cb ta tb qa qb n m wide long i=if firstE ps≠0 then (0,firstE ps) else if long=0 then ((((unitQ f).getD 0:Int):Rat),if (unitQ f).isSome then 0 else 22) else ((foldE f most (ps.map fun z=>numE z.1)).1.2.2,(foldE f most (ps.map fun z=>numE z.1)).2):=by rw[hps];rfl
 have hsz:firstE ps=0→∀q∈ps.map (·.1),Sz q 20:=fun h q hq=>by
  obtain⟨z,hz,rfl⟩:=List.mem_map.1 hq;have h0:=fst0_zero ((firstE_fst0 ps).symm.trans h) z.2 (List.mem_map_of_mem hz);rw[hps]at hz;unfold innL at hz;obtain⟨j,_,rfl⟩:=List.mem_map.1 hz;exact pair_szm hm h0
 rw[←hps]at w1 w4 ⊢;rw[hV];clear hps hV;by_cases h1:firstE ps=0
 ·have x1:=w1 h1;rw[if_neg (fun h=>h h1)];by_cases h2:long=0
  ·subst h2;rw[if_pos rfl];have hl0:l=[]:=by
    have:=congrArg List.length x1;rw[List.length_map,List.length_map,lps]at this;exact List.length_eq_zero_iff.1 this
   subst hl0;cases hu:unitQ f with
   | none =>
    refine⟨[],none,trivial,fun h=>absurd h (by show ¬(22:Int)=0;decide),w4,fun _=>?_⟩;exact Red_none f [0] false [] [] (-1) most hf 0 ⟨by show 0<1;omega,.inr ⟨by decide,rfl⟩⟩ (by show 1≤8;omega) rfl hu
   | some u =>
    refine⟨[],some ((u:Rat),1),(Rat.den_intCast u).symm,fun _=>rfl,w4,fun _=>?_⟩;exact Red_unit f [0] false [] [] (-1) most hf 0 ⟨by show 0<1;omega,.inr ⟨by decide,rfl⟩⟩ (by decide) rfl u hu
  ·rw[if_neg h2];have lq:(ps.map (·.1)).length=long:=by rw[List.length_map,lps]
   obtain⟨o,o1,o2,o3⟩:=Red_listE f most hf hm l (ps.map (·.1)) x1 w2 (hsz h1) (-1) (by decide) (by omega) (by omega);have e:(ps.map (·.1)).map numE=ps.map fun z=>numE z.1:=by rw[List.map_map];rfl
   have hnum:=fold_num f most (ps.map (·.1)) (by omega);rw[e]at o2 o3 hnum;rw[lq]at o3;exact⟨l,o,o1,fun h=>numE_inj ((o2 h).trans hnum),w4,fun _=>o3⟩
 ·rw[if_pos h1];exact⟨l,none,trivial,fun h=>absurd h h1,w4,fun h=>absurd h h1⟩
end
section
theorem rowsS_of {s:List Int} (hv:vS s):pr s=(rowsS s).1*(rowsS s).2.1∧(rowsS s).1=pr (rowsS s).2.2∧vS (rowsS s).2.2∧(rowsS s).2.1≤4096∧(rowsS s).1≤4096:=by
 have h8:=hv.1;by_cases h0:s=[]
 ·subst h0;exact⟨rfl,rfl,hv,by decide,by decide⟩
 ·have l0:s.length≠0:=fun h=>h0 (List.length_eq_zero_iff.1 h);have hk:s.length-1<s.length:=by omega
  have e:rowsS s=(pr (s.take (s.length-1)),(s.getD (s.length-1) 0).toNat,s.take (s.length-1)):=if_neg h0;have d:s.drop (s.length-1)=[s.getD (s.length-1) 0]:=by
   rw[List.drop_eq_getElem_cons hk,getD_at hk,List.drop_of_length_le (by omega)]
  have hp:=List.take_append_drop (s.length-1) s;have p:pr s=pr (s.take (s.length-1))*(s.getD (s.length-1) 0).toNat:=by
   conv=>lhs;rw[←hp]
   rw[pr_append,d];show _*(_*1)=_;rw[Nat.mul_one]
  have hv2:vS (s.take (s.length-1)):=(vS_parts (by rw[hp];exact hv)).1;have hd:=vS_dim hv (List.getElem_mem hk);rw[e];exact⟨p,rfl,hv2,by show (s.getD (s.length-1) 0).toNat≤4096;rw[getD_at hk];omega,(vS_pr hv2).2⟩
theorem colsS_of {s:List Int} (hv:vS s):pr s=(colsS s).2.1*(colsS s).1∧(colsS s).1=pr (colsS s).2.2∧vS (colsS s).2.2∧(colsS s).2.1≤4096∧(colsS s).1≤4096:=by
 cases s with
 | nil=>exact⟨rfl,rfl,hv,by decide,by decide⟩
 | cons d t =>
  have hv2:vS t:=(vS_parts (u:=[d]) hv).2;have hd:=vS_dim hv (List.mem_cons_self ..);exact⟨rfl,rfl,hv2,by show d.toNat≤4096;omega,(vS_pr hv2).2⟩
section
variable (f g most:Int) (sa sb:List Int) (ca cb:Bool) (ta tb:List Int) (na nb:List (Option (Rat×Nat)))
theorem inn_nd:∀x∈[AV.val (.int .i32 f),.val (.int .i32 g),AA sa ca ta na true,AA sb cb tb nb true,.val (.int .i64 most)],NoId x:=noid5 (.val _) (.val _) (AA_noid _ _ _ _ _) (AA_noid _ _ _ _ _) (.val _)
theorem Inner_not (h:¬(isTwo f∧isTwo g)):AC Tryz.prog 23 [.val (.int .i32 f),.val (.int .i32 g),AA sa ca ta na true,AA sb cb tb nb true,.val (.int .i64 most)] (.pure (.tup [AA [] false [] [] false,.val (.int .i64 20)])):=by
 have hF:=Has_ok f;have hG:=Has_ok g;refine Red_err ?_;refine AC.of_body TTok Tryz.func23 rfl (enter_of Tryz.func23 (by kernel_rfl) (by kernel_rfl)) (inn_nd f g most sa sb ca cb ta tb na nb) (AZf_noid _) (nbq rfl) ?_;unfold AA AZ;by_cases hf:isTwo f
 ·rw[decide_eq_true hf]at hF;rw[decide_eq_false (fun hg=>h ⟨hf,hg⟩)]at hG;conv=>whnf
  refine⟨_,hF,?_⟩;conv=>whnf
  refine⟨_,hG,?_⟩;(conv=>whnf);exact rfl
 ·rw[decide_eq_false hf]at hF;conv=>whnf
  refine⟨_,hF,?_⟩;(conv=>whnf);exact rfl
section
variable (hf:isTwo f) (hg:isTwo g) (va:vS sa) (vb:vS sb)
include hf hg va vb
theorem Inner_len (h1:(rowsS sa).2.1≠(colsS sb).2.1) (h2:(rowsS sa).2.1≠1) (h3:(colsS sb).2.1≠1):AC Tryz.prog 23 [.val (.int .i32 f),.val (.int .i32 g),AA sa ca ta na true,AA sb cb tb nb true,.val (.int .i64 most)] (.pure (.tup [AA [] false [] [] false,.val (.int .i64 24)])):=by
 have hF:=Has_ok f;have hG:=Has_ok g;rw[decide_eq_true hf]at hF;rw[decide_eq_true hg]at hG;have hR:=rows_ok sa ca ta na va;have hC:=columns_ok sb cb tb nb vb;generalize (rowsS sa).1=many at *;generalize (rowsS sa).2.1=n at *;generalize (rowsS sa).2.2=fr at *;generalize (colsS sb).1=wide at *;generalize (colsS sb).2.1=m at *;generalize (colsS sb).2.2=bk at *;refine Red_err ?_;refine AC.of_body TTok Tryz.func23 rfl (enter_of Tryz.func23 (by kernel_rfl) (by kernel_rfl)) (inn_nd f g most sa sb ca cb ta tb na nb) (AZf_noid _) (nbq rfl) ?_;unfold AA AZ at *;conv=>whnf
 refine⟨_,hF,?_⟩;conv=>whnf
 refine⟨_,hG,?_⟩;conv=>whnf
 refine⟨_,hR,?_⟩;conv=>whnf
 refine⟨_,hC,?_⟩;conv=>whnf
 refine nFq (by omega) ?_;conv=>whnf
 refine nFq (by omega) ?_;conv=>whnf
 refine nFq (by omega) ?_;(conv=>whnf);exact rfl
end
end
end
section
theorem min_wrap (k n:Nat) (h0:0<n) (h1:n≤5000):(if IntKind.i64.wrap ((n:Int)-1)<(k:Int) then IntKind.i64.wrap ((n:Int)-1) else (k:Int))=((min k (n-1):Nat):Int):=by
 rw[IntWalk.i64_in _ (by omega)];split<;>omega
theorem left_wrap (i wide n k:Nat) (h0:0<n) (h1:n≤5000) (h2:i/wide*n+min k (n-1)≤5000) (hi:i≤5000) :
  IntKind.i64.wrap (IntKind.i64.wrap (IntKind.i64.wrap (((i:Int)).tdiv (wide:Int))*(n:Int))+(if IntKind.i64.wrap ((n:Int)-1)<(k:Int) then IntKind.i64.wrap ((n:Int)-1) else (k:Int)))=((i/wide*n+min k (n-1):Nat):Int):=by
 have:=Nat.div_le_self i wide;rw[min_wrap k n h0 h1,Int.tdiv_eq_ediv_of_nonneg (Int.natCast_nonneg _),←Int.natCast_ediv,wrap_nat' _ (by omega),←Int.natCast_mul,wrap_nat' _ (by omega),←Int.natCast_add,wrap_nat' _ (by omega)]
theorem right_wrap (i wide m k:Nat) (h0:0<m) (h1:m≤5000) (h2:min k (m-1)*wide+i % wide≤5000) :
  IntKind.i64.wrap (IntKind.i64.wrap ((if IntKind.i64.wrap ((m:Int)-1)<(k:Int) then IntKind.i64.wrap ((m:Int)-1) else (k:Int))*(wide:Int))+((i:Int)).tmod (wide:Int))=((min k (m-1)*wide+i % wide:Nat):Int):=by
 rw[min_wrap k m h0 h1,Int.tmod_eq_emod_of_nonneg (Int.natCast_nonneg _),←Int.natCast_emod,←Int.natCast_mul,wrap_nat' _ (by omega),←Int.natCast_add,wrap_nat' _ (by omega)]
theorem room_vS {s:List Int} (hr:roomE s=0):vS s:=by
 unfold roomE at hr;by_cases h8:8<s.length
 ·rw[if_pos h8]at hr;exact absurd hr (by decide)
 ·rw[if_neg h8]at hr;by_cases hv:vS s
  ·exact hv
  ·rw[if_neg hv]at hr;exact absurd hr (by decide)
def outC (X:List (Option (Rat×Nat))) (i:Nat):List AV :=
 [.sl (bif Nat.beq i 0 then 0 else 1) (bif Nat.beq i 0 then [] else irows .i64 [(i:Int)]) (Nat.beq i 0),.val (.bool false),.sl (bif Nat.beq i 0 then 0 else 1) [] (Nat.beq i 0),.sl (bif Nat.beq i 0 then 0 else 3) ((X.take i).map rowX) (Nat.beq i 0),.val (.bool (!Nat.beq i 0))]
theorem outC_noid (X:List (Option (Rat×Nat))) (i:Nat):∀r∈[outC X i],∀x∈r,NoId x:=fun r hr=>by
 rw[List.mem_singleton.1 hr];refine noid5 (.sl _ _ _ ?_) (.val _) (.sl _ _ _ (fun r hr=>nomatch hr)) (.sl _ _ _ (rowsX_noid _)) (.val _);cases i
 ·exact fun r hr=>nomatch hr
 ·exact irows_noid _ _
theorem more_at (X:List (Option (Rat×Nat))) (i:Nat) (hi:i<X.length) (h4:i<4096):AC Tryz.prog 68 [.agg (outC X i),AA [] false [] [X[i]] true] (.pure (AA [((i+1:Nat):Int)] false [] (X.take (i+1)) true)):=by
 cases i with
 | zero =>
  have:=more_zero (X[0]);rw[take_snoc hi];exact this
 | succ i =>
  have:=more_ok (X.take (i+1)) (X[i+1]) (by rw[List.length_take];omega);rw[←take_snoc hi,List.length_take,Nat.min_eq_left (by omega)]at this;exact this
set_option maxRecDepth 20000 in
theorem Inner_run (f g most:Int) (hf:isTwo f) (hg:isTwo g) (sa sb:List Int) (ca cb:Bool) (ta tb:List Int) (na nb:List (Option (Rat×Nat))) (many n wide m long:Nat) (fr bk:List Int)
  (hR:AC Tryz.prog 62 [AA sa ca ta na true] (.pure (.tup [.val (.int .i64 (many:Int)),.val (.int .i64 (n:Int)),.sl 1 (irows .i64 fr) false])))
  (hC:AC Tryz.prog 63 [AA sb cb tb nb true] (.pure (.tup [.val (.int .i64 (wide:Int)),.val (.int .i64 (m:Int)),.sl 1 (irows .i64 bk) false])))
  (hfit:n=m∨n=1∨m=1) (hlong:long=if n=0∨m=0 then 0 else max n m) (n4:n≤4096) (m4:m≤4096) (hmn:many*n≤4096) (hmw:m*wide≤4096) (f8:fr.length≤8) (b8:bk.length≤8) (hma:many=pr fr) (hwi:wide=pr bk)
  (ta5:ta.length≤5000) (tb5:tb.length≤5000) (na5:na.length≤5000) (nb5:nb.length≤5000)
  (all:Nat) (E:Int) (hbad:roomE (fr++bk)≠0→E=roomE (fr++bk)) (hgood:roomE (fr++bk)=0→all=many*wide)
  (X:List (Option (Rat×Nat))) (lX:X.length=all) (A B:Nat→List Int)
  (hA:∀i,i<all→A i=(List.range long).map fun j:Nat=>((i/wide*n+min j (n-1):Nat):Int)) (hB:∀i,i<all→B i=(List.range long).map fun j:Nat=>((min j (m-1)*wide+i % wide:Nat):Int))
  (E1 E2:Nat→Int) (Ls:Nat→List (Option (Rat×Nat)))
  (h66:∀i,i<all→AC Tryz.prog 66 [.val (.int .i32 g),AA [(long:Int)] ca (pickT ca ta (A i)) (pickX ca na (A i)) true,AA [(long:Int)] cb (pickT cb tb (B i)) (pickX cb nb (B i)) true,.val (.int .i64 most)] (.pure (resA [(long:Int)] (E1 i) (Ls i))))
  (h12:∀i (h:i<X.length),E1 i=0→AC Tryz.prog 12 [.val (.int .i32 f),AA [(long:Int)] false [] (Ls i) true,.val (.int .i64 (-1)),.val (.int .i64 most)] (.pure (resF [] false [] [X[i]] (E2 i))))
  (hE0:roomE (fr++bk)=0→(∀i,i<all→E1 i=0∧E2 i=0)→E=0) (hE1:∀i,i<all→(∀j,j<i→E1 j=0∧E2 j=0)→E1 i≠0→E=E1 i) (hE2:∀i,i<all→(∀j,j<i→E1 j=0∧E2 j=0)→E1 i=0→E2 i≠0→E=E2 i) :
  AC Tryz.prog 23 [.val (.int .i32 f),.val (.int .i32 g),AA sa ca ta na true,AA sb cb tb nb true,.val (.int .i64 most)] (.pure (resF (fr++bk) false [] X E)):=by
 have hHf:=Has_ok f;have hHg:=Has_ok g;rw[decide_eq_true hf]at hHf;rw[decide_eq_true hg]at hHg;have hJ:=join2 fr bk f8 b8;have hRm:=room_ok (fr++bk) (by rw[List.length_append];omega);have hNo:AC Tryz.prog 70 [.val (.bool false)] (.pure (AA [0] false [] [] true)):=None_ok false;have hl4:long≤4096:=by rw[hlong];split<;>omega
 have hpos:0<long→0<n∧0<m:=fun h=>by
  by_cases h0:n=0∨m=0
  ·rw[hlong,if_pos h0]at h;omega
  ·omega
 obtain⟨r',hle,hno,e1,e2⟩:∃ r',AVle r' (resF (fr++bk) false [] X E)∧NoId r'∧(E=0→r' = .tup [AA (fr++bk) false [] X true,.val (.int .i64 0)])∧(E≠0→r' = .tup [AZ,.val (.int .i64 E)]):=by
  unfold resF;by_cases h:E=0
  ·rw[if_pos h];exact⟨_,.refl _,.tup _ (noid2 (AA_noid _ _ _ _ _) (.val _)),fun _=>rfl,fun h'=>absurd h h'⟩
  ·rw[if_neg h];exact⟨_,.tup2 AZ_le (.refl _),AZf_noid _,fun h'=>absurd h' h,fun _=>rfl⟩
 refine AC.le_res (?_:AC Tryz.prog 23 _ (.pure r')) hle (resF_noid _ _ _ _ _);have lz:∀k,(List.replicate k ([.val (.int .i64 0)]:List AV)).length=k:=fun k=>List.length_replicate;refine AC.of_sw TTok Tryz.func23 rfl (enter_of Tryz.func23 (by kernel_rfl) (by kernel_rfl)) (inn_nd f g most sa sb ca cb ta tb na nb) hno (nbq rfl) ?_;unfold AA AZ at *;refine SW.seqA TTok ?_;conv=>whnf
 refine SW.seqA TTok ?_;conv=>whnf
 refine⟨_,hHf,?_⟩;conv=>whnf
 refine⟨_,hHg,?_⟩;conv=>whnf
 refine SW.seqA TTok ?_;conv=>whnf
 refine⟨_,hR,?_⟩;conv=>whnf
 refine SW.seqA TTok ?_;conv=>whnf
 refine⟨_,hC,?_⟩;conv=>whnf
 refine SW.cutM TTok (fun _:Unit=>[(0,.val (.int .i32 f)),(1,.val (.int .i32 g)),(4,.val (.int .i64 most)),(7,.lp 0 0),(8,.lp 8 0),(10,.lp 16 0),(11,.val (.int .i64 0)),(12,.val (.int .i64 (many:Int))),(13,.val (.int .i64 (n:Int))),(14,.sl 1 (irows .i64 fr) false),(15,.val (.int .i64 (wide:Int))),(16,.val (.int .i64 (m:Int))),(17,.sl 1 (irows .i64 bk) false)]) (fun _=>[(0,.cells 5 [[.sl 1 (irows .i64 sa) false,.val (.bool ca),.sl 1 (irows .i32 ta) false,.sl 3 (na.map rowX) false,.val (.bool true)]]),(8,.cells 5 [[.sl 1 (irows .i64 sb) false,.val (.bool cb),.sl 1 (irows .i32 tb) false,.sl 3 (nb.map rowX) false,.val (.bool true)]]),(16,.cells 5 [[.sl 0 [] true,.val (.bool false),.sl 0 [] true,.sl 0 [] true,.val (.bool false)]])]) 328 166 rfl (fun _=>True) ?_ (fun _ _=>?_)
 ·have h3:n=m∨(n≠m∧n=1)∨(n≠m∧n≠1∧m=1):=by omega
  rcases h3 with h3 | ⟨h3,h5⟩ | ⟨h3,h5,h6⟩
  ·conv=>whnf
   refine nTq (by omega) ?_;conv=>whnf
   exact⟨(),[],trivial,⟨q2r,q2r,q2r,q2r,q2r,q2r,q2r,q2r,q2r,q2r,q2r,q2r,q2r,trivial⟩,⟨q3r,q3r,q3r,trivial⟩,rfl⟩
  ·conv=>whnf
   refine nFq (by omega) ?_;conv=>whnf
   refine nTq (by omega) ?_;conv=>whnf
   exact⟨(),[],trivial,⟨q2r,q2r,q2r,q2r,q2r,q2r,q2r,q2r,q2r,q2r,q2r,q2r,q2r,trivial⟩,⟨q3r,q3r,q3r,trivial⟩,rfl⟩
  ·conv=>whnf
   refine nFq (by omega) ?_;conv=>whnf
   refine nFq (by omega) ?_;conv=>whnf
   refine nTq (by omega) ?_;conv=>whnf
   exact⟨(),[],trivial,⟨q2r,q2r,q2r,q2r,q2r,q2r,q2r,q2r,q2r,q2r,q2r,q2r,q2r,trivial⟩,⟨q3r,q3r,q3r,trivial⟩,rfl⟩
 refine SW.seqA TTok ?_;conv=>whnf
 refine SW.cutM TTok (fun _:Unit=>[(0,.val (.int .i32 f)),(1,.val (.int .i32 g)),(4,.val (.int .i64 most)),(7,.lp 0 0),(8,.lp 8 0),(10,.lp 16 0),(11,.val (.int .i64 0)),(12,.val (.int .i64 (many:Int))),(13,.val (.int .i64 (n:Int))),(14,.sl 1 (irows .i64 fr) false),(15,.val (.int .i64 (wide:Int))),(16,.val (.int .i64 (m:Int))),(17,.sl 1 (irows .i64 bk) false),(18,.val (.int .i64 (long:Int)))]) (fun _=>[(0,.cells 5 [[.sl 1 (irows .i64 sa) false,.val (.bool ca),.sl 1 (irows .i32 ta) false,.sl 3 (na.map rowX) false,.val (.bool true)]]),(8,.cells 5 [[.sl 1 (irows .i64 sb) false,.val (.bool cb),.sl 1 (irows .i32 tb) false,.sl 3 (nb.map rowX) false,.val (.bool true)]]),(16,.cells 5 [[.sl 0 [] true,.val (.bool false),.sl 0 [] true,.sl 0 [] true,.val (.bool false)]])]) 408 166 rfl (fun _=>True) ?_ (fun _ _=>?_)
 ·by_cases h0:n=0
  ·have hl:long=0:=by rw[hlong,if_pos (.inl h0)]
   conv=>whnf
   refine oTq (by omega) ?_;conv=>whnf
   exact⟨(),[],trivial,⟨q2r,q2r,q2r,q2r,q2r,q2r,q2r,q2r,q2r,q2r,q2r,q2r,q2r,⟨valI (by rw[hl];rfl),rfl⟩,trivial⟩,⟨q3r,q3r,q3r,trivial⟩,rfl⟩
  ·by_cases h1:m=0
   ·have hl:long=0:=by rw[hlong,if_pos (.inr h1)]
    conv=>whnf
    refine oFq (by omega) ?_;conv=>whnf
    refine oTq (by omega) ?_;conv=>whnf
    exact⟨(),[],trivial,⟨q2r,q2r,q2r,q2r,q2r,q2r,q2r,q2r,q2r,q2r,q2r,q2r,q2r,⟨valI (by rw[hl];rfl),rfl⟩,trivial⟩,⟨q3r,q3r,q3r,trivial⟩,rfl⟩
   ·have hl:long=max n m:=by rw[hlong,if_neg (by omega)]
    conv=>whnf
    refine oFq (by omega) ?_;conv=>whnf
    refine oFq (by omega) ?_;conv=>whnf
    exact⟨(),[],trivial,⟨q2r,q2r,q2r,q2r,q2r,q2r,q2r,q2r,q2r,q2r,q2r,q2r,q2r,⟨valI (by rw[hl];show (if (m:Int)>(n:Int) then (m:Int) else (n:Int))=_;split<;>omega),rfl⟩,trivial⟩,⟨q3r,q3r,q3r,trivial⟩,rfl⟩
 refine axp_sound TTok _ _ _ ?_;by_cases hr:roomE (fr++bk)=0
 case neg =>
  rw[if_neg hr]at hRm;have hE:=hbad hr;rw[e2 (by rw[hE];exact hr),hE];generalize roomE (fr++bk)=e at *;conv=>whnf
  refine⟨(nbq rfl),_,hJ,?_⟩;conv=>whnf
  refine⟨_,hRm,?_⟩;conv=>whnf
  refine nFq (by omega) ?_;(conv=>whnf);exact rfl
 have hv:vS (fr++bk):=room_vS hr;have hall:=hgood hr;have hE0:=hE0 hr;have hcn:cntI (fr++bk)=(all:Int):=by rw[(vS_pr hv).1,pr_append,←hma,←hwi,hall]
 have h4:all≤4096:=by have:=(vS_pr hv).2;rw[pr_append,←hma,←hwi,←hall]at this;exact this
 rw[if_pos hr,hr,hcn]at hRm;have hSh0:all=0→AC Tryz.prog 69 [AA [0] false [] [] true,.sl 1 (irows .i64 (fr++bk)) false] (.pure (AA (fr++bk) false [] X true)):=fun h=>by
  have hx:X=[]:=List.length_eq_zero_iff.1 (by rw[lX,h]);rw[hx];exact shaped_ok [0] [] (fr++bk) hv (by rw[hcn,h];rfl)
 have hSh1:all≠0→AC Tryz.prog 69 [.agg (outC X all),.sl 1 (irows .i64 (fr++bk)) false] (.pure (AA (fr++bk) false [] X true)):=fun h=>by
  obtain⟨a,rfl⟩:∃ a,all=a+1:=⟨all-1,by omega⟩;have:=shaped_ok [((a+1:Nat):Int)] X (fr++bk) hv (by rw[hcn,lX]);unfold outC;rw[List.take_of_length_le (by omega)];exact this
 unfold AA at hSh0 hSh1;conv=>whnf
 refine⟨(nbq rfl),_,hJ,?_⟩;conv=>whnf
 refine⟨_,hRm,?_⟩;conv=>whnf
 refine SW.loopM TTok (fun i:Nat=>[(0,.val (.int .i32 f)),(1,.val (.int .i32 g)),(4,.val (.int .i64 most)),(7,.lp 0 0),(8,.lp 8 0),(10,.lp 16 0),(11,.val (.int .i64 0)),(12,.val (.int .i64 (many:Int))),(13,.val (.int .i64 (n:Int))),(15,.val (.int .i64 (wide:Int))),(16,.val (.int .i64 (m:Int))),(18,.val (.int .i64 (long:Int))),(19,.sl 1 (irows .i64 (fr++bk)) false),(20,.val (.int .i64 (all:Int))),(22,.lp 520 0),(84,.val (.int .i64 (all:Int))),(85,.val (.int .i64 (i:Int)))])
  (fun i=>[(0,.cells 5 [[.sl 1 (irows .i64 sa) false,.val (.bool ca),.sl 1 (irows .i32 ta) false,.sl 3 (na.map rowX) false,.val (.bool true)]]),(8,.cells 5 [[.sl 1 (irows .i64 sb) false,.val (.bool cb),.sl 1 (irows .i32 tb) false,.sl 3 (nb.map rowX) false,.val (.bool true)]]),(16,.cells 5 [[.sl 0 [] true,.val (.bool false),.sl 0 [] true,.sl 0 [] true,.val (.bool false)]]),(520,.cells 5 [outC X i])]) 544 166 rfl (fun i=>all-i) (fun i=>i≤all∧∀j,j<i→E1 j=0∧E2 j=0) 0 [] ⟨Nat.zero_le _,fun j hj=>absurd hj (Nat.not_lt_zero _)⟩
  ⟨q2r,q2r,q2r,q2r,q2r,q2r,q2r,q2r,q2r,q2r,q2r,q2r,q2r,q2r,q2r,q2r,q2r,trivial⟩ ⟨q3r,q3r,q3r,⟨rfl,.inl ⟨rfl,outC_noid _ _⟩⟩,trivial⟩ rfl ?_
 intro i hJ;have hi:i≤all:=hJ.1;have hz:∀j,j<i→E1 j=0∧E2 j=0:=hJ.2;clear hJ;by_cases hlt:i<all
 ·have eI:IntKind.i64.wrap ((i:Int)+1)=((i+1:Nat):Int):=by rw[IntWalk.i64_in _ (by omega)];omega
  have hw:0<wide:=Nat.pos_of_ne_zero fun e=>by rw[hall,e]at hlt;omega
  have hr2:i/wide<many:=Nat.div_lt_of_lt_mul (by rw[Nat.mul_comm,←hall];exact hlt);have hk2:i % wide<wide:=Nat.mod_lt _ hw;have inA:∀j,j<long→i/wide*n+min j (n-1)≤5000:=fun j hj=>by
   have h0:=(hpos (by omega)).1;have:(i/wide+1)*n≤many*n:=Nat.mul_le_mul_right _ hr2;rw[Nat.add_mul,Nat.one_mul]at this;omega
  have inB:∀j,j<long→min j (m-1)*wide+i % wide≤5000:=fun j hj=>by
   have h0:=(hpos (by omega)).2;have:(min j (m-1)+1)*wide≤m*wide:=Nat.mul_le_mul_right _ (by omega);rw[Nat.add_mul,Nat.one_mul]at this;omega
  have hAi:=hA i hlt;have hBi:=hB i hlt;have hT:=h66 i hlt;have hRe:=h12 i (by omega);have hM:=more_at X i (by omega) (by omega);generalize A i=Al at *;generalize B i=Bl at *;have lA:Al.length=long:=by rw[hAi,List.length_map,List.length_range]
  have lB:Bl.length=long:=by rw[hBi,List.length_map,List.length_range]
  have gA:∀k,k<long→Al[k]?=some ((i/wide*n+min k (n-1):Nat):Int):=fun k hk=>by rw[hAi,List.getElem?_map,List.getElem?_range hk];rfl
  have gB:∀k,k<long→Bl[k]?=some ((min k (m-1)*wide+i % wide:Nat):Int):=fun k hk=>by rw[hBi,List.getElem?_map,List.getElem?_range hk];rfl
  have hSa:=spread_ok sa ca ta na Al (by omega) (by omega) (by omega);have hSb:=spread_ok sb cb tb nb Bl (by omega) (by omega) (by omega);rw[lA]at hSa;rw[lB]at hSb;have lAr:=irows_len .i64 Al;have lBr:=irows_len .i64 Bl;have eA:irows .i64 Al=List.take long (List.drop 0 (irows .i64 Al)):=by rw[List.drop_zero,List.take_of_length_le (by omega)]
  have eB:irows .i64 Bl=List.take long (List.drop 0 (irows .i64 Bl)):=by rw[List.drop_zero,List.take_of_length_le (by omega)]
  rw[eA]at hSa;rw[eB]at hSb;clear eA eB hAi hBi;generalize pickT ca ta Al=TA at *;generalize pickT cb tb Bl=TB at *;generalize pickX ca na Al=XA at *;generalize pickX cb nb Bl=XB at *;unfold AA at hSa hSb;unfold outC AA at hM;conv=>whnf
  refine oTq (by omega) ?_;conv=>whnf
  refine⟨⟨by omega,by omega,by show ((long:Nat):Int)*((8:Nat):Int)≤140737488355328;omega⟩,?_⟩;conv=>whnf
  refine⟨⟨by omega,by omega,by show ((long:Nat):Int)*((8:Nat):Int)≤140737488355328;omega⟩,?_⟩;conv=>whnf
  refine⟨by kernel_rfl,?_⟩;conv=>whnf
  refine SW.loopM TTok (fun k:Nat=>[(0,.val (.int .i32 f)),(1,.val (.int .i32 g)),(4,.val (.int .i64 most)),(7,.lp 0 0),(8,.lp 8 0),(10,.lp 16 0),(11,.val (.int .i64 0)),(12,.val (.int .i64 (many:Int))),(13,.val (.int .i64 (n:Int))),(15,.val (.int .i64 (wide:Int))),(16,.val (.int .i64 (m:Int))),(18,.val (.int .i64 (long:Int))),(19,.sl 1 (irows .i64 (fr++bk)) false),(20,.val (.int .i64 (all:Int))),(22,.lp 520 0),(84,.val (.int .i64 (all:Int))),(23,.val (.int .i64 (i:Int))),(24,.own 576 0 long),(25,.own 592 0 long),(85,.val (.int .i64 (i:Int))),(92,.val (.int .i64 (long:Int))),(93,.val (.int .i64 (k:Int)))])
   (fun k=>[(0,.cells 5 [[.sl 1 (irows .i64 sa) false,.val (.bool ca),.sl 1 (irows .i32 ta) false,.sl 3 (na.map rowX) false,.val (.bool true)]]),(8,.cells 5 [[.sl 1 (irows .i64 sb) false,.val (.bool cb),.sl 1 (irows .i32 tb) false,.sl 3 (nb.map rowX) false,.val (.bool true)]]),(16,.cells 5 [[.sl 0 [] true,.val (.bool false),.sl 0 [] true,.sl 0 [] true,.val (.bool false)]]),(520,.cells 5 [outC X i]),(576,.cells 1 (irows .i64 (Al.take k)++List.replicate (long-k) ([.val (.int .i64 0)]:List AV))),(592,.cells 1 (irows .i64 (Bl.take k)++List.replicate (long-k) ([.val (.int .i64 0)]:List AV)))]) 632 166 rfl (fun k=>long-k) (fun k=>k≤long) 0 [] (Nat.zero_le _)
   ⟨q2r,q2r,q2r,q2r,q2r,q2r,q2r,q2r,q2r,q2r,q2r,q2r,q2r,q2r,q2r,q2r,q2r,q2r,q2r,q2r,q2r,q2r,trivial⟩ ⟨q3r,q3r,q3r,⟨rfl,.inl ⟨rfl,outC_noid _ _⟩⟩,⟨rfl,.inl ⟨rfl,nz_noid _ _⟩⟩,⟨rfl,.inl ⟨rfl,nz_noid _ _⟩⟩,trivial⟩ rfl ?_
  intro k hJ;have hk:k≤long:=hJ;clear hJ;have ltA:(irows .i64 (Al.take k)).length=k:=by rw[irows_len,List.length_take];omega
  have ltB:(irows .i64 (Bl.take k)).length=k:=by rw[irows_len,List.length_take];omega
  have lrA:(irows .i64 (Al.take k)++List.replicate (long-k) ([.val (.int .i64 0)]:List AV)).length=long:=by rw[List.length_append,ltA,lz];omega
  have lrB:(irows .i64 (Bl.take k)++List.replicate (long-k) ([.val (.int .i64 0)]:List AV)).length=long:=by rw[List.length_append,ltB,lz];omega
  by_cases hkt:k<long
  ·have eK:IntKind.i64.wrap ((k:Int)+1)=((k+1:Nat):Int):=by rw[IntWalk.i64_in _ (by omega)];omega
   have hsA:=fill_set Al long k _ hkt lA (gA k hkt);have hsB:=fill_set Bl long k _ hkt lB (gB k hkt);have w1:=left_wrap i wide n k (hpos (by omega)).1 (by omega) (inA k hkt) (by omega);have w2:=right_wrap i wide m k (hpos (by omega)).2 (by omega) (inB k hkt);conv=>whnf
   refine oTq (by omega) ?_;conv=>whnf
   refine⟨by omega,?_⟩;conv=>whnf
   refine⟨by omega,?_⟩;conv=>whnf
   refine⟨by omega,?_⟩;conv=>whnf
   refine⟨by rw[Nat.zero_add,Int.toNat_natCast];omega,?_⟩;conv=>whnf
   refine⟨by omega,?_⟩;conv=>whnf
   refine⟨by rw[Nat.zero_add,Int.toNat_natCast];omega,?_⟩;conv=>whnf
   refine⟨by kernel_rfl,?_⟩;conv=>whnf
   refine⟨k+1,[],(by show long-(k+1)<long-k;omega),hkt,⟨q2r,q2r,q2r,q2r,q2r,q2r,q2r,q2r,q2r,q2r,q2r,q2r,q2r,q2r,q2r,q2r,q2r,q2r,q2r,q2r,q2r,⟨valI eK,rfl⟩,trivial⟩,⟨q3r,q3r,q3r,⟨rfl,.inl ⟨rfl,outC_noid _ _⟩⟩,⟨rfl,.inl ⟨celE ?_,nz_noid _ _⟩⟩,⟨rfl,.inl ⟨celE ?_,nz_noid _ _⟩⟩,trivial⟩,rfl⟩
   ·rw[←hsA,←w1];show List.set _ (0+(k:Int).toNat) _=_;rw[Nat.zero_add,Int.toNat_natCast]
   ·rw[←hsB,←w2];show List.set _ (0+(k:Int).toNat) _=_;rw[Nat.zero_add,Int.toNat_natCast]
  ·have hke:k=long:=by omega
   have e3:Al.take k=Al:=List.take_of_length_le (by omega);have e4:Bl.take k=Bl:=List.take_of_length_le (by omega);rw[e3,e4,hke,Nat.sub_self,List.replicate_zero,List.append_nil,List.append_nil];unfold resA AA at hT;by_cases hEi:E1 i=0
   ·rw[if_pos hEi]at hT;have hRe:=hRe hEi;unfold resF AA at hRe;by_cases hEj:E2 i=0
    ·rw[if_pos hEj]at hRe;conv=>whnf
     refine oFq (by omega) ?_;conv=>whnf
     refine⟨by show 0+long≤_;omega,_,hSa,?_⟩;conv=>whnf
     refine⟨by show 0+long≤_;omega,_,hSb,?_⟩;conv=>whnf
     refine⟨_,hT,?_⟩;conv=>whnf
     refine⟨by kernel_rfl,?_⟩;conv=>whnf
     refine⟨_,hRe,?_⟩;conv=>whnf
     refine⟨_,hM,?_⟩;conv=>whnf
     exact⟨i+1,[],(by show all-(i+1)<all-i;omega),⟨hlt,fun j hj=>by
      by_cases h:j=i
      ·rw[h];exact⟨hEi,hEj⟩
      ·exact hz j (by omega)⟩,⟨q2r,q2r,q2r,q2r,q2r,q2r,q2r,q2r,q2r,q2r,q2r,q2r,q2r,q2r,q2r,q2r,⟨valI eI,rfl⟩,trivial⟩,⟨q3r,q3r,q3r,⟨rfl,.inl ⟨rfl,outC_noid _ _⟩⟩,trivial⟩,rfl⟩
    ·rw[if_neg hEj]at hRe;have hEe:=hE2 i hlt hz hEi hEj;rw[e2 (by rw[hEe];exact hEj),hEe];conv=>whnf
     refine oFq (by omega) ?_;conv=>whnf
     refine⟨by show 0+long≤_;omega,_,hSa,?_⟩;conv=>whnf
     refine⟨by show 0+long≤_;omega,_,hSb,?_⟩;conv=>whnf
     refine⟨_,hT,?_⟩;conv=>whnf
     refine⟨by kernel_rfl,?_⟩;conv=>whnf
     refine⟨_,hRe,?_⟩;conv=>whnf
     refine nFq (by omega) ?_;(conv=>whnf);exact rfl
   ·rw[if_neg hEi]at hT;have hEe:=hE1 i hlt hz hEi;rw[e2 (by rw[hEe];exact hEi),hEe];conv=>whnf
    refine oFq (by omega) ?_;conv=>whnf
    refine⟨by show 0+long≤_;omega,_,hSa,?_⟩;conv=>whnf
    refine⟨by show 0+long≤_;omega,_,hSb,?_⟩;conv=>whnf
    refine⟨_,hT,?_⟩;conv=>whnf
    refine⟨by kernel_rfl,?_⟩;conv=>whnf
    refine nFq (by omega) ?_;(conv=>whnf);exact rfl
 ·have hie:i=all:=by omega
  subst hie;rw[e1 (hE0 hz)];by_cases h0:i=0
  ·have hSh:=hSh0 h0;conv=>whnf
   refine oFq (by omega) ?_;conv=>whnf
   refine oTq (by omega) ?_;conv=>whnf
   refine⟨_,hNo,?_⟩;conv=>whnf
   refine⟨_,hSh,?_⟩;(conv=>whnf);exact rfl
  ·have hSh:=hSh1 h0;have hmany:many≠0:=fun h=>by rw[hall,h,Nat.zero_mul]at h0;exact h0 rfl
   unfold outC at hSh;conv=>whnf
   refine oFq (by omega) ?_;conv=>whnf
   refine oFq (by omega) ?_;conv=>whnf
   refine oFq (by omega) ?_;conv=>whnf
   refine⟨_,hSh,?_⟩;(conv=>whnf);exact rfl
end
section
def longS (n m:Nat):Nat:=if n=0∨m=0 then 0 else max n m
theorem firstE_in {F:List (Rat×Int)} (h:firstE F=0) {z:Rat×Int} (hz:z∈F):z.2=0:=fst0_zero ((firstE_fst0 F).symm.trans h) z.2 (List.mem_map_of_mem hz)
theorem firstE_map (V:Nat→Rat×Int) (all i:Nat) (hi:i<all) (hz:∀j,j<i→(V j).2=0) (hn:(V i).2≠0):firstE ((List.range all).map V)=(V i).2:=by
 have hl:i<((List.range all).map V).length:=by rw[List.length_map,List.length_range];exact hi
 have he:((List.range all).map V)[i]=V i:=by rw[List.getElem_map,List.getElem_range]
 rw[firstE_at hl (fun x hx=>?_) (by rw[he];exact hn),he];rw[←List.map_take,List.take_range,Nat.min_eq_left (by omega)]at hx;obtain⟨j,hj,rfl⟩:=List.mem_map.1 hx;exact hz j (List.mem_range.1 hj)
section
variable (f g most:Int) (ca cb:Bool) (ta tb:List Int) (qa qb:List Rat) (n m wide long:Nat)
theorem innV_zero (i:Nat):(innV f g most ca cb ta tb qa qb n m wide long i).2=0→firstE (innL g most ca cb ta tb qa qb n m wide long (i/wide) (i % wide))=0:=fun h=>by
 unfold innV at h;by_cases h1:firstE (innL g most ca cb ta tb qa qb n m wide long (i/wide) (i % wide))=0
 ·exact h1
 ·rw[if_pos h1]at h;exact absurd h h1
theorem innV_first (i:Nat):firstE (innL g most ca cb ta tb qa qb n m wide long (i/wide) (i % wide))≠0→(innV f g most ca cb ta tb qa qb n m wide long i).2=firstE (innL g most ca cb ta tb qa qb n m wide long (i/wide) (i % wide)):=fun h=>by
 unfold innV;rw[if_pos h]
end
theorem Inner_good (f g most:Int) (hf:isTwo f) (hg:isTwo g) (hm:most≤20) (sa sb:List Int) (ca cb:Bool) (ta tb:List Int) (na nb:List (Option (Rat×Nat))) (qa qb:List Rat) (na1:na.map valX=qa) (nb1:nb.map valX=qb) (oa:∀o∈na,okX o) (ob:∀o∈nb,okX o) (hQa:∀q∈qa,Sz q 20) (hQb:∀q∈qb,Sz q 20)
  (va:vS sa) (vb:vS sb) (ka:kinds sa ca ta.length na.length) (kb:kinds sb cb tb.length nb.length) (many n wide m:Nat) (fr bk:List Int) (ea:rowsS sa=(many,n,fr)) (eb:colsS sb=(wide,m,bk)) (hfit:n=m∨n=1∨m=1) (hl5:0<many*wide→longS n m≤500)
  (V:Nat→Rat×Int) (hV:V=innV f g most ca cb ta tb qa qb n m wide (longS n m)) (F:List (Rat×Int)) (hF:F=(List.range (many*wide)).map V) :
  ∃ X:List (Option (Rat×Nat)),(roomE (fr++bk)=0→firstE F=0→X.map valX=F.map (·.1))∧(∀o∈X,okX o)∧X.length≤5000 ∧
   AC Tryz.prog 23 [.val (.int .i32 f),.val (.int .i32 g),AA sa ca ta na true,AA sb cb tb nb true,.val (.int .i64 most)] (.pure (resF (fr++bk) false [] X (if roomE (fr++bk)=0 then firstE F else roomE (fr++bk)))):=by
 obtain⟨k1,k2⟩:=kinds_c va ka;obtain⟨k3,k4⟩:=kinds_c vb kb;have pa4:=(vS_pr va).2;have pb4:=(vS_pr vb).2;have hR:=rows_ok sa ca ta na va;have hC:=columns_ok sb cb tb nb vb;obtain⟨ra1,ra2,ra3,ra4,ra5⟩:=rowsS_of va;obtain⟨cb1,cb2,cb3,cb4,cb5⟩:=colsS_of vb;rw[ea]at hR ra1 ra2 ra3 ra4 ra5;rw[eb]at hC cb1 cb2 cb3 cb4 cb5;have ra1:pr sa=many*n:=ra1;have cb1:pr sb=m*wide:=cb1;have ra2:many=pr fr:=ra2;have cb2:wide=pr bk:=cb2;have ra3:vS fr:=ra3;have cb3:vS bk:=cb3;have ra4:n≤4096:=ra4;have cb4:m≤4096:=cb4;rw[ra1]at k1 k2 pa4;rw[cb1]at k3 k4 pb4;have lta:ta.length≤4096∧na.length≤4096:=by
  cases ca
  ·have:=k2 rfl;omega
  ·have:=k1 rfl;omega
 have ltb:tb.length≤4096∧nb.length≤4096:=by
  cases cb
  ·have:=k4 rfl;omega
  ·have:=k3 rfl;omega
 obtain⟨long,hlo⟩:∃ long,long=longS n m:=⟨_,rfl⟩;have hpos:0<long→0<n∧0<m:=fun h=>by
  by_cases h0:n=0∨m=0
  ·rw[hlo]at h;unfold longS at h;rw[if_pos h0]at h;omega
  ·omega
 rw[←hlo]at hl5 hV;obtain⟨D,hD⟩:=pick_all (l:=List.range (many*wide)) (p:=fun i (d:List (Option (Rat×Nat))×Option (Rat×Nat))=>okX d.2∧((V i).2=0→valX d.2=(V i).1) ∧
   AC Tryz.prog 66 [.val (.int .i32 g),AA [(long:Int)] ca (pickT ca ta ((List.range long).map fun j:Nat=>((i/wide*n+min j (n-1):Nat):Int))) (pickX ca na ((List.range long).map fun j:Nat=>((i/wide*n+min j (n-1):Nat):Int))) true,AA [(long:Int)] cb (pickT cb tb ((List.range long).map fun j:Nat=>((min j (m-1)*wide+i % wide:Nat):Int))) (pickX cb nb ((List.range long).map fun j:Nat=>((min j (m-1)*wide+i % wide:Nat):Int))) true,.val (.int .i64 most)] (.pure (resA [(long:Int)] (firstE (innL g most ca cb ta tb qa qb n m wide long (i/wide) (i % wide))) d.1)) ∧
   (firstE (innL g most ca cb ta tb qa qb n m wide long (i/wide) (i % wide))=0→AC Tryz.prog 12 [.val (.int .i32 f),AA [(long:Int)] false [] d.1 true,.val (.int .i64 (-1)),.val (.int .i64 most)] (.pure (resF [] false [] [d.2] (V i).2)))) (fun i hi=>by
  have hi:=List.mem_range.1 hi;obtain⟨l,o,h1,h2,h3,h4⟩:=inn_round f g most hf hg hm ca cb ta tb na nb qa qb na1 nb1 oa ob hQa hQb n m many wide long (hl5 (by omega)) hpos
   (fun h=>⟨List.length_eq_zero_iff.1 (k1 h).2,(k1 h).1⟩) (fun h=>List.length_eq_zero_iff.1 (k2 h).2) (fun h=>⟨List.length_eq_zero_iff.1 (k3 h).2,(k3 h).1⟩) (fun h=>List.length_eq_zero_iff.1 (k4 h).2) i hi _ _ rfl rfl
  rw[←hV]at h2 h4;exact⟨(l,o),h1,h2,h3,h4⟩)
 have hz:∀i,(V i).2=0→firstE (innL g most ca cb ta tb qa qb n m wide long (i/wide) (i % wide))=0:=fun i=>by rw[hV];exact innV_zero f g most ca cb ta tb qa qb n m wide long i
 have hy:∀i,firstE (innL g most ca cb ta tb qa qb n m wide long (i/wide) (i % wide))≠0→(V i).2=firstE (innL g most ca cb ta tb qa qb n m wide long (i/wide) (i % wide)):=fun i=>by rw[hV];exact innV_first f g most ca cb ta tb qa qb n m wide long i
 obtain⟨all,hall⟩:∃ all,all=if roomE (fr++bk)=0 then many*wide else 0:=⟨_,rfl⟩
 have hle:all≤many*wide:=by rw[hall];split<;>omega
 have hal:roomE (fr++bk)=0→all=many*wide:=fun h=>by rw[hall,if_pos h]
 have hroom:∀i,i<all→roomE (fr++bk)=0:=fun i hi=>by
  by_cases h:roomE (fr++bk)=0
  ·exact h
  ·rw[hall,if_neg h]at hi;omega
 have hD:=fun i (hi:i<all)=>hD i (List.mem_range.2 (by omega));have hall4:all≤4096:=by
  by_cases h:roomE (fr++bk)=0
  ·have hv:=(vS_pr (room_vS h)).2;rw[pr_append,←ra2,←cb2]at hv;omega
  ·rw[hall,if_neg h];omega
 obtain⟨X,hX⟩:∃ X,X=(List.range all).map fun i=>(D i).2:=⟨_,rfl⟩;have lX:X.length=all:=by rw[hX,List.length_map,List.length_range]
 have hXi:∀i (h:i<X.length),X[i]=(D i).2:=fun i h=>by subst hX;rw[List.getElem_map,List.getElem_range]
 refine⟨X,fun h1 h2=>?_,fun o ho=>?_,by omega,?_⟩
 ·rw[hX,hF,hal h1,List.map_map,List.map_map];refine List.map_congr_left fun i hi=>?_;have hi':i<all:=by rw[hal h1];exact List.mem_range.1 hi
  exact (hD i hi').2.1 (firstE_in h2 (by rw[hF];exact List.mem_map_of_mem hi))
 ·rw[hX]at ho;obtain⟨i,hi,rfl⟩:=List.mem_map.1 ho;exact (hD i (List.mem_range.1 hi)).1
 ·refine Inner_run f g most hf hg sa sb ca cb ta tb na nb many n wide m long fr bk hR hC hfit hlo ra4 cb4 pa4 pb4 ra3.1 cb3.1 ra2 cb2 (by omega) (by omega) (by omega) (by omega) all _ (fun h=>if_neg h) hal X lX _ _ (fun _ _=>rfl) (fun _ _=>rfl)
   (fun i=>firstE (innL g most ca cb ta tb qa qb n m wide long (i/wide) (i % wide))) (fun i=>(V i).2) (fun i=>(D i).1) (fun i hi=>(hD i hi).2.2.1) (fun i hi h=>by rw[hXi i hi];exact (hD i (by omega)).2.2.2 h) (fun h h1=>?_) (fun i hi h1 h2=>?_) (fun i hi h1 h2 h3=>?_)
  ·rw[if_pos h,hF];refine firstE_zero fun x hx=>?_;obtain⟨i,hi,rfl⟩:=List.mem_map.1 hx;exact (h1 i (by rw[hal h];exact List.mem_range.1 hi)).2
  ·rw[if_pos (hroom i hi),hF,firstE_map V _ i (by omega) (fun j hj=>(h1 j hj).2) (by rw[hy i h2];exact h2),hy i h2]
  ·rw[if_pos (hroom i hi),hF,firstE_map V _ i (by omega) (fun j hj=>(h1 j hj).2) h3]
end
section
def rowL (s rest:List Int) (k D:Nat):List Int:=(List.range D).map fun j:Nat=>plS 0 s (rest.take k++(j:Int) :: rest.drop k)
theorem Row_ok (s rest:List Int) (k D:Nat) (hk:k<s.length) (hD:s[k]=(D:Int)) (hv:vS s) (hl:rest.length+1=s.length):AC Tryz.prog 56 [.sl 1 (irows .i64 s) false,.val (.int .i64 (k:Int)),.sl 1 (irows .i64 rest) false] (.pure (.sl 1 (irows .i64 (rowL s rest k D)) false)):=by
 have ls:=irows_len .i64 s;have ln:=irows_len .i64 rest;have h8:=hv.1;have hD4:D≤4096:=by have:=vS_dim hv (List.getElem_mem hk);omega
 have hg1:(irows .i64 s)[k]?=some [.val (.int .i64 (D:Int))]:=by rw[←hD];exact irows_get .i64 s (List.getElem?_eq_getElem hk)
 obtain⟨L,hL⟩:∃ L,L=(List.range D).map fun j:Nat=>plS 0 s (rest.take k++(j:Int) :: rest.drop k):=⟨_,rfl⟩;have lL:L.length=D:=by rw[hL,List.length_map,List.length_range]
 have hLj:∀j (h:j<L.length),L[j]=plS 0 s (rest.take k++(j:Int) :: rest.drop k):=fun j h=>by subst hL;rw[List.getElem_map,List.getElem_range]
 rw[show rowL s rest k D=L from hL.symm];have lt1:(List.drop 0 (List.take (k:Int).toNat (irows .i64 rest))).length=k:=by rw[List.drop_zero,List.length_take,Int.toNat_natCast];omega
 have lt2:(List.drop (k:Int).toNat (List.take (irows .i64 rest).length (irows .i64 rest))).length=rest.length-k:=by rw[List.length_drop,List.take_length,Int.toNat_natCast];omega
 obtain⟨R1,hR1⟩:∃ R,R=List.drop 0 (List.take (k:Int).toNat (irows .i64 rest)):=⟨_,rfl⟩;obtain⟨R2,hR2⟩:∃ R,R=List.drop (k:Int).toNat (List.take (irows .i64 rest).length (irows .i64 rest)):=⟨_,rfl⟩;rw[←hR1]at lt1;rw[←hR2]at lt2;refine AC.of_body TTok Tryz.func56 rfl (enter_of Tryz.func56 (by kernel_rfl) (by kernel_rfl)) (noid3 (noid_sl _ _ _) (.val _) (noid_sl _ _ _)) (noid_sl _ _ _) (nbq rfl) ?_;conv=>whnf
 refine SW.nil 7 1 rfl ?_;refine SW.loopM TTok (fun j:Nat=>[(0,.sl 1 (irows .i64 s) false),(1,.val (.int .i64 (k:Int))),(2,.sl 1 (irows .i64 rest) false),(7,.own 24 0 j),(8,.val (.int .i64 (j:Int)))]) (fun j=>[(24,.cells 1 (irows .i64 (L.take j)))]) 32 37 rfl (fun j=>D-j) (fun j=>j≤D) 0 [] (Nat.zero_le _)
  ⟨q2r,q2r,q2r,q2r,q2r,trivial⟩ ⟨q3r,trivial⟩ rfl ?_
 intro j hJ;have hj:j≤D:=hJ;clear hJ;have lr:(irows .i64 (L.take j)).length=j:=by rw[irows_len,List.length_take];omega
 by_cases hlt:j<D
 ·have eJ:IntKind.i64.wrap ((j:Int)+1)=((j+1:Nat):Int):=by rw[IntWalk.i64_in _ (by omega)];omega
  have hP:=RPlace_ok s (rest.take k++(j:Int) :: rest.drop k) hv (by simp;omega);rw[←hLj j (by omega)]at hP;have hsn:irows .i64 (L.take j)++[[.val (.int .i64 L[j])]]=irows .i64 (L.take (j+1)):=by rw[take_snoc (show j<L.length by omega),←irows_append];rfl
  have e:List.take (0+R1.length+1+R2.length) (List.drop 0 (List.take (0+R1.length+1) (List.drop 0 (List.take (0+R1.length) (List.drop 0 (List.take 0 (List.drop 0 ([]:List (List AV)))++R1))++[[AV.val (.int .i64 (j:Int))]]))++R2))=irows .i64 (rest.take k++(j:Int) :: rest.drop k):=by
   simp only[List.drop_zero,List.take_zero,List.nil_append,Nat.zero_add,List.take_length];rw[List.take_of_length_le (show (R1++[[AV.val (.int .i64 (j:Int))]]).length≤R1.length+1 by simp),List.take_of_length_le (by simp;omega),List.append_assoc,hR1,hR2,Int.toNat_natCast,List.drop_zero,List.take_length,irows_take,irows_drop,←irows_append];rfl
  rw[←e]at hP;generalize L[j]=p at *;conv=>whnf
  refine⟨_,⟨by omega,by rw[Int.toNat_natCast];exact hg1⟩,?_⟩;conv=>whnf
  refine oTq (by omega) ?_;conv=>whnf
  refine⟨by omega,?_⟩;conv=>whnf
  rw[←hR1];refine⟨⟨Nat.le_refl _,by show (0+R1.length)*8≤140737488355328;omega⟩,?_⟩;conv=>whnf
  refine⟨⟨by show 0+(0+R1.length)≤(List.take 0 (List.drop 0 ([]:List (List AV)))++R1).length;simp,by show (0+R1.length+1)*8≤140737488355328;omega,Nat.le_refl _⟩,?_⟩;conv=>whnf
  refine⟨by omega,?_⟩;conv=>whnf
  rw[←hR2];refine⟨⟨by show 0+(0+R1.length+1)≤(List.take (0+R1.length) (List.drop 0 (List.take 0 (List.drop 0 ([]:List (List AV)))++R1))++[[AV.val (.int .i64 (j:Int))]]).length;simp,by show (0+R1.length+1+R2.length)*8≤140737488355328;omega⟩,?_⟩;conv=>whnf
  refine⟨by show 0+(0+R1.length+1+R2.length)≤(List.take (0+R1.length+1) (List.drop 0 (List.take (0+R1.length) (List.drop 0 (List.take 0 (List.drop 0 ([]:List (List AV)))++R1))++[[AV.val (.int .i64 (j:Int))]]))++R2).length;simp,_,hP,?_⟩;conv=>whnf
  refine⟨⟨by show 0+j≤_;omega,by show (j+1)*8≤140737488355328;omega,Nat.le_refl _⟩,?_⟩;conv=>whnf
  refine⟨j+1,[(24,224)],(by show D-(j+1)<D-j;omega),hlt,⟨q2r,q2r,q2r,q2r,⟨valI eJ,rfl⟩,trivial⟩,⟨⟨rfl,.inl ⟨celE ?_,irows_noid _ _⟩⟩,trivial⟩,rfl⟩;rw[←hsn];show List.take j (List.drop 0 (irows .i64 (L.take j)))++_=_;rw[List.drop_zero,List.take_of_length_le (by omega)];rfl
 ·have hje:j=D:=by omega
  have eT:L.take j=L:=List.take_of_length_le (by omega);rw[eT,hje];rw[eT,hje]at lr;conv=>whnf
  refine⟨_,⟨by omega,by rw[Int.toNat_natCast];exact hg1⟩,?_⟩;conv=>whnf
  refine oFq (by omega) ?_;conv=>whnf
  refine⟨by show 0+D≤_;omega,?_⟩;show AV.sl 1 (List.take D (List.drop 0 (irows .i64 L))) false=_;rw[List.drop_zero,List.take_of_length_le (by omega)]
end
section
def woL (s:List Int) (k i:Nat):List Int:=(s.take i).take k++(s.take i).drop (k+1)
theorem woL_zero (s:List Int) (k:Nat):woL s k 0=[]:=by unfold woL;simp
theorem woL_at (s:List Int) (k:Nat):woL s k (k+1)=woL s k k:=by
 unfold woL;rw[List.take_take,List.take_take,Nat.min_eq_left (by omega),Nat.min_self,List.drop_of_length_le (by rw[List.length_take];omega),List.drop_of_length_le (by rw[List.length_take];omega)]
theorem woL_step (s:List Int) (k i:Nat) (hi:i<s.length) (h:i≠k):woL s k (i+1)=woL s k i++[s[i]]:=by
 unfold woL;rw[take_snoc hi];by_cases hik:i<k
 ·rw[List.take_of_length_le (by simp;omega),List.drop_of_length_le (by simp;omega),List.take_of_length_le (l:=s.take i) (by simp;omega),List.drop_of_length_le (l:=s.take i) (by simp;omega),List.append_nil,List.append_nil]
 ·rw[List.take_append_of_le_length (by simp;omega),List.drop_append_of_le_length (by simp;omega),List.append_assoc]
theorem RWithout_ok (s:List Int) (k:Nat) (hb:s.length≤100000):AC Tryz.prog 51 [.sl 1 (irows .i64 s) false,.val (.int .i64 (k:Int))] (.pure (.sl 1 (irows .i64 (s.take k++s.drop (k+1))) false)):=by
 have ls:=irows_len .i64 s;have hlen:∀i,(woL s k i).length≤i:=fun i=>by unfold woL;rw[List.length_append,List.length_take,List.length_drop,List.length_take];omega
 have hwo:woL s k s.length=s.take k++s.drop (k+1):=by unfold woL;rw[List.take_length]
 rw[←hwo];refine AC.of_body TTok Tryz.func51 rfl (enter_of Tryz.func51 (by kernel_rfl) (by kernel_rfl)) (noid2 (noid_sl _ _ _) (.val _)) (noid_sl _ _ _) (nbq rfl) ?_;conv=>whnf
 refine SW.nil 5 1 rfl ?_;refine SW.loopM TTok (fun i:Nat=>[(0,.sl 1 (irows .i64 s) false),(1,.val (.int .i64 (k:Int))),(5,.own 24 0 (woL s k i).length),(6,.val (.int .i64 (i:Int)))]) (fun i=>[(24,.cells 1 (irows .i64 (woL s k i)))]) 32 24 rfl (fun i=>s.length-i) (fun i=>i≤s.length) 0 [] (Nat.zero_le _)
  ⟨q2r,q2r,⟨ownE rfl (by rw[woL_zero];rfl),rfl⟩,q2r,trivial⟩ ⟨⟨rfl,.inl ⟨celE (by rw[woL_zero];rfl),irows_noid _ _⟩⟩,trivial⟩ rfl ?_
 intro i hJ;have hi:i≤s.length:=hJ;clear hJ;have hln:=hlen i;have lr:=irows_len .i64 (woL s k i);by_cases hlt:i<s.length
 ·have eI:IntKind.i64.wrap ((i:Int)+1)=((i+1:Nat):Int):=by rw[IntWalk.i64_in _ (by omega)];omega
  have hg:=irows_get .i64 s (List.getElem?_eq_getElem hlt);by_cases hik:i=k
  ·subst hik;conv=>whnf
   refine oTq (by omega) ?_;conv=>whnf
   refine nTq (by omega) ?_;conv=>whnf
   exact⟨i+1,[],(by show s.length-(i+1)<s.length-i;omega),hlt,⟨q2r,q2r,⟨ownE rfl (by rw[woL_at]),rfl⟩,⟨valI eI,rfl⟩,trivial⟩,⟨⟨rfl,.inl ⟨celE (by rw[woL_at]),irows_noid _ _⟩⟩,trivial⟩,rfl⟩
  ·have hst:=woL_step s k i hlt hik;generalize s[i]=x at *;conv=>whnf
   refine oTq (by omega) ?_;conv=>whnf
   refine nFq (by omega) ?_;conv=>whnf
   refine⟨_,⟨by omega,by rw[Int.toNat_natCast];exact hg⟩,?_⟩;conv=>whnf
   refine⟨⟨by show 0+(woL s k i).length≤_;omega,by show ((woL s k i).length+1)*8≤140737488355328;omega,Nat.le_refl _⟩,?_⟩;conv=>whnf
   refine⟨i+1,[(24,136)],(by show s.length-(i+1)<s.length-i;omega),hlt,⟨q2r,q2r,⟨ownE rfl (by rw[hst,List.length_append];rfl),rfl⟩,⟨valI eI,rfl⟩,trivial⟩,⟨⟨rfl,.inl ⟨celE ?_,irows_noid _ _⟩⟩,trivial⟩,rfl⟩;rw[hst,←irows_append];show List.take (woL s k i).length (List.drop 0 (irows .i64 (woL s k i)))++_=_;rw[List.drop_zero,List.take_of_length_le (by omega)];rfl
 ·have hie:i=s.length:=by omega
  subst hie;conv=>whnf
  refine oFq (by omega) ?_;conv=>whnf
  refine⟨by show 0+(woL s k s.length).length≤_;omega,?_⟩;show AV.sl 1 (List.take (woL s k s.length).length (List.drop 0 (irows .i64 (woL s k s.length)))) false=_;rw[List.drop_zero,List.take_of_length_le (by omega)]
section
variable (s:List Int) (ch:Bool) (tx:List Int) (qs:List Rat) (axis:Int)
theorem RAxis_ok (k:Nat) (h:isAx s.length axis k) (h8:s.length≤1000):AC Tryz.prog 102 [PA s ch tx qs,.val (.int .i64 axis)] (.pure (.tup [.val (.int .i64 (k:Int)),.val (.bool true)])):=by
 obtain⟨hk,h⟩:=h;have ls:=irows_len .i64 s;refine AC.of_body TTok Tryz.func102 rfl (enter_of Tryz.func102 (by kernel_rfl) (by kernel_rfl)) (noid2 (PA_noid _ _ _ _) (.val _)) (.tup _ (noid2 (.val _) (.val _))) (nbq rfl) ?_;unfold PA at *;by_cases h0:axis<0
 ·have e:IntKind.i64.wrap (((irows .i64 s).length:Int)-1)=(k:Int):=by rw[IntWalk.i64_in _ (by omega)];omega
  rw[←e];have t1:decide (IntKind.i64.wrap (((irows .i64 s).length:Int)-1)≥0)=true:=decide_eq_true (by rw[e];omega);have t2:decide (IntKind.i64.wrap (((irows .i64 s).length:Int)-1)<(((irows .i64 s).length:Nat):Int))=true:=decide_eq_true (by rw[e];omega);conv=>whnf
  refine oTq (by omega) ?_;conv=>whnf
  refine cTq (t1) ?_;conv=>whnf
  refine⟨by kernel_rfl,?_⟩;conv=>whnf
  rw[t2];rfl
 ·have e:axis=(k:Int):=by omega
  subst e;have t2:decide ((k:Int)<(((irows .i64 s).length:Nat):Int))=true:=decide_eq_true (by omega);conv=>whnf
  refine⟨by kernel_rfl,?_⟩;conv=>whnf
  rw[t2];rfl
end
def pickQ (ch:Bool) (qs:List Rat) (L:List Int):List Rat:=if ch then [] else L.map (getQ qs)
theorem RPick_any (sh:List Int) (ch:Bool) (tx:List Int) (qs:List Rat) (s L:List Int) (hs:s.length≤1000) (hL:L.length≤5000) (h1:tx.length≤5000) (h2:qs.length≤5000) (k1:ch=true→qs=[]) (k2:ch=false→tx=[]) :
  AC Tryz.prog 82 [PA sh ch tx qs,.sl 1 (irows .i64 s) false,.sl 1 (irows .i64 L) false] (.pure (PA s ch (pickT ch tx L) (pickQ ch qs L))):=by
 cases ch
 ·have:=k2 rfl;subst this;exact RPickN_ok sh qs s L hs hL (by omega)
 ·have:=k1 rfl;subst this;exact RPickT_ok sh tx s L hs hL (by omega)
theorem line_ok (sh:List Int) (ch:Bool) (tx:List Int) (qs:List Rat) (L:List Int) (hL:L.length≤5000) (h1:tx.length≤5000) (h2:qs.length≤5000) (k1:ch=true→qs=[]) (k2:ch=false→tx=[]) :
  AC Tryz.prog 55 [PA sh ch tx qs,.sl 1 (irows .i64 L) false] (.pure (PA [(L.length:Int)] ch (pickT ch tx L) (pickQ ch qs L))):=by
 have hP:=RPick_any sh ch tx qs [(L.length:Int)] L (by show 1≤1000;omega) hL h1 h2 k1 k2;have lL:=irows_len .i64 L;generalize pickT ch tx L=T at *;generalize pickQ ch qs L=X at *;have e:irows .i64 [(L.length:Int)]=[[.val (.int .i64 ((irows .i64 L).length:Nat))]]:=by rw[lL];rfl
 rw[e]at hP;refine AC.of_body TTok Tryz.func55 rfl (enter_of Tryz.func55 (by kernel_rfl) (by kernel_rfl)) (noid2 (PA_noid _ _ _ _) (noid_sl _ _ _)) (PA_noid _ _ _ _) (nbq rfl) ?_;unfold PA at *;conv=>whnf
 refine⟨(nbq rfl),_,hP,?_⟩;(conv=>whnf);exact rfl
end
section
section
variable (c:Int) (s:List Int) (ch:Bool) (tx:List Int) (qs:List Rat) (axis:Int)
theorem begun_nd:∀x∈[AV.val (.int .i32 c),PA s ch tx qs,.val (.int .i64 axis)],NoId x:=noid3 (.val _) (PA_noid _ _ _ _) (.val _)
theorem trio_nd (a e:Int) (b:Bool):NoId (.tup [.val (.int .i64 a),.val (.bool b),.val (.int .i64 e)]):=.tup _ (noid3 (.val _) (.val _) (.val _))
theorem Begun_ok (h:isTwo c) (h8:s.length≤1000) (k:Nat) (hx:isAx s.length axis k):AC Tryz.prog 50 [.val (.int .i32 c),PA s ch tx qs,.val (.int .i64 axis)] (.pure (.tup [.val (.int .i64 (k:Int)),.val (.bool false),.val (.int .i64 0)])):=by
 have hH:=SHas_ok c;rw[decide_eq_true h]at hH;have hA:=RAxis_ok s ch tx qs axis k hx h8;have hk:=hx.1;have ls:=irows_len .i64 s;refine AC.of_body TTok Tryz.func50 rfl (enter_of Tryz.func50 (by kernel_rfl) (by kernel_rfl)) (begun_nd c s ch tx qs axis) (trio_nd _ _ _) (nbq rfl) ?_;unfold PA at *;conv=>whnf
 refine⟨_,hH,?_⟩;conv=>whnf
 refine oFq (by omega) ?_;(conv=>whnf);refine⟨_,‹_›,?_⟩;(conv=>whnf);exact rfl
end
theorem foldE_stay (c most:Int):∀(i:Nat) (l:List El),(foldE c most (l.drop i)).2≠0→(foldE c most l).2=(foldE c most (l.drop i)).2
 | 0,l,_=>rfl
 | i+1,[],_=>rfl
 | i+1,x :: l,h=>by
  have h:(foldE c most (l.drop i)).2≠0:=h;have e:=foldE_stay c most i l h;have hl:l≠[]:=fun e=>by rw[e,List.drop_nil]at h;exact h rfl
  rw[foldE_cons _ _ _ hl,if_pos (by rw[e];exact h)];exact e
def PEl (x:El):AV:=PAe x.1 x.2.1 x.2.2
def resE (r:El×Int):AV:=if r.2=0 then .tup [PEl r.1,.val (.int .i64 0)] else .tup [PA [] false [] [],.val (.int .i64 r.2)]
theorem resE_noid (r:El×Int):NoId (resE r):=by
 unfold resE;split
 ·exact .tup _ (noid2 (PAe_noid _ _ _) (.val _))
 ·exact .tup _ (noid2 (PA_noid _ _ _ _) (.val _))
def elsL (ch:Bool) (tx:List Int) (qs:List Rat) (n:Nat):List El:=(List.range n).map (elA ch tx qs)
theorem getQ_sz {qs:List Rat} (hQ:∀q∈qs,Sz q 20) (j:Int):Sz (getQ qs j) 20:=by
 unfold getQ;split
 ·exact getD_sz (by decide) hQ _
 ·exact Sz_zero.mono (by decide)
theorem elsL_drop (ch:Bool) (tx:List Int) (qs:List Rat) (n i:Nat) (hi:i<n):(elsL ch tx qs n).drop i=elA ch tx qs i :: (elsL ch tx qs n).drop (i+1):=by
 have hl:i<(elsL ch tx qs n).length:=by unfold elsL;rw[List.length_map,List.length_range];exact hi
 rw[List.drop_eq_getElem_cons hl];congr 1;have:(elsL ch tx qs n)[i]?=some (elA ch tx qs i):=by unfold elsL;rw[List.getElem?_map,List.getElem?_range hi];rfl
 rw[List.getElem?_eq_getElem hl]at this;exact Option.some.inj this
theorem folded_ok (c most:Int) (hc:isTwo c) (hm:most≤20) (sh:List Int) (ch:Bool) (tx:List Int) (qs:List Rat) (n:Nat) (h0:0<n) (n5:n≤5000) (hsh:sh.length≤1000) (k1:ch=true→qs=[]∧tx.length=n) (k2:ch=false→tx=[]∧qs.length=n) (hQ:∀q∈qs,Sz q 20) :
  AC Tryz.prog 54 [.val (.int .i32 c),PA sh ch tx qs,.val (.int .i64 most)] (.pure (resE (foldE c most (elsL ch tx qs n)))):=by
 have hln:tx.length+qs.length=n:=by
  cases ch
  ·rw[(k2 rfl).1,(k2 rfl).2];exact Nat.zero_add _
  ·rw[(k1 rfl).1,(k1 rfl).2];rfl
 have hL:=RLen_ok sh ch tx qs (by omega) (by omega);rw[hln]at hL;have elem:∀i:Nat,i<n→PAe ch (getT tx (i:Int)) (getQ qs (i:Int))=PEl (elA ch tx qs i):=fun i hi=>by
  rw[getQ_nat];cases ch
  ·rfl
  ·rw[getT_nat _ (by rw[(k1 rfl).2];exact hi)];rfl
 have hP:∀i:Nat,i<n→AC Tryz.prog 82 [PA sh ch tx qs,.sl 0 [] true,.sl 1 [[.val (.int .i64 (i:Int))]] false] (.pure (PEl (elA ch tx qs i))):=fun i hi=>by
  have h:=RPick_any sh ch tx qs [] [(i:Int)] (by decide) (by show 1≤5000;omega) (by omega) (by omega) (fun h=>(k1 h).1) (fun h=>(k2 h).1);have h:=RPick_nil (PA_noid _ _ _ _) h;rw[←elem i hi];unfold PAe;unfold pickT pickQ at h;exact h
 obtain⟨l,hl⟩:∃ l,l=elsL ch tx qs n:=⟨_,rfl⟩;have hd:=fun i hi=>elsL_drop ch tx qs n i hi;rw[←hl]at hd ⊢;have hnil:l.drop n=[]:=List.drop_of_length_le (by rw[hl];unfold elsL;rw[List.length_map,List.length_range];exact Nat.le_refl _);have hne:∀i,i<n→l.drop i≠[]:=fun i hi=>by rw[hd i hi];exact List.cons_ne_nil _ _
 have hszA:∀i,Sz (elA ch tx qs i).2.2 20:=fun i=>getD_sz (by decide) hQ _;have hT:∀(x y:El),Sz x.2.2 20→Sz y.2.2 20→AC Tryz.prog 78 [.val (.int .i32 c),PEl x,PEl y,.val (.int .i64 most)] (.pure (resP [] (pairE c most x y).2 [(pairE c most x y).1])):=fun x y hx hy=>two_one c most (by omega) x.1 y.1 x.2.1 y.2.1 x.2.2 y.2.2 hx hy hc;obtain⟨r',hle,hno,e1,e2⟩:∃ r',AVle r' (resE (foldE c most l))∧NoId r'∧((foldE c most l).2=0→r' = .tup [PEl (foldE c most l).1,.val (.int .i64 0)])∧((foldE c most l).2≠0→r' = .tup [PZ,.val (.int .i64 (foldE c most l).2)]):=by
  unfold resE;by_cases h:(foldE c most l).2=0
  ·rw[if_pos h];exact⟨_,.refl _,.tup _ (noid2 (PAe_noid _ _ _) (.val _)),fun _=>rfl,fun h'=>absurd h h'⟩
  ·rw[if_neg h];exact⟨_,.tup2 PZ_le (.refl _),.tup _ (noid2 PZ_noid (.val _)),fun h'=>absurd h' h,fun _=>rfl⟩
 refine AC.le_res (?_:AC Tryz.prog 54 _ (.pure r')) hle (resE_noid _);obtain⟨z,hz⟩:∃ z:Nat→Int,∀j,z j=(n:Int)-2-(j:Int):=⟨fun j=>(n:Int)-2-(j:Int),fun _=>rfl⟩;have hP0:=hP (n-1) (by omega);have w0:IntKind.i64.wrap ((n:Int)-1)=((n-1:Nat):Int):=by rw[IntWalk.i64_in _ (by omega)];omega
 rw[←w0]at hP0;have hx0:foldE c most (l.drop (n-1))=(elA ch tx qs (n-1),0):=by rw[hd _ (by omega),show n-1+1=n by omega,hnil,foldE_one]
 refine AC.of_body TTok Tryz.func54 rfl (enter_of Tryz.func54 (by kernel_rfl) (by kernel_rfl)) (noid3 (.val _) (PA_noid _ _ _ _) (.val _)) hno (nbq rfl) ?_;unfold PEl PAe PA PZ at *;conv=>whnf
 refine⟨_,hL,?_⟩;conv=>whnf
 refine⟨(nbq rfl),_,hP0,?_⟩;conv=>whnf
 refine SW.loopM TTok (fun j:Nat=>[(0,.val (.int .i32 c)),(2,.val (.int .i64 most)),(4,.lp 0 0),(6,.lp 8 0),(7,.val (.int .i64 0)),(9,.lp 88 0),(10,.val (.int .i64 (z j)))])
  (fun j=>[(0,.cells 4 [[.sl 1 (irows .i64 sh) false,.val (.bool ch),.sl 1 (irows .i32 tx) false,.sl 3 (qs.map rowN) false]]),(8,.cells 4 [[.sl 0 [] true,.val (.bool false),.sl 0 [] true,.sl 0 [] true]]),(88,.cells 4 [[.sl 1 (irows .i64 []) false,.val (.bool (foldE c most (l.drop (n-1-j))).1.1),.sl 1 (irows .i32 (if (foldE c most (l.drop (n-1-j))).1.1 then [(foldE c most (l.drop (n-1-j))).1.2.1] else [])) false,.sl 3 ((if (foldE c most (l.drop (n-1-j))).1.1 then [] else [(foldE c most (l.drop (n-1-j))).1.2.2]).map rowN) false]])]) 128 43 rfl (fun j=>n-1-j) (fun j=>j≤n-1∧(foldE c most (l.drop (n-1-j))).2=0∧Sz (foldE c most (l.drop (n-1-j))).1.2.2 20) 0 [] ⟨Nat.zero_le _,by rw[Nat.sub_zero,hx0],by rw[Nat.sub_zero,hx0];exact hszA _⟩
  ⟨q2r,q2r,q2r,q2r,q2r,q2r,⟨valI (by rw[hz,w0,IntWalk.i64_in _ (by omega)];omega),rfl⟩,trivial⟩ ⟨q3r,q3r,⟨rfl,.inr ⟨celE (by rw[Nat.sub_zero,hx0];rfl),rfl⟩⟩,trivial⟩ rfl ?_
 intro j hJ;have hj:j≤n-1:=hJ.1;have hje:(foldE c most (l.drop (n-1-j))).2=0:=hJ.2.1;have hjs:Sz (foldE c most (l.drop (n-1-j))).1.2.2 20:=hJ.2.2;clear hJ;have hzj:=hz j;by_cases hlt:j<n-1
 ·have eJ:IntKind.i64.wrap (z j-1)=z (j+1):=by rw[hz (j+1),IntWalk.i64_in _ (by omega)];omega
  obtain⟨i,hi⟩:∃ i,n-1-j=i+1:=⟨n-2-j,by omega⟩;rw[hi]at hje hjs ⊢;have hPi:=hP i (by omega);have ezi:(i:Int)=z j:=by omega
  rw[ezi]at hPi;have hTi:=hT (elA ch tx qs i) (foldE c most (l.drop (i+1))).1 (hszA i) hjs;have hfi:foldE c most (l.drop i)=if (pairE c most (elA ch tx qs i) (foldE c most (l.drop (i+1))).1).2≠0 then (numE 0,(pairE c most (elA ch tx qs i) (foldE c most (l.drop (i+1))).1).2) else (numE (pairE c most (elA ch tx qs i) (foldE c most (l.drop (i+1))).1).1,0):=by
   rw[hd i (by omega),foldE_cons _ _ _ (hne (i+1) (by omega)),if_neg (fun h=>h hje)]
  have hpz:(pairE c most (elA ch tx qs i) (foldE c most (l.drop (i+1))).1).2=0→Sz (pairE c most (elA ch tx qs i) (foldE c most (l.drop (i+1))).1).1 20:=fun h=>pair_szm hm h;generalize pairE c most (elA ch tx qs i) (foldE c most (l.drop (i+1))).1=p at *;generalize (foldE c most (l.drop (i+1))).1=y at *;generalize elA ch tx qs i=x at *;unfold resP PA at hTi;by_cases he:p.2=0
  ·rw[if_neg (fun h=>h he)]at hfi;rw[if_pos he]at hTi;have hi2:n-1-(j+1)=i:=by omega
   conv=>whnf
   refine oTq (by omega) ?_;conv=>whnf
   refine⟨(nbq rfl),_,hPi,?_⟩;conv=>whnf
   refine⟨_,hTi,?_⟩;conv=>whnf
   refine⟨by kernel_rfl,?_⟩;conv=>whnf
   exact⟨j+1,[],(by show n-1-(j+1)<_;omega),⟨hlt,by rw[hi2,hfi],by rw[hi2,hfi];exact hpz he⟩,⟨q2r,q2r,q2r,q2r,q2r,q2r,⟨valI eJ,rfl⟩,trivial⟩,⟨q3r,q3r,⟨rfl,.inr ⟨celE (by rw[hi2,hfi];rfl),rfl⟩⟩,trivial⟩,rfl⟩
  ·rw[if_pos he]at hfi;rw[if_neg he]at hTi;have hst:=foldE_stay c most i l (by rw[hfi];exact he);rw[hfi]at hst;have hst:(foldE c most l).2=p.2:=hst;rw[e2 (by rw[hst];exact he),hst];conv=>whnf
   refine oTq (by omega) ?_;conv=>whnf
   refine⟨(nbq rfl),_,hPi,?_⟩;conv=>whnf
   refine⟨_,hTi,?_⟩;conv=>whnf
   refine⟨by kernel_rfl,?_⟩;conv=>whnf
   refine nFq (by omega) ?_;(conv=>whnf);exact rfl
 ·have hje2:n-1-j=0:=by omega
  rw[hje2]at hje ⊢;have hje:(foldE c most l).2=0:=hje;rw[e1 hje];conv=>whnf
  refine oFq (by omega) ?_;(conv=>whnf);exact rfl
end
section
def plcL (n I r:Nat):List Int:=(List.range n).map fun i:Nat=>(((r/I*n+i)*I+r % I:Nat):Int)
theorem plcL_len (n I r:Nat):(plcL n I r).length=n:=by unfold plcL;rw[List.length_map,List.length_range]
theorem plcL_at (n I r i:Nat) (hi:i<n):(plcL n I r)[i]?=some (((r/I*n+i)*I+r % I:Nat):Int):=by
 unfold plcL;rw[List.getElem?_map,List.getElem?_range hi];rfl
theorem rowL_eq {s:List Int} {k:Nat} (hk:k<s.length) (n:Nat) (hn:s[k]=(n:Int)) (r:Nat) (hr:r<pr (s.take k)*pr (s.drop (k+1))):rowL s (dig (s.take k++s.drop (k+1)) r) k n=plcL n (pr (s.drop (k+1))) r:=by
 have hs:=mid_split hk;rw[hn]at hs;have lu:(s.take k).length=k:=by rw[List.length_take];omega
 obtain⟨u,hu⟩:∃ u,u=s.take k:=⟨_,rfl⟩;obtain⟨v,hv⟩:∃ v,v=s.drop (k+1):=⟨_,rfl⟩;rw[←hu,←hv]at hs hr ⊢;rw[←hu]at lu;have hd:=dig_append u v r (by rw[pr_append];exact hr);unfold rowL plcL;refine List.map_congr_left fun i hi=>?_;have hi:=List.mem_range.1 hi;have h1:=(pl_axis u v 1 (n:Int) i (by omega) r (by rw[pr_append];show r<pr u*(1*pr v);rw[Nat.one_mul];exact hr)).2;rw[hd,List.take_append_of_le_length (by rw[dig_len];omega),List.take_of_length_le (by rw[dig_len];omega),List.drop_append_of_le_length (by rw[dig_len];omega),List.drop_of_length_le (by rw[dig_len];omega),List.nil_append,hs];have e1:((1:Int).toNat)=1:=rfl;rw[e1,Nat.div_one,Int.toNat_natCast]at h1;exact h1
theorem el_pickQ {ch:Bool} {tx:List Int} {qs:List Rat} {L:List Int} {i p:Nat} (hL:L[i]?=some (p:Int)) (hc:ch=true→qs=[]∧p<tx.length) (hn:ch=false→tx=[]) :
  elA ch (pickT ch tx L) (pickQ ch qs L) i=elA ch tx qs p:=by
 unfold pickT pickQ elA;cases ch
 ·have:=hn rfl;subst this;rw[if_neg Bool.false_ne_true,if_neg Bool.false_ne_true,List.getD_eq_getElem?_getD (l:=L.map (getQ qs)),List.getElem?_map,hL];show (false,([]:List Int).getD i 0,getQ qs (p:Int))=_;rw[getQ_nat];rfl
 ·obtain⟨h1,h2⟩:=hc rfl;subst h1;rw[if_pos rfl,if_pos rfl,List.getD_eq_getElem?_getD (l:=L.map (getT tx)),List.getElem?_map,hL];show (true,getT tx (p:Int),([]:List Rat).getD i 0)=_;rw[getT_nat _ h2];rfl
theorem pickQ_len {ch:Bool} {tx:List Int} {qs:List Rat} (L:List Int):(ch=true→pickQ ch qs L=[]∧(pickT ch tx L).length=L.length)∧(ch=false→pickT ch tx L=[]∧(pickQ ch qs L).length=L.length):=by
 unfold pickT pickQ;exact⟨fun h=>by subst h;exact⟨rfl,by rw[if_pos rfl,List.length_map]⟩,fun h=>by subst h;exact⟨rfl,by rw[if_neg Bool.false_ne_true,List.length_map]⟩⟩
theorem pickQ_sz {ch:Bool} {qs:List Rat} (hQ:∀q∈qs,Sz q 20) (L:List Int):∀q∈pickQ ch qs L,Sz q 20:=fun q hq=>by
 unfold pickQ at hq;cases ch
 ·rw[if_neg Bool.false_ne_true]at hq;obtain⟨k,_,rfl⟩:=List.mem_map.1 hq;exact getQ_sz hQ k
 ·rw[if_pos rfl]at hq;exact nomatch hq
theorem line_els (ch:Bool) (tx:List Int) (qs:List Rat) (n I O r j:Nat) (hr:r<O*I) (hj:j<n) (k1:ch=true→qs=[]∧tx.length=O*(n*I)) (k2:ch=false→tx=[]) :
  elsL ch (pickT ch tx ((plcL n I r).drop j)) (pickQ ch qs ((plcL n I r).drop j)) (n-j)=(lineE ch tx qs n n I r).drop j:=by
 refine List.ext_getElem? fun i=>?_;unfold elsL lineE;rw[List.getElem?_drop,List.getElem?_map,List.getElem?_map];by_cases hi:i<n-j
 ·rw[List.getElem?_range hi,List.getElem?_range (show j+i<n by omega)];have hp:=place_lt (n:=n) hr (show j+i<n by omega);show some (elA ch (pickT ch tx ((plcL n I r).drop j)) (pickQ ch qs ((plcL n I r).drop j)) i)=some (elA ch tx qs ((r/I*n+(j+i))*I+r % I));rw[el_pickQ (by rw[List.getElem?_drop];exact plcL_at n I r (j+i) (by omega)) (fun h=>⟨(k1 h).1,by rw[(k1 h).2];exact hp⟩) k2]
 ·rw[List.getElem?_eq_none (by rw[List.length_range];omega),List.getElem?_eq_none (by rw[List.length_range];omega)];rfl
section
variable (c most:Int) (hc:isTwo c) (hm:most≤20) (sh:List Int) (ch:Bool) (tx:List Int) (qs:List Rat) (n I O:Nat) (n4:n≤4096) (ht5:tx.length≤5000) (hq5:qs.length≤5000) (k1:ch=true→qs=[]∧tx.length=O*(n*I)) (k2:ch=false→tx=[]) (hQ:∀q∈qs,Sz q 20) (hsh:sh.length≤1000)
include n4 ht5 hq5 k1 k2
theorem line_at (r j:Nat) (hj:j<n):AC Tryz.prog 55 [PA sh ch tx qs,.sl 1 (irows .i64 ((plcL n I r).drop j)) false] (.pure (PA [((n-j:Nat):Int)] ch (pickT ch tx ((plcL n I r).drop j)) (pickQ ch qs ((plcL n I r).drop j)))):=by
 have h:=line_ok sh ch tx qs ((plcL n I r).drop j) (by rw[List.length_drop,plcL_len];omega) ht5 hq5 (fun h=>(k1 h).1) k2;rw[List.length_drop,plcL_len]at h;exact h
include hc hm hQ
theorem folded_at (r j:Nat) (hr:r<O*I) (hj:j<n):AC Tryz.prog 54 [.val (.int .i32 c),PA [((n-j:Nat):Int)] ch (pickT ch tx ((plcL n I r).drop j)) (pickQ ch qs ((plcL n I r).drop j)),.val (.int .i64 most)] (.pure (resE (foldE c most ((lineE ch tx qs n n I r).drop j)))):=by
 have _u5:=And.intro ht5 hq5;obtain⟨p1,p2⟩:=pickQ_len (ch:=ch) (tx:=tx) (qs:=qs) ((plcL n I r).drop j);rw[List.length_drop,plcL_len]at p1 p2;have h:=folded_ok c most hc hm [((n-j:Nat):Int)] ch (pickT ch tx ((plcL n I r).drop j)) (pickQ ch qs ((plcL n I r).drop j)) (n-j) (by omega) (by omega) (by show 1≤1000;omega) p1 p2 (pickQ_sz hQ _);rw[line_els ch tx qs n I O r j hr hj k1 k2]at h;exact h
end
end
end Go.Proofs.YtbdklokfijjifaaGreat
