/- Arrays: what they are, copies of slices (contracts). -/
import Derived.Test.YtbdklokfijjifaaGreatB3
import Derived.Test.YtbdklokfijjifaaGreatB2
set_option linter.unusedVariables false
namespace Go.Proofs.YtbdklokfijjifaaGreat
open Go Go.AL NM
section
def rowX:Option (Rat×Nat)→List AV
 | none=>[.sl 0 [] true,.val (.bool false),.sl 0 [] true]
 | some p=>rowR p
def valX:Option (Rat×Nat)→Rat
 | none=>0
 | some p=>p.1
def okX:Option (Rat×Nat)→Prop
 | none=>True
 | some p=>dn p.2=p.1.den
theorem rowX_noid (o:Option (Rat×Nat)):∀x∈rowX o,NoId x:=by
 cases o with
 | none=>exact noid3 (.sl _ _ _ (fun r hr=>nomatch hr)) (.val _) (.sl _ _ _ (fun r hr=>nomatch hr))
 | some p=>exact rowR_noid p
theorem rowsX_noid (l:List (Option (Rat×Nat))):∀r∈l.map rowX,∀x∈r,NoId x:=by
 intro r hr;obtain⟨o,_,rfl⟩:=List.mem_map.1 hr;exact rowX_noid o
theorem slX_noid (l:List (Option (Rat×Nat))):NoId (.sl 3 (l.map rowX) false):=.sl _ _ _ (rowsX_noid l)
def AA (sh:List Int) (ch:Bool) (tx:List Int) (ns:List (Option (Rat×Nat))) (made:Bool):AV :=
 .agg [.sl 1 (irows .i64 sh) false,.val (.bool ch),.sl 1 (irows .i32 tx) false,.sl 3 (ns.map rowX) false,.val (.bool made)]
theorem noid5 {a b c d e:AV} (h1:NoId a) (h2:NoId b) (h3:NoId c) (h4:NoId d) (h5:NoId e):∀x∈[a,b,c,d,e],NoId x:=by
 intro x hx;simp only[List.mem_cons,List.not_mem_nil,or_false]at hx;rcases hx with rfl | rfl | rfl | rfl | rfl<;>assumption
theorem noidF {a b c d:AV} (h1:NoId a) (h2:NoId b) (h3:NoId c) (h4:NoId d):∀x∈[a,b,c,d],NoId x:=by
 intro x hx;simp only[List.mem_cons,List.not_mem_nil,or_false]at hx;rcases hx with rfl | rfl | rfl | rfl<;>assumption
theorem AA_noid (sh:List Int) (ch:Bool) (tx:List Int) (ns:List (Option (Rat×Nat))) (made:Bool):NoId (AA sh ch tx ns made) :=
 .agg _ (noid5 (noid_sl _ _ _) (.val _) (noid_sl _ _ _) (slX_noid _) (.val _))
def rowN (q:Rat):List AV:=[.val (.bool (decide (q.num<0))),.val (.string (decS q.num.natAbs)),.val (.string (decS q.den))]
theorem rowN_noid (q:Rat):∀x∈rowN q,NoId x:=noid3 (.val _) (.val _) (.val _)
theorem rowsN_noid (l:List Rat):∀r∈l.map rowN,∀x∈r,NoId x:=by
 intro r hr;obtain⟨o,_,rfl⟩:=List.mem_map.1 hr;exact rowN_noid o
theorem slN_noid (l:List Rat):NoId (.sl 3 (l.map rowN) false):=.sl _ _ _ (rowsN_noid l)
def PA (sh:List Int) (ch:Bool) (tx:List Int) (qs:List Rat):AV :=
 .agg [.sl 1 (irows .i64 sh) false,.val (.bool ch),.sl 1 (irows .i32 tx) false,.sl 3 (qs.map rowN) false]
theorem PA_noid (sh:List Int) (ch:Bool) (tx:List Int) (qs:List Rat):NoId (PA sh ch tx qs):=.agg _ (noidF (noid_sl _ _ _) (.val _) (noid_sl _ _ _) (slN_noid _))
theorem le_nil (k:Nat):AVle (.sl 0 [] true) (.sl k [] false):=.sl _ _ _
theorem le_agg4 {a b c d a' b' c' d':AV} (h1:AVle a a') (h2:AVle b b') (h3:AVle c c') (h4:AVle d d'):AVle (.agg [a,b,c,d]) (.agg [a',b',c',d']) :=
 .agg _ _ rfl (fun i x y hx hy=>by
  match i with
  | 0=>cases hx;cases hy;exact h1
  | 1=>cases hx;cases hy;exact h2
  | 2=>cases hx;cases hy;exact h3
  | 3=>cases hx;cases hy;exact h4
  | (i+4)=>cases hx)
theorem le_agg5 {a b c d e a' b' c' d' e':AV} (h1:AVle a a') (h2:AVle b b') (h3:AVle c c') (h4:AVle d d') (h5:AVle e e'):AVle (.agg [a,b,c,d,e]) (.agg [a',b',c',d',e']) :=
 .agg _ _ rfl (fun i x y hx hy=>by
  match i with
  | 0=>cases hx;cases hy;exact h1
  | 1=>cases hx;cases hy;exact h2
  | 2=>cases hx;cases hy;exact h3
  | 3=>cases hx;cases hy;exact h4
  | 4=>cases hx;cases hy;exact h5
  | (i+5)=>cases hx)
def AZ:AV:=.agg [.sl 0 [] true,.val (.bool false),.sl 0 [] true,.sl 0 [] true,.val (.bool false)]
theorem AZ_noid:NoId AZ:=.agg _ (noid5 (.sl _ _ _ (fun r hr=>nomatch hr)) (.val _) (.sl _ _ _ (fun r hr=>nomatch hr)) (.sl _ _ _ (fun r hr=>nomatch hr)) (.val _))
theorem AZ_le:AVle AZ (AA [] false [] [] false):=le_agg5 (le_nil 1) (.refl _) (le_nil 1) (le_nil 3) (.refl _)
def PZ:AV:=.agg [.sl 0 [] true,.val (.bool false),.sl 0 [] true,.sl 0 [] true]
theorem PZ_noid:NoId PZ:=.agg _ (noidF (.sl _ _ _ (fun r hr=>nomatch hr)) (.val _) (.sl _ _ _ (fun r hr=>nomatch hr)) (.sl _ _ _ (fun r hr=>nomatch hr)))
theorem PZ_le:AVle PZ (PA [] false [] []):=le_agg4 (le_nil 1) (.refl _) (le_nil 1) (le_nil 3)
theorem CloneI_ok (l:List Int) (hb:l.length≤1000000):AC Tryz.prog 43 [.sl 1 (irows .i64 l) false] (.pure (.sl 1 (irows .i64 l) false)):=by
 refine AC.of_sw TTok Tryz.func43 rfl (enter_of Tryz.func43 (by kernel_rfl) (by kernel_rfl)) (noid1 (noid_sl _ _ _)) (noid_sl _ _ _) (nbq rfl) ?_;have hlen:(irows .i64 l).length=l.length:=irows_len _ _;refine SW.seqA TTok ?_;conv=>whnf
 refine SW.seq (SW.seq ?_);refine SW.regionNil (sz:=1) (rows:=irows .i64 l) (tight:=false) TTok _ rfl rfl rfl rfl (show Tryz.prog.underlying 27=some (.slice 3) by kernel_rfl) ?_;conv=>whnf
 refine⟨rfl,rfl,by decide,fun bv hbv=>?_⟩;conv=>whnf
 cases bv with
 | true =>
  have he:=hbv rfl;rw[he];refine SW.cond (t:=true) rfl (fun _=>?_) (fun h=>Bool.noConfusion h);refine SW.seqA TTok ?_;conv=>whnf
  refine SW.weak (Wk.le 2 rfl (le_nil 1)) rfl ?_;refine axp_sound TTok _ _ _ ?_;conv=>whnf
  exact rfl
 | false =>
  refine SW.cond (t:=false) rfl (fun h=>Bool.noConfusion h) (fun _=>?_);refine axp_sound TTok _ _ _ ?_;conv=>whnf
  refine axp_sound TTok _ _ _ ?_;conv=>whnf
  refine⟨⟨Nat.le_refl _,by show (0+(irows .i64 l).length)*8≤140737488355328;omega⟩,?_⟩;conv=>whnf
  refine⟨by show 0+(0+(irows .i64 l).length)≤(irows .i64 l).length;omega,?_⟩;show AV.sl 1 ((irows .i64 l).take (0+(irows .i64 l).length)) false=_;rw[Nat.zero_add,List.take_length]
theorem CloneR_ok (l:List Int) (hb:l.length≤1000000):AC Tryz.prog 100 [.sl 1 (irows .i32 l) false] (.pure (.sl 1 (irows .i32 l) false)):=by
 refine AC.of_sw TTok Tryz.func100 rfl (enter_of Tryz.func100 (by kernel_rfl) (by kernel_rfl)) (noid1 (noid_sl _ _ _)) (noid_sl _ _ _) (nbq rfl) ?_;have hlen:(irows .i32 l).length=l.length:=irows_len _ _;refine SW.seqA TTok ?_;conv=>whnf
 refine SW.seq (SW.seq ?_);refine SW.regionNil (sz:=1) (rows:=irows .i32 l) (tight:=false) TTok _ rfl rfl rfl rfl (show Tryz.prog.underlying 29=some (.slice 21) by kernel_rfl) ?_;conv=>whnf
 refine⟨rfl,rfl,by decide,fun bv hbv=>?_⟩;conv=>whnf
 cases bv with
 | true =>
  have he:=hbv rfl;rw[he];refine SW.cond (t:=true) rfl (fun _=>?_) (fun h=>Bool.noConfusion h);refine SW.seqA TTok ?_;conv=>whnf
  refine SW.weak (Wk.le 2 rfl (le_nil 1)) rfl ?_;refine axp_sound TTok _ _ _ ?_;conv=>whnf
  exact rfl
 | false =>
  refine SW.cond (t:=false) rfl (fun h=>Bool.noConfusion h) (fun _=>?_);refine axp_sound TTok _ _ _ ?_;conv=>whnf
  refine axp_sound TTok _ _ _ ?_;conv=>whnf
  refine⟨⟨Nat.le_refl _,by show (0+(irows .i32 l).length)*4≤140737488355328;omega⟩,?_⟩;conv=>whnf
  refine⟨by show 0+(0+(irows .i32 l).length)≤(irows .i32 l).length;omega,?_⟩;show AV.sl 1 ((irows .i32 l).take (0+(irows .i32 l).length)) false=_;rw[Nat.zero_add,List.take_length]
theorem CloneQ_ok (l:List (Option (Rat×Nat))) (hb:l.length≤1000000):AC Tryz.prog 44 [.sl 3 (l.map rowX) false] (.pure (.sl 3 (l.map rowX) false)):=by
 refine AC.of_sw TTok Tryz.func44 rfl (enter_of Tryz.func44 (by kernel_rfl) (by kernel_rfl)) (noid1 (slX_noid _)) (slX_noid _) (nbq rfl) ?_;have hlen:(l.map rowX).length=l.length:=List.length_map _;refine SW.seqA TTok ?_;conv=>whnf
 refine SW.seq (SW.seq ?_);refine SW.regionNil (sz:=3) (rows:=l.map rowX) (tight:=false) TTok _ rfl rfl rfl rfl (show Tryz.prog.underlying 30=some (.slice 45) by kernel_rfl) ?_;conv=>whnf
 refine⟨rfl,rfl,by decide,fun bv hbv=>?_⟩;conv=>whnf
 cases bv with
 | true =>
  have he:=hbv rfl;rw[he];refine SW.cond (t:=true) rfl (fun _=>?_) (fun h=>Bool.noConfusion h);refine SW.seqA TTok ?_;conv=>whnf
  refine SW.weak (Wk.le 2 rfl (le_nil 3)) rfl ?_;refine axp_sound TTok _ _ _ ?_;conv=>whnf
  exact rfl
 | false =>
  refine SW.cond (t:=false) rfl (fun h=>Bool.noConfusion h) (fun _=>?_);refine axp_sound TTok _ _ _ ?_;conv=>whnf
  refine axp_sound TTok _ _ _ ?_;conv=>whnf
  refine⟨⟨Nat.le_refl _,by show (0+(l.map rowX).length)*56≤140737488355328;omega⟩,?_⟩;conv=>whnf
  refine⟨by show 0+(0+(l.map rowX).length)≤(l.map rowX).length;omega,?_⟩;show AV.sl 3 ((l.map rowX).take (0+(l.map rowX).length)) false=_;rw[Nat.zero_add,List.take_length]
theorem CloneQ_fresh (l:List (Option (Rat×Nat))) (hne:l≠[]) (hb:l.length≤1000000):AC Tryz.prog 44 [.sl 3 (l.map rowX) false] (.fresh 3 (l.map rowX)):=by
 refine AC.of_sw TTok Tryz.func44 rfl (enter_of Tryz.func44 (by kernel_rfl) (by kernel_rfl)) (noid1 (slX_noid _)) (rowsX_noid _) (nbq rfl) ?_;have hlen:(l.map rowX).length=l.length:=List.length_map _;refine SW.seqA TTok ?_;conv=>whnf
 refine SW.seq (SW.seq ?_);refine SW.regionNil (sz:=3) (rows:=l.map rowX) (tight:=false) TTok _ rfl rfl rfl rfl (show Tryz.prog.underlying 30=some (.slice 45) by kernel_rfl) ?_;conv=>whnf
 refine⟨rfl,rfl,by decide,fun bv hbv=>?_⟩;conv=>whnf
 cases bv with
 | true=>exact absurd (List.map_eq_nil_iff.1 (hbv rfl)) hne
 | false =>
  refine SW.cond (t:=false) rfl (fun h=>Bool.noConfusion h) (fun _=>?_);refine axp_sound TTok _ _ _ ?_;conv=>whnf
  refine axp_sound TTok _ _ _ ?_;conv=>whnf
  refine⟨⟨Nat.le_refl _,by show (0+(l.map rowX).length)*56≤140737488355328;omega⟩,?_⟩;conv=>whnf
  refine⟨rfl,by show 0+(0+(l.map rowX).length)≤(l.map rowX).length;omega,?_⟩;show (l.map rowX).take (0+(l.map rowX).length)=_;rw[Nat.zero_add,List.take_length]
end
section
def pmI (sh:List Int):Int:=sh.foldl (fun n d=>n*max 1 d) 1
def cntI (sh:List Int):Int:=if 0∈sh then 0 else pmI sh
def vS (sh:List Int):Prop:=sh.length≤8∧(∀d∈sh,0≤d)∧pmI sh≤4096
instance (sh:List Int):Decidable (vS sh):=inferInstanceAs (Decidable (_∧_))
theorem take_snoc {α:Type} {l:List α} {k:Nat} (hk:k<l.length):l.take (k+1)=l.take k++[l[k]]:=by rw[List.take_add_one,List.getElem?_eq_getElem hk];rfl
theorem pm_snoc (a:List Int) (d:Int):pmI (a++[d])=pmI a*max 1 d:=by unfold pmI;rw[List.foldl_append];rfl
theorem pm_take {sh:List Int} {k:Nat} (hk:k<sh.length):pmI (sh.take (k+1))=pmI (sh.take k)*max 1 sh[k]:=by rw[take_snoc hk,pm_snoc]
theorem pm_pos (sh:List Int):1≤pmI sh:=by
 have:∀(l:List Int) (n:Int),1≤n→1≤l.foldl (fun n d=>n*max 1 d) n:=by
  intro l;induction l with
  | nil=>exact fun n h=>h
  | cons d l ih =>
   intro n h;refine ih _ ?_;show 1≤n*max 1 d;have h1:1≤max 1 d:=by omega
   have:=Int.mul_le_mul h h1 (by decide) (by omega);omega
 exact this sh 1 (Int.le_refl _)
theorem pm_grow (a:List Int) (d:Int):pmI a≤pmI a*max 1 d:=by
 have h:=Int.mul_le_mul_of_nonneg_left (show (1:Int)≤max 1 d by omega) (show 0≤pmI a by have:=pm_pos a;omega);omega
theorem pm_mono (sh:List Int) (k:Nat):pmI (sh.take k)≤pmI sh:=by
 have key:∀j,pmI (sh.take k)≤pmI (sh.take (k+j)):=by
  intro j;induction j with
  | zero=>exact Int.le_refl _
  | succ j ih =>
   by_cases h:k+j<sh.length
   ·have h1:=pm_grow (sh.take (k+j)) sh[k+j];rw[show k+(j+1)=k+j+1 by omega,pm_take h];omega
   ·rw[List.take_of_length_le (show sh.length≤k+(j+1) by omega)];rw[List.take_of_length_le (show sh.length≤k+j by omega)]at ih;exact ih
 have:=key sh.length
 rwa [List.take_of_length_le (show sh.length≤k+sh.length by omega)]at this
theorem vS_not_neg {sh:List Int} {k:Nat} (hk:k<sh.length) (h:sh[k]<0):¬vS sh:=fun hv=>by
 have:=hv.2.1 _ (List.getElem_mem hk);omega
theorem vS_not_big {sh:List Int} {k:Nat} (hk:k<sh.length) (h:4096<pmI (sh.take (k+1))):¬vS sh:=fun hv=>by
 have:=pm_mono sh (k+1);have:=hv.2.2;omega
theorem cnt_snoc_zero {a:List Int} {d:Int} (h:0∈a∨d=0):cntI (a++[d])=0:=by
 unfold cntI;rw[if_pos];rcases h with h | rfl
 ·exact List.mem_append_left _ h
 ·exact List.mem_append_right _ (List.mem_singleton.2 rfl)
def CNT (sh:List Int):AV:=.tup [.val (.int .i64 (if vS sh then cntI sh else 0)),.val (.bool (decide (vS sh)))]
theorem CNT_noid (sh:List Int):NoId (CNT sh):=.tup _ (noid2 (.val _) (.val _))
theorem CNT_bad {sh:List Int} (h:¬vS sh):CNT sh = .tup [.val (.int .i64 0),.val (.bool false)]:=by unfold CNT;rw[if_neg h,decide_eq_false h]
theorem CNT_good {sh:List Int} (h:vS sh):CNT sh = .tup [.val (.int .i64 (cntI sh)),.val (.bool true)]:=by unfold CNT;rw[if_pos h,decide_eq_true h]
theorem quo_test {n d:Int} (hn:1≤n) (hd:0≤d):d>IntKind.i64.wrap ((4096:Int).tdiv n)↔4096<n*max 1 d∧1≤d∨(4096<n∧1≤d):=by
 have h0:(4096:Int).tdiv n=4096/n:=Int.tdiv_eq_ediv_of_nonneg (by decide);have h1:0≤(4096:Int)/n:=Int.ediv_nonneg (by decide) (by omega);have h2:(4096:Int)/n≤4096:=Int.ediv_le_self _ (by decide);rw[h0,IntWalk.i64_in _ (by omega)];have h3:(4096:Int)/n<d↔4096<d*n:=Int.ediv_lt_iff_lt_mul (by omega);rw[gt_iff_lt,h3,Int.mul_comm d n];by_cases h4:1≤d
 ·rw[show max 1 d=d by omega];constructor
  ·exact fun h=>.inl ⟨h,h4⟩
  ·rintro (h | h)
   ·exact h.1
   ·have:=Int.mul_le_mul_of_nonneg_left h4 (show 0≤n by omega);omega
 ·have:d=0:=by omega
  subst this;simp
theorem Count_ok (sh:List Int) (hb:sh.length≤1000000):AC Tryz.prog 42 [.sl 1 (irows .i64 sh) false] (.pure (CNT sh)):=by
 refine AC.of_body TTok Tryz.func42 rfl (enter_of Tryz.func42 (by kernel_rfl) (by kernel_rfl)) (noid1 (noid_sl _ _ _)) (CNT_noid _) (nbq rfl) ?_;have hlen:=irows_len .i64 sh;by_cases h8:sh.length>8
 ·have t8:decide (((irows .i64 sh).length:Int)>8)=true:=decide_eq_true (by omega);rw[CNT_bad (fun hv=>by have:=hv.1;omega)];conv=>whnf
  refine cTq (t8) ?_;(conv=>whnf);exact rfl
 have t8:decide (((irows .i64 sh).length:Int)>8)=false:=decide_eq_false (by omega);conv=>whnf
 refine cFq (t8) ?_;conv=>whnf
 refine SW.loopM TTok (fun i:Nat=>[(4,.val (.int .i64 (pmI (sh.take i)))),(5,.val (.bool (decide (0∈sh.take i)))),(11,.sl 1 (irows .i64 sh) false),(12,.val (.int .i64 ((irows .i64 sh).length:Int))),(13,.val (.int .i64 (i:Int)))]) (fun i=>[]) 96 37 rfl (fun i=>sh.length-i) (fun i=>i≤sh.length∧pmI (sh.take i)≤4096∧∀d∈sh.take i,0≤d) 0 [] ⟨Nat.zero_le _,(by show (1:Int)≤4096;decide),fun d hd=>nomatch hd⟩
  ⟨q2r,q2r,q2r,q2r,q2r,trivial⟩ trivial rfl ?_
 intro i hJ;have hi:i≤sh.length:=hJ.1;have hp:pmI (sh.take i)≤4096:=hJ.2.1;have hd:∀d∈sh.take i,0≤d:=hJ.2.2;clear hJ;have hp1:=pm_pos (sh.take i);by_cases hlt:i<sh.length
 ·have hg:=irows_get .i64 sh (List.getElem?_eq_getElem hlt);have eI:IntKind.i64.wrap ((i:Int)+1)=((i+1:Nat):Int):=by rw[IntWalk.i64_in _ (by omega)];omega
  have hs:=pm_take hlt;have hts:=take_snoc hlt;by_cases hneg:sh[i]<0
  ·rw[CNT_bad (vS_not_neg hlt hneg)];conv=>whnf
   refine oTq (by omega) ?_;conv=>whnf
   refine⟨_,⟨by omega,hg⟩,?_⟩;conv=>whnf
   refine oTq (by omega) ?_;(conv=>whnf);exact rfl
  ·have hq:=quo_test hp1 (Int.not_lt.1 hneg);have hnz:pmI (sh.take i)≠0:=by omega
   by_cases hbig:4096<pmI (sh.take (i+1))
   ·rw[CNT_bad (vS_not_big hlt hbig)];have h1:1≤sh[i]:=by
     rcases Int.lt_or_le sh[i] 1 with h | h
     ·rw[hs,show max 1 sh[i]=1 by omega]at hbig;omega
     ·exact h
    rw[hs]at hbig;have tq:decide (sh[i]>IntKind.i64.wrap ((4096:Int).tdiv (pmI (sh.take i))))=true:=decide_eq_true (hq.2 (.inl ⟨hbig,h1⟩));conv=>whnf
    refine oTq (by omega) ?_;conv=>whnf
    refine⟨_,⟨by omega,hg⟩,?_⟩;conv=>whnf
    refine oFq (by omega) ?_;conv=>whnf
    refine⟨hnz,?_⟩;conv=>whnf
    refine cTq (tq) ?_;(conv=>whnf);exact rfl
   ·rw[hs]at hbig;have tq:decide (sh[i]>IntKind.i64.wrap ((4096:Int).tdiv (pmI (sh.take i))))=false:=decide_eq_false (fun h=>by
     rcases hq.1 h with h | h
     ·exact hbig h.1
     ·omega)
    have e4:IntKind.i64.wrap (pmI (sh.take i)*(if sh[i]>1 then sh[i] else 1))=pmI (sh.take (i+1)):=by
     rw[hs,show (if sh[i]>1 then sh[i] else 1)=max 1 sh[i] by split<;>omega];have:=pm_grow (sh.take i) sh[i];exact IntWalk.i64_in _ (by omega)
    have fin:∀b:Bool,b=decide (0∈sh.take (i+1))→AV.val (.bool b)=AV.val (.bool (decide (0∈sh.take (i+1)))):=fun b h=>by rw[h]
    have hd':∀d∈sh.take (i+1),0≤d:=by
     rw[hts];intro d hdd;rcases List.mem_append.1 hdd with h | h
     ·exact hd d h
     ·rw[List.mem_singleton.1 h];omega
    have hbig':pmI (sh.take (i+1))≤4096:=by rw[hs];omega
    cases hz:decide (0∈sh.take i) with
    | true =>
     have hz':=of_decide_eq_true hz;conv=>whnf
     refine oTq (by omega) ?_;conv=>whnf
     refine⟨_,⟨by omega,hg⟩,?_⟩;conv=>whnf
     refine oFq (by omega) ?_;conv=>whnf
     refine⟨hnz,?_⟩;conv=>whnf
     refine cFq (tq) ?_;conv=>whnf
     refine⟨i+1,[],(by show sh.length-(i+1)<sh.length-i;omega),⟨hlt,hbig',hd'⟩,⟨⟨valI e4,rfl⟩,⟨fin _ (by rw[hts];exact (decide_eq_true (List.mem_append_left _ hz')).symm),rfl⟩,q2r,q2r,⟨valI eI,rfl⟩,trivial⟩,trivial,rfl⟩
    | false =>
     have hz':=of_decide_eq_false hz;conv=>whnf
     refine oTq (by omega) ?_;conv=>whnf
     refine⟨_,⟨by omega,hg⟩,?_⟩;conv=>whnf
     refine oFq (by omega) ?_;conv=>whnf
     refine⟨hnz,?_⟩;conv=>whnf
     refine cFq (tq) ?_;conv=>whnf
     refine⟨i+1,[],(by show sh.length-(i+1)<sh.length-i;omega),⟨hlt,hbig',hd'⟩,⟨⟨valI e4,rfl⟩,⟨fin _ ?_,rfl⟩,q2r,q2r,⟨valI eI,rfl⟩,trivial⟩,trivial,rfl⟩;rw[hts];by_cases h0:sh[i]=0
     ·rw[show (sh[i]==0)=true by rw[h0];rfl];exact (decide_eq_true (List.mem_append_right _ (List.mem_singleton.2 h0.symm))).symm
     ·rw[show (sh[i]==0)=false from beq_false_of_ne h0];refine (decide_eq_false (fun h=>?_)).symm;rcases List.mem_append.1 h with h | h
      ·exact hz' h
      ·exact h0 (List.mem_singleton.1 h).symm
 ·have hie:i=sh.length:=by omega
  have hta:sh.take i=sh:=by rw[hie,List.take_length]
  rw[hta]at hp hd ⊢;have hv:vS sh:=⟨by omega,hd,hp⟩;rw[CNT_good hv];unfold cntI;by_cases h0:0∈sh
  ·rw[if_pos h0,decide_eq_true h0];conv=>whnf
   refine oFq (by omega) ?_;(conv=>whnf);exact rfl
  ·rw[if_neg h0,decide_eq_false h0];conv=>whnf
   refine oFq (by omega) ?_;(conv=>whnf);exact rfl
end
section
theorem cnt_snoc {a:List Int} {d:Int} (hd:0≤d):cntI (a++[d])=cntI a*d:=by
 by_cases h:0∈a∨d=0
 ·rw[cnt_snoc_zero h];rcases h with h | rfl
  ·unfold cntI;rw[if_pos h,Int.zero_mul]
  ·rw[Int.mul_zero]
 ·have h1:¬0∈a:=fun x=>h (.inl x);have h2:d≠0:=fun x=>h (.inr x);unfold cntI;rw[if_neg h1,if_neg (fun x=>by
   rcases List.mem_append.1 x with x | x
   ·exact h1 x
   ·exact h2 (List.mem_singleton.1 x).symm),pm_snoc,show max 1 d=d by omega]
theorem cnt_bd (a:List Int):0≤cntI a∧cntI a≤pmI a:=by
 have:=pm_pos a;unfold cntI;split<;>omega
theorem RCount_ok (sh:List Int) (hb:sh.length≤1000000):AC Tryz.prog 116 [.sl 1 (irows .i64 sh) false] (.pure (CNT sh)):=by
 refine AC.of_body TTok Tryz.func116 rfl (enter_of Tryz.func116 (by kernel_rfl) (by kernel_rfl)) (noid1 (noid_sl _ _ _)) (CNT_noid _) (nbq rfl) ?_;have hlen:=irows_len .i64 sh;conv=>whnf
 refine SW.loopM TTok (fun i:Nat=>[(0,.sl 1 (irows .i64 sh) false),(4,.val (.int .i64 (pmI (sh.take i)))),(5,.val (.int .i64 (cntI (sh.take i)))),(6,.val (.int .i64 (i:Int)))]) (fun i=>[]) 40 49 rfl (fun i=>sh.length-i) (fun i=>i≤sh.length∧i≤8∧pmI (sh.take i)≤4096∧∀d∈sh.take i,0≤d) 0 [] ⟨Nat.zero_le _,Nat.zero_le _,(by show (1:Int)≤4096;decide),fun d hd=>nomatch hd⟩
  ⟨q2r,q2r,q2r,q2r,trivial⟩ trivial rfl ?_
 intro i hJ;have hi:i≤sh.length:=hJ.1;have hi8:i≤8:=hJ.2.1;have hp:pmI (sh.take i)≤4096:=hJ.2.2.1;have hd:∀d∈sh.take i,0≤d:=hJ.2.2.2;clear hJ;have hp1:=pm_pos (sh.take i);have hc:=cnt_bd (sh.take i);by_cases hlt:i<sh.length
 ·have hg:=irows_get .i64 sh (List.getElem?_eq_getElem hlt);have eI:IntKind.i64.wrap ((i:Int)+1)=((i+1:Nat):Int):=by rw[IntWalk.i64_in _ (by omega)];omega
  have hs:=pm_take hlt;have hts:=take_snoc hlt;by_cases h8:i=8
  ·rw[CNT_bad (fun hv=>by have:=hv.1;omega)];conv=>whnf
   refine oTq (by omega) ?_;conv=>whnf
   refine oTq (by omega) ?_;(conv=>whnf);exact rfl
  by_cases hneg:sh[i]<0
  ·rw[CNT_bad (vS_not_neg hlt hneg)];conv=>whnf
   refine oTq (by omega) ?_;conv=>whnf
   refine oFq (by omega) ?_;conv=>whnf
   refine⟨_,⟨by omega,hg⟩,?_⟩;conv=>whnf
   refine oTq (by omega) ?_;(conv=>whnf);exact rfl
  have hcs:cntI (sh.take (i+1))=cntI (sh.take i)*sh[i]:=by rw[hts,cnt_snoc (Int.not_lt.1 hneg)]
  have hgr:=pm_grow (sh.take i) sh[i];by_cases hbd:sh[i]>4096
  ·have hbig:4096<pmI (sh.take (i+1)):=by
    rw[hs,show max 1 sh[i]=sh[i] by omega];have:=Int.mul_le_mul_of_nonneg_right hp1 (show 0≤sh[i] by omega);omega
   rw[CNT_bad (vS_not_big hlt hbig)];conv=>whnf
   refine oTq (by omega) ?_;conv=>whnf
   refine oFq (by omega) ?_;conv=>whnf
   refine⟨_,⟨by omega,hg⟩,?_⟩;conv=>whnf
   refine oFq (by omega) ?_;conv=>whnf
   refine⟨_,⟨by omega,hg⟩,?_⟩;conv=>whnf
   refine oTq (by omega) ?_;(conv=>whnf);exact rfl
  have hd':∀d∈sh.take (i+1),0≤d:=by
   rw[hts];intro d hdd;rcases List.mem_append.1 hdd with h | h
   ·exact hd d h
   ·rw[List.mem_singleton.1 h];omega
  have m1:cntI (sh.take i)*sh[i]≤4096*4096:=by
   have h1:=Int.mul_le_mul_of_nonneg_right (show cntI (sh.take i)≤4096 by omega) (show 0≤sh[i] by omega);omega
  have m0:0≤cntI (sh.take i)*sh[i]:=Int.mul_nonneg hc.1 (by omega);have e5:IntKind.i64.wrap (cntI (sh.take i)*sh[i])=cntI (sh.take (i+1)):=by rw[hcs,IntWalk.i64_in _ (by omega)]
  by_cases hz:sh[i]>0
  ·have m2:pmI (sh.take i)*sh[i]≤4096*4096:=by
    have h1:=Int.mul_le_mul_of_nonneg_right hp (show 0≤sh[i] by omega);omega
   have m3:0≤pmI (sh.take i)*sh[i]:=Int.mul_nonneg (by omega) (by omega);have e4:IntKind.i64.wrap (pmI (sh.take i)*sh[i])=pmI (sh.take (i+1)):=by rw[hs,show max 1 sh[i]=sh[i] by omega,IntWalk.i64_in _ (by omega)]
   by_cases hbig:4096<pmI (sh.take (i+1))
   ·rw[CNT_bad (vS_not_big hlt hbig)];have tb:decide (IntKind.i64.wrap (pmI (sh.take i)*sh[i])>4096)=true:=decide_eq_true (by rw[e4];exact hbig);conv=>whnf
    refine oTq (by omega) ?_;conv=>whnf
    refine oFq (by omega) ?_;conv=>whnf
    refine⟨_,⟨by omega,hg⟩,?_⟩;conv=>whnf
    refine oFq (by omega) ?_;conv=>whnf
    refine⟨_,⟨by omega,hg⟩,?_⟩;conv=>whnf
    refine oFq (by omega) ?_;conv=>whnf
    refine⟨_,⟨by omega,hg⟩,?_⟩;conv=>whnf
    refine⟨_,⟨by omega,hg⟩,?_⟩;conv=>whnf
    refine oTq (by omega) ?_;conv=>whnf
    refine⟨_,⟨by omega,hg⟩,?_⟩;conv=>whnf
    refine cTq (tb) ?_;(conv=>whnf);exact rfl
   ·have tb:decide (IntKind.i64.wrap (pmI (sh.take i)*sh[i])>4096)=false:=decide_eq_false (by rw[e4];exact hbig);conv=>whnf
    refine oTq (by omega) ?_;conv=>whnf
    refine oFq (by omega) ?_;conv=>whnf
    refine⟨_,⟨by omega,hg⟩,?_⟩;conv=>whnf
    refine oFq (by omega) ?_;conv=>whnf
    refine⟨_,⟨by omega,hg⟩,?_⟩;conv=>whnf
    refine oFq (by omega) ?_;conv=>whnf
    refine⟨_,⟨by omega,hg⟩,?_⟩;conv=>whnf
    refine⟨_,⟨by omega,hg⟩,?_⟩;conv=>whnf
    refine oTq (by omega) ?_;conv=>whnf
    refine⟨_,⟨by omega,hg⟩,?_⟩;conv=>whnf
    refine cFq (tb) ?_;conv=>whnf
    refine⟨i+1,[],(by show sh.length-(i+1)<sh.length-i;omega),⟨hlt,(by show i+1≤8;omega),(by show pmI (sh.take (i+1))≤4096;omega),hd'⟩,⟨q2r,⟨valI e4,rfl⟩,⟨valI e5,rfl⟩,⟨valI eI,rfl⟩,trivial⟩,trivial,rfl⟩
  ·have e4:pmI (sh.take i)=pmI (sh.take (i+1)):=by rw[hs,show max 1 sh[i]=1 by omega,Int.mul_one]
   conv=>whnf
   refine oTq (by omega) ?_;conv=>whnf
   refine oFq (by omega) ?_;conv=>whnf
   refine⟨_,⟨by omega,hg⟩,?_⟩;conv=>whnf
   refine oFq (by omega) ?_;conv=>whnf
   refine⟨_,⟨by omega,hg⟩,?_⟩;conv=>whnf
   refine oFq (by omega) ?_;conv=>whnf
   refine⟨_,⟨by omega,hg⟩,?_⟩;conv=>whnf
   refine⟨_,⟨by omega,hg⟩,?_⟩;conv=>whnf
   refine oFq (by omega) ?_;conv=>whnf
   refine oFq (by omega) ?_;conv=>whnf
   refine⟨i+1,[],(by show sh.length-(i+1)<sh.length-i;omega),⟨hlt,(by show i+1≤8;omega),(by show pmI (sh.take (i+1))≤4096;omega),hd'⟩,⟨q2r,⟨valI e4,rfl⟩,⟨valI e5,rfl⟩,⟨valI eI,rfl⟩,trivial⟩,trivial,rfl⟩
 ·have hie:i=sh.length:=by omega
  have hta:sh.take i=sh:=by rw[hie,List.take_length]
  rw[hta]at hp hd ⊢;have hv:vS sh:=⟨by omega,hd,hp⟩;rw[CNT_good hv];conv=>whnf
  refine oFq (by omega) ?_;(conv=>whnf);exact rfl
end
section
theorem IntsSame_ok (a b:List Int) (ha:a.length≤1000000) (hb:b.length≤1000000):AC Tryz.prog 26 [.sl 1 (irows .i64 a) false,.sl 1 (irows .i64 b) false] (.pure (.val (.bool (decide (a=b))))):=by
 refine AC.of_body TTok Tryz.func26 rfl (enter_of Tryz.func26 (by kernel_rfl) (by kernel_rfl)) (noid2 (noid_sl _ _ _) (noid_sl _ _ _)) (.val _) (nbq rfl) ?_;have h1:=irows_len .i64 a;have h2:=irows_len .i64 b;by_cases hl:a.length=b.length
 ·have tl:(((irows .i64 a).length:Int) != ((irows .i64 b).length:Int))=false:=by rw[h1,h2,hl];simp
  conv=>whnf
  refine cFq (tl) ?_;conv=>whnf
  refine SW.loopM TTok (fun i:Nat=>[(0,.sl 1 (irows .i64 a) false),(1,.sl 1 (irows .i64 b) false),(5,.val (.int .i64 (i:Int)))]) (fun i=>[]) 56 26 rfl (fun i=>a.length-i) (fun i=>i≤a.length∧a.take i=b.take i) 0 [] ⟨Nat.zero_le _,rfl⟩
   ⟨q2r,q2r,q2r,trivial⟩ trivial rfl ?_
  intro i hJ;have hi:i≤a.length:=hJ.1;have ht:a.take i=b.take i:=hJ.2;clear hJ;by_cases hlt:i<a.length
  ·have hlt':i<b.length:=by omega
   have g1:=irows_get .i64 a (List.getElem?_eq_getElem hlt);have g2:=irows_get .i64 b (List.getElem?_eq_getElem hlt');have eI:IntKind.i64.wrap ((i:Int)+1)=((i+1:Nat):Int):=by rw[IntWalk.i64_in _ (by omega)];omega
   by_cases he:a[i]=b[i]
   ·have te:(a[i] != b[i])=false:=by rw[he];simp
    conv=>whnf
    refine oTq (by omega) ?_;conv=>whnf
    refine⟨_,⟨by omega,g1⟩,?_⟩;conv=>whnf
    refine⟨_,⟨by omega,g2⟩,?_⟩;conv=>whnf
    refine⟨by kernel_rfl,?_⟩;conv=>whnf
    refine cFq (te) ?_;conv=>whnf
    refine⟨i+1,[],(by show a.length-(i+1)<a.length-i;omega),⟨hlt,(by show a.take (i+1)=b.take (i+1);rw[take_snoc hlt,take_snoc hlt',ht,he])⟩,⟨q2r,q2r,⟨valI eI,rfl⟩,trivial⟩,trivial,rfl⟩
   ·have te:(a[i] != b[i])=true:=by simpa using he
    rw[decide_eq_false (fun e=>he (by subst e;rfl))];conv=>whnf
    refine oTq (by omega) ?_;conv=>whnf
    refine⟨_,⟨by omega,g1⟩,?_⟩;conv=>whnf
    refine⟨_,⟨by omega,g2⟩,?_⟩;conv=>whnf
    refine⟨by kernel_rfl,?_⟩;conv=>whnf
    refine cTq (te) ?_;(conv=>whnf);exact rfl
  ·have hie:i=a.length:=by omega
   rw[decide_eq_true (by rw[hie,List.take_length,hl,List.take_length]at ht;exact ht)];conv=>whnf
   refine oFq (by omega) ?_;(conv=>whnf);exact rfl
 ·have tl:(((irows .i64 a).length:Int) != ((irows .i64 b).length:Int))=true:=by rw[h1,h2];simpa using (show ¬(a.length:Int)=b.length by omega)
  rw[decide_eq_false (fun e=>hl (by rw[e]))];conv=>whnf
  refine cTq (tl) ?_;(conv=>whnf);exact rfl
theorem Runes_ok (a b:List Int) (ha:a.length≤1000000) (hb:b.length≤1000000):AC Tryz.prog 104 [.sl 1 (irows .i32 a) false,.sl 1 (irows .i32 b) false] (.pure (.val (.bool (decide (a=b))))):=by
 refine AC.of_body TTok Tryz.func104 rfl (enter_of Tryz.func104 (by kernel_rfl) (by kernel_rfl)) (noid2 (noid_sl _ _ _) (noid_sl _ _ _)) (.val _) (nbq rfl) ?_;have h1:=irows_len .i32 a;have h2:=irows_len .i32 b;by_cases hl:a.length=b.length
 ·have tl:(((irows .i32 a).length:Int) != ((irows .i32 b).length:Int))=false:=by rw[h1,h2,hl];simp
  conv=>whnf
  refine cFq (tl) ?_;conv=>whnf
  refine SW.loopM TTok (fun i:Nat=>[(0,.sl 1 (irows .i32 a) false),(1,.sl 1 (irows .i32 b) false),(5,.val (.int .i64 (i:Int)))]) (fun i=>[]) 56 26 rfl (fun i=>a.length-i) (fun i=>i≤a.length∧a.take i=b.take i) 0 [] ⟨Nat.zero_le _,rfl⟩
   ⟨q2r,q2r,q2r,trivial⟩ trivial rfl ?_
  intro i hJ;have hi:i≤a.length:=hJ.1;have ht:a.take i=b.take i:=hJ.2;clear hJ;by_cases hlt:i<a.length
  ·have hlt':i<b.length:=by omega
   have g1:=irows_get .i32 a (List.getElem?_eq_getElem hlt);have g2:=irows_get .i32 b (List.getElem?_eq_getElem hlt');have eI:IntKind.i64.wrap ((i:Int)+1)=((i+1:Nat):Int):=by rw[IntWalk.i64_in _ (by omega)];omega
   by_cases he:a[i]=b[i]
   ·have te:(a[i] != b[i])=false:=by rw[he];simp
    conv=>whnf
    refine oTq (by omega) ?_;conv=>whnf
    refine⟨_,⟨by omega,g1⟩,?_⟩;conv=>whnf
    refine⟨_,⟨by omega,g2⟩,?_⟩;conv=>whnf
    refine⟨by kernel_rfl,?_⟩;conv=>whnf
    refine cFq (te) ?_;conv=>whnf
    refine⟨i+1,[],(by show a.length-(i+1)<a.length-i;omega),⟨hlt,(by show a.take (i+1)=b.take (i+1);rw[take_snoc hlt,take_snoc hlt',ht,he])⟩,⟨q2r,q2r,⟨valI eI,rfl⟩,trivial⟩,trivial,rfl⟩
   ·have te:(a[i] != b[i])=true:=by simpa using he
    rw[decide_eq_false (fun e=>he (by subst e;rfl))];conv=>whnf
    refine oTq (by omega) ?_;conv=>whnf
    refine⟨_,⟨by omega,g1⟩,?_⟩;conv=>whnf
    refine⟨_,⟨by omega,g2⟩,?_⟩;conv=>whnf
    refine⟨by kernel_rfl,?_⟩;conv=>whnf
    refine cTq (te) ?_;(conv=>whnf);exact rfl
  ·have hie:i=a.length:=by omega
   rw[decide_eq_true (by rw[hie,List.take_length,hl,List.take_length]at ht;exact ht)];conv=>whnf
   refine oFq (by omega) ?_;(conv=>whnf);exact rfl
 ·have tl:(((irows .i32 a).length:Int) != ((irows .i32 b).length:Int))=true:=by rw[h1,h2];simpa using (show ¬(a.length:Int)=b.length by omega)
  rw[decide_eq_false (fun e=>hl (by rw[e]))];conv=>whnf
  refine cTq (tl) ?_;(conv=>whnf);exact rfl
theorem Equal_ok (a b:List Int) (ha:a.length≤1000000) (hb:b.length≤1000000):AC Tryz.prog 71 [.sl 1 (irows .i64 a) false,.sl 1 (irows .i64 b) false] (.pure (.val (.bool (decide (a=b))))):=by
 refine AC.of_body TTok Tryz.func71 rfl (enter_of Tryz.func71 (by kernel_rfl) (by kernel_rfl)) (noid2 (noid_sl _ _ _) (noid_sl _ _ _)) (.val _) (nbq rfl) ?_;have h1:=irows_len .i64 a;have h2:=irows_len .i64 b;by_cases hl:a.length=b.length
 ·have tl:(((irows .i64 a).length:Int) != ((irows .i64 b).length:Int))=false:=by rw[h1,h2,hl];simp
  conv=>whnf
  refine cFq (tl) ?_;conv=>whnf
  refine SW.loopM TTok (fun i:Nat=>[(0,.sl 1 (irows .i64 a) false),(1,.sl 1 (irows .i64 b) false),(12,.val (.int .i64 ((irows .i64 a).length:Int))),(13,.val (.int .i64 (i:Int)))]) (fun i=>[]) 72 26 rfl (fun i=>a.length-i) (fun i=>i≤a.length∧a.take i=b.take i) 0 [] ⟨Nat.zero_le _,rfl⟩
   ⟨q2r,q2r,q2r,q2r,trivial⟩ trivial rfl ?_
  intro i hJ;have hi:i≤a.length:=hJ.1;have ht:a.take i=b.take i:=hJ.2;clear hJ;by_cases hlt:i<a.length
  ·have hlt':i<b.length:=by omega
   have g1:=irows_get .i64 a (List.getElem?_eq_getElem hlt);have g2:=irows_get .i64 b (List.getElem?_eq_getElem hlt');have eI:IntKind.i64.wrap ((i:Int)+1)=((i+1:Nat):Int):=by rw[IntWalk.i64_in _ (by omega)];omega
   by_cases he:a[i]=b[i]
   ·have te:(a[i] != b[i])=false:=by rw[he];simp
    conv=>whnf
    refine oTq (by omega) ?_;conv=>whnf
    refine⟨_,⟨by omega,g1⟩,?_⟩;conv=>whnf
    refine⟨_,⟨by omega,g2⟩,?_⟩;conv=>whnf
    refine⟨by kernel_rfl,?_⟩;conv=>whnf
    refine cFq (te) ?_;conv=>whnf
    refine⟨i+1,[],(by show a.length-(i+1)<a.length-i;omega),⟨hlt,(by show a.take (i+1)=b.take (i+1);rw[take_snoc hlt,take_snoc hlt',ht,he])⟩,⟨q2r,q2r,q2r,⟨valI eI,rfl⟩,trivial⟩,trivial,rfl⟩
   ·have te:(a[i] != b[i])=true:=by simpa using he
    rw[decide_eq_false (fun e=>he (by subst e;rfl))];conv=>whnf
    refine oTq (by omega) ?_;conv=>whnf
    refine⟨_,⟨by omega,g1⟩,?_⟩;conv=>whnf
    refine⟨_,⟨by omega,g2⟩,?_⟩;conv=>whnf
    refine⟨by kernel_rfl,?_⟩;conv=>whnf
    refine cTq (te) ?_;(conv=>whnf);exact rfl
  ·have hie:i=a.length:=by omega
   rw[decide_eq_true (by rw[hie,List.take_length,hl,List.take_length]at ht;exact ht)];conv=>whnf
   refine oFq (by omega) ?_;(conv=>whnf);exact rfl
 ·have tl:(((irows .i64 a).length:Int) != ((irows .i64 b).length:Int))=true:=by rw[h1,h2];simpa using (show ¬(a.length:Int)=b.length by omega)
  rw[decide_eq_false (fun e=>hl (by rw[e]))];conv=>whnf
  refine cTq (tl) ?_;(conv=>whnf);exact rfl
theorem ShSame_ok (a b:List Int) (ha:a.length≤1000000) (hb:b.length≤1000000):AC Tryz.prog 133 [.sl 1 (irows .i64 a) false,.sl 1 (irows .i64 b) false] (.pure (.val (.bool (decide (a=b))))):=by
 refine AC.of_body TTok Tryz.func133 rfl (enter_of Tryz.func133 (by kernel_rfl) (by kernel_rfl)) (noid2 (noid_sl _ _ _) (noid_sl _ _ _)) (.val _) (nbq rfl) ?_;have h:=Equal_ok a b ha hb;(conv=>whnf);refine⟨_,‹_›,?_⟩;(conv=>whnf);exact rfl
section
variable (sh:List Int) (ch:Bool) (tx:List Int) (ns:List (Option (Rat×Nat))) (made:Bool)
theorem ALen_ok (h1:tx.length≤1000000) (h2:ns.length≤1000000):AC Tryz.prog 57 [AA sh ch tx ns made] (.pure (.val (.int .i64 ((tx.length+ns.length:Nat):Int)))):=by
 refine AC.of_body TTok Tryz.func57 rfl (enter_of Tryz.func57 (by kernel_rfl) (by kernel_rfl)) (noid1 (AA_noid _ _ _ _ _)) (.val _) (nbq rfl) ?_;unfold AA;conv=>whnf
 exact valI (by rw[irows_len,List.length_map,IntWalk.i64_in _ (by omega)];omega)
theorem IsChar_ok:AC Tryz.prog 83 [AA sh ch tx ns made] (.pure (.val (.bool ch))):=by
 refine AC.of_body TTok Tryz.func83 rfl (enter_of Tryz.func83 (by kernel_rfl) (by kernel_rfl)) (noid1 (AA_noid _ _ _ _ _)) (.val _) (nbq rfl) ?_;unfold AA;(conv=>whnf);exact rfl
theorem Shape_ok (h:sh.length≤1000000):AC Tryz.prog 27 [AA sh ch tx ns true] (.pure (.sl 1 (irows .i64 sh) false)):=by
 refine AC.of_body TTok Tryz.func27 rfl (enter_of Tryz.func27 (by kernel_rfl) (by kernel_rfl)) (noid1 (AA_noid _ _ _ _ _)) (noid_sl _ _ _) (nbq rfl) ?_;have hC:=CloneI_ok sh h;unfold AA;(conv=>whnf);refine⟨_,‹_›,?_⟩;(conv=>whnf);exact rfl
theorem Rank_ok (h:sh.length≤1000000):AC Tryz.prog 36 [AA sh ch tx ns true] (.pure (.val (.int .i64 (sh.length:Nat)))):=by
 refine AC.of_body TTok Tryz.func36 rfl (enter_of Tryz.func36 (by kernel_rfl) (by kernel_rfl)) (noid1 (AA_noid _ _ _ _ _)) (.val _) (nbq rfl) ?_;have hS:=Shape_ok sh ch tx ns h;unfold AA at *;conv=>whnf
 refine⟨_,hS,?_⟩;conv=>whnf
 exact valI (by rw[irows_len])
theorem Runes86_ok (h:tx.length≤1000000):AC Tryz.prog 105 [AA sh ch tx ns made] (.pure (.sl 1 (irows .i32 tx) false)):=by
 refine AC.of_body TTok Tryz.func105 rfl (enter_of Tryz.func105 (by kernel_rfl) (by kernel_rfl)) (noid1 (AA_noid _ _ _ _ _)) (noid_sl _ _ _) (nbq rfl) ?_;have hC:=CloneR_ok tx h;unfold AA;(conv=>whnf);refine⟨_,‹_›,?_⟩;(conv=>whnf);exact rfl
theorem RatI_ok (k:Nat) (hk:k<ns.length) (hb:ns.length≤1000000):AC Tryz.prog 15 [AA sh ch tx ns made,.val (.int .i64 (k:Int))] (.pure (.agg (rowX ns[k]))):=by
 refine AC.of_body TTok Tryz.func15 rfl (enter_of Tryz.func15 (by kernel_rfl) (by kernel_rfl)) (noid2 (AA_noid _ _ _ _ _) (.val _)) (.agg _ (rowX_noid _)) (nbq rfl) ?_;have hlen:(ns.map rowX).length=ns.length:=List.length_map _;have hg:(ns.map rowX)[k]?=some (rowX ns[k]):=by rw[List.getElem?_map,List.getElem?_eq_getElem hk];rfl
 unfold AA;cases hr:ns[k] with
 | none =>
  have hg:(ns.map rowX)[k]?=some [.sl 0 [] true,.val (.bool false),.sl 0 [] true]:=by rw[hg,hr];rfl
  conv=>whnf
  refine oFq (by omega) ?_;conv=>whnf
  refine⟨_,⟨by omega,hg⟩,?_⟩;(conv=>whnf);exact rfl
 | some p =>
  have hg:(ns.map rowX)[k]?=some [.sl 1 (irows .u32 (limbs p.1.num.natAbs)) false,.val (.bool (decide (p.1.num<0))),.sl 1 (irows .u32 (limbs p.2)) false]:=by rw[hg,hr];rfl
  conv=>whnf
  refine oFq (by omega) ?_;conv=>whnf
  refine⟨_,⟨by omega,hg⟩,?_⟩;(conv=>whnf);exact rfl
theorem RuneI_ok (k:Nat) (hk:k<tx.length) (hb:tx.length≤1000000):AC Tryz.prog 134 [AA sh ch tx ns made,.val (.int .i64 (k:Int))] (.pure (.val (.int .i32 tx[k]))):=by
 refine AC.of_body TTok Tryz.func134 rfl (enter_of Tryz.func134 (by kernel_rfl) (by kernel_rfl)) (noid2 (AA_noid _ _ _ _ _) (.val _)) (.val _) (nbq rfl) ?_;have hlen:=irows_len .i32 tx;have hg:=irows_get .i32 tx (List.getElem?_eq_getElem hk);unfold AA;conv=>whnf
 refine oFq (by omega) ?_;conv=>whnf
 refine⟨_,⟨by omega,hg⟩,?_⟩;(conv=>whnf);exact rfl
end
theorem at_ok (i:Int) (one:Bool):AC Tryz.prog 113 [.val (.int .i64 i),.val (.bool one)] (.pure (.val (.int .i64 (if one then 0 else i)))):=by
 refine AC.of_body TTok Tryz.func113 rfl (enter_of Tryz.func113 (by kernel_rfl) (by kernel_rfl)) (noid2 (.val _) (.val _)) (.val _) (nbq rfl) ?_;cases one
 ·(conv=>whnf);exact rfl
 ·(conv=>whnf);exact rfl
theorem RLen_ok (sh:List Int) (ch:Bool) (tx:List Int) (qs:List Rat) (h1:tx.length≤1000000) (h2:qs.length≤1000000):AC Tryz.prog 75 [PA sh ch tx qs] (.pure (.val (.int .i64 ((tx.length+qs.length:Nat):Int)))):=by
 refine AC.of_body TTok Tryz.func75 rfl (enter_of Tryz.func75 (by kernel_rfl) (by kernel_rfl)) (noid1 (PA_noid _ _ _ _)) (.val _) (nbq rfl) ?_;unfold PA;conv=>whnf
 exact valI (by rw[irows_len,List.length_map,IntWalk.i64_in _ (by omega)];omega)
end
section
theorem Nums_ok (sh:List Int) (ns:List (Option (Rat×Nat))) (hv:vS sh) (hc:cntI sh=(ns.length:Int)) (hb:ns.length≤1000000):AC Tryz.prog 14 [.sl 1 (irows .i64 sh) false,.sl 3 (ns.map rowX) false] (.pure (.tup [AA sh false [] ns true,.val (.bool true)])):=by
 have h8:=hv.1;have hC:=Count_ok sh (by omega);rw[CNT_good hv,hc]at hC;have h1:=CloneI_ok sh (by omega);have h2:=CloneQ_ok ns hb;have hlen:(ns.map rowX).length=ns.length:=List.length_map _;refine AC.le_res (?_:AC Tryz.prog 14 _ (.pure (.tup [.agg [.sl 1 (irows .i64 sh) false,.val (.bool false),.sl 0 [] true,.sl 3 (ns.map rowX) false,.val (.bool true)],.val (.bool true)]))) (.tup2 (le_agg5 (.refl _) (.refl _) (le_nil 1) (.refl _) (.refl _)) (.refl _)) (.tup _ (noid2 (AA_noid _ _ _ _ _) (.val _)));refine AC.of_body TTok Tryz.func14 rfl (enter_of Tryz.func14 (by kernel_rfl) (by kernel_rfl)) (noid2 (noid_sl _ _ _) (slX_noid _)) (.tup _ (noid2 (.agg _ (noid5 (noid_sl _ _ _) (.val _) (.sl _ _ _ (fun r hr=>nomatch hr)) (slX_noid _) (.val _))) (.val _))) (nbq rfl) ?_;have t1:(((ns.length:Nat):Int) != ((ns.map rowX).length:Int))=false:=by rw[hlen];simp
 conv=>whnf
 refine⟨_,hC,?_⟩;conv=>whnf
 refine cFq (t1) ?_;repeat ((conv=>whnf);(first | refine⟨_,‹_›,?_⟩|exact rfl))
theorem NumX_ok (o:Option (Rat×Nat)) (ho:okX o) (hs:Sz (valX o) 100000):AC Tryz.prog 106 [.agg (rowX o)] (.pure (RN (valX o).num (valX o).den)):=by
 cases o with
 | none =>
  have hz:AC Tryz.prog 106 [RA 0 0] (.pure (RN 0 1)):=NumS 0 0 rfl ⟨by show (limbs 0).length≤_;rw[limbs_zero];exact Nat.zero_le _,by show (limbs 1).length≤_;rw[limbs_1];decide⟩;exact AC.le_args hz rfl (fun i x y hx hy=>by
   match i with
   | 0=>cases hx;cases hy;exact RZ_le
   | (i+1)=>cases hx) (noid1 RZ_noid)
 | some p=>exact NumS p.1 p.2 ho hs
theorem Plain_ok (sh:List Int) (ch:Bool) (tx:List Int) (ns:List (Option (Rat×Nat))) (h1:sh.length≤1000) (h2:tx.length≤100000) (h3:ns.length≤100000) (ho:∀o∈ns,okX o∧Sz (valX o) 100000) :
  AC Tryz.prog 59 [AA sh ch tx ns true] (.pure (PA sh ch tx (ns.map valX))):=by
 refine AC.of_body TTok Tryz.func59 rfl (enter_of Tryz.func59 (by kernel_rfl) (by kernel_rfl)) (noid1 (AA_noid _ _ _ _ _)) (PA_noid _ _ _ _) (nbq rfl) ?_;have hS:=Shape_ok sh ch tx ns (by omega);have hR:=Runes86_ok sh ch tx ns true (by omega);have hlen:(ns.map rowX).length=ns.length:=List.length_map _;unfold AA at *;conv=>whnf
 refine⟨_,hS,?_⟩;conv=>whnf
 refine⟨_,hR,?_⟩;conv=>whnf
 refine⟨by kernel_rfl,?_⟩;conv=>whnf
 refine SW.nilC 72 3 3 rfl rfl ?_;refine SW.loopM TTok (fun i:Nat=>[(2,.lp 8 0),(3,.lp 72 0),(14,.sl 3 (ns.map rowX) false),(15,.val (.int .i64 ((ns.map rowX).length:Int))),(16,.val (.int .i64 (i:Int)))])
  (fun i=>[(8,.cells 4 [[.sl 0 [] true,.val (.bool false),.sl 0 [] true,.sl 0 [] true]]),(72,.cells 4 [[.sl 1 (irows .i64 sh) false,.val (.bool ch),.sl 1 (irows .i32 tx) false,.own 120 0 i]]),(120,.cells 3 (((ns.take i).map valX).map rowN))]) 128 29 rfl (fun i=>ns.length-i) (fun i=>i≤ns.length) 0 [] (Nat.zero_le _)
  ⟨q2r,q2r,q2r,q2r,q2r,trivial⟩ ⟨q3r,q3r,⟨rfl,.inl ⟨rfl,rowsN_noid _⟩⟩,trivial⟩ rfl ?_
 intro i hi;have hi:i≤ns.length:=hi;have hql:(((ns.take i).map valX).map rowN).length=i:=by rw[List.length_map,List.length_map,List.length_take];omega
 by_cases hlt:i<ns.length
 ·have eI:IntKind.i64.wrap ((i:Int)+1)=((i+1:Nat):Int):=by rw[IntWalk.i64_in _ (by omega)];omega
  have hg:(ns.map rowX)[i]?=some (rowX ns[i]):=by rw[List.getElem?_map,List.getElem?_eq_getElem hlt];rfl
  obtain⟨o1,o2⟩:=ho _ (List.getElem_mem hlt);have hN:=NumX_ok ns[i] o1 o2;have hsn:((ns.take i).map valX).map rowN++[rowN (valX ns[i])]=((ns.take (i+1)).map valX).map rowN:=by
   rw[take_snoc hlt,List.map_append,List.map_append];rfl
  have hdt:(((ns.take i).map valX).map rowN).drop 0=((ns.take i).map valX).map rowN:=rfl;have htk:((((ns.take i).map valX).map rowN).drop 0).take i=((ns.take i).map valX).map rowN:=by rw[hdt,List.take_of_length_le (by omega)]
  cases hr:ns[i] with
  | none =>
   rw[hr]at hg hN hsn;have hg:(ns.map rowX)[i]?=some [.sl 0 [] true,.val (.bool false),.sl 0 [] true]:=hg;have hN:AC Tryz.prog 106 [.agg [.sl 0 [] true,.val (.bool false),.sl 0 [] true]] (.pure (.agg (rowN (valX none)))):=hN;unfold rowN at hN;conv=>whnf
   refine oTq (by omega) ?_;conv=>whnf
   refine⟨_,⟨by omega,hg⟩,?_⟩;conv=>whnf
   refine⟨_,hN,?_⟩;conv=>whnf
   refine⟨⟨by show 0+i≤_;omega,by show (i+1)*40≤140737488355328;omega,nbq rfl⟩,?_⟩;conv=>whnf
   refine⟨by kernel_rfl,?_⟩;conv=>whnf
   refine⟨i+1,[(120,208)],(by show ns.length-(i+1)<ns.length-i;omega),hlt,⟨q2r,q2r,q2r,q2r,⟨valI eI,rfl⟩,trivial⟩,⟨q3r,q3r,⟨rfl,.inl ⟨celE ?_,rowsN_noid _⟩⟩,trivial⟩,rfl⟩;rw[←hsn];show List.take i (List.drop 0 (((ns.take i).map valX).map rowN))++[rowN (valX none)]=_;rw[htk]
  | some p =>
   rw[hr]at hg hN hsn;have hg:(ns.map rowX)[i]?=some [.sl 1 (irows .u32 (limbs p.1.num.natAbs)) false,.val (.bool (decide (p.1.num<0))),.sl 1 (irows .u32 (limbs p.2)) false]:=hg;have hN:AC Tryz.prog 106 [.agg [.sl 1 (irows .u32 (limbs p.1.num.natAbs)) false,.val (.bool (decide (p.1.num<0))),.sl 1 (irows .u32 (limbs p.2)) false]] (.pure (.agg (rowN (valX (some p))))):=hN;unfold rowN at hN;conv=>whnf
   refine oTq (by omega) ?_;conv=>whnf
   refine⟨_,⟨by omega,hg⟩,?_⟩;conv=>whnf
   refine⟨_,hN,?_⟩;conv=>whnf
   refine⟨⟨by show 0+i≤_;omega,by show (i+1)*40≤140737488355328;omega,nbq rfl⟩,?_⟩;conv=>whnf
   refine⟨by kernel_rfl,?_⟩;conv=>whnf
   refine⟨i+1,[(120,208)],(by show ns.length-(i+1)<ns.length-i;omega),hlt,⟨q2r,q2r,q2r,q2r,⟨valI eI,rfl⟩,trivial⟩,⟨q3r,q3r,⟨rfl,.inl ⟨celE ?_,rowsN_noid _⟩⟩,trivial⟩,rfl⟩;rw[←hsn];show List.take i (List.drop 0 (((ns.take i).map valX).map rowN))++[rowN (valX (some p))]=_;rw[htk]
 ·have hie:i=ns.length:=by omega
  subst hie;rw[List.take_length]at *;conv=>whnf
  refine oFq (by omega) ?_;conv=>whnf
  refine⟨by show 0+ns.length≤_;omega,?_⟩;show AV.agg [_,_,_,AV.sl 3 (List.take ns.length (List.drop 0 ((ns.map valX).map rowN))) false]=_;rw[List.drop_zero,List.take_of_length_le (by omega)];rfl
theorem Num_ok' (q:Rat) (d:Nat):AC Tryz.prog 92 [RA q.num d] (.pure (AA [] false [] [some (q,d)] true)):=by
 refine AC.le_res (?_:AC Tryz.prog 92 _ (.pure (.agg [.sl 0 [] true,.val (.bool false),.sl 0 [] true,.sl 3 [rowR (q,d)] false,.val (.bool true)]))) (le_agg5 (le_nil 1) (.refl _) (le_nil 1) (.refl _) (.refl _)) (AA_noid _ _ _ _ _);refine AC.of_body TTok Tryz.func92 rfl (enter_of Tryz.func92 (by kernel_rfl) (by kernel_rfl)) (noid1 (RA_noid _ _)) (.agg _ (noid5 (.sl _ _ _ (fun r hr=>nomatch hr)) (.val _) (.sl _ _ _ (fun r hr=>nomatch hr)) (slX_noid [some (q,d)]) (.val _))) (nbq rfl) ?_;unfold RA rowR;conv=>whnf
 exact⟨Nat.le_refl _,rfl⟩
theorem AInt_ok (n:Int) (hn:-9223372036854775808≤n∧n<9223372036854775808):AC Tryz.prog 40 [.val (.int .i64 n)] (.pure (AA [] false [] [some ((n:Rat),1)] true)):=by
 refine AC.of_body TTok Tryz.func40 rfl (enter_of Tryz.func40 (by kernel_rfl) (by kernel_rfl)) (noid1 (.val _)) (AA_noid _ _ _ _ _) (nbq rfl) ?_;have h1:=RatFrom_ok n hn;have h2:=Num_ok' (n:Rat) 1;rw[Rat.num_intCast]at h2;generalize some ((n:Rat),1)=o at *;unfold RA AA at *;repeat ((conv=>whnf);(first | refine⟨_,‹_›,?_⟩|exact rfl))
end
section
def intX (n:Int):Option (Rat×Nat):=some ((n:Rat),1)
def i64b (n:Int):Prop:=-9223372036854775808≤n∧n<9223372036854775808
theorem intX_row (n:Int):rowX (intX n)=[.sl 1 (irows .u32 (limbs n.natAbs)) false,.val (.bool (decide (n<0))),.sl 1 (irows .u32 (limbs 1)) false]:=by
 show [AV.sl 1 (irows .u32 (limbs ((n:Rat)).num.natAbs)) false,AV.val (.bool (decide (((n:Rat)).num<0))),AV.sl 1 (irows .u32 (limbs 1)) false]=_;rw[Rat.num_intCast]
theorem intN_row (n:Int):rowN (n:Rat)=[.val (.bool (decide (n<0))),.val (.string (decS n.natAbs)),.val (.string (decS 1))]:=by
 unfold rowN;rw[Rat.num_intCast,Rat.den_intCast]
theorem noid_own5 (n:Int) (l:List (Option (Rat×Nat))):NoId (.agg [.sl 1 [[.val (.int .i64 n)]] false,.val (.bool false),.sl 0 [] true,.sl 3 (l.map rowX) false,.val (.bool true)]) :=
 .agg _ (noid5 (noid_sl .i64 [n] false) (.val _) (.sl _ _ _ (fun r hr=>nomatch hr)) (slX_noid _) (.val _))
theorem AInts_ok (l:List Int) (hb:l.length≤100000) (hl:∀n∈l,i64b n):AC Tryz.prog 13 [.sl 1 (irows .i64 l) false] (.pure (AA [(l.length:Int)] false [] (l.map intX) true)):=by
 have hlen:=irows_len .i64 l;refine AC.le_res (?_:AC Tryz.prog 13 _ (.pure (.agg [.sl 1 [[.val (.int .i64 ((irows .i64 l).length:Int))]] false,.val (.bool false),.sl 0 [] true,.sl 3 ((l.map intX).map rowX) false,.val (.bool true)]))) (by rw[hlen];exact le_agg5 (.refl _) (.refl _) (le_nil 1) (.refl _) (.refl _)) (AA_noid _ _ _ _ _);refine AC.of_body TTok Tryz.func13 rfl (enter_of Tryz.func13 (by kernel_rfl) (by kernel_rfl)) (noid1 (noid_sl _ _ _)) (noid_own5 _ _) (nbq rfl) ?_;conv=>whnf
 refine SW.nilC 40 3 3 rfl rfl ?_;refine SW.loopM TTok (fun i:Nat=>[(2,.lp 0 0),(3,.lp 40 0),(10,.sl 1 (irows .i64 l) false),(11,.val (.int .i64 ((irows .i64 l).length:Int))),(12,.val (.int .i64 (i:Int)))])
  (fun i=>[(0,.cells 5 [[.sl 0 [] true,.val (.bool false),.sl 0 [] true,.sl 0 [] true,.val (.bool false)]]),(24,.cells 1 [[.val (.int .i64 ((irows .i64 l).length:Int))]]),(40,.cells 5 [[.own 24 0 1,.val (.bool false),.sl 0 [] true,.own 80 0 i,.val (.bool true)]]),(80,.cells 3 (((l.take i).map intX).map rowX))]) 88 25 rfl (fun i=>l.length-i) (fun i=>i≤l.length) 0 [] (Nat.zero_le _)
  ⟨q2r,q2r,q2r,q2r,q2r,trivial⟩ ⟨q3r,q3r,q3r,⟨rfl,.inl ⟨rfl,rowsX_noid _⟩⟩,trivial⟩ rfl ?_
 intro i hi;have hi:i≤l.length:=hi;have hql:(((l.take i).map intX).map rowX).length=i:=by rw[List.length_map,List.length_map,List.length_take];omega
 by_cases hlt:i<l.length
 ·have eI:IntKind.i64.wrap ((i:Int)+1)=((i+1:Nat):Int):=by rw[IntWalk.i64_in _ (by omega)];omega
  have hg:=irows_get .i64 l (List.getElem?_eq_getElem hlt);have hF:=RatFrom_ok l[i] (hl _ (List.getElem_mem hlt));have hsn:((l.take i).map intX).map rowX++[rowX (intX l[i])]=((l.take (i+1)).map intX).map rowX:=by
   rw[take_snoc hlt,List.map_append,List.map_append];rfl
  have htk:((((l.take i).map intX).map rowX).drop 0).take i=((l.take i).map intX).map rowX:=by rw[List.drop_zero,List.take_of_length_le (by omega)]
  unfold RA at hF;conv=>whnf
  refine oTq (by omega) ?_;conv=>whnf
  refine⟨_,⟨by omega,hg⟩,?_⟩;conv=>whnf
  refine⟨_,hF,?_⟩;conv=>whnf
  refine⟨⟨by show 0+i≤_;omega,by show (i+1)*56≤140737488355328;omega,nbq rfl⟩,?_⟩;conv=>whnf
  refine⟨by kernel_rfl,?_⟩;conv=>whnf
  refine⟨i+1,[(80,160)],(by show l.length-(i+1)<l.length-i;omega),hlt,⟨q2r,q2r,q2r,q2r,⟨valI eI,rfl⟩,trivial⟩,⟨q3r,q3r,q3r,⟨rfl,.inl ⟨celE ?_,rowsX_noid _⟩⟩,trivial⟩,rfl⟩;rw[←hsn,intX_row];show List.take i (List.drop 0 (((l.take i).map intX).map rowX))++[_]=_;rw[htk];rfl
 ·have hie:i=l.length:=by omega
  subst hie;rw[List.take_length]at *;conv=>whnf
  refine oFq (by omega) ?_;conv=>whnf
  refine⟨⟨by first | exact Nat.le_refl _ | (show 0+l.length≤_;omega),by first | exact Nat.le_refl _ | (show 0+l.length≤_;omega)⟩,?_⟩;have e:List.take l.length (List.drop 0 ((l.map intX).map rowX))=(l.map intX).map rowX:=by rw[List.drop_zero,List.take_of_length_le (by omega)]
  show AV.agg [_,_,_,AV.sl 3 (List.take l.length (List.drop 0 ((l.map intX).map rowX))) false,_]=_;rw[e];rfl
theorem noid_own4 (n:Int) (l:List Rat):NoId (.agg [.sl 1 [[.val (.int .i64 n)]] false,.val (.bool false),.sl 0 [] true,.sl 3 (l.map rowN) false]) :=
 .agg _ (noidF (noid_sl .i64 [n] false) (.val _) (.sl _ _ _ (fun r hr=>nomatch hr)) (slN_noid _))
theorem RInts_ok (l:List Int) (hb:l.length≤100000) (hl:∀n∈l,i64b n):AC Tryz.prog 34 [.sl 1 (irows .i64 l) false] (.pure (PA [(l.length:Int)] false [] (l.map fun n:Int=>(n:Rat)))):=by
 have hlen:=irows_len .i64 l;refine AC.le_res (?_:AC Tryz.prog 34 _ (.pure (.agg [.sl 1 [[.val (.int .i64 ((irows .i64 l).length:Int))]] false,.val (.bool false),.sl 0 [] true,.sl 3 ((l.map fun n:Int=>(n:Rat)).map rowN) false]))) (by rw[hlen];exact le_agg4 (.refl _) (.refl _) (le_nil 1) (.refl _)) (PA_noid _ _ _ _);refine AC.of_body TTok Tryz.func34 rfl (enter_of Tryz.func34 (by kernel_rfl) (by kernel_rfl)) (noid1 (noid_sl _ _ _)) (noid_own4 _ _) (nbq rfl) ?_;conv=>whnf
 refine SW.nilC 40 3 3 rfl rfl ?_;refine SW.loopM TTok (fun i:Nat=>[(0,.sl 1 (irows .i64 l) false),(2,.lp 0 0),(3,.lp 40 0),(4,.val (.int .i64 (i:Int)))])
  (fun i=>[(0,.cells 4 [[.sl 0 [] true,.val (.bool false),.sl 0 [] true,.sl 0 [] true]]),(24,.cells 1 [[.val (.int .i64 ((irows .i64 l).length:Int))]]),(40,.cells 4 [[.own 24 0 1,.val (.bool false),.sl 0 [] true,.own 64 0 i]]),(64,.cells 3 (((l.take i).map fun n:Int=>(n:Rat)).map rowN))]) 72 26 rfl (fun i=>l.length-i) (fun i=>i≤l.length) 0 [] (Nat.zero_le _)
  ⟨q2r,q2r,q2r,q2r,trivial⟩ ⟨q3r,q3r,q3r,⟨rfl,.inl ⟨rfl,rowsN_noid _⟩⟩,trivial⟩ rfl ?_
 intro i hi;have hi:i≤l.length:=hi;have hql:(((l.take i).map fun n:Int=>(n:Rat)).map rowN).length=i:=by rw[List.length_map,List.length_map,List.length_take];omega
 by_cases hlt:i<l.length
 ·have eI:IntKind.i64.wrap ((i:Int)+1)=((i+1:Nat):Int):=by rw[IntWalk.i64_in _ (by omega)];omega
  have hg:=irows_get .i64 l (List.getElem?_eq_getElem hlt);have hF:=SFrom_ok l[i] (hl _ (List.getElem_mem hlt));have hsn:((l.take i).map fun n:Int=>(n:Rat)).map rowN++[rowN ((l[i]:Int):Rat)]=((l.take (i+1)).map fun n:Int=>(n:Rat)).map rowN:=by
   rw[take_snoc hlt,List.map_append,List.map_append];rfl
  have htk:((((l.take i).map fun n:Int=>(n:Rat)).map rowN).drop 0).take i=((l.take i).map fun n:Int=>(n:Rat)).map rowN:=by rw[List.drop_zero,List.take_of_length_le (by omega)]
  unfold RN at hF;conv=>whnf
  refine oTq (by omega) ?_;conv=>whnf
  refine⟨_,⟨by omega,hg⟩,?_⟩;conv=>whnf
  refine⟨_,hF,?_⟩;conv=>whnf
  refine⟨⟨by show 0+i≤_;omega,by show (i+1)*40≤140737488355328;omega,nbq rfl⟩,?_⟩;conv=>whnf
  refine⟨by kernel_rfl,?_⟩;conv=>whnf
  refine⟨i+1,[(64,168)],(by show l.length-(i+1)<l.length-i;omega),hlt,⟨q2r,q2r,q2r,⟨valI eI,rfl⟩,trivial⟩,⟨q3r,q3r,q3r,⟨rfl,.inl ⟨celE ?_,rowsN_noid _⟩⟩,trivial⟩,rfl⟩;rw[←hsn,intN_row];show List.take i (List.drop 0 (((l.take i).map fun n:Int=>(n:Rat)).map rowN))++[_]=_;rw[htk];rfl
 ·have hie:i=l.length:=by omega
  subst hie;rw[List.take_length]at *;conv=>whnf
  refine oFq (by omega) ?_;conv=>whnf
  refine⟨⟨by first | exact Nat.le_refl _ | (show 0+l.length≤_;omega),by first | exact Nat.le_refl _ | (show 0+l.length≤_;omega)⟩,?_⟩;have e:List.take l.length (List.drop 0 ((l.map fun n:Int=>(n:Rat)).map rowN))=(l.map fun n:Int=>(n:Rat)).map rowN:=by rw[List.drop_zero,List.take_of_length_le (by omega)]
  show AV.agg [_,_,_,AV.sl 3 (List.take l.length (List.drop 0 ((l.map fun n:Int=>(n:Rat)).map rowN))) false]=_;rw[e];rfl
end
section
abbrev TX:=Bool×List Int×List Int
def rowB (x:TX):List AV:=[.val (.bool x.1),.val (.string (strL x.2.1)),.val (.string (strL x.2.2))]
theorem rowsB_noid (l:List TX):∀r∈l.map rowB,∀x∈r,NoId x:=by
 intro r hr;obtain⟨o,_,rfl⟩:=List.mem_map.1 hr;exact noid3 (.val _) (.val _) (.val _)
theorem slB_noid (l:List TX):NoId (.sl 3 (l.map rowB) false):=.sl _ _ _ (rowsB_noid l)
def PB (sh:List Int) (ch:Bool) (tx:List Int) (L:List TX):AV :=
 .agg [.sl 1 (irows .i64 sh) false,.val (.bool ch),.sl 1 (irows .i32 tx) false,.sl 3 (L.map rowB) false]
theorem PB_noid (sh:List Int) (ch:Bool) (tx:List Int) (L:List TX):NoId (PB sh ch tx L):=.agg _ (noidF (noid_sl _ _ _) (.val _) (noid_sl _ _ _) (slB_noid _))
def RQx (x:TX):Prop:=RQ x.1 x.2.1 x.2.2
def qX (x:TX):Rat:=qOf x.1 x.2.1 x.2.2
def bytX (x:TX):Prop:=Byt x.2.1∧Byt x.2.2
def smX (x:TX):Prop:=x.2.1.length≤40∧x.2.2.length≤40
def kinds (sh:List Int) (ch:Bool) (a b:Nat):Prop:=if ch then (a:Int)=cntI sh∧b=0 else (b:Int)=cntI sh∧a=0
open Classical in
noncomputable def goodB (sh:List Int) (ch:Bool) (tx:List Int) (L:List TX):Bool:=decide (vS sh∧kinds sh ch tx.length L.length∧∀x∈L,RQx x)
open Classical in
theorem goodB_false {sh:List Int} {ch:Bool} {tx:List Int} {L:List TX} (h:¬(vS sh∧kinds sh ch tx.length L.length∧∀x∈L,RQx x)):goodB sh ch tx L=false:=by unfold goodB;exact decide_eq_false h
open Classical in
theorem goodB_true {sh:List Int} {ch:Bool} {tx:List Int} {L:List TX} (h:vS sh∧kinds sh ch tx.length L.length∧∀x∈L,RQx x):goodB sh ch tx L=true:=by unfold goodB;exact decide_eq_true h
open Classical in
theorem goodB_is {sh:List Int} {ch:Bool} {tx:List Int} {L:List TX} (h:goodB sh ch tx L=true):vS sh∧kinds sh ch tx.length L.length∧∀x∈L,RQx x:=by unfold goodB at h;exact of_decide_eq_true h
theorem PRight_ok (sh:List Int) (ch:Bool) (tx:List Int) (L:List TX) (h1:sh.length≤1000) (h2:tx.length≤1000) (h3:L.length≤1000) (hB:∀x∈L,bytX x∧smX x):AC Tryz.prog 99 [PB sh ch tx L] (.pure (.val (.bool (goodB sh ch tx L)))):=by
 refine AC.of_body TTok Tryz.func99 rfl (enter_of Tryz.func99 (by kernel_rfl) (by kernel_rfl)) (noid1 (PB_noid _ _ _ _)) (.val _) (nbq rfl) ?_;have hC:=RCount_ok sh (by omega);have l2:=irows_len .i32 tx;have l3:(L.map rowB).length=L.length:=List.length_map _;unfold PB;by_cases hv:vS sh
 ·rw[CNT_good hv]at hC;by_cases hk:kinds sh ch tx.length L.length
  ·have hk':=hk;unfold kinds at hk';cases ch with
   | true =>
    obtain⟨k1,k2⟩:=hk';generalize hcn:cntI sh=cn at *;conv=>whnf
    refine⟨_,hC,?_⟩;conv=>whnf
    refine nTq (by omega) ?_;conv=>whnf
    refine nTq (by omega) ?_;conv=>whnf
    refine SW.loopM TTok (fun i:Nat=>[(1,.lp 0 0),(5,.val (.int .i64 (i:Int)))]) (fun i=>[(0,.cells 4 [[.sl 1 (irows .i64 sh) false,.val (.bool true),.sl 1 (irows .i32 tx) false,.sl 3 (L.map rowB) false]])]) 384 63 rfl (fun i=>L.length-i) (fun i=>i≤L.length∧∀x∈L.take i,RQx x) 0 [] ⟨Nat.zero_le _,fun x hx=>nomatch hx⟩
     ⟨q2r,q2r,trivial⟩ ⟨q3r,trivial⟩ rfl ?_
    intro i hJ;have hi:i≤L.length:=hJ.1;have hie:L=[]:=List.length_eq_zero_iff.1 k2;rw[goodB_true ⟨hv,hk,by rw[hie];exact fun x hx=>nomatch hx⟩];conv=>whnf
    refine oFq (by omega) ?_;(conv=>whnf);exact rfl
   | false =>
    obtain⟨k1,k2⟩:=hk';generalize hcn:cntI sh=cn at *;conv=>whnf
    refine⟨_,hC,?_⟩;conv=>whnf
    refine nTq (by omega) ?_;conv=>whnf
    refine nTq (by omega) ?_;conv=>whnf
    refine SW.loopM TTok (fun i:Nat=>[(1,.lp 0 0),(5,.val (.int .i64 (i:Int)))]) (fun i=>[(0,.cells 4 [[.sl 1 (irows .i64 sh) false,.val (.bool false),.sl 1 (irows .i32 tx) false,.sl 3 (L.map rowB) false]])]) 384 63 rfl (fun i=>L.length-i) (fun i=>i≤L.length∧∀x∈L.take i,RQx x) 0 [] ⟨Nat.zero_le _,fun x hx=>nomatch hx⟩
     ⟨q2r,q2r,trivial⟩ ⟨q3r,trivial⟩ rfl ?_
    intro i hJ;have hi:i≤L.length:=hJ.1;have hq:∀x∈L.take i,RQx x:=hJ.2;clear hJ;by_cases hlt:i<L.length
    ·have eI:IntKind.i64.wrap ((i:Int)+1)=((i+1:Nat):Int):=by rw[IntWalk.i64_in _ (by omega)];omega
     have hg:(L.map rowB)[i]?=some [.val (.bool L[i].1),.val (.string (strL L[i].2.1)),.val (.string (strL L[i].2.2))]:=by rw[List.getElem?_map,List.getElem?_eq_getElem hlt];rfl
     obtain⟨⟨b1,b2⟩,b3,b4⟩:=hB _ (List.getElem_mem hlt);have hR:=SRight_ok L[i].1 L[i].2.1 L[i].2.2 b1 b2 (by omega) (by omega);unfold RT at hR;by_cases hr:RQ L[i].1 L[i].2.1 L[i].2.2
     ·rw[decide_eq_true hr]at hR;conv=>whnf
      refine oTq (by omega) ?_;conv=>whnf
      refine⟨_,⟨by omega,hg⟩,?_⟩;conv=>whnf
      refine⟨_,hR,?_⟩;conv=>whnf
      refine⟨i+1,[],(by show L.length-(i+1)<L.length-i;omega),⟨hlt,fun x hx=>?_⟩,⟨q2r,⟨valI eI,rfl⟩,trivial⟩,⟨q3r,trivial⟩,rfl⟩;rw[take_snoc hlt]at hx;rcases List.mem_append.1 hx with h | h
      ·exact hq x h
      ·rw[List.mem_singleton.1 h];exact hr
     ·rw[decide_eq_false hr]at hR;rw[goodB_false (fun h=>hr (h.2.2 _ (List.getElem_mem hlt)))];conv=>whnf
      refine oTq (by omega) ?_;conv=>whnf
      refine⟨_,⟨by omega,hg⟩,?_⟩;conv=>whnf
      refine⟨_,hR,?_⟩;(conv=>whnf);exact rfl
    ·have hie:i=L.length:=by omega
     rw[goodB_true ⟨hv,hk,by rw[hie,List.take_length]at hq;exact hq⟩];conv=>whnf
     refine oFq (by omega) ?_;(conv=>whnf);exact rfl
  ·rw[goodB_false (fun h=>hk h.2.1)];unfold kinds at hk;cases ch with
   | true =>
    generalize cntI sh=cn at *;have hk:¬((tx.length:Int)=cn∧L.length=0):=hk;by_cases h:(tx.length:Int)=cn
    ·conv=>whnf
     refine⟨_,hC,?_⟩;conv=>whnf
     refine nTq (by omega) ?_;conv=>whnf
     refine nFq (by omega) ?_;(conv=>whnf);exact rfl
    ·conv=>whnf
     refine⟨_,hC,?_⟩;conv=>whnf
     refine nFq (by omega) ?_;(conv=>whnf);exact rfl
   | false =>
    generalize cntI sh=cn at *;have hk:¬((L.length:Int)=cn∧tx.length=0):=hk;by_cases h:(L.length:Int)=cn
    ·conv=>whnf
     refine⟨_,hC,?_⟩;conv=>whnf
     refine nTq (by omega) ?_;conv=>whnf
     refine nFq (by omega) ?_;(conv=>whnf);exact rfl
    ·conv=>whnf
     refine⟨_,hC,?_⟩;conv=>whnf
     refine nFq (by omega) ?_;(conv=>whnf);exact rfl
 ·rw[CNT_bad hv]at hC;rw[goodB_false (fun h=>hv h.1)];(conv=>whnf);refine⟨_,‹_›,?_⟩;(conv=>whnf);exact rfl
end
section
theorem Light_ok (sh:List Int) (ch:Bool) (tx:List Int) (L:List TX) (most:Int) (hm:most≤1000) (h1:sh.length<9223372036854775808) (h2:tx.length<9223372036854775808) (h3:L.length<9223372036854775808) (hB:∀x∈L,bytX x∧x.2.1.length<9223372036854775808∧x.2.2.length<9223372036854775808) :
  ∃ r:Bool,(r=true→(tx.length:Int)≤most∧(L.length:Int)≤most∧(∀x∈L,smX x)∧vS sh∧kinds sh ch tx.length L.length∧∀x∈L,RQx x)∧AC Tryz.prog 48 [PB sh ch tx L,.val (.int .i64 most)] (.pure (.val (.bool r))):=by
 have l1:=irows_len .i64 sh;have l2:=irows_len .i32 tx;have l3:(L.map rowB).length=L.length:=List.length_map _;by_cases hs:(tx.length:Int)≤most∧(L.length:Int)≤most∧sh.length≤8
 ·obtain⟨s1,s2,s3⟩:=hs;have hloop:∀(r:Bool),((∀x∈L,smX x)→AC Tryz.prog 99 [PB sh ch tx L] (.pure (.val (.bool r))))→((¬ ∀x∈L,smX x)→r=false)→AC Tryz.prog 48 [PB sh ch tx L,.val (.int .i64 most)] (.pure (.val (.bool r))):=by
   intro r hr1 hr2;refine AC.of_body TTok Tryz.func48 rfl (enter_of Tryz.func48 (by kernel_rfl) (by kernel_rfl)) (noid2 (PB_noid _ _ _ _) (.val _)) (.val _) (nbq rfl) ?_;unfold PB at *;conv=>whnf
   refine oFq (by omega) ?_;conv=>whnf
   refine oFq (by omega) ?_;conv=>whnf
   refine oFq (by omega) ?_;conv=>whnf
   refine SW.loopM TTok (fun i:Nat=>[(2,.lp 0 0),(5,.val (.int .i64 (i:Int)))]) (fun i=>[(0,.cells 4 [[.sl 1 (irows .i64 sh) false,.val (.bool ch),.sl 1 (irows .i32 tx) false,.sl 3 (L.map rowB) false]])]) 168 51 rfl (fun i=>L.length-i) (fun i=>i≤L.length∧∀x∈L.take i,smX x) 0 [] ⟨Nat.zero_le _,fun x hx=>nomatch hx⟩
    ⟨q2r,q2r,trivial⟩ ⟨q3r,trivial⟩ rfl ?_
   intro i hJ;have hi:i≤L.length:=hJ.1;have hq:∀x∈L.take i,smX x:=hJ.2;clear hJ;by_cases hlt:i<L.length
   ·have eI:IntKind.i64.wrap ((i:Int)+1)=((i+1:Nat):Int):=by rw[IntWalk.i64_in _ (by omega)];omega
    have hg:(L.map rowB)[i]?=some [.val (.bool L[i].1),.val (.string (strL L[i].2.1)),.val (.string (strL L[i].2.2))]:=by rw[List.getElem?_map,List.getElem?_eq_getElem hlt];rfl
    have z1:=strL_size L[i].2.1;have z2:=strL_size L[i].2.2;by_cases hx1:L[i].2.1.length≤40
    ·have f1:decide (((strL L[i].2.1).size:Int)>40)=false:=decide_eq_false (by omega);by_cases hx2:L[i].2.2.length≤40
     ·have f2:decide (((strL L[i].2.2).size:Int)>40)=false:=decide_eq_false (by omega);conv=>whnf
      refine oTq (by omega) ?_;conv=>whnf
      refine⟨_,⟨by omega,hg⟩,?_⟩;conv=>whnf
      refine cFq (f1) ?_;conv=>whnf
      refine⟨_,⟨by omega,hg⟩,?_⟩;conv=>whnf
      refine cFq (f2) ?_;conv=>whnf
      refine⟨i+1,[],(by show L.length-(i+1)<L.length-i;omega),⟨hlt,fun x hx=>?_⟩,⟨q2r,⟨valI eI,rfl⟩,trivial⟩,⟨q3r,trivial⟩,rfl⟩;rw[take_snoc hlt]at hx;rcases List.mem_append.1 hx with h | h
      ·exact hq x h
      ·rw[List.mem_singleton.1 h];exact⟨hx1,hx2⟩
     ·have f2:decide (((strL L[i].2.2).size:Int)>40)=true:=decide_eq_true (by omega);rw[hr2 (fun h=>hx2 (h _ (List.getElem_mem hlt)).2)];conv=>whnf
      refine oTq (by omega) ?_;conv=>whnf
      refine⟨_,⟨by omega,hg⟩,?_⟩;conv=>whnf
      refine cFq (f1) ?_;conv=>whnf
      refine⟨_,⟨by omega,hg⟩,?_⟩;conv=>whnf
      refine cTq (f2) ?_;(conv=>whnf);exact rfl
    ·have f1:decide (((strL L[i].2.1).size:Int)>40)=true:=decide_eq_true (by omega);rw[hr2 (fun h=>hx1 (h _ (List.getElem_mem hlt)).1)];conv=>whnf
     refine oTq (by omega) ?_;conv=>whnf
     refine⟨_,⟨by omega,hg⟩,?_⟩;conv=>whnf
     refine cTq (f1) ?_;(conv=>whnf);exact rfl
   ·have hie:i=L.length:=by omega
    have hR:=hr1 (by rw[hie,List.take_length]at hq;exact hq);conv=>whnf
    refine oFq (by omega) ?_;(conv=>whnf);refine⟨_,‹_›,?_⟩;(conv=>whnf);exact rfl
  by_cases hall:∀x∈L,smX x
  ·refine⟨goodB sh ch tx L,fun h=>?_,hloop _ (fun _=>PRight_ok sh ch tx L (by omega) (by omega) (by omega) (fun x hx=>⟨(hB x hx).1,hall x hx⟩)) (fun h=>absurd hall h)⟩;obtain⟨g1,g2,g3⟩:=goodB_is h;exact⟨s1,s2,hall,g1,g2,g3⟩
  ·exact⟨false,fun h=>Bool.noConfusion h,hloop false (fun h=>absurd h hall) (fun _=>rfl)⟩
 ·refine⟨false,fun h=>Bool.noConfusion h,?_⟩;refine AC.of_body TTok Tryz.func48 rfl (enter_of Tryz.func48 (by kernel_rfl) (by kernel_rfl)) (noid2 (PB_noid _ _ _ _) (.val _)) (.val _) (nbq rfl) ?_;unfold PB;by_cases c1:(tx.length:Int)≤most
  ·by_cases c2:(L.length:Int)≤most
   ·have c3:¬sh.length≤8:=fun h=>hs ⟨c1,c2,h⟩;conv=>whnf
    refine oFq (by omega) ?_;conv=>whnf
    refine oFq (by omega) ?_;conv=>whnf
    refine oTq (by omega) ?_;(conv=>whnf);exact rfl
   ·conv=>whnf
    refine oFq (by omega) ?_;conv=>whnf
    refine oTq (by omega) ?_;(conv=>whnf);exact rfl
  ·conv=>whnf
   refine oTq (by omega) ?_;(conv=>whnf);exact rfl
theorem PB_PA {sh:List Int} {ch:Bool} {tx:List Int} {L:List TX} (h:∀x∈L,RQx x):PB sh ch tx L=PA sh ch tx (L.map qX):=by
 have:L.map rowB=(L.map qX).map rowN:=by
  rw[List.map_map];refine List.map_congr_left (fun x hx=>?_);have:=RQ_is (h x hx);unfold RT RN at this;exact AV.agg.inj this
 unfold PB PA;rw[this]
def QR (q:Rat):Prop:=∃ b s t,RQ b s t∧Byt s∧Byt t∧s.length≤40∧t.length≤40∧q=qOf b s t
theorem QR.sz {q:Rat} (h:QR q):Sz q 5:=by
 obtain⟨b,s,t,h1,_,_,h4,h5,rfl⟩:=h;exact RQ_sz h1 h4 h5 (by decide)
theorem QR.of {q:Rat} (h:QR q):AC Tryz.prog 101 [RN q.num q.den] (.pure (.tup [RA q.num q.den,.val (.bool true)])):=by
 obtain⟨b,s,t,h1,h2,h3,h4,h5,rfl⟩:=h;have hO:=SOf_ok b s t h2 h3 (by omega) (by omega) h1.1 h1.2.1 h1.2.2.2.2.1;rw[decide_eq_true h1,RQ_is h1]at hO;exact hO
theorem QR.right {q:Rat} (h:QR q):AC Tryz.prog 127 [RN q.num q.den] (.pure (.val (.bool true))):=by
 obtain⟨b,s,t,h1,h2,h3,h4,h5,rfl⟩:=h;have hR:=SRight_ok b s t h2 h3 (by omega) (by omega);rw[decide_eq_true h1,RQ_is h1]at hR;exact hR
end
section
def ofX (q:Rat):Option (Rat×Nat):=some (q,q.den)
theorem AOf_ok (sh:List Int) (ch:Bool) (tx:List Int) (qs:List Rat) (hv:vS sh) (hk:kinds sh ch tx.length qs.length) (hQ:∀q∈qs,QR q) (h2:tx.length≤1000) (h3:qs.length≤1000):AC Tryz.prog 49 [PA sh ch tx qs] (.pure (.tup [AA sh ch tx (qs.map ofX) true,.val (.bool true)])):=by
 refine AC.of_body TTok Tryz.func49 rfl (enter_of Tryz.func49 (by kernel_rfl) (by kernel_rfl)) (noid1 (PA_noid _ _ _ _)) (.tup _ (noid2 (AA_noid _ _ _ _ _) (.val _))) (nbq rfl) ?_;have h8:=hv.1;have hC:=Count_ok sh (by omega);rw[CNT_good hv]at hC;have h1c:=CloneI_ok sh (by omega);have h2c:=CloneR_ok tx (by omega);have l2:=irows_len .i32 tx;have l3:(qs.map rowN).length=qs.length:=List.length_map _;unfold kinds at hk;unfold PA;cases ch with
 | true =>
  obtain⟨k1,k2⟩:=hk;generalize hcn:cntI sh=cn at *;conv=>whnf
  refine⟨_,hC,?_⟩;conv=>whnf
  refine nTq (by omega) ?_;conv=>whnf
  refine oFq (by omega) ?_;conv=>whnf
  refine⟨_,h1c,?_⟩;conv=>whnf
  refine⟨_,h2c,?_⟩;conv=>whnf
  refine⟨by kernel_rfl,?_⟩;conv=>whnf
  refine SW.nilC 456 3 3 rfl rfl ?_;refine SW.loopM TTok (fun i:Nat=>[(2,.lp 8 0),(6,.lp 456 0),(65,.sl 3 (qs.map rowN) false),(66,.val (.int .i64 ((qs.map rowN).length:Int))),(67,.val (.int .i64 (i:Int)))])
   (fun i=>[(8,.cells 5 [[.sl 0 [] true,.val (.bool false),.sl 0 [] true,.sl 0 [] true,.val (.bool false)]]),(456,.cells 5 [[.sl 1 (irows .i64 sh) false,.val (.bool true),.sl 1 (irows .i32 tx) false,.own 504 0 i,.val (.bool true)]]),(504,.cells 3 (((qs.take i).map ofX).map rowX))]) 512 87 rfl (fun i=>qs.length-i) (fun i=>i≤qs.length) 0 [] (Nat.zero_le _)
   ⟨q2r,q2r,q2r,q2r,q2r,trivial⟩ ⟨q3r,q3r,⟨rfl,.inl ⟨rfl,rowsX_noid _⟩⟩,trivial⟩ rfl ?_
  intro i hi;have hi:i≤qs.length:=hi;have hql:(((qs.take i).map ofX).map rowX).length=i:=by rw[List.length_map,List.length_map,List.length_take];omega
  by_cases hlt:i<qs.length
  ·have eI:IntKind.i64.wrap ((i:Int)+1)=((i+1:Nat):Int):=by rw[IntWalk.i64_in _ (by omega)];omega
   have hg:(qs.map rowN)[i]?=some [.val (.bool (decide (qs[i].num<0))),.val (.string (decS qs[i].num.natAbs)),.val (.string (decS qs[i].den))]:=by rw[List.getElem?_map,List.getElem?_eq_getElem hlt];rfl
   have hF:=(hQ _ (List.getElem_mem hlt)).of;have hsn:((qs.take i).map ofX).map rowX++[rowX (ofX qs[i])]=((qs.take (i+1)).map ofX).map rowX:=by
    rw[take_snoc hlt,List.map_append,List.map_append];rfl
   have htk:((((qs.take i).map ofX).map rowX).drop 0).take i=((qs.take i).map ofX).map rowX:=by rw[List.drop_zero,List.take_of_length_le (by omega)]
   unfold RA RN at hF;conv=>whnf
   refine oTq (by omega) ?_;conv=>whnf
   refine⟨_,⟨by omega,hg⟩,?_⟩;conv=>whnf
   refine⟨_,hF,?_⟩;conv=>whnf
   refine⟨⟨by show 0+i≤_;omega,by show (i+1)*56≤140737488355328;omega,nbq rfl⟩,?_⟩;conv=>whnf
   refine⟨i+1,[(504,664)],(by show qs.length-(i+1)<qs.length-i;omega),hlt,⟨q2r,q2r,q2r,q2r,⟨valI eI,rfl⟩,trivial⟩,⟨q3r,q3r,⟨rfl,.inl ⟨celE ?_,rowsX_noid _⟩⟩,trivial⟩,rfl⟩;rw[←hsn];show List.take i (List.drop 0 (((qs.take i).map ofX).map rowX))++[_]=_;rw[htk];rfl
  ·have hie:i=qs.length:=by omega
   rw[hie,List.take_length]at hql;rw[hie,List.take_length];conv=>whnf
   refine oFq (by omega) ?_;conv=>whnf
   refine⟨by show 0+qs.length≤_;omega,?_⟩;have e:List.take qs.length (List.drop 0 ((qs.map ofX).map rowX))=(qs.map ofX).map rowX:=by rw[List.drop_zero,List.take_of_length_le (by omega)]
   show AV.tup [AV.agg [_,_,_,AV.sl 3 (List.take qs.length (List.drop 0 ((qs.map ofX).map rowX))) false,_],_]=_;rw[e];rfl
 | false =>
  obtain⟨k1,k2⟩:=hk;generalize hcn:cntI sh=cn at *;conv=>whnf
  refine⟨_,hC,?_⟩;conv=>whnf
  refine nTq (by omega) ?_;conv=>whnf
  refine oFq (by omega) ?_;conv=>whnf
  refine⟨_,h1c,?_⟩;conv=>whnf
  refine⟨_,h2c,?_⟩;conv=>whnf
  refine⟨by kernel_rfl,?_⟩;conv=>whnf
  refine SW.nilC 456 3 3 rfl rfl ?_;refine SW.loopM TTok (fun i:Nat=>[(2,.lp 8 0),(6,.lp 456 0),(65,.sl 3 (qs.map rowN) false),(66,.val (.int .i64 ((qs.map rowN).length:Int))),(67,.val (.int .i64 (i:Int)))])
   (fun i=>[(8,.cells 5 [[.sl 0 [] true,.val (.bool false),.sl 0 [] true,.sl 0 [] true,.val (.bool false)]]),(456,.cells 5 [[.sl 1 (irows .i64 sh) false,.val (.bool false),.sl 1 (irows .i32 tx) false,.own 504 0 i,.val (.bool true)]]),(504,.cells 3 (((qs.take i).map ofX).map rowX))]) 512 87 rfl (fun i=>qs.length-i) (fun i=>i≤qs.length) 0 [] (Nat.zero_le _)
   ⟨q2r,q2r,q2r,q2r,q2r,trivial⟩ ⟨q3r,q3r,⟨rfl,.inl ⟨rfl,rowsX_noid _⟩⟩,trivial⟩ rfl ?_
  intro i hi;have hi:i≤qs.length:=hi;have hql:(((qs.take i).map ofX).map rowX).length=i:=by rw[List.length_map,List.length_map,List.length_take];omega
  by_cases hlt:i<qs.length
  ·have eI:IntKind.i64.wrap ((i:Int)+1)=((i+1:Nat):Int):=by rw[IntWalk.i64_in _ (by omega)];omega
   have hg:(qs.map rowN)[i]?=some [.val (.bool (decide (qs[i].num<0))),.val (.string (decS qs[i].num.natAbs)),.val (.string (decS qs[i].den))]:=by rw[List.getElem?_map,List.getElem?_eq_getElem hlt];rfl
   have hF:=(hQ _ (List.getElem_mem hlt)).of;have hsn:((qs.take i).map ofX).map rowX++[rowX (ofX qs[i])]=((qs.take (i+1)).map ofX).map rowX:=by
    rw[take_snoc hlt,List.map_append,List.map_append];rfl
   have htk:((((qs.take i).map ofX).map rowX).drop 0).take i=((qs.take i).map ofX).map rowX:=by rw[List.drop_zero,List.take_of_length_le (by omega)]
   unfold RA RN at hF;conv=>whnf
   refine oTq (by omega) ?_;conv=>whnf
   refine⟨_,⟨by omega,hg⟩,?_⟩;conv=>whnf
   refine⟨_,hF,?_⟩;conv=>whnf
   refine⟨⟨by show 0+i≤_;omega,by show (i+1)*56≤140737488355328;omega,nbq rfl⟩,?_⟩;conv=>whnf
   refine⟨i+1,[(504,664)],(by show qs.length-(i+1)<qs.length-i;omega),hlt,⟨q2r,q2r,q2r,q2r,⟨valI eI,rfl⟩,trivial⟩,⟨q3r,q3r,⟨rfl,.inl ⟨celE ?_,rowsX_noid _⟩⟩,trivial⟩,rfl⟩;rw[←hsn];show List.take i (List.drop 0 (((qs.take i).map ofX).map rowX))++[_]=_;rw[htk];rfl
  ·have hie:i=qs.length:=by omega
   rw[hie,List.take_length]at hql;rw[hie,List.take_length];conv=>whnf
   refine oFq (by omega) ?_;conv=>whnf
   refine⟨by show 0+qs.length≤_;omega,?_⟩;have e:List.take qs.length (List.drop 0 ((qs.map ofX).map rowX))=(qs.map ofX).map rowX:=by rw[List.drop_zero,List.take_of_length_le (by omega)]
   show AV.tup [AV.agg [_,_,_,AV.sl 3 (List.take qs.length (List.drop 0 ((qs.map ofX).map rowX))) false,_],_]=_;rw[e];rfl
theorem LOf_ok (sh:List Int) (ch:Bool) (tx:List Int) (qs:List Rat) (hv:vS sh) (hk:kinds sh ch tx.length qs.length) (hQ:∀q∈qs,QR q) (h2:tx.length≤1000) (h3:qs.length≤1000):AC Tryz.prog 18 [PA sh ch tx qs] (.pure (AA sh ch tx (qs.map ofX) true)):=by
 refine AC.of_body TTok Tryz.func18 rfl (enter_of Tryz.func18 (by kernel_rfl) (by kernel_rfl)) (noid1 (PA_noid _ _ _ _)) (AA_noid _ _ _ _ _) (nbq rfl) ?_;have h:=AOf_ok sh ch tx qs hv hk hQ h2 h3;generalize (qs.map ofX)=X at *;unfold PA AA at *;(conv=>whnf);refine⟨_,‹_›,?_⟩;(conv=>whnf);exact rfl
end
section
theorem PSame_ok (sh:List Int) (ch:Bool) (tx:List Int) (qs:List Rat) (h1:sh.length≤1000) (h2:tx.length≤100000) (h3:qs.length≤100000):AC Tryz.prog 58 [PA sh ch tx qs,PA sh ch tx qs] (.pure (.val (.bool true))):=by
 refine AC.of_body TTok Tryz.func58 rfl (enter_of Tryz.func58 (by kernel_rfl) (by kernel_rfl)) (noid2 (PA_noid _ _ _ _) (PA_noid _ _ _ _)) (.val _) (nbq rfl) ?_;have hI:=IntsSame_ok sh sh (by omega) (by omega);rw[decide_eq_true rfl]at hI;have hR:=Runes_ok tx tx (by omega) (by omega);rw[decide_eq_true rfl]at hR;have l3:(qs.map rowN).length=qs.length:=List.length_map _;have hbb:(!(ch==ch))=false:=by cases ch<;>rfl
 unfold PA;conv=>whnf
 refine cFq (hbb) ?_;conv=>whnf
 refine⟨_,hI,?_⟩;conv=>whnf
 refine⟨_,hR,?_⟩;conv=>whnf
 refine nTq (by omega) ?_;conv=>whnf
 refine SW.loopM TTok (fun i:Nat=>[(2,.lp 0 0),(3,.lp 8 0),(5,.val (.int .i64 (i:Int)))]) (fun i=>[(0,.cells 4 [[.sl 1 (irows .i64 sh) false,.val (.bool ch),.sl 1 (irows .i32 tx) false,.sl 3 (qs.map rowN) false]]),(8,.cells 4 [[.sl 1 (irows .i64 sh) false,.val (.bool ch),.sl 1 (irows .i32 tx) false,.sl 3 (qs.map rowN) false]])]) 272 54 rfl (fun i=>qs.length-i) (fun i=>i≤qs.length) 0 [] (Nat.zero_le _)
  ⟨q2r,q2r,q2r,trivial⟩ ⟨q3r,q3r,trivial⟩ rfl ?_
 intro i hi;have hi:i≤qs.length:=hi;by_cases hlt:i<qs.length
 ·have eI:IntKind.i64.wrap ((i:Int)+1)=((i+1:Nat):Int):=by rw[IntWalk.i64_in _ (by omega)];omega
  have hg:(qs.map rowN)[i]?=some [.val (.bool (decide (qs[i].num<0))),.val (.string (decS qs[i].num.natAbs)),.val (.string (decS qs[i].den))]:=by rw[List.getElem?_map,List.getElem?_eq_getElem hlt];rfl
  conv=>whnf
  refine oTq (by omega) ?_;conv=>whnf
  refine⟨_,⟨by omega,hg⟩,?_⟩;conv=>whnf
  refine⟨_,⟨by omega,hg⟩,?_⟩;conv=>whnf
  refine⟨by kernel_rfl,?_⟩;conv=>whnf
  refine cFq (RN_selfn _ _ _) ?_;conv=>whnf
  refine⟨i+1,[],(by show qs.length-(i+1)<qs.length-i;omega),hlt,⟨q2r,q2r,⟨valI eI,rfl⟩,trivial⟩,⟨q3r,q3r,trivial⟩,rfl⟩
 ·conv=>whnf
  refine oFq (by omega) ?_;(conv=>whnf);exact rfl
def fitS (sa sb:List Int) (la lb:Nat):List Int×Bool×Bool×Int :=
 if sa=sb then (sa,false,false,0)
 else if la=1∧(lb≠1∨sa.length<sb.length) then (sb,true,false,0)
 else if lb=1 then (sa,false,true,0)
 else if sa.length≠sb.length then ([],false,false,23) else ([],false,false,24)
def FV (x:List Int×Bool×Bool×Int):AV:=.tup [.sl 1 (irows .i64 x.1) false,.val (.bool x.2.1),.val (.bool x.2.2.1),.val (.int .i64 x.2.2.2)]
theorem FV_noid (x:List Int×Bool×Bool×Int):NoId (FV x):=.tup _ (noidF (noid_sl _ _ _) (.val _) (.val _) (.val _))
theorem le_tup4 {a b c d a':AV} (h1:AVle a a'):AVle (.tup [a,b,c,d]) (.tup [a',b,c,d]) :=
 .tup _ _ rfl (fun i x y hx hy=>by
  match i with
  | 0=>cases hx;cases hy;exact h1
  | 1=>cases hx;cases hy;exact .refl _
  | 2=>cases hx;cases hy;exact .refl _
  | 3=>cases hx;cases hy;exact .refl _
  | (i+4)=>cases hx)
theorem FV_err {P:Program} {f:FuncId} {args:List AV} {e:Int} (h:AC P f args (.pure (.tup [.sl 0 [] true,.val (.bool false),.val (.bool false),.val (.int .i64 e)]))):AC P f args (.pure (FV ([],false,false,e))) :=
 AC.le_res h (le_tup4 (le_nil 1)) (FV_noid _)
theorem FE_noid (e:Int):NoId (.tup [.sl 0 [] true,.val (.bool false),.val (.bool false),.val (.int .i64 e)]):=.tup _ (noidF (.sl _ _ _ (fun r hr=>nomatch hr)) (.val _) (.val _) (.val _))
section
variable (sa sb:List Int) (ca cb:Bool) (ta tb:List Int)
theorem Fit_ok (na nb:List (Option (Rat×Nat))) (h1:sa.length≤1000) (h2:sb.length≤1000) (h3:ta.length≤100000) (h4:tb.length≤100000) (h5:na.length≤100000) (h6:nb.length≤100000) :
  AC Tryz.prog 110 [AA sa ca ta na true,AA sb cb tb nb true] (.pure (FV (fitS sa sb (ta.length+na.length) (tb.length+nb.length)))):=by
 have hLa:=ALen_ok sa ca ta na true (by omega) (by omega);have hLb:=ALen_ok sb cb tb nb true (by omega) (by omega);have hSa:=Shape_ok sa ca ta na (by omega);have hSb:=Shape_ok sb cb tb nb (by omega);have hRa:=Rank_ok sa ca ta na (by omega);have hRb:=Rank_ok sb cb tb nb (by omega);have hE:=ShSame_ok sa sb (by omega) (by omega);have nd:=noid2 (AA_noid sa ca ta na true) (AA_noid sb cb tb nb true);generalize ta.length+na.length=la at *;generalize tb.length+nb.length=lb at *;unfold fitS;unfold AA at *;by_cases hs:sa=sb
 ·rw[if_pos hs];rw[decide_eq_true hs]at hE;refine AC.of_body TTok Tryz.func110 rfl (enter_of Tryz.func110 (by kernel_rfl) (by kernel_rfl)) nd (FV_noid _) (nbq rfl) ?_;repeat ((conv=>whnf);(first | refine⟨_,‹_›,?_⟩|refine⟨by kernel_rfl,?_⟩|exact rfl))
 ·rw[if_neg hs];rw[decide_eq_false hs]at hE;by_cases hla:la=1
  ·by_cases hx:lb≠1∨sa.length<sb.length
   ·rw[if_pos ⟨hla,hx⟩];refine AC.of_body TTok Tryz.func110 rfl (enter_of Tryz.func110 (by kernel_rfl) (by kernel_rfl)) nd (FV_noid _) (nbq rfl) ?_;by_cases hlb:lb=1
    ·have hx':=hx.resolve_left (fun h=>h hlb);repeat ((conv=>whnf);(first | refine⟨_,‹_›,?_⟩|refine⟨by kernel_rfl,?_⟩|exact rfl | refine oTq (by omega) ?_ | refine nTq (by omega) ?_))
    ·repeat ((conv=>whnf);(first | refine⟨_,‹_›,?_⟩|refine⟨by kernel_rfl,?_⟩|exact rfl | refine oTq (by omega) ?_ | refine nFq (by omega) ?_))
   ·rw[if_neg (fun h=>hx h.2)];have hlb:lb=1:=Decidable.byContradiction fun h=>hx (.inl h);rw[if_pos hlb];have hx':¬sa.length<sb.length:=fun h=>hx (.inr h);refine AC.of_body TTok Tryz.func110 rfl (enter_of Tryz.func110 (by kernel_rfl) (by kernel_rfl)) nd (FV_noid _) (nbq rfl) ?_;repeat ((conv=>whnf);(first | refine⟨_,‹_›,?_⟩|refine⟨by kernel_rfl,?_⟩|exact rfl | refine oTq (by omega) ?_ | refine oFq (by omega) ?_ | refine nTq (by omega) ?_))
  ·rw[if_neg (fun h=>hla h.1)];by_cases hlb:lb=1
   ·rw[if_pos hlb];refine AC.of_body TTok Tryz.func110 rfl (enter_of Tryz.func110 (by kernel_rfl) (by kernel_rfl)) nd (FV_noid _) (nbq rfl) ?_;repeat ((conv=>whnf);(first | refine⟨_,‹_›,?_⟩|refine⟨by kernel_rfl,?_⟩|exact rfl | refine oTq (by omega) ?_ | refine oFq (by omega) ?_))
   ·rw[if_neg hlb];by_cases hr:sa.length≠sb.length
    ·rw[if_pos hr];refine FV_err ?_;refine AC.of_body TTok Tryz.func110 rfl (enter_of Tryz.func110 (by kernel_rfl) (by kernel_rfl)) nd (FE_noid _) (nbq rfl) ?_;repeat ((conv=>whnf);(first | refine⟨_,‹_›,?_⟩|refine⟨by kernel_rfl,?_⟩|exact rfl | refine oFq (by omega) ?_ | refine nFq (by omega) ?_))
    ·rw[if_neg hr];refine FV_err ?_;refine AC.of_body TTok Tryz.func110 rfl (enter_of Tryz.func110 (by kernel_rfl) (by kernel_rfl)) nd (FE_noid _) (nbq rfl) ?_;repeat ((conv=>whnf);(first | refine⟨_,‹_›,?_⟩|refine⟨by kernel_rfl,?_⟩|exact rfl | refine oFq (by omega) ?_ | refine nTq (by omega) ?_))
theorem RFit_ok (na nb:List Rat) (h1:sa.length≤1000) (h2:sb.length≤1000) (h3:ta.length≤100000) (h4:tb.length≤100000) (h5:na.length≤100000) (h6:nb.length≤100000) :
  AC Tryz.prog 117 [PA sa ca ta na,PA sb cb tb nb] (.pure (FV (fitS sa sb (ta.length+na.length) (tb.length+nb.length)))):=by
 have hLa:=RLen_ok sa ca ta na (by omega) (by omega);have hLb:=RLen_ok sb cb tb nb (by omega) (by omega);have hE:=IntsSame_ok sa sb (by omega) (by omega);have nd:=noid2 (PA_noid sa ca ta na) (PA_noid sb cb tb nb);have l1:=irows_len .i64 sa;have l2:=irows_len .i64 sb;generalize ta.length+na.length=la at *;generalize tb.length+nb.length=lb at *;unfold fitS;unfold PA at *;by_cases hs:sa=sb
 ·rw[if_pos hs];rw[decide_eq_true hs]at hE;refine AC.of_body TTok Tryz.func117 rfl (enter_of Tryz.func117 (by kernel_rfl) (by kernel_rfl)) nd (FV_noid _) (nbq rfl) ?_;(conv=>whnf);refine⟨_,‹_›,?_⟩;(conv=>whnf);exact rfl
 ·rw[if_neg hs];rw[decide_eq_false hs]at hE;by_cases hla:la=1
  ·by_cases hx:lb≠1∨sa.length<sb.length
   ·rw[if_pos ⟨hla,hx⟩];refine AC.of_body TTok Tryz.func117 rfl (enter_of Tryz.func117 (by kernel_rfl) (by kernel_rfl)) nd (FV_noid _) (nbq rfl) ?_;by_cases hlb:lb=1
    ·have hx':=hx.resolve_left (fun h=>h hlb);repeat ((conv=>whnf);(first | refine⟨_,‹_›,?_⟩|refine⟨by kernel_rfl,?_⟩|exact rfl | refine oTq (by omega) ?_ | refine nTq (by omega) ?_))
    ·repeat ((conv=>whnf);(first | refine⟨_,‹_›,?_⟩|refine⟨by kernel_rfl,?_⟩|exact rfl | refine oTq (by omega) ?_ | refine nFq (by omega) ?_))
   ·rw[if_neg (fun h=>hx h.2)];have hlb:lb=1:=Decidable.byContradiction fun h=>hx (.inl h);rw[if_pos hlb];have hx':¬sa.length<sb.length:=fun h=>hx (.inr h);refine AC.of_body TTok Tryz.func117 rfl (enter_of Tryz.func117 (by kernel_rfl) (by kernel_rfl)) nd (FV_noid _) (nbq rfl) ?_;repeat ((conv=>whnf);(first | refine⟨_,‹_›,?_⟩|refine⟨by kernel_rfl,?_⟩|exact rfl | refine oTq (by omega) ?_ | refine oFq (by omega) ?_ | refine nTq (by omega) ?_))
  ·rw[if_neg (fun h=>hla h.1)];by_cases hlb:lb=1
   ·rw[if_pos hlb];refine AC.of_body TTok Tryz.func117 rfl (enter_of Tryz.func117 (by kernel_rfl) (by kernel_rfl)) nd (FV_noid _) (nbq rfl) ?_;repeat ((conv=>whnf);(first | refine⟨_,‹_›,?_⟩|refine⟨by kernel_rfl,?_⟩|exact rfl | refine oTq (by omega) ?_ | refine oFq (by omega) ?_))
   ·rw[if_neg hlb];by_cases hr:sa.length≠sb.length
    ·rw[if_pos hr];refine FV_err ?_;refine AC.of_body TTok Tryz.func117 rfl (enter_of Tryz.func117 (by kernel_rfl) (by kernel_rfl)) nd (FE_noid _) (nbq rfl) ?_;repeat ((conv=>whnf);(first | refine⟨_,‹_›,?_⟩|refine⟨by kernel_rfl,?_⟩|exact rfl | refine oFq (by omega) ?_ | refine nFq (by omega) ?_))
    ·rw[if_neg hr];refine FV_err ?_;refine AC.of_body TTok Tryz.func117 rfl (enter_of Tryz.func117 (by kernel_rfl) (by kernel_rfl)) nd (FE_noid _) (nbq rfl) ?_;repeat ((conv=>whnf);(first | refine⟨_,‹_›,?_⟩|refine⟨by kernel_rfl,?_⟩|exact rfl | refine oFq (by omega) ?_ | refine nTq (by omega) ?_))
end
end
section
def isOne (c:Int):Prop:=c=43∨c=45∨c=215∨c=247∨c=8968∨c=8970∨c=124∨c=42∨c=33∨c=126∨c=9055∨c=9675
instance (c:Int):Decidable (isOne c):=inferInstanceAs (Decidable (_∨_∨_∨_∨_∨_∨_∨_∨_∨_∨_∨_))
def withQ (x:Rat) (most:Int):Rat×Int:=if most<(qLimbs x.num x.den:Nat) then (0,26) else (x,0)
def notQ (x:Rat):Rat×Int:=if x=0 then (1,0) else if x=1 then (0,0) else (0,22)
end
section
def fac:Nat→Nat
 | 0=>1
 | i+1=>fac i*(i+1)
def natQm (q:Rat):Prop:=q.den=1∧0≤q.num
instance (q:Rat):Decidable (natQm q):=inferInstanceAs (Decidable (_∧_))
def facQ (x:Rat) (most:Int):Rat×Int:=if natQm x then withQ (((fac x.num.toNat:Nat):Int):Rat) most else (0,22)
end
section
def monoQ (c:Int) (x:Rat) (most:Int):Rat×Int :=
 if c=43 then withQ x most
 else if c=45 then withQ (-x) most
 else if c=215 then withQ ((sigW x.num:Int):Rat) most
 else if c=247 then (if x=0 then (0,22) else withQ (1/x) most)
 else if c=8968 then withQ ((x.ceil:Int):Rat) most
 else if c=8970 then withQ ((x.floor:Int):Rat) most
 else if c=124 then withQ (if x.num<0 then -x else x) most
 else if c=33 then facQ x most
 else if c=126 then notQ x
 else if isOne c then (0,22) else (0,20)
end
section
end
section
def firstE:List (Rat×Int)→Int
 | []=>0
 | x :: l=>if x.2=0 then firstE l else x.2
theorem firstE_zero {l:List (Rat×Int)} (h:∀x∈l,x.2=0):firstE l=0:=by
 induction l with
 | nil=>rfl
 | cons x l ih =>
  show (if x.2=0 then firstE l else x.2)=0;rw[if_pos (h x List.mem_cons_self),ih (fun y hy=>h y (List.mem_cons_of_mem _ hy))]
theorem firstE_at {l:List (Rat×Int)} {i:Nat} (hi:i<l.length) (h:∀x∈l.take i,x.2=0) (hn:l[i].2≠0):firstE l=l[i].2:=by
 induction l generalizing i with
 | nil=>exact absurd hi (Nat.not_lt_zero _)
 | cons x l ih =>
  show (if x.2=0 then firstE l else x.2)=_;cases i with
  | zero =>
   have hn:x.2≠0:=hn;rw[if_neg hn];rfl
  | succ i =>
   rw[if_pos (h x (by simp))];exact ih (by simpa using hi) (fun y hy=>h y (by simp[hy])) hn
def resA (sh:List Int) (E:Int) (l:List (Option (Rat×Nat))):AV:=if E=0 then .tup [AA sh false [] l true,.val (.int .i64 0)] else .tup [AA [] false [] [] false,.val (.int .i64 E)]
theorem resA_err {P:Program} {f:FuncId} {args:List AV} {e:Int} (sh:List Int) (l:List (Option (Rat×Nat))) (he:e≠0) (h:AC P f args (.pure (.tup [AZ,.val (.int .i64 e)]))):AC P f args (.pure (resA sh e l)):=by
 unfold resA;rw[if_neg he];exact AC.le_res h (.tup2 AZ_le (.refl _)) (.tup _ (noid2 (AA_noid _ _ _ _ _) (.val _)))
theorem AZt_noid (e:Int):NoId (.tup [AZ,.val (.int .i64 e)]):=.tup _ (noid2 AZ_noid (.val _))
theorem set_mid {α:Type} (a:List α) (x y:α) (b:List α):(a++x :: b).set a.length y=a++y :: b:=by
 rw[List.set_append_right _ _ (Nat.le_refl _),Nat.sub_self];rfl
section
variable (c:Int) (sh:List Int) (ch:Bool) (tx:List Int) (qs:List Rat) (most:Int)
def oneE:Int:=if isOne c then (if ch=true∧0<tx.length+qs.length then 22 else firstE (qs.map fun q=>monoQ c q most)) else 20
end
end
section
theorem pick_all {α β:Type} [Inhabited β] {l:List α} {p:α→β→Prop} (h:∀a∈l,∃ b,p a b):∃ f:α→β,∀a∈l,p a (f a):=by
 classical
 exact⟨fun a=>if ha:a∈l then Classical.choose (h a ha) else default,fun a ha=>by show p a (if ha:a∈l then Classical.choose (h a ha) else default);rw[dif_pos ha];exact Classical.choose_spec (h a ha)⟩
end
section
def resP (sh:List Int) (E:Int) (l:List Rat):AV:=if E=0 then .tup [PA sh false [] l,.val (.int .i64 0)] else .tup [PA [] false [] [],.val (.int .i64 E)]
theorem resP_err {P:Program} {f:FuncId} {args:List AV} {e:Int} (sh:List Int) (l:List Rat) (he:e≠0) (h:AC P f args (.pure (.tup [PZ,.val (.int .i64 e)]))):AC P f args (.pure (resP sh e l)):=by
 unfold resP;rw[if_neg he];exact AC.le_res h (.tup2 PZ_le (.refl _)) (.tup _ (noid2 (PA_noid _ _ _ _) (.val _)))
theorem PZt_noid (e:Int):NoId (.tup [PZ,.val (.int .i64 e)]):=.tup _ (noid2 PZ_noid (.val _))
theorem good_noid (sh:List Int) (l:List Rat):NoId (.tup [.agg [.sl 1 (irows .i64 sh) false,.val (.bool false),.sl 0 [] true,.sl 3 (l.map rowN) false],.val (.int .i64 0)]) :=
 .tup _ (noid2 (.agg _ (noidF (noid_sl _ _ _) (.val _) (.sl _ _ _ (fun r hr=>nomatch hr)) (slN_noid _))) (.val _))
end
section
def isCmp (c:Int):Prop:=c=60∨c=8804∨c=61∨c=8805∨c=62∨c=8800
instance (c:Int):Decidable (isCmp c):=inferInstanceAs (Decidable (_∨_∨_∨_∨_∨_))
def isJdg (c:Int):Prop:=c=8743∨c=8744∨c=9074∨c=9073
instance (c:Int):Decidable (isJdg c):=inferInstanceAs (Decidable (_∨_∨_∨_))
def isRec (c:Int):Prop:=c=43∨c=45∨c=215∨c=247∨c=8968∨c=8970∨c=124∨c=42∨c=33∨c=9055∨c=9675
instance (c:Int):Decidable (isRec c):=inferInstanceAs (Decidable (_∨_∨_∨_∨_∨_∨_∨_∨_∨_∨_))
def isTwo (c:Int):Prop:=isRec c∨isCmp c∨isJdg c
instance (c:Int):Decidable (isTwo c):=inferInstanceAs (Decidable (_∨_))
theorem compares_ok (c:Int):AC Tryz.prog 88 [.val (.int .i32 c)] (.pure (.val (.bool (decide (isCmp c))))):=by
 refine AC.of_body TTok Tryz.func88 rfl (enter_of Tryz.func88 (by kernel_rfl) (by kernel_rfl)) (noid1 (.val _)) (.val _) (nbq rfl) ?_;by_cases h0:c=60
 ·subst h0;rw[decide_eq_true (show isCmp 60 by decide)];(conv=>whnf);exact rfl
 by_cases h1:c=8804
 ·subst h1;rw[decide_eq_true (show isCmp 8804 by decide)];(conv=>whnf);exact rfl
 by_cases h2:c=61
 ·subst h2;rw[decide_eq_true (show isCmp 61 by decide)];(conv=>whnf);exact rfl
 by_cases h3:c=8805
 ·subst h3;rw[decide_eq_true (show isCmp 8805 by decide)];(conv=>whnf);exact rfl
 by_cases h4:c=62
 ·subst h4;rw[decide_eq_true (show isCmp 62 by decide)];(conv=>whnf);exact rfl
 by_cases h5:c=8800
 ·subst h5;rw[decide_eq_true (show isCmp 8800 by decide)];(conv=>whnf);exact rfl
 have e0:(c==60)=false:=beq_false_of_ne h0;have e1:(c==8804)=false:=beq_false_of_ne h1;have e2:(c==61)=false:=beq_false_of_ne h2;have e3:(c==8805)=false:=beq_false_of_ne h3;have e4:(c==62)=false:=beq_false_of_ne h4;have e5:(c==8800)=false:=beq_false_of_ne h5;rw[decide_eq_false (show ¬isCmp c by unfold isCmp;omega)];conv=>whnf
 refine cFq (e0) ?_;conv=>whnf
 refine cFq (e1) ?_;conv=>whnf
 refine cFq (e2) ?_;conv=>whnf
 refine cFq (e3) ?_;conv=>whnf
 refine cFq (e4) ?_;conv=>whnf
 refine cFq (e5) ?_;(conv=>whnf);exact rfl
theorem judges_ok (c:Int):AC Tryz.prog 89 [.val (.int .i32 c)] (.pure (.val (.bool (decide (isJdg c))))):=by
 refine AC.of_body TTok Tryz.func89 rfl (enter_of Tryz.func89 (by kernel_rfl) (by kernel_rfl)) (noid1 (.val _)) (.val _) (nbq rfl) ?_;by_cases h0:c=8743
 ·subst h0;rw[decide_eq_true (show isJdg 8743 by decide)];(conv=>whnf);exact rfl
 by_cases h1:c=8744
 ·subst h1;rw[decide_eq_true (show isJdg 8744 by decide)];(conv=>whnf);exact rfl
 by_cases h2:c=9074
 ·subst h2;rw[decide_eq_true (show isJdg 9074 by decide)];(conv=>whnf);exact rfl
 by_cases h3:c=9073
 ·subst h3;rw[decide_eq_true (show isJdg 9073 by decide)];(conv=>whnf);exact rfl
 have e0:(c==8743)=false:=beq_false_of_ne h0;have e1:(c==8744)=false:=beq_false_of_ne h1;have e2:(c==9074)=false:=beq_false_of_ne h2;have e3:(c==9073)=false:=beq_false_of_ne h3;rw[decide_eq_false (show ¬isJdg c by unfold isJdg;omega)];conv=>whnf
 refine cFq (e0) ?_;conv=>whnf
 refine cFq (e1) ?_;conv=>whnf
 refine cFq (e2) ?_;conv=>whnf
 refine cFq (e3) ?_;(conv=>whnf);exact rfl
theorem reckons_ok (c:Int):AC Tryz.prog 87 [.val (.int .i32 c)] (.pure (.val (.bool (decide (isRec c))))):=by
 refine AC.of_body TTok Tryz.func87 rfl (enter_of Tryz.func87 (by kernel_rfl) (by kernel_rfl)) (noid1 (.val _)) (.val _) (nbq rfl) ?_;by_cases h0:c=43
 ·subst h0;rw[decide_eq_true (show isRec 43 by decide)];(conv=>whnf);exact rfl
 by_cases h1:c=45
 ·subst h1;rw[decide_eq_true (show isRec 45 by decide)];(conv=>whnf);exact rfl
 by_cases h2:c=215
 ·subst h2;rw[decide_eq_true (show isRec 215 by decide)];(conv=>whnf);exact rfl
 by_cases h3:c=247
 ·subst h3;rw[decide_eq_true (show isRec 247 by decide)];(conv=>whnf);exact rfl
 by_cases h4:c=8968
 ·subst h4;rw[decide_eq_true (show isRec 8968 by decide)];(conv=>whnf);exact rfl
 by_cases h5:c=8970
 ·subst h5;rw[decide_eq_true (show isRec 8970 by decide)];(conv=>whnf);exact rfl
 by_cases h6:c=124
 ·subst h6;rw[decide_eq_true (show isRec 124 by decide)];(conv=>whnf);exact rfl
 by_cases h7:c=42
 ·subst h7;rw[decide_eq_true (show isRec 42 by decide)];(conv=>whnf);exact rfl
 by_cases h8:c=33
 ·subst h8;rw[decide_eq_true (show isRec 33 by decide)];(conv=>whnf);exact rfl
 by_cases h9:c=9055
 ·subst h9;rw[decide_eq_true (show isRec 9055 by decide)];(conv=>whnf);exact rfl
 by_cases h10:c=9675
 ·subst h10;rw[decide_eq_true (show isRec 9675 by decide)];(conv=>whnf);exact rfl
 have e0:(c==43)=false:=beq_false_of_ne h0;have e1:(c==45)=false:=beq_false_of_ne h1;have e2:(c==215)=false:=beq_false_of_ne h2;have e3:(c==247)=false:=beq_false_of_ne h3;have e4:(c==8968)=false:=beq_false_of_ne h4;have e5:(c==8970)=false:=beq_false_of_ne h5;have e6:(c==124)=false:=beq_false_of_ne h6;have e7:(c==42)=false:=beq_false_of_ne h7;have e8:(c==33)=false:=beq_false_of_ne h8;have e9:(c==9055)=false:=beq_false_of_ne h9;have e10:(c==9675)=false:=beq_false_of_ne h10;rw[decide_eq_false (show ¬isRec c by unfold isRec;omega)];conv=>whnf
 refine cFq (e0) ?_;conv=>whnf
 refine cFq (e1) ?_;conv=>whnf
 refine cFq (e2) ?_;conv=>whnf
 refine cFq (e3) ?_;conv=>whnf
 refine cFq (e4) ?_;conv=>whnf
 refine cFq (e5) ?_;conv=>whnf
 refine cFq (e6) ?_;conv=>whnf
 refine cFq (e7) ?_;conv=>whnf
 refine cFq (e8) ?_;conv=>whnf
 refine cFq (e9) ?_;conv=>whnf
 refine cFq (e10) ?_;(conv=>whnf);exact rfl
theorem Has_ok (c:Int):AC Tryz.prog 35 [.val (.int .i32 c)] (.pure (.val (.bool (decide (isTwo c))))):=by
 refine AC.of_body TTok Tryz.func35 rfl (enter_of Tryz.func35 (by kernel_rfl) (by kernel_rfl)) (noid1 (.val _)) (.val _) (nbq rfl) ?_;have hR:=reckons_ok c;have hC:=compares_ok c;have hJ:=judges_ok c;rw[show decide (isTwo c)=(decide (isRec c) || (decide (isCmp c) || decide (isJdg c))) by
  by_cases h1:isRec c
  ·rw[decide_eq_true h1,decide_eq_true (show isTwo c from .inl h1)];rfl
  ·by_cases h2:isCmp c
   ·rw[decide_eq_true h2,decide_eq_true (show isTwo c from .inr (.inl h2)),Bool.true_or,Bool.or_true]
   ·by_cases h3:isJdg c
    ·rw[decide_eq_true h3,decide_eq_true (show isTwo c from .inr (.inr h3)),Bool.or_true,Bool.or_true]
    ·rw[decide_eq_false h1,decide_eq_false h2,decide_eq_false h3,decide_eq_false (show ¬isTwo c from fun h=>h.elim h1 (fun h=>h.elim h2 h3))];rfl]
 generalize decide (isRec c)=r at *;generalize decide (isCmp c)=s at *;generalize decide (isJdg c)=t at *;cases r
 ·cases s
  ·repeat ((conv=>whnf);(first | refine⟨_,‹_›,?_⟩|exact rfl))
  ·repeat ((conv=>whnf);(first | refine⟨_,‹_›,?_⟩|exact rfl))
 ·(conv=>whnf);refine⟨_,‹_›,?_⟩;(conv=>whnf);exact rfl
theorem Signs_ok:AC Tryz.prog 115 [] (.fresh 1 (irows .i32 [43,45,215,247,8968,8970,124,42,33,9055,9675,60,8804,61,8805,62,8800,8743,8744,9074,9073])):=by
 refine AC.of_body TTok Tryz.func115 rfl (enter_of Tryz.func115 (by kernel_rfl) (by kernel_rfl)) (by intro x hx;cases hx) (fun r hr x hx=>by
  obtain⟨n,_,rfl⟩:=List.mem_map.1 hr;simp at hx;subst hx;exact .val _) (nbq rfl) ?_
 (conv=>whnf);refine⟨by kernel_rfl,?_⟩;(conv=>whnf);exact⟨nbq rfl,rfl⟩
def signs:List Int:=[43,45,215,247,8968,8970,124,42,33,9055,9675,60,8804,61,8805,62,8800,8743,8744,9074,9073]
theorem mem_signs (c:Int):isTwo c↔c∈signs:=by
 unfold signs isTwo isRec isCmp isJdg;simp only[List.mem_cons,List.not_mem_nil,or_false,or_assoc]
theorem SHas_l (c:Int) (l:List Int) (hS:AC Tryz.prog 115 [] (.fresh 1 (irows .i32 l))) (hl:l.length=21):AC Tryz.prog 76 [.val (.int .i32 c)] (.pure (.val (.bool (decide (c∈l))))):=by
 refine AC.of_body TTok Tryz.func76 rfl (enter_of Tryz.func76 (by kernel_rfl) (by kernel_rfl)) (noid1 (.val _)) (.val _) (nbq rfl) ?_;conv=>whnf
 refine⟨_,hS,?_⟩;conv=>whnf
 refine SW.loopM TTok (fun i:Nat=>[(0,.val (.int .i32 c)),(3,.own 8 0 21),(4,.val (.int .i64 i))]) (fun i=>[(8,.cells 1 (irows .i32 l))]) 32 18 rfl (fun i=>21-i) (fun i=>i≤21∧∀(j:Nat) (x:Int),j<i→l[j]?=some x→x≠c) 0 [] ⟨Nat.zero_le _,fun j x h=>absurd h (Nat.not_lt_zero j)⟩
  ⟨q2r,⟨ownE rfl (by rw[irows_len];exact hl),rfl⟩,q2r,trivial⟩ ⟨⟨rfl,.inl ⟨rfl,?_⟩⟩,trivial⟩ rfl ?_
 ·intro r hr x hx;obtain⟨n,_,rfl⟩:=List.mem_map.1 hr;simp at hx;subst hx;exact .val _
 intro i hJ;have hi:i≤21:=hJ.1;have hJ2:=hJ.2;clear hJ;conv=>whnf
 refine caseb (fun h1=>?_) (fun h1=>?_)
 ·have h1':(i:Int)<21:=of_decide_eq_true h1;have hlt:i<l.length:=by omega
  conv=>whnf
  refine⟨⟨by omega,by omega⟩,?_⟩;conv=>whnf
  refine⟨[.val (.int .i32 l[i])],by rw[show 0+((i:Int)).toNat=i by omega];exact irows_get _ _ (List.getElem?_eq_getElem hlt),?_⟩;conv=>whnf
  refine caseb (fun h2=>?_) (fun h2=>?_)
  ·have h2':l[i]=c:=eq_of_beq h2;rw[decide_eq_true (show c∈l by rw[←h2'];exact List.getElem_mem hlt)];conv=>whnf
   exact rfl
  ·have h2':l[i]≠c:=fun e=>by rw[e]at h2;exact Bool.noConfusion ((beq_self_eq_true c).symm.trans h2)
   conv=>whnf
   refine⟨i+1,[],(by show 21-(i+1)<21-i;omega),⟨(by show i+1≤21;omega),fun j x hj hx=>?_⟩,⟨q2r,q2r,⟨valI ?_,rfl⟩,trivial⟩,⟨⟨rfl,.inl ⟨rfl,?_⟩⟩,trivial⟩,rfl⟩
   ·by_cases e:j=i
    ·subst e;rw[List.getElem?_eq_getElem hlt]at hx;rw[←Option.some.inj hx];exact h2'
    ·exact hJ2 j x (by omega) hx
   ·show IntKind.i64.wrap ((i:Int)+1)=((i+1:Nat):Int);rw[IntWalk.i64_in _ (by omega)];omega
   ·intro r hr x hx;obtain⟨n,_,rfl⟩:=List.mem_map.1 hr;simp at hx;subst hx;exact .val _
 ·have h1':¬(i:Int)<21:=of_decide_eq_false h1;rw[decide_eq_false (fun hm:c∈l=>by
   obtain⟨j,hj⟩:=List.getElem?_of_mem hm;have:=(List.getElem?_eq_some_iff.1 hj).1;exact hJ2 j c (by omega) hj rfl)]
  conv=>whnf
  exact rfl
theorem SHas_ok (c:Int):AC Tryz.prog 76 [.val (.int .i32 c)] (.pure (.val (.bool (decide (isTwo c))))):=by
 rw[decide_eq_decide.2 (mem_signs c)];exact SHas_l c signs Signs_ok rfl
end
section
def cmpS (c n:Int):Bool :=
 if c=60 then decide (n<0) else if c=8804 then decide (n≤0) else if c=61 then n==0 else if c=8805 then decide (n≥0) else if c=62 then decide (n>0) else n != 0
theorem Compare_ok (c n:Int):AC Tryz.prog 136 [.val (.int .i32 c),.val (.int .i64 n)] (.pure (.val (.bool (cmpS c n)))):=by
 refine AC.of_body TTok Tryz.func136 rfl (enter_of Tryz.func136 (by kernel_rfl) (by kernel_rfl)) (noid2 (.val _) (.val _)) (.val _) (nbq rfl) ?_;by_cases h0:c=60
 ·subst h0;rw[show cmpS 60 n=decide (n<0) from rfl];(conv=>whnf);exact rfl
 by_cases h1:c=8804
 ·subst h1;rw[show cmpS 8804 n=decide (n≤0) from rfl];(conv=>whnf);exact rfl
 by_cases h2:c=61
 ·subst h2;rw[show cmpS 61 n=(n==0) from rfl];(conv=>whnf);exact rfl
 by_cases h3:c=8805
 ·subst h3;rw[show cmpS 8805 n=decide (n≥0) from rfl];(conv=>whnf);exact rfl
 by_cases h4:c=62
 ·subst h4;rw[show cmpS 62 n=decide (n>0) from rfl];(conv=>whnf);exact rfl
 have e0:(c==60)=false:=beq_false_of_ne h0;have e1:(c==8804)=false:=beq_false_of_ne h1;have e2:(c==61)=false:=beq_false_of_ne h2;have e3:(c==8805)=false:=beq_false_of_ne h3;have e4:(c==62)=false:=beq_false_of_ne h4;rw[show cmpS c n=(n != 0) by unfold cmpS;rw[if_neg h0,if_neg h1,if_neg h2,if_neg h3,if_neg h4]];conv=>whnf
 refine cFq (e0) ?_;conv=>whnf
 refine cFq (e1) ?_;conv=>whnf
 refine cFq (e2) ?_;conv=>whnf
 refine cFq (e3) ?_;conv=>whnf
 refine cFq (e4) ?_;(conv=>whnf);exact rfl
theorem SCompare_ok (c n:Int):AC Tryz.prog 162 [.val (.int .i32 c),.val (.int .i64 n)] (.pure (.val (.bool (cmpS c n)))):=by
 refine AC.of_body TTok Tryz.func162 rfl (enter_of Tryz.func162 (by kernel_rfl) (by kernel_rfl)) (noid2 (.val _) (.val _)) (.val _) (nbq rfl) ?_;by_cases h0:c=60
 ·subst h0;rw[show cmpS 60 n=decide (n<0) from rfl];conv=>whnf
  refine caseb (fun h=>?_) (fun h=>?_)
  ·conv=>whnf
   exact valB h.symm
  ·conv=>whnf
   exact valB h.symm
 by_cases h1:c=8804
 ·subst h1;rw[show cmpS 8804 n=decide (n≤0) from rfl];conv=>whnf
  refine caseb (fun h=>?_) (fun h=>?_)
  ·have h':=of_decide_eq_true h;conv=>whnf
   exact valB (decide_eq_true (by omega)).symm
  ·have h':=of_decide_eq_false h;conv=>whnf
   exact valB (beqD ⟨fun h=>by omega,fun h=>by omega⟩)
 by_cases h2:c=61
 ·subst h2;rw[show cmpS 61 n=(n==0) from rfl];conv=>whnf
  refine valB ?_;show ((n==0)==true)=(n==0);cases (n==0)<;>rfl
 by_cases h3:c=8805
 ·subst h3;rw[show cmpS 8805 n=decide (n≥0) from rfl];conv=>whnf
  refine caseb (fun h=>?_) (fun h=>?_)
  ·have h':=of_decide_eq_true h;conv=>whnf
   exact valB (decide_eq_true (by omega)).symm
  ·have h':=of_decide_eq_false h;conv=>whnf
   exact valB (beqD ⟨fun h=>by omega,fun h=>by omega⟩)
 by_cases h4:c=62
 ·subst h4;rw[show cmpS 62 n=decide (n>0) from rfl];conv=>whnf
  refine caseb (fun h=>?_) (fun h=>?_)
  ·conv=>whnf
   exact valB h.symm
  ·conv=>whnf
   exact valB h.symm
 have e0:(c==60)=false:=beq_false_of_ne h0;have e1:(c==8804)=false:=beq_false_of_ne h1;have e2:(c==61)=false:=beq_false_of_ne h2;have e3:(c==8805)=false:=beq_false_of_ne h3;have e4:(c==62)=false:=beq_false_of_ne h4;rw[show cmpS c n=(n != 0) by unfold cmpS;rw[if_neg h0,if_neg h1,if_neg h2,if_neg h3,if_neg h4]];conv=>whnf
 refine cFq (e0) ?_;conv=>whnf
 refine cFq (e1) ?_;conv=>whnf
 refine cFq (e4) ?_;conv=>whnf
 refine cFq (e3) ?_;conv=>whnf
 refine valB ?_;show ((n==0)==(c==61))=!(n==0);rw[e2];cases (n==0)<;>rfl
def tq (t:Bool):Rat:=if t then 1 else 0
def td (t:Bool):Nat:=if t then 1 else 0
theorem td_dn (t:Bool):dn (td t)=(tq t).den:=by cases t<;>rfl
theorem tq_sz (t:Bool):Sz (tq t) 1:=by cases t;exact Sz_zero;exact Sz_small (q:=1) (by decide) (by decide)
theorem truth_ok (t:Bool):AC Tryz.prog 135 [.val (.bool t)] (.pure (RA (tq t).num (td t))):=by
 cases t
 ·refine AC.le_res (v:=RZ) ?_ RZ_le (RA_noid _ _);refine AC.of_body TTok Tryz.func135 rfl (enter_of Tryz.func135 (by kernel_rfl) (by kernel_rfl)) (noid1 (.val _)) RZ_noid (nbq rfl) ?_;unfold RZ;(conv=>whnf);exact rfl
 ·show AC Tryz.prog 135 [.val (.bool true)] (.pure (RA 1 1));refine AC.of_body TTok Tryz.func135 rfl (enter_of Tryz.func135 (by kernel_rfl) (by kernel_rfl)) (noid1 (.val _)) (RA_noid _ _) (nbq rfl) ?_;have hF:=RatFrom_ok 1 (by decide);unfold RA at *;(conv=>whnf);refine⟨_,‹_›,?_⟩;(conv=>whnf);exact rfl
theorem Struth_ok (t:Bool):AC Tryz.prog 161 [.val (.bool t)] (.pure (RN (tq t).num (tq t).den)):=by
 cases t
 ·show AC Tryz.prog 161 [.val (.bool false)] (.pure (RN 0 1));refine AC.of_body TTok Tryz.func161 rfl (enter_of Tryz.func161 (by kernel_rfl) (by kernel_rfl)) (noid1 (.val _)) (RN_noid _ _) (nbq rfl) ?_;have hF:=SZero_ok;unfold RN at *;(conv=>whnf);refine⟨_,‹_›,?_⟩;(conv=>whnf);exact rfl
 ·show AC Tryz.prog 161 [.val (.bool true)] (.pure (RN 1 1));refine AC.of_body TTok Tryz.func161 rfl (enter_of Tryz.func161 (by kernel_rfl) (by kernel_rfl)) (noid1 (.val _)) (RN_noid _ _) (nbq rfl) ?_;have hF:=SFrom_ok 1 (by decide);unfold RN at *;(conv=>whnf);refine⟨_,‹_›,?_⟩;(conv=>whnf);exact rfl
def bitQ (q:Rat):Option Bool:=if q=0 then some false else if q=1 then some true else none
def jdgB (c:Int) (x y:Bool):Bool:=if c=8743 then x&&y else if c=8744 then x || y else if c=9074 then !(x&&y) else !(x || y)
theorem bit_int {q:Rat} (t:Bool) (h:bitQ q=some t):q=(if t then 1 else 0):=by
 unfold bitQ at h;split at h
 ·cases h;assumption
 ·split at h
  ·cases h;assumption
  ·cases h
theorem idem64 {x:Int} (hx:fit x) (h:IntKind.i64.wrap (x*x)=x):x=0∨x=1:=by
 obtain⟨h1,h2⟩:=hx;have hd:(18446744073709551616:Int) ∣ x*(x-1):=by
  rw[Int.mul_sub,Int.mul_one];rw[IntKind.wrap_i64]at h;omega
 have hn:(18446744073709551616:Nat) ∣ x.natAbs*(x-1).natAbs:=by
  have:=Int.natAbs_dvd_natAbs.2 hd
  rwa [Int.natAbs_mul]at this
 have cop:∀m:Nat,m % 2=1→Nat.Coprime 18446744073709551616 m:=fun m hm=>by
  rw[show (18446744073709551616:Nat)=2 ^ 64 from rfl];refine Nat.Coprime.pow_left 64 ?_;unfold Nat.Coprime;rw[Nat.gcd_rec,hm];rfl
 rcases Nat.mod_two_eq_zero_or_one x.natAbs with he | ho
 ·have:=(cop (x-1).natAbs (by omega)).dvd_of_dvd_mul_right hn;left;omega
 ·rw[Nat.mul_comm]at hn;have:=(cop x.natAbs ho).dvd_of_dvd_mul_right hn;right;omega
def intV (q:Rat):Int:=if fitQ q.num q.den then q.num else 0
theorem intV_fit (q:Rat):fit (intV q):=by
 unfold intV;split
 ·rename_i h;exact h.2
 ·decide
theorem intV_none {q:Rat} (hb:bitQ q=none):decide (fitQ q.num q.den)=false∨intV q<0∨1<intV q:=by
 unfold intV;by_cases h:fitQ q.num q.den
 ·rw[if_pos h];right;have:q=(q.num:Rat):=Rat.ext rfl h.1;unfold bitQ at hb;have n0:q.num≠0:=fun e=>by rw[if_pos (Rat.num_eq_zero.1 e)]at hb;cases hb
  have n1:q.num≠1:=fun e=>by
   rw[e]at this;by_cases h0:q=0
   ·rw[if_pos h0]at hb;cases hb
   ·rw[if_neg h0,if_pos (show q=1 from this)]at hb;cases hb
  omega
 ·exact .inl (decide_eq_false h)
theorem intV_bit (q:Rat) (t:Bool) (ht:bitQ q=some t):decide (fitQ q.num q.den)=true∧intV q=if t then 1 else 0:=by
 rw[bit_int t ht];cases t
 ·exact q2r
 ·exact q2r
theorem int_prog (q:Rat) (i:Nat) (hi:dn i=q.den) (lq:Sz q 1000):∃ (v:Int) (ok:Bool),fit v∧(bitQ q=none→ok=false∨v<0∨1<v)∧(∀t,bitQ q=some t→ok=true∧v=if t then 1 else 0) ∧
  AC Tryz.prog 132 [RA q.num i] (.pure (.tup [.val (.int .i64 v),.val (.bool ok)])):=by
 have h1:=RInt_ok q.num i;rw[hi]at h1;exact⟨intV q,_,intV_fit q,intV_none,intV_bit q,h1⟩
theorem int_ref (q:Rat) (lq:Sz q 1000):∃ (v:Int) (ok:Bool),fit v∧(bitQ q=none→ok=false∨v<0∨1<v)∧(∀t,bitQ q=some t→ok=true∧v=if t then 1 else 0) ∧
  AC Tryz.prog 187 [RN q.num q.den] (.pure (.tup [.val (.int .i64 v),.val (.bool ok)])) :=
 ⟨intV q,_,intV_fit q,intV_none,intV_bit q,SInt_ok q.num q.den lq.1⟩
def judgeQ (c:Int) (a b:Rat):Rat×Int :=
 match bitQ a,bitQ b with
 | some x,some y=>(tq (jdgB c x y),0)
 | _,_=>(0,22)
theorem nid (z:Int) (hz:fit z) (h:z<0∨1<z):(IntKind.i64.wrap (z*z) != z)=true:=by
 rw[bneD (p:=True) ⟨fun _=>trivial,fun _ e=>by rcases idem64 hz e with h' | h'<;>omega⟩];rfl
theorem yid (z:Int) (h0:0≤z) (h1:z≤1):(IntKind.i64.wrap (z*z) != z)=false:=by
 have:z=0∨z=1:=by omega
 rcases this with rfl | rfl<;>rfl
theorem jcases {a b:Rat} {v w:Int} {ok is:Bool} (nv:bitQ a=none→ok=false∨v<0∨1<v) (nw:bitQ b=none→is=false∨w<0∨1<w) (h:bitQ a=none∨bitQ b=none) :
  ok=false∨(ok=true∧is=false)∨(ok=true∧is=true∧((v<0∨1<v)∨(0≤v∧v≤1∧(w<0∨1<w)))):=by
 cases ok
 ·exact .inl rfl
 ·cases is
  ·exact .inr (.inl q2r)
  ·refine .inr (.inr ⟨rfl,rfl,?_⟩);rcases h with h | h
   ·rcases nv h with h' | h'
    ·cases h'
    ·exact .inl h'
   ·rcases nw h with h' | h'
    ·cases h'
    ·by_cases h2:v<0∨1<v
     ·exact .inl h2
     ·exact .inr ⟨by omega,by omega,h'⟩
theorem judge_bad (c:Int) (a b:Rat) (i j:Nat) (hi:dn i=a.den) (hj:dn j=b.den) (la:Sz a 1000) (lb:Sz b 1000) (h:bitQ a=none∨bitQ b=none):AC Tryz.prog 137 [.val (.int .i32 c),RA a.num i,RA b.num j] (.pure (.tup [RA 0 0,.val (.int .i64 22)])):=by
 obtain⟨v,ok,fv,nv,_,A1⟩:=int_prog a i hi la;obtain⟨w,is,fw,nw,_,B1⟩:=int_prog b j hj lb;have cs:=jcases nv nw h;refine AC.le_res (v:=.tup [RZ,.val (.int .i64 22)]) ?_ (.tup2 RZ_le (.refl _)) (.tup _ (noid2 (RA_noid _ _) (.val _)));refine AC.of_body TTok Tryz.func137 rfl (enter_of Tryz.func137 (by kernel_rfl) (by kernel_rfl)) (noid3 (.val _) (RA_noid _ _) (RA_noid _ _)) (.tup _ (noid2 RZ_noid (.val _))) (nbq rfl) ?_;unfold RA RZ at *;rcases cs with rfl | ⟨rfl,rfl⟩ | ⟨rfl,rfl,hv | ⟨v0,v1,hw⟩⟩
 ·repeat ((conv=>whnf);(first | refine⟨_,‹_›,?_⟩|exact rfl))
 ·repeat ((conv=>whnf);(first | refine⟨_,‹_›,?_⟩|exact rfl))
 ·by_cases h0:v<0
  ·have f1:decide (v<0)=true:=decide_eq_true h0;conv=>whnf
   refine⟨_,A1,?_⟩;conv=>whnf
   refine⟨_,B1,?_⟩;conv=>whnf
   refine cTq (f1) ?_;(conv=>whnf);exact rfl
  ·have f1:decide (v<0)=false:=decide_eq_false h0;have f2:decide (v>1)=true:=decide_eq_true (by omega);conv=>whnf
   refine⟨_,A1,?_⟩;conv=>whnf
   refine⟨_,B1,?_⟩;conv=>whnf
   refine cFq (f1) ?_;conv=>whnf
   refine cTq (f2) ?_;(conv=>whnf);exact rfl
 ·have f1:decide (v<0)=false:=decide_eq_false (by omega);have f2:decide (v>1)=false:=decide_eq_false (by omega);by_cases h0:w<0
  ·have f3:decide (w<0)=true:=decide_eq_true h0;conv=>whnf
   refine⟨_,A1,?_⟩;conv=>whnf
   refine⟨_,B1,?_⟩;conv=>whnf
   refine cFq (f1) ?_;conv=>whnf
   refine cFq (f2) ?_;conv=>whnf
   refine cTq (f3) ?_;(conv=>whnf);exact rfl
  ·have f3:decide (w<0)=false:=decide_eq_false h0;have f4:decide (w>1)=true:=decide_eq_true (by omega);conv=>whnf
   refine⟨_,A1,?_⟩;conv=>whnf
   refine⟨_,B1,?_⟩;conv=>whnf
   refine cFq (f1) ?_;conv=>whnf
   refine cFq (f2) ?_;conv=>whnf
   refine cFq (f3) ?_;conv=>whnf
   refine cTq (f4) ?_;(conv=>whnf);exact rfl
theorem Sjudge_bad (c:Int) (a b:Rat) (la:Sz a 1000) (lb:Sz b 1000) (h:bitQ a=none∨bitQ b=none):AC Tryz.prog 164 [.val (.int .i32 c),RN a.num a.den,RN b.num b.den] (.pure (.tup [RN 0 1,.val (.int .i64 22)])):=by
 obtain⟨v,ok,fv,nv,_,A2⟩:=int_ref a la;obtain⟨w,is,fw,nw,_,B2⟩:=int_ref b lb;have cs:=jcases nv nw h;refine AC.of_body TTok Tryz.func164 rfl (enter_of Tryz.func164 (by kernel_rfl) (by kernel_rfl)) (noid3 (.val _) (RN_noid _ _) (RN_noid _ _)) (.tup _ (noid2 (RN_noid _ _) (.val _))) (nbq rfl) ?_;have hZ:=SZero_ok;unfold RN at *;rcases cs with rfl | ⟨rfl,rfl⟩ | ⟨rfl,rfl,hv | ⟨v0,v1,hw⟩⟩
 ·repeat ((conv=>whnf);(first | refine⟨_,‹_›,?_⟩|exact rfl))
 ·repeat ((conv=>whnf);(first | refine⟨_,‹_›,?_⟩|exact rfl))
 ·have f1:=nid v fv hv;conv=>whnf
  refine⟨_,A2,?_⟩;conv=>whnf
  refine⟨_,B2,?_⟩;conv=>whnf
  refine cTq (f1) ?_;(conv=>whnf);refine⟨_,‹_›,?_⟩;(conv=>whnf);exact rfl
 ·have f1:=yid v v0 v1;have f2:=nid w fw hw;conv=>whnf
  refine⟨_,A2,?_⟩;conv=>whnf
  refine⟨_,B2,?_⟩;conv=>whnf
  refine cFq (f1) ?_;conv=>whnf
  refine cTq (f2) ?_;(conv=>whnf);refine⟨_,‹_›,?_⟩;(conv=>whnf);exact rfl
set_option maxRecDepth 100000 in
theorem judge_good (c:Int) (hc:isJdg c) (a b:Rat) (i j:Nat) (hi:dn i=a.den) (hj:dn j=b.den) (la:Sz a 1000) (lb:Sz b 1000) (x y:Bool) (hx:bitQ a=some x) (hy:bitQ b=some y) :
  AC Tryz.prog 137 [.val (.int .i32 c),RA a.num i,RA b.num j] (.pure (.tup [RA (tq (jdgB c x y)).num (td (jdgB c x y)),.val (.int .i64 0)])):=by
 obtain⟨v,ok,_,_,nv,A1⟩:=int_prog a i hi la;obtain⟨w,is,_,_,nw,B1⟩:=int_prog b j hj lb;obtain⟨rfl,rfl⟩:=nv x hx;obtain⟨rfl,rfl⟩:=nw y hy;have T0:=truth_ok false;have T1:=truth_ok true;refine AC.of_body TTok Tryz.func137 rfl (enter_of Tryz.func137 (by kernel_rfl) (by kernel_rfl)) (noid3 (.val _) (RA_noid _ _) (RA_noid _ _)) (.tup _ (noid2 (RA_noid _ _) (.val _))) (nbq rfl) ?_;clear hx hy nv nw;unfold RA at *;cases x<;>cases y<;>rcases hc with rfl | rfl | rfl | rfl
 all_goals
  repeat ((conv=>whnf);(first | refine⟨_,‹_›,?_⟩|exact rfl))
set_option maxRecDepth 100000 in
theorem Sjudge_good (c:Int) (hc:isJdg c) (a b:Rat) (la:Sz a 1000) (lb:Sz b 1000) (x y:Bool) (hx:bitQ a=some x) (hy:bitQ b=some y) :
  AC Tryz.prog 164 [.val (.int .i32 c),RN a.num a.den,RN b.num b.den] (.pure (.tup [RN (tq (jdgB c x y)).num (tq (jdgB c x y)).den,.val (.int .i64 0)])):=by
 obtain⟨v,ok,_,_,nv,A2⟩:=int_ref a la;obtain⟨w,is,_,_,nw,B2⟩:=int_ref b lb;obtain⟨rfl,rfl⟩:=nv x hx;obtain⟨rfl,rfl⟩:=nw y hy;have U0:=Struth_ok false;have U1:=Struth_ok true;refine AC.of_body TTok Tryz.func164 rfl (enter_of Tryz.func164 (by kernel_rfl) (by kernel_rfl)) (noid3 (.val _) (RN_noid _ _) (RN_noid _ _)) (.tup _ (noid2 (RN_noid _ _) (.val _))) (nbq rfl) ?_;clear hx hy nv nw;unfold RN at *;cases x<;>cases y<;>rcases hc with rfl | rfl | rfl | rfl
 all_goals
  repeat ((conv=>whnf);(first | refine⟨_,‹_›,?_⟩|exact rfl))
theorem judge_ok (c:Int) (hc:isJdg c) (a b:Rat) (i j:Nat) (hi:dn i=a.den) (hj:dn j=b.den) (la:Sz a 1000) (lb:Sz b 1000):∃ d,dn d=(judgeQ c a b).1.den ∧
  AC Tryz.prog 137 [.val (.int .i32 c),RA a.num i,RA b.num j] (.pure (.tup [RA (judgeQ c a b).1.num d,.val (.int .i64 (judgeQ c a b).2)])):=by
 unfold judgeQ;cases hx:bitQ a with
 | none=>exact⟨0,rfl,judge_bad c a b i j hi hj la lb (.inl hx)⟩
 | some x =>
  cases hy:bitQ b with
  | none=>exact⟨0,rfl,judge_bad c a b i j hi hj la lb (.inr hy)⟩
  | some y=>exact⟨_,td_dn _,judge_good c hc a b i j hi hj la lb x y hx hy⟩
theorem Sjudge_ok (c:Int) (hc:isJdg c) (a b:Rat) (la:Sz a 1000) (lb:Sz b 1000) :
  AC Tryz.prog 164 [.val (.int .i32 c),RN a.num a.den,RN b.num b.den] (.pure (.tup [RN (judgeQ c a b).1.num (judgeQ c a b).1.den,.val (.int .i64 (judgeQ c a b).2)])):=by
 unfold judgeQ;cases hx:bitQ a with
 | none=>exact Sjudge_bad c a b la lb (.inl hx)
 | some x =>
  cases hy:bitQ b with
  | none=>exact Sjudge_bad c a b la lb (.inr hy)
  | some y=>exact Sjudge_good c hc a b la lb x y hx hy
end
section
def powerQ (a b:Rat) (most:Int):Rat×Int :=
 if b.den≠1∨(a=0∧b.num<0) then (0,22)
 else if limQ a∧b.num≠0 then (if a.num<0∧b.num.natAbs % 2=0 then -a else a,0)
 else if ¬fit b.num then (0,26)
 else ((powQ a b.num most).1,if (powQ a b.num most).2 then 0 else 26)
theorem sig_lit (t:Int):(t<0∧sigW t=-1)∨(t=0∧sigW t=0)∨(0<t∧sigW t=1):=by
 unfold sigW;rcases Int.lt_trichotomy t 0 with h | h | h
 ·left;rw[if_neg (by omega),if_pos h];exact⟨h,rfl⟩
 ·right;left;rw[if_pos h];exact⟨h,rfl⟩
 ·right;right;rw[if_neg (by omega),if_neg (by omega)];exact⟨h,rfl⟩
theorem RZ22 {P:Program} {f:FuncId} {args:List AV} {e:Int} (h:AC P f args (.pure (.tup [RZ,.val (.int .i64 e)]))):AC P f args (.pure (.tup [RA 0 0,.val (.int .i64 e)])) :=
 AC.le_res h (.tup2 RZ_le (.refl _)) (.tup _ (noid2 (RA_noid _ _) (.val _)))
theorem last_digit {n:Nat} (h:0<n):byteAt (decS n) (IntKind.i64.wrap ((decS n).size-1:Int))=((48+n % 10:Nat):Int)∨9223372036854775807<(decS n).size:=by
 by_cases hb:9223372036854775807<(decS n).size
 ·exact .inr hb
 left;have hs:(decS n).size=(decL n).length:=strL_size _;have h0:decL n=(decR n).reverse:=if_neg (by omega);have h1:=decR_pos h;have hl:=List.length_pos_iff.2 (decL_ne n);rw[IntWalk.i64_in _ (by omega)];refine byteAt_strL (fun x hx=>by have:=decL_byt n x hx;omega) (by omega) ?_;rw[show (((decS n).size:Int)-1).toNat=(decL n).length-1 by omega,h0,List.length_reverse,List.getElem?_reverse (by rw[h1];simp),h1];simp
theorem odd_digit {n:Nat} (h:0<n) (hs:(decS n).size<1000000):(IntKind.u8.wrap (byteAt (decS n) (IntKind.i64.wrap ((decS n).size-1:Int))-48)).tmod 2=((n % 2:Nat):Int):=by
 rw[(last_digit h).resolve_right (by omega),w_u8,Int.tmod_eq_emod_of_nonneg (by omega)];omega
theorem Power_ok (a b:Rat) (i j:Nat) (most:Int) (hi:dn i=a.den) (hj:dn j=b.den) (hm:most≤200) (la:Sz a 99):∃ d,dn d=(powerQ a b most).1.den∧AC Tryz.prog 158 [RA a.num i,RA b.num j,.val (.int .i64 most)] (.pure (.tup [RA (powerQ a b most).1.num d,.val (.int .i64 (powerQ a b most).2)])):=by
 have hW:=IsWhole_ok b.num j;have hSa:=RaSign_ok a.num i;have hSb:=RaSign_ok b.num j;have hL:=Limited_ok a.num i;have hT:=RTop_ok b.num j;have hE:=Even_ok b.num.natAbs;have hM:=QMinus_ok a.num i;have hI:=RInt_ok b.num j;rw[hj]at hW hI;rw[hi]at hL hM;unfold powerQ;by_cases hd:b.den=1
 rotate_left
 ·rw[if_pos (.inl hd)];rw[decide_eq_false hd]at hW;refine⟨0,rfl,RZ22 ?_⟩;refine AC.of_body TTok Tryz.func158 rfl (enter_of Tryz.func158 (by kernel_rfl) (by kernel_rfl)) (noid3 (RA_noid _ _) (RA_noid _ _) (.val _)) (.tup _ (noid2 RZ_noid (.val _))) (nbq rfl) ?_;unfold RA RZ at *;(conv=>whnf);refine⟨_,‹_›,?_⟩;(conv=>whnf);exact rfl
 rw[decide_eq_true hd]at hW;by_cases hz:a=0∧b.num<0
 ·rw[if_pos (.inr hz)];rw[show sigW a.num=0 by rw[hz.1];rfl]at hSa;rw[show sigW b.num=-1 by unfold sigW;rw[if_neg (by omega),if_pos hz.2]]at hSb;refine⟨0,rfl,RZ22 ?_⟩;refine AC.of_body TTok Tryz.func158 rfl (enter_of Tryz.func158 (by kernel_rfl) (by kernel_rfl)) (noid3 (RA_noid _ _) (RA_noid _ _) (.val _)) (.tup _ (noid2 RZ_noid (.val _))) (nbq rfl) ?_;unfold RA RZ at *;repeat ((conv=>whnf);(first | refine⟨_,‹_›,?_⟩|exact rfl))
 rw[if_neg (fun h=>h.elim (fun h=>h hd) hz)];have hz':¬(a.num=0∧b.num<0):=fun h=>hz ⟨Rat.num_eq_zero.1 h.1,h.2⟩;by_cases hl:limQ a∧b.num≠0
 ·have hb0:=hl.2;rw[if_pos hl];rw[decide_eq_true (show a.den=1∧(a.num.natAbs=0∨a.num.natAbs=1) from hl.1)]at hL;by_cases he:a.num<0∧b.num.natAbs % 2=0
  ·rw[if_pos he];rw[show sigW a.num=-1 by unfold sigW;rw[if_neg (by omega),if_pos he.1]]at hSa;rw[decide_eq_true he.2]at hE;refine⟨a.den,dn_self a.den_nz,?_⟩;refine AC.of_body TTok Tryz.func158 rfl (enter_of Tryz.func158 (by kernel_rfl) (by kernel_rfl)) (noid3 (RA_noid _ _) (RA_noid _ _) (.val _)) (.tup _ (noid2 (RA_noid _ _) (.val _))) (nbq rfl) ?_;have hM':AC Tryz.prog 153 [RA a.num i] (.pure (RA (-a).num a.den)):=hM;clear hM;rcases sig_lit b.num with ⟨_,e⟩ | ⟨e0,_⟩ | ⟨_,e⟩
   ·rw[e]at hSb;unfold RA WI natA at *;repeat ((conv=>whnf);(first | refine⟨_,‹_›,?_⟩|exact rfl))
   ·exact absurd e0 hb0
   ·rw[e]at hSb;unfold RA WI natA at *;repeat ((conv=>whnf);(first | refine⟨_,‹_›,?_⟩|exact rfl))
  ·rw[if_neg he];refine⟨i,hi,?_⟩;refine AC.of_body TTok Tryz.func158 rfl (enter_of Tryz.func158 (by kernel_rfl) (by kernel_rfl)) (noid3 (RA_noid _ _) (RA_noid _ _) (.val _)) (.tup _ (noid2 (RA_noid _ _) (.val _))) (nbq rfl) ?_;rcases sig_lit a.num with ⟨h1,e1⟩ | ⟨h1,e1⟩ | ⟨h1,e1⟩<;>rcases sig_lit b.num with ⟨h2,e2⟩ | ⟨h2,e2⟩ | ⟨h2,e2⟩
   all_goals first
    | (exfalso;omega)
    | skip
   all_goals
    rw[e1]at hSa;rw[e2]at hSb;first
     | rw[decide_eq_false (show ¬b.num.natAbs % 2=0 from fun h=>he ⟨h1,h⟩)]at hE
     | skip
    unfold RA WI natA at *;repeat ((conv=>whnf);(first | refine⟨_,‹_›,?_⟩|exact rfl))
 rw[if_neg hl];have hs:(if decide (a.den=1∧(a.num.natAbs=0∨a.num.natAbs=1))=true then b.num else 0)=0:=by
  split
  ·rename_i h;have h':=of_decide_eq_true h;exact Decidable.of_not_not (fun hb=>hl ⟨h',hb⟩)
  ·rfl
 by_cases hf:fit b.num
 rotate_left
 ·rw[if_pos hf];refine⟨0,rfl,RZ22 ?_⟩;rw[if_neg (fun h:fitQ b.num b.den=>hf h.2),decide_eq_false (fun h:fitQ b.num b.den=>hf h.2)]at hI;refine AC.of_body TTok Tryz.func158 rfl (enter_of Tryz.func158 (by kernel_rfl) (by kernel_rfl)) (noid3 (RA_noid _ _) (RA_noid _ _) (.val _)) (.tup _ (noid2 RZ_noid (.val _))) (nbq rfl) ?_;generalize decide (a.den=1∧(a.num.natAbs=0∨a.num.natAbs=1))=s at *;rcases sig_lit a.num with ⟨h1,e1⟩ | ⟨h1,e1⟩ | ⟨h1,e1⟩<;>rcases sig_lit b.num with ⟨h2,e2⟩ | ⟨h2,e2⟩ | ⟨h2,e2⟩<;>cases s
  all_goals simp only[Bool.false_eq_true,if_false,if_true]at hs
  all_goals first
   | (exfalso;omega)
   | skip
  all_goals
   rw[e1]at hSa;rw[e2]at hSb;unfold RA RZ at *;repeat ((conv=>whnf);(first | refine⟨_,‹_›,?_⟩|exact rfl))
 rw[if_neg (fun h=>h hf)];have hfq:fitQ b.num b.den:=⟨hd,hf⟩;rw[if_pos hfq,decide_eq_true hfq]at hI;obtain⟨d,hd',hP,_⟩:=pow_both a i b.num most hi hf hm la;refine⟨d,hd',?_⟩;refine AC.of_body TTok Tryz.func158 rfl (enter_of Tryz.func158 (by kernel_rfl) (by kernel_rfl)) (noid3 (RA_noid _ _) (RA_noid _ _) (.val _)) (.tup _ (noid2 (RA_noid _ _) (.val _))) (nbq rfl) ?_
 revert hP
 generalize (powQ a b.num most).1=r;generalize (powQ a b.num most).2=g;intro hP;generalize decide (a.den=1∧(a.num.natAbs=0∨a.num.natAbs=1))=s at *;rcases sig_lit a.num with ⟨h1,e1⟩ | ⟨h1,e1⟩ | ⟨h1,e1⟩<;>rcases sig_lit b.num with ⟨h2,e2⟩ | ⟨h2,e2⟩ | ⟨h2,e2⟩<;>cases s<;>cases g
 all_goals simp only[Bool.false_eq_true,if_false,if_true]at hs
 all_goals first
  | (exfalso;omega)
  | skip
 all_goals
  rw[e1]at hSa;rw[e2]at hSb;unfold RA at *;repeat ((conv=>whnf);(first | refine⟨_,‹_›,?_⟩|exact rfl))
end
section
theorem odd_b {n:Nat} (h:0<n) (hs:(decS n).size<1000000):((IntKind.u8.wrap (byteAt (decS n) (IntKind.i64.wrap ((decS n).size-1:Int))-48)).tmod 2==1)=decide (n % 2=1):=by
 rw[odd_digit h hs];exact beqD (by omega)
theorem SPower_ok (a b:Rat) (most:Int) (hm:most≤200) (la:Sz a 99) (lb:Sz b 99):AC Tryz.prog 193 [RN a.num a.den,RN b.num b.den,.val (.int .i64 most)] (.pure (.tup [RN (powerQ a b most).1.num (powerQ a b most).1.den,.val (.int .i64 (powerQ a b most).2)])):=by
 have:=la.1;have:=la.2;have:=lb.1;have:=lb.2;have i1:=is1 b.den;have i0:=is0 a.num.natAbs;have j0:=is0 b.num.natAbs;have hZ:=SZero_ok;unfold powerQ;by_cases hd:b.den=1
 rotate_left
 ·rw[if_pos (.inl hd)];rw[decide_eq_false hd]at i1;have f1:(!((decS b.den).toList==({ data:=#[49] }:ByteArray).toList))=true:=by rw[i1];rfl
  refine AC.of_body TTok Tryz.func193 rfl (enter_of Tryz.func193 (by kernel_rfl) (by kernel_rfl)) (noid3 (RN_noid _ _) (RN_noid _ _) (.val _)) (.tup _ (noid2 (RN_noid _ _) (.val _))) (nbq rfl) ?_;unfold RN at *;conv=>whnf
  refine cTq (f1) ?_;(conv=>whnf);refine⟨_,‹_›,?_⟩;(conv=>whnf);exact rfl
 rw[decide_eq_true hd]at i1;have f1:(!((decS b.den).toList==({ data:=#[49] }:ByteArray).toList))=false:=by rw[i1];rfl
 by_cases hz:a=0∧b.num<0
 ·rw[if_pos (.inr hz)];rw[decide_eq_true (by rw[hz.1];rfl)]at i0;have f2:decide (b.num<0)=true:=decide_eq_true hz.2;refine AC.of_body TTok Tryz.func193 rfl (enter_of Tryz.func193 (by kernel_rfl) (by kernel_rfl)) (noid3 (RN_noid _ _) (RN_noid _ _) (.val _)) (.tup _ (noid2 (RN_noid _ _) (.val _))) (nbq rfl) ?_;unfold RN at *;conv=>whnf
  refine cFq (f1) ?_;conv=>whnf
  refine cTq (i0) ?_;conv=>whnf
  refine cTq (f2) ?_;(conv=>whnf);refine⟨_,‹_›,?_⟩;(conv=>whnf);exact rfl
 rw[if_neg (fun h=>h.elim (fun h=>h hd) hz)];have hz':¬(a.num=0∧b.num<0):=fun h=>hz ⟨Rat.num_eq_zero.1 h.1,h.2⟩
 -- the first test,whatever a and b are
 by_cases hb0:b.num=0
 ·have hp:powQ a b.num most=(1,true):=by rw[hb0];exact if_pos rfl
  have hf0:fit b.num:=by rw[hb0];decide
  rw[if_neg (fun h=>h.2 hb0),if_neg (fun h=>h hf0),hp];rw[decide_eq_true (by omega)]at j0;have f2:decide (b.num<0)=false:=decide_eq_false (by omega);have hF:=SFrom_ok 1 (by decide);show AC Tryz.prog 193 _ (.pure (.tup [RN 1 1,.val (.int .i64 0)]));refine AC.of_body TTok Tryz.func193 rfl (enter_of Tryz.func193 (by kernel_rfl) (by kernel_rfl)) (noid3 (RN_noid _ _) (RN_noid _ _) (.val _)) (.tup _ (noid2 (RN_noid _ _) (.val _))) (nbq rfl) ?_;unfold RN at *;by_cases ha:a.num=0
  ·rw[decide_eq_true (by omega)]at i0;conv=>whnf
   refine cFq (f1) ?_;conv=>whnf
   refine cTq (i0) ?_;conv=>whnf
   refine cFq (f2) ?_;conv=>whnf
   refine cTq (j0) ?_;(conv=>whnf);refine⟨_,‹_›,?_⟩;(conv=>whnf);exact rfl
  ·rw[decide_eq_false (by omega)]at i0;conv=>whnf
   refine cFq (f1) ?_;conv=>whnf
   refine cFq (i0) ?_;conv=>whnf
   refine cTq (j0) ?_;(conv=>whnf);refine⟨_,‹_›,?_⟩;(conv=>whnf);exact rfl
 rw[decide_eq_false (by omega)]at j0;have dl:=decL_le b.num.natAbs;have hsz:(decS b.num.natAbs).size<1000000:=by rw[show (decS b.num.natAbs).size=(decL b.num.natAbs).length from strL_size _];omega
 have hsz0:0<(decS b.num.natAbs).size:=by rw[show (decS b.num.natAbs).size=(decL b.num.natAbs).length from strL_size _];exact List.length_pos_iff.2 (decL_ne _)
 have ob:=odd_b (n:=b.num.natAbs) (by omega) hsz;have hix:0≤IntKind.i64.wrap ((decS b.num.natAbs).size-1:Int)∧IntKind.i64.wrap ((decS b.num.natAbs).size-1:Int)<((decS b.num.natAbs).size:Int):=by
  rw[IntWalk.i64_in _ (by omega)];omega
 have hL:=SLimited_ok a.num a.den;by_cases hl:limQ a
 ·rw[if_pos ⟨hl,hb0⟩];rw[decide_eq_true (show a.den=1∧(a.num.natAbs=0∨a.num.natAbs=1) from hl)]at hL;have hres:RN (if a.num<0∧b.num.natAbs % 2=0 then -a else a).num (if a.num<0∧b.num.natAbs % 2=0 then -a else a).den = .agg [.val (.bool (decide (a.num<0)&&decide (b.num.natAbs % 2=1))),.val (.string (decS a.num.natAbs)),.val (.string { data:=#[49] })]:=by
   unfold RN;by_cases h1:a.num<0
   ·by_cases h2:b.num.natAbs % 2=0
    ·rw[if_pos ⟨h1,h2⟩,Rat.neg_num,Rat.neg_den,hl.1,decS_one,Int.natAbs_neg,decide_eq_false (show ¬ -a.num<0 by omega),decide_eq_false (show ¬b.num.natAbs % 2=1 by omega),Bool.and_false]
    ·rw[if_neg (fun h=>h2 h.2),hl.1,decS_one,decide_eq_true (show b.num.natAbs % 2=1 by omega),Bool.and_true]
   ·rw[if_neg (fun h=>h1 h.1),hl.1,decS_one,decide_eq_false h1,Bool.false_and]
  show AC Tryz.prog 193 _ (.pure (.tup [RN (if a.num<0∧b.num.natAbs % 2=0 then -a else a).num (if a.num<0∧b.num.natAbs % 2=0 then -a else a).den,.val (.int .i64 0)]));rw[hres,←ob];refine AC.of_body TTok Tryz.func193 rfl (enter_of Tryz.func193 (by kernel_rfl) (by kernel_rfl)) (noid3 (RN_noid _ _) (RN_noid _ _) (.val _)) (.tup _ (noid2 (.agg _ (noid3 (.val _) (.val _) (.val _))) (.val _))) (nbq rfl) ?_;clear hres hl ob;unfold RN at *;by_cases ha:a.num=0
  ·have f2:decide (b.num<0)=false:=decide_eq_false (by omega);rw[decide_eq_true (by omega)]at i0;have f3:decide (a.num<0)=false:=decide_eq_false (by omega);rw[f3]at hL ⊢;conv=>whnf
   refine cFq (f1) ?_;conv=>whnf
   refine cTq (i0) ?_;conv=>whnf
   refine cFq (f2) ?_;conv=>whnf
   refine cFq (j0) ?_;conv=>whnf
   refine⟨hix,?_⟩;repeat ((conv=>whnf);(first | refine⟨_,‹_›,?_⟩|exact rfl | refine⟨by decide,?_⟩))
  ·rw[decide_eq_false (by omega)]at i0;by_cases h1:a.num<0
   ·have f3:decide (a.num<0)=true:=decide_eq_true h1;rw[f3]at hL ⊢;conv=>whnf
    refine cFq (f1) ?_;conv=>whnf
    refine cFq (i0) ?_;conv=>whnf
    refine cFq (j0) ?_;conv=>whnf
    refine⟨hix,?_⟩;repeat ((conv=>whnf);(first | refine⟨_,‹_›,?_⟩|exact rfl | refine⟨by decide,?_⟩))
   ·have f3:decide (a.num<0)=false:=decide_eq_false h1;rw[f3]at hL ⊢;conv=>whnf
    refine cFq (f1) ?_;conv=>whnf
    refine cFq (i0) ?_;conv=>whnf
    refine cFq (j0) ?_;conv=>whnf
    refine⟨hix,?_⟩;repeat ((conv=>whnf);(first | refine⟨_,‹_›,?_⟩|exact rfl | refine⟨by decide,?_⟩))
 rw[if_neg (fun h=>hl h.1)];rw[decide_eq_false (show ¬(a.den=1∧(a.num.natAbs=0∨a.num.natAbs=1)) from hl)]at hL;have i0:((decS a.num.natAbs).toList==({ data:=#[48] }:ByteArray).toList)=false:=by rw[i0];exact decide_eq_false (by have:=num_ne (lim_num hl);omega)
 have hI:=SInt_ok b.num b.den (by omega);by_cases hf:fit b.num
 ·rw[if_neg (fun h=>h hf)];have hfq:fitQ b.num b.den:=⟨hd,hf⟩;rw[if_pos hfq,decide_eq_true hfq]at hI;obtain⟨d,hd',_,hP⟩:=pow_both a a.den b.num most (dn_den a) hf hm la;have hp0:(powQ a b.num most).2=false→(powQ a b.num most).1=0:=fun h=>by
   unfold powQ at h ⊢;rw[if_neg hb0,if_neg hl]at h ⊢;by_cases hf:fitsN (pb a b.num).num.natAbs (pk b.num) most∧fitsN (pb a b.num).den (pk b.num) most
   ·rw[if_pos hf]at h;cases h
   ·rw[if_neg hf]
  revert hP hp0
  generalize (powQ a b.num most).1=r;generalize (powQ a b.num most).2=g;intro hP hp0;refine AC.of_body TTok Tryz.func193 rfl (enter_of Tryz.func193 (by kernel_rfl) (by kernel_rfl)) (noid3 (RN_noid _ _) (RN_noid _ _) (.val _)) (.tup _ (noid2 (RN_noid _ _) (.val _))) (nbq rfl) ?_;cases g
  ·rw[hp0 rfl]at *;rw[show (0:Rat).num=0 from rfl,show (0:Rat).den=1 from rfl]at *;unfold RN at *;conv=>whnf
   refine cFq (f1) ?_;conv=>whnf
   refine cFq (i0) ?_;conv=>whnf
   refine cFq (j0) ?_;conv=>whnf
   refine⟨hix,?_⟩;repeat ((conv=>whnf);(first | refine⟨_,‹_›,?_⟩|exact rfl | refine⟨by decide,?_⟩))
  ·unfold RN at *;conv=>whnf
   refine cFq (f1) ?_;conv=>whnf
   refine cFq (i0) ?_;conv=>whnf
   refine cFq (j0) ?_;conv=>whnf
   refine⟨hix,?_⟩;repeat ((conv=>whnf);(first | refine⟨_,‹_›,?_⟩|exact rfl | refine⟨by decide,?_⟩))
 ·rw[if_pos hf];rw[if_neg (fun h:fitQ b.num b.den=>hf h.2),decide_eq_false (fun h:fitQ b.num b.den=>hf h.2)]at hI;show AC Tryz.prog 193 _ (.pure (.tup [RN 0 1,.val (.int .i64 26)]));refine AC.of_body TTok Tryz.func193 rfl (enter_of Tryz.func193 (by kernel_rfl) (by kernel_rfl)) (noid3 (RN_noid _ _) (RN_noid _ _) (.val _)) (.tup _ (noid2 (RN_noid _ _) (.val _))) (nbq rfl) ?_;unfold RN at *;conv=>whnf
  refine cFq (f1) ?_;conv=>whnf
  refine cFq (i0) ?_;conv=>whnf
  refine cFq (j0) ?_;conv=>whnf
  refine⟨hix,?_⟩;repeat ((conv=>whnf);(first | refine⟨_,‹_›,?_⟩|exact rfl | refine⟨by decide,?_⟩))
end
section
def chs (r:Nat):Nat→Nat
 | 0=>1
 | i+1=>chs r i*(r+(i+1))/(i+1)
theorem chs_succ (r i:Nat):chs r (i+1)=chs r i*(r+(i+1))/(i+1):=rfl
theorem chs_mono1 (r i:Nat):chs r i≤chs r (i+1):=by
 rw[chs_succ,Nat.le_div_iff_mul_le (by omega)];exact Nat.mul_le_mul_left _ (by omega)
theorem chs_mono (r:Nat) {i j:Nat} (h:i≤j):chs r i≤chs r j:=by
 induction h with
 | refl=>exact Nat.le_refl _
 | step _ ih=>exact Nat.le_trans ih (chs_mono1 r _)
theorem chs_big (r:Nat):∀i,i≤r→2 ^ i≤chs r i
 | 0,_=>Nat.le_refl _
 | i+1,h=>by
  have ih:=chs_big r i (by omega);rw[chs_succ,Nat.le_div_iff_mul_le (by omega),Nat.pow_succ,Nat.mul_assoc];exact Nat.mul_le_mul ih (by omega)
theorem chs_bound {r i:Nat} (h:i≤r) (hl:(limbs (chs r i)).length≤200):i≤6400:=by
 have h1:=chs_big r i h;have h2:=val_lt (limbs_lim (chs r i));rw[val_limbs,pow32]at h2;have h3:2 ^ i<2 ^ (32*(limbs (chs r i)).length):=Nat.lt_of_le_of_lt h1 h2;have:=(Nat.pow_lt_pow_iff_right (by decide:1<2)).1 h3;omega
def chsOk (k r:Nat) (most:Int):Prop:=k=0∨((limbs (chs r k)).length:Int)≤most
instance (k r:Nat) (most:Int):Decidable (chsOk k r most):=inferInstanceAs (Decidable (_∨_))
def natQ (q:Rat):Prop:=q.den=1∧0≤q.num
instance (q:Rat):Decidable (natQ q):=inferInstanceAs (Decidable (_∧_))
def chooseQ (a b:Rat) (most:Int):Rat×Int :=
 if ¬(natQ a∧natQ b) then (0,22)
 else if b.num<a.num then (0,0)
 else if chsOk (min a.num (b.num-a.num)).toNat (max a.num (b.num-a.num)).toNat most then (((chs (max a.num (b.num-a.num)).toNat (min a.num (b.num-a.num)).toNat:Nat):Int),0)
 else (0,26)
theorem int_of {q:Rat} (h:q.den=1):q=((q.num:Int):Rat):=Rat.ext rfl h
theorem sub_int {a b:Rat} (ha:a.den=1) (hb:b.den=1):(b + -a).num=b.num-a.num∧(b + -a).den=1:=by
 have e:b + -a=((b.num-a.num:Int):Rat):=by
  rw[Rat.intCast_sub,←int_of ha,←int_of hb,Rat.sub_eq_add_neg]
 rw[e];exact q2r
theorem floor_nat (x i:Nat) (hi:0<i) (hx:(limbs x).length<1000000) (hl:(limbs i).length<1000000):∃ r,AC Tryz.prog 182 [WI (x:Int),WI (i:Int)] (.pure (.tup [WI ((x/i:Nat):Int),WI r,.val (.bool true)])):=by
 have h:=Floor_ok (x:Int) (i:Int) (by omega) (by rw[Int.natAbs_natCast];omega) (by rw[Int.natAbs_natCast];omega) (DivMod_ok _ _ (by rw[Int.natAbs_natCast];exact hi) (by rw[Int.natAbs_natCast];omega) (by rw[Int.natAbs_natCast];omega));rw[flQ_ediv _ _ (by omega)]at h;exact⟨_,h⟩
theorem Choose_none (a b:Rat) (i j:Nat) (most:Int) (hi:dn i=a.den) (hj:dn j=b.den) (h:¬(natQ a∧natQ b)):AC Tryz.prog 159 [RA a.num i,RA b.num j,.val (.int .i64 most)] (.pure (.tup [RA 0 0,.val (.int .i64 22)])):=by
 refine RZ22 ?_;have hWa:=IsWhole_ok a.num i;have hWb:=IsWhole_ok b.num j;have hSa:=RaSign_ok a.num i;have hSb:=RaSign_ok b.num j;rw[hi]at hWa;rw[hj]at hWb;refine AC.of_body TTok Tryz.func159 rfl (enter_of Tryz.func159 (by kernel_rfl) (by kernel_rfl)) (noid3 (RA_noid _ _) (RA_noid _ _) (.val _)) (.tup _ (noid2 RZ_noid (.val _))) (nbq rfl) ?_;by_cases da:a.den=1
 ·rw[decide_eq_true da]at hWa;by_cases db:b.den=1
  ·rw[decide_eq_true db]at hWb;by_cases na:a.num<0
   ·rw[show sigW a.num=-1 by unfold sigW;rw[if_neg (by omega),if_pos na]]at hSa;unfold RA RZ at *;repeat ((conv=>whnf);(first | refine⟨_,‹_›,?_⟩|exact rfl))
   ·have nb:b.num<0:=Decidable.of_not_not (fun hb=>h ⟨⟨da,by omega⟩,⟨db,by omega⟩⟩);rw[show sigW b.num=-1 by unfold sigW;rw[if_neg (by omega),if_pos nb]]at hSb;rcases sig_lit a.num with ⟨h1,e1⟩ | ⟨h1,e1⟩ | ⟨h1,e1⟩
    ·omega
    ·rw[e1]at hSa;unfold RA RZ at *;repeat ((conv=>whnf);(first | refine⟨_,‹_›,?_⟩|exact rfl))
    ·rw[e1]at hSa;unfold RA RZ at *;repeat ((conv=>whnf);(first | refine⟨_,‹_›,?_⟩|exact rfl))
  ·rw[decide_eq_false db]at hWb;unfold RA RZ at *;repeat ((conv=>whnf);(first | refine⟨_,‹_›,?_⟩|exact rfl))
 ·rw[decide_eq_false da]at hWa;unfold RA RZ at *;(conv=>whnf);refine⟨_,‹_›,?_⟩;(conv=>whnf);exact rfl
section
variable (a b:Rat) (i j:Nat) (most:Int) (hi:dn i=a.den) (hj:dn j=b.den) (hm:most≤200) (la:Sz a 90) (lb:Sz b 90) (na:natQ a) (nb:natQ b)
include hi hj la lb na nb
theorem Choose_less (h:b.num<a.num):AC Tryz.prog 159 [RA a.num i,RA b.num j,.val (.int .i64 most)] (.pure (.tup [RA 0 0,.val (.int .i64 0)])):=by
 refine RZ22 ?_;have hWa:=IsWhole_ok a.num i;have hWb:=IsWhole_ok b.num j;have hSa:=RaSign_ok a.num i;have hSb:=RaSign_ok b.num j;have hM:=QMinus_ok a.num i;have hP:=QPlus1 b (-a) j a.den hj (dn_den a) (lb.mono (by decide)) ((Sz_neg la).mono (by decide));have hSr:=RaSign_ok (b + -a).num (b + -a).den;rw[hi,decide_eq_true na.1]at hWa;rw[hj,decide_eq_true nb.1]at hWb;rw[hi]at hM;have hM:AC Tryz.prog 153 [RA a.num i] (.pure (RA (-a).num a.den)):=hM;have e1:sigW a.num=0∨sigW a.num=1:=by
  rcases sig_lit a.num with ⟨h1,e1⟩ | ⟨h1,e1⟩ | ⟨h1,e1⟩
  ·exact absurd na.2 (by omega)
  ·exact .inl e1
  ·exact .inr e1
 have e2:sigW b.num=0∨sigW b.num=1:=by
  rcases sig_lit b.num with ⟨h1,e1⟩ | ⟨h1,e1⟩ | ⟨h1,e1⟩
  ·exact absurd nb.2 (by omega)
  ·exact .inl e1
  ·exact .inr e1
 obtain⟨s1,s2⟩:=sub_int na.1 nb.1;rw[show sigW (b + -a).num=-1 by unfold sigW;rw[if_neg (by omega),if_pos (by omega)]]at hSr;refine AC.of_body TTok Tryz.func159 rfl (enter_of Tryz.func159 (by kernel_rfl) (by kernel_rfl)) (noid3 (RA_noid _ _) (RA_noid _ _) (.val _)) (.tup _ (noid2 RZ_noid (.val _))) (nbq rfl) ?_;clear s1 s2
 revert hP hSr
 generalize b + -a=r;intro hP hSr;rcases e1 with e1 | e1<;>rcases e2 with e2 | e2
 all_goals
  rw[e1]at hSa;rw[e2]at hSb;unfold RA RZ rowR at *;repeat ((conv=>whnf);(first | refine⟨_,‹_›,?_⟩|refine⟨nbq rfl,_,‹_›,?_⟩|refine⟨by kernel_rfl,?_⟩|exact rfl))
include hm
theorem Choose_gen (h:a.num≤b.num) (res:AV) (hno:NoId res)
  (r1:¬chsOk (min a.num (b.num-a.num)).toNat (max a.num (b.num-a.num)).toNat most→AV.tup [RZ,.val (.int .i64 26)]=res)
  (r2:chsOk (min a.num (b.num-a.num)).toNat (max a.num (b.num-a.num)).toNat most→AV.tup [RA ((chs (max a.num (b.num-a.num)).toNat (min a.num (b.num-a.num)).toNat:Nat):Int) 1,.val (.int .i64 0)]=res) :
  AC Tryz.prog 159 [RA a.num i,RA b.num j,.val (.int .i64 most)] (.pure res):=by
 have hWa:=IsWhole_ok a.num i;have hWb:=IsWhole_ok b.num j;have hSa:=RaSign_ok a.num i;have hSb:=RaSign_ok b.num j;have hM:=QMinus_ok a.num i;have hP:=QPlus1 b (-a) j a.den hj (dn_den a) (lb.mono (by decide)) ((Sz_neg la).mono (by decide));have hSr:=RaSign_ok (b + -a).num (b + -a).den;rw[hi,decide_eq_true na.1]at hWa;rw[hj,decide_eq_true nb.1]at hWb;rw[hi]at hM;have hM:AC Tryz.prog 153 [RA a.num i] (.pure (RA (-a).num a.den)):=hM;have e1:sigW a.num=0∨sigW a.num=1:=by
  rcases sig_lit a.num with ⟨h1,e1⟩ | ⟨h1,e1⟩ | ⟨h1,e1⟩
  ·exact absurd na.2 (by omega)
  ·exact .inl e1
  ·exact .inr e1
 have e2:sigW b.num=0∨sigW b.num=1:=by
  rcases sig_lit b.num with ⟨h1,e1⟩ | ⟨h1,e1⟩ | ⟨h1,e1⟩
  ·exact absurd nb.2 (by omega)
  ·exact .inl e1
  ·exact .inr e1
 obtain⟨s1,s2⟩:=sub_int na.1 nb.1;have sR:Sz (b + -a) 361:=(Sz_add lb (Sz_neg la)).mono (by decide);have hC:=QCmp_ok (b + -a) a (b + -a).den i (dn_den _) hi (sR.mono (by decide)) (la.mono (by decide));have eR:sigW (b + -a).num=0∨sigW (b + -a).num=1:=by
  rcases sig_lit (b + -a).num with ⟨h1,e1⟩ | ⟨h1,e1⟩ | ⟨h1,e1⟩
  ·omega
  ·exact .inl e1
  ·exact .inr e1
 refine AC.of_body TTok Tryz.func159 rfl (enter_of Tryz.func159 (by kernel_rfl) (by kernel_rfl)) (noid3 (RA_noid _ _) (RA_noid _ _) (.val _)) hno (nbq rfl) ?_;have hlt:cmpQ (b + -a) a<0↔b.num-a.num<a.num:=by
  rw[cmpQ_neg,Rat.lt_iff,s1,s2,na.1];simp
 have hdR:dn (b + -a).den=1:=by rw[dn_den,s2]
 rw[na.1]at hi;obtain⟨dr,hdr⟩:∃ d,d=(b + -a).den:=⟨_,rfl⟩;obtain⟨nr,hnr⟩:∃ n,n=(b + -a).num:=⟨_,rfl⟩;rw[←hdr]at hP hSr hC hdR;rw[←hnr]at hP hSr hC eR s1;have f1:decide (sigW a.num<0)=false:=decide_eq_false (by rcases e1 with e | e<;>rw[e]<;>decide);have f2:decide (sigW b.num<0)=false:=decide_eq_false (by rcases e2 with e | e<;>rw[e]<;>decide);have fR:decide (sigW nr<0)=false:=decide_eq_false (by rcases eR with e | e<;>rw[e]<;>decide);have lnr:=sR.1;rw[←hnr]at lnr;clear sR e1 e2 eR;have han:=na.2;have lan:=la.1;clear na nb la lb;by_cases hs:b.num-a.num<a.num
 ·have fs:decide (cmpQ (b + -a) a<0)=true:=decide_eq_true (hlt.2 hs);clear hlt;generalize cmpQ (b + -a) a=cq at hC fs;clear hnr hdr;generalize (b + -a)=qr at hP hC;generalize -a=qn at hM hP;generalize sigW a.num=g1 at *;generalize sigW b.num=g2 at *;generalize sigW nr=g3 at *;have hTop:=RTop_ok a.num i;have hI:=RInt_ok nr dr;rw[hdR]at hI;obtain⟨k,hk⟩:∃ k:Nat,nr=(k:Int):=⟨(nr).toNat,by omega⟩;obtain⟨r,hr⟩:∃ r:Nat,a.num=(r:Int):=⟨(a.num).toNat,by omega⟩;rw[show (min a.num (b.num-a.num)).toNat=k by omega,show (max a.num (b.num-a.num)).toNat=r by omega]at r1 r2;have hkr:k≤r:=by omega
  have lr:(limbs r).length≤400:=by
   have:=lan;rw[show r=(a.num).natAbs by omega];omega
  obtain⟨v,ok,hI,hv⟩:∃ v ok,AC Tryz.prog 132 [RA nr dr] (.pure (.tup [.val (.int .i64 v),.val (.bool ok)]))∧((ok=true∧v=(k:Int))∨(ok=false∧6500<k)):=by
   by_cases hf:fit nr
   ·rw[if_pos ⟨rfl,hf⟩,decide_eq_true (show fitQ nr 1 from ⟨rfl,hf⟩)]at hI;exact⟨_,_,hI,.inl ⟨rfl,hk⟩⟩
   ·rw[if_neg (fun h=>hf h.2),decide_eq_false (show ¬fitQ nr 1 from fun h=>hf h.2)]at hI;exact⟨_,_,hI,.inr ⟨rfl,by unfold fit at hf;omega⟩⟩
  have hF1:=From_ok 1 (by decide);have hWh:=Whole_ok ((chs r k:Nat):Int);unfold RA WI rowR at *;conv=>whnf
  refine⟨_,hWa,?_⟩;conv=>whnf
  refine⟨_,hWb,?_⟩;conv=>whnf
  refine⟨_,hSa,?_⟩;conv=>whnf
  refine cFq (f1) ?_;conv=>whnf
  refine⟨_,hSb,?_⟩;conv=>whnf
  refine cFq (f2) ?_;conv=>whnf
  refine⟨_,hM,?_⟩;conv=>whnf
  refine⟨(nbq rfl),_,hP,?_⟩;conv=>whnf
  refine⟨by kernel_rfl,?_⟩;conv=>whnf
  refine⟨_,hSr,?_⟩;conv=>whnf
  refine cFq (fR) ?_;conv=>whnf
  refine⟨_,hC,?_⟩;conv=>whnf
  refine cTq (fs) ?_;conv=>whnf
  refine⟨_,hI,?_⟩;conv=>whnf
  refine⟨_,hF1,?_⟩;conv=>whnf
  refine SW.loopM TTok (fun j:Nat=>[(2,.val (.int .i64 most)),(6,.lp 16 0),(8,.lp 216 0),(9,.val (.int .i64 v)),(10,.val (.bool ok)),(11,.lp 384 0),(12,.val (.int .i64 ((j:Int)+1)))])
   (fun j=>[(16,.cells 3 [[.sl 0 [] true,.val (.bool false),.sl 0 [] true]]),(216,.cells 3 [[.sl 1 (irows .u32 (limbs (a.num).natAbs)) false,.val (.bool (decide (a.num<0))),.sl 1 (irows .u32 (limbs i)) false]]),(384,.cells 2 [[.sl 1 (irows .u32 (limbs ((chs r j:Nat):Int).natAbs)) false,.val (.bool (decide (((chs r j:Nat):Int)<0)))]])]) 408 86 rfl (fun j=>6500-j)
   (fun j=>j≤k∧(j=0∨((limbs (chs r j)).length:Int)≤most)) 0 [] ⟨Nat.zero_le _,.inl rfl⟩
   ⟨q2r,q2r,q2r,q2r,q2r,q2r,q2r,trivial⟩ ⟨q3r,q3r,q3r,trivial⟩ rfl ?_
  intro j hJ;have hj1:j≤k:=hJ.1;have hj2:j=0∨((limbs (chs r j)).length:Int)≤most:=hJ.2;clear hJ;have lc:(limbs (chs r j)).length≤200:=by
   rcases hj2 with h | h
   ·subst h;exact Nat.le_trans (limbs_small (n:=1) (by decide)) (by decide)
   ·omega
  have hjb:=chs_bound (Nat.le_trans hj1 hkr) lc;have lj:(limbs (j+1)).length≤1:=limbs_small (by omega);have hFr:=From_ok ((j:Int)+1) (by omega);have lrj:=limbs_abs_add (r:Int) ((j:Int)+1);rw[Int.natAbs_natCast,show ((j:Int)+1).natAbs=j+1 by omega]at lrj;have hPl:=Plus1 (r:Int) ((j:Int)+1) (by rw[Int.natAbs_natCast];omega) (by rw[show ((j:Int)+1).natAbs=j+1 by omega];omega) (by omega);have lcr:=limbs_abs_mul ((chs r j:Nat):Int) ((r:Int)+((j:Int)+1));rw[Int.natAbs_natCast]at lcr;have ec:((chs r j:Nat):Int)*((r:Int)+((j:Int)+1))=((chs r j*(r+(j+1)):Nat):Int):=by rw[Int.natCast_mul,Int.natCast_add,Int.natCast_add];rfl
  have hTi:=Times1 ((chs r j:Nat):Int) ((r:Int)+((j:Int)+1)) (by rw[Int.natAbs_natCast];omega) (by omega) (by omega);rw[ec]at hTi lcr;rw[Int.natAbs_natCast]at lcr;obtain⟨w,hFl⟩:=floor_nat (chs r j*(r+(j+1))) (j+1) (by omega) (by omega) (by omega);rw[←chs_succ,show ((j+1:Nat):Int)=(j:Int)+1 from rfl]at hFl;have hLim:=Limbs_ok ((chs r (j+1):Nat):Int).natAbs;rw[←hr]at hPl hTi;clear ec lcr lrj lj lc
  revert hPl hTi hFl
  generalize ((chs r j*(r+(j+1)):Nat):Int)=y;generalize a.num+((j:Int)+1)=z;intro hPl hTi hFl;unfold WI rowW natA at *;rcases hv with ⟨rfl,rfl⟩ | ⟨rfl,hbig⟩
  ·conv=>whnf
   refine caseb (fun h4=>?_) (fun h4=>?_)
   ·have h4':(j:Int)+1≤(k:Int):=of_decide_eq_true h4;conv=>whnf
    refine⟨_,hTop,?_⟩;conv=>whnf
    refine⟨_,hFr,?_⟩;conv=>whnf
    refine⟨(nbq rfl),_,hPl,?_⟩;conv=>whnf
    refine⟨(nbq rfl),_,hTi,?_⟩;conv=>whnf
    refine⟨_,hFr,?_⟩;conv=>whnf
    refine⟨_,hFl,?_⟩;conv=>whnf
    refine⟨by kernel_rfl,?_⟩;conv=>whnf
    refine⟨_,hLim,?_⟩;conv=>whnf
    refine caseb (fun h5=>?_) (fun h5=>?_)
    ·have h5':((limbs (chs r (j+1))).length:Int)>most:=of_decide_eq_true h5;have hmo:=limbs_len_mono (chs_mono r (show j+1≤k by omega));conv=>whnf
     exact r1 (fun hc=>by rcases hc with hc | hc<;>omega)
    ·have h5':¬((limbs (chs r (j+1))).length:Int)>most:=of_decide_eq_false h5;conv=>whnf
     refine⟨j+1,[],(by show 6500-(j+1)<6500-j;omega),⟨(by show j+1≤k;omega),.inr (by show ((limbs (chs r (j+1))).length:Int)≤most;omega)⟩,⟨q2r,q2r,q2r,q2r,q2r,q2r,⟨valI ?_,rfl⟩,trivial⟩,⟨q3r,q3r,q3r,trivial⟩,rfl⟩;show IntKind.i64.wrap ((j:Int)+1+1)=((j+1:Nat):Int)+1;rw[IntWalk.i64_in _ (by omega)];omega
   ·have h4':¬(j:Int)+1≤(k:Int):=of_decide_eq_false h4;have hjk:j=k:=by omega
    rw[hjk]at hj2 ⊢;conv=>whnf
    refine⟨_,hWh,?_⟩;conv=>whnf
    exact r2 (by rcases hj2 with h | h;exact .inl h;exact .inr h)
  ·have h4':(j:Int)+1≤(k:Int):=by omega
   conv=>whnf
   refine⟨_,hTop,?_⟩;conv=>whnf
   refine⟨_,hFr,?_⟩;conv=>whnf
   refine⟨(nbq rfl),_,hPl,?_⟩;conv=>whnf
   refine⟨(nbq rfl),_,hTi,?_⟩;conv=>whnf
   refine⟨_,hFr,?_⟩;conv=>whnf
   refine⟨_,hFl,?_⟩;conv=>whnf
   refine⟨by kernel_rfl,?_⟩;conv=>whnf
   refine⟨_,hLim,?_⟩;conv=>whnf
   refine caseb (fun h5=>?_) (fun h5=>?_)
   ·have h5':((limbs (chs r (j+1))).length:Int)>most:=of_decide_eq_true h5;have hmo:=limbs_len_mono (chs_mono r (show j+1≤k by omega));conv=>whnf
    exact r1 (fun hc=>by rcases hc with hc | hc<;>omega)
   ·have h5':¬((limbs (chs r (j+1))).length:Int)>most:=of_decide_eq_false h5;conv=>whnf
    refine⟨j+1,[],(by show 6500-(j+1)<6500-j;omega),⟨(by show j+1≤k;omega),.inr (by show ((limbs (chs r (j+1))).length:Int)≤most;omega)⟩,⟨q2r,q2r,q2r,q2r,q2r,q2r,⟨valI ?_,rfl⟩,trivial⟩,⟨q3r,q3r,q3r,trivial⟩,rfl⟩;show IntKind.i64.wrap ((j:Int)+1+1)=((j+1:Nat):Int)+1;rw[IntWalk.i64_in _ (by omega)];omega
 ·have fs:decide (cmpQ (b + -a) a<0)=false:=decide_eq_false (fun h=>hs (hlt.1 h));clear hlt;generalize cmpQ (b + -a) a=cq at hC fs;clear hnr hdr;generalize (b + -a)=qr at hP hC;generalize -a=qn at hM hP;generalize sigW a.num=g1 at *;generalize sigW b.num=g2 at *;generalize sigW nr=g3 at *;have hTop:=RTop_ok nr dr;have hI:=RInt_ok a.num i;rw[hi]at hI;obtain⟨k,hk⟩:∃ k:Nat,a.num=(k:Int):=⟨(a.num).toNat,by omega⟩;obtain⟨r,hr⟩:∃ r:Nat,nr=(r:Int):=⟨(nr).toNat,by omega⟩;rw[show (min a.num (b.num-a.num)).toNat=k by omega,show (max a.num (b.num-a.num)).toNat=r by omega]at r1 r2;have hkr:k≤r:=by omega
  have lr:(limbs r).length≤400:=by
   have:=lnr;rw[show r=(nr).natAbs by omega];omega
  obtain⟨v,ok,hI,hv⟩:∃ v ok,AC Tryz.prog 132 [RA a.num i] (.pure (.tup [.val (.int .i64 v),.val (.bool ok)]))∧((ok=true∧v=(k:Int))∨(ok=false∧6500<k)):=by
   by_cases hf:fit a.num
   ·rw[if_pos ⟨rfl,hf⟩,decide_eq_true (show fitQ a.num 1 from ⟨rfl,hf⟩)]at hI;exact⟨_,_,hI,.inl ⟨rfl,hk⟩⟩
   ·rw[if_neg (fun h=>hf h.2),decide_eq_false (show ¬fitQ a.num 1 from fun h=>hf h.2)]at hI;exact⟨_,_,hI,.inr ⟨rfl,by unfold fit at hf;omega⟩⟩
  have hF1:=From_ok 1 (by decide);have hWh:=Whole_ok ((chs r k:Nat):Int);unfold RA WI rowR at *;conv=>whnf
  refine⟨_,hWa,?_⟩;conv=>whnf
  refine⟨_,hWb,?_⟩;conv=>whnf
  refine⟨_,hSa,?_⟩;conv=>whnf
  refine cFq (f1) ?_;conv=>whnf
  refine⟨_,hSb,?_⟩;conv=>whnf
  refine cFq (f2) ?_;conv=>whnf
  refine⟨_,hM,?_⟩;conv=>whnf
  refine⟨(nbq rfl),_,hP,?_⟩;conv=>whnf
  refine⟨by kernel_rfl,?_⟩;conv=>whnf
  refine⟨_,hSr,?_⟩;conv=>whnf
  refine cFq (fR) ?_;conv=>whnf
  refine⟨_,hC,?_⟩;conv=>whnf
  refine cFq (fs) ?_;conv=>whnf
  refine⟨_,hI,?_⟩;conv=>whnf
  refine⟨_,hF1,?_⟩;conv=>whnf
  refine SW.loopM TTok (fun j:Nat=>[(2,.val (.int .i64 most)),(6,.lp 16 0),(8,.lp 216 0),(9,.val (.int .i64 v)),(10,.val (.bool ok)),(11,.lp 352 0),(12,.val (.int .i64 ((j:Int)+1)))])
   (fun j=>[(16,.cells 3 [[.sl 0 [] true,.val (.bool false),.sl 0 [] true]]),(216,.cells 3 [[.sl 1 (irows .u32 (limbs (nr).natAbs)) false,.val (.bool (decide (nr<0))),.sl 1 (irows .u32 (limbs dr)) false]]),(352,.cells 2 [[.sl 1 (irows .u32 (limbs ((chs r j:Nat):Int).natAbs)) false,.val (.bool (decide (((chs r j:Nat):Int)<0)))]])]) 376 86 rfl (fun j=>6500-j)
   (fun j=>j≤k∧(j=0∨((limbs (chs r j)).length:Int)≤most)) 0 [] ⟨Nat.zero_le _,.inl rfl⟩
   ⟨q2r,q2r,q2r,q2r,q2r,q2r,q2r,trivial⟩ ⟨q3r,q3r,q3r,trivial⟩ rfl ?_
  intro j hJ;have hj1:j≤k:=hJ.1;have hj2:j=0∨((limbs (chs r j)).length:Int)≤most:=hJ.2;clear hJ;have lc:(limbs (chs r j)).length≤200:=by
   rcases hj2 with h | h
   ·subst h;exact Nat.le_trans (limbs_small (n:=1) (by decide)) (by decide)
   ·omega
  have hjb:=chs_bound (Nat.le_trans hj1 hkr) lc;have lj:(limbs (j+1)).length≤1:=limbs_small (by omega);have hFr:=From_ok ((j:Int)+1) (by omega);have lrj:=limbs_abs_add (r:Int) ((j:Int)+1);rw[Int.natAbs_natCast,show ((j:Int)+1).natAbs=j+1 by omega]at lrj;have hPl:=Plus1 (r:Int) ((j:Int)+1) (by rw[Int.natAbs_natCast];omega) (by rw[show ((j:Int)+1).natAbs=j+1 by omega];omega) (by omega);have lcr:=limbs_abs_mul ((chs r j:Nat):Int) ((r:Int)+((j:Int)+1));rw[Int.natAbs_natCast]at lcr;have ec:((chs r j:Nat):Int)*((r:Int)+((j:Int)+1))=((chs r j*(r+(j+1)):Nat):Int):=by rw[Int.natCast_mul,Int.natCast_add,Int.natCast_add];rfl
  have hTi:=Times1 ((chs r j:Nat):Int) ((r:Int)+((j:Int)+1)) (by rw[Int.natAbs_natCast];omega) (by omega) (by omega);rw[ec]at hTi lcr;rw[Int.natAbs_natCast]at lcr;obtain⟨w,hFl⟩:=floor_nat (chs r j*(r+(j+1))) (j+1) (by omega) (by omega) (by omega);rw[←chs_succ,show ((j+1:Nat):Int)=(j:Int)+1 from rfl]at hFl;have hLim:=Limbs_ok ((chs r (j+1):Nat):Int).natAbs;rw[←hr]at hPl hTi;clear ec lcr lrj lj lc
  revert hPl hTi hFl
  generalize ((chs r j*(r+(j+1)):Nat):Int)=y;generalize nr+((j:Int)+1)=z;intro hPl hTi hFl;unfold WI rowW natA at *;rcases hv with ⟨rfl,rfl⟩ | ⟨rfl,hbig⟩
  ·conv=>whnf
   refine caseb (fun h4=>?_) (fun h4=>?_)
   ·have h4':(j:Int)+1≤(k:Int):=of_decide_eq_true h4;conv=>whnf
    refine⟨_,hTop,?_⟩;conv=>whnf
    refine⟨_,hFr,?_⟩;conv=>whnf
    refine⟨(nbq rfl),_,hPl,?_⟩;conv=>whnf
    refine⟨(nbq rfl),_,hTi,?_⟩;conv=>whnf
    refine⟨_,hFr,?_⟩;conv=>whnf
    refine⟨_,hFl,?_⟩;conv=>whnf
    refine⟨by kernel_rfl,?_⟩;conv=>whnf
    refine⟨_,hLim,?_⟩;conv=>whnf
    refine caseb (fun h5=>?_) (fun h5=>?_)
    ·have h5':((limbs (chs r (j+1))).length:Int)>most:=of_decide_eq_true h5;have hmo:=limbs_len_mono (chs_mono r (show j+1≤k by omega));conv=>whnf
     exact r1 (fun hc=>by rcases hc with hc | hc<;>omega)
    ·have h5':¬((limbs (chs r (j+1))).length:Int)>most:=of_decide_eq_false h5;conv=>whnf
     refine⟨j+1,[],(by show 6500-(j+1)<6500-j;omega),⟨(by show j+1≤k;omega),.inr (by show ((limbs (chs r (j+1))).length:Int)≤most;omega)⟩,⟨q2r,q2r,q2r,q2r,q2r,q2r,⟨valI ?_,rfl⟩,trivial⟩,⟨q3r,q3r,q3r,trivial⟩,rfl⟩;show IntKind.i64.wrap ((j:Int)+1+1)=((j+1:Nat):Int)+1;rw[IntWalk.i64_in _ (by omega)];omega
   ·have h4':¬(j:Int)+1≤(k:Int):=of_decide_eq_false h4;have hjk:j=k:=by omega
    rw[hjk]at hj2 ⊢;conv=>whnf
    refine⟨_,hWh,?_⟩;conv=>whnf
    exact r2 (by rcases hj2 with h | h;exact .inl h;exact .inr h)
  ·have h4':(j:Int)+1≤(k:Int):=by omega
   conv=>whnf
   refine⟨_,hTop,?_⟩;conv=>whnf
   refine⟨_,hFr,?_⟩;conv=>whnf
   refine⟨(nbq rfl),_,hPl,?_⟩;conv=>whnf
   refine⟨(nbq rfl),_,hTi,?_⟩;conv=>whnf
   refine⟨_,hFr,?_⟩;conv=>whnf
   refine⟨_,hFl,?_⟩;conv=>whnf
   refine⟨by kernel_rfl,?_⟩;conv=>whnf
   refine⟨_,hLim,?_⟩;conv=>whnf
   refine caseb (fun h5=>?_) (fun h5=>?_)
   ·have h5':((limbs (chs r (j+1))).length:Int)>most:=of_decide_eq_true h5;have hmo:=limbs_len_mono (chs_mono r (show j+1≤k by omega));conv=>whnf
    exact r1 (fun hc=>by rcases hc with hc | hc<;>omega)
   ·have h5':¬((limbs (chs r (j+1))).length:Int)>most:=of_decide_eq_false h5;conv=>whnf
    refine⟨j+1,[],(by show 6500-(j+1)<6500-j;omega),⟨(by show j+1≤k;omega),.inr (by show ((limbs (chs r (j+1))).length:Int)≤most;omega)⟩,⟨q2r,q2r,q2r,q2r,q2r,q2r,⟨valI ?_,rfl⟩,trivial⟩,⟨q3r,q3r,q3r,trivial⟩,rfl⟩;show IntKind.i64.wrap ((j:Int)+1+1)=((j+1:Nat):Int)+1;rw[IntWalk.i64_in _ (by omega)];omega
end
theorem Choose_ok (a b:Rat) (i j:Nat) (most:Int) (hi:dn i=a.den) (hj:dn j=b.den) (hm:most≤200) (la:Sz a 90) (lb:Sz b 90):∃ d,dn d=(chooseQ a b most).1.den ∧
  AC Tryz.prog 159 [RA a.num i,RA b.num j,.val (.int .i64 most)] (.pure (.tup [RA (chooseQ a b most).1.num d,.val (.int .i64 (chooseQ a b most).2)])):=by
 unfold chooseQ;by_cases hn:natQ a∧natQ b
 ·rw[if_neg (fun h=>h hn)];by_cases hl:b.num<a.num
  ·rw[if_pos hl];exact⟨0,rfl,Choose_less a b i j most hi hj la lb hn.1 hn.2 hl⟩
  ·rw[if_neg hl];by_cases hc:chsOk (min a.num (b.num-a.num)).toNat (max a.num (b.num-a.num)).toNat most
   ·rw[if_pos hc];exact⟨1,rfl,Choose_gen a b i j most hi hj hm la lb hn.1 hn.2 (by omega) _ (.tup _ (noid2 (RA_noid _ _) (.val _))) (fun h=>absurd hc h) (fun _=>rfl)⟩
   ·rw[if_neg hc];exact⟨0,rfl,RZ22 (Choose_gen a b i j most hi hj hm la lb hn.1 hn.2 (by omega) _ (.tup _ (noid2 RZ_noid (.val _))) (fun _=>rfl) (fun h=>absurd h hc))⟩
 ·rw[if_pos hn];exact⟨0,rfl,Choose_none a b i j most hi hj hn⟩
end
section
theorem decS_eq (n m:Nat):((decS n).toList==(decS m).toList)=decide (n=m) :=
 (decS_is n (decL m) (fun x hx=>by have:=decL_byt m x hx;omega)).trans (decide_eq_decide.2 ⟨fun h=>decL_inj h,fun h=>by rw[h]⟩)
theorem SWays_none (a b:Rat) (most:Int) (h:¬(natQ a∧natQ b)):AC Tryz.prog 194 [RN a.num a.den,RN b.num b.den,.val (.int .i64 most)] (.pure (.tup [RN 0 1,.val (.int .i64 22)])):=by
 have hZ:=SZero_ok;have i1:=is1 a.den;have j1:=is1 b.den;refine AC.of_body TTok Tryz.func194 rfl (enter_of Tryz.func194 (by kernel_rfl) (by kernel_rfl)) (noid3 (RN_noid _ _) (RN_noid _ _) (.val _)) (.tup _ (noid2 (RN_noid _ _) (.val _))) (nbq rfl) ?_;by_cases da:a.den=1
 ·rw[decide_eq_true da]at i1;have f1:(!((decS a.den).toList==({ data:=#[49] }:ByteArray).toList))=false:=by rw[i1];rfl
  by_cases db:b.den=1
  ·rw[decide_eq_true db]at j1;have f2:(!((decS b.den).toList==({ data:=#[49] }:ByteArray).toList))=false:=by rw[j1];rfl
   by_cases na:a.num<0
   ·have f3:decide (a.num<0)=true:=decide_eq_true na;unfold RN at *;conv=>whnf
    refine cFq (f1) ?_;conv=>whnf
    refine cFq (f2) ?_;conv=>whnf
    refine cTq (f3) ?_;(conv=>whnf);refine⟨_,‹_›,?_⟩;(conv=>whnf);exact rfl
   ·have f3:decide (a.num<0)=false:=decide_eq_false na;have nb:b.num<0:=Decidable.of_not_not (fun hb=>h ⟨⟨da,by omega⟩,⟨db,by omega⟩⟩);have f4:decide (b.num<0)=true:=decide_eq_true nb;unfold RN at *;conv=>whnf
    refine cFq (f1) ?_;conv=>whnf
    refine cFq (f2) ?_;conv=>whnf
    refine cFq (f3) ?_;conv=>whnf
    refine cTq (f4) ?_;(conv=>whnf);refine⟨_,‹_›,?_⟩;(conv=>whnf);exact rfl
  ·rw[decide_eq_false db]at j1;have f2:(!((decS b.den).toList==({ data:=#[49] }:ByteArray).toList))=true:=by rw[j1];rfl
   unfold RN at *;conv=>whnf
   refine cFq (f1) ?_;conv=>whnf
   refine cTq (f2) ?_;(conv=>whnf);refine⟨_,‹_›,?_⟩;(conv=>whnf);exact rfl
 ·rw[decide_eq_false da]at i1;have f1:(!((decS a.den).toList==({ data:=#[49] }:ByteArray).toList))=true:=by rw[i1];rfl
  unfold RN at *;conv=>whnf
  refine cTq (f1) ?_;(conv=>whnf);refine⟨_,‹_›,?_⟩;(conv=>whnf);exact rfl
theorem SWays_less (a b:Rat) (most:Int) (na:natQ a) (nb:natQ b) (h:b.num<a.num):AC Tryz.prog 194 [RN a.num a.den,RN b.num b.den,.val (.int .i64 most)] (.pure (.tup [RN 0 1,.val (.int .i64 0)])):=by
 have i1:=is1 a.den;have j1:=is1 b.den;rw[decide_eq_true na.1]at i1;rw[decide_eq_true nb.1]at j1;have f1:(!((decS a.den).toList==({ data:=#[49] }:ByteArray).toList))=false:=by rw[i1];rfl
 have f2:(!((decS b.den).toList==({ data:=#[49] }:ByteArray).toList))=false:=by rw[j1];rfl
 have na2:=na.2;have nb2:=nb.2;have f3:decide (a.num<0)=false:=decide_eq_false (by omega);have f4:decide (b.num<0)=false:=decide_eq_false (by omega);have hC:=RCmp_ok a.num.natAbs b.num.natAbs;have hcmp:cmpN a.num.natAbs b.num.natAbs>0↔b.num<a.num:=by
  rw[cmpN_Z,cmpZ_pos];omega
 have fc:decide (cmpN a.num.natAbs b.num.natAbs>0)=true:=decide_eq_true (hcmp.2 h);have hZ:=SZero_ok;refine AC.of_body TTok Tryz.func194 rfl (enter_of Tryz.func194 (by kernel_rfl) (by kernel_rfl)) (noid3 (RN_noid _ _) (RN_noid _ _) (.val _)) (.tup _ (noid2 (RN_noid _ _) (.val _))) (nbq rfl) ?_;unfold RN at *;conv=>whnf
 refine cFq (f1) ?_;conv=>whnf
 refine cFq (f2) ?_;conv=>whnf
 refine cFq (f3) ?_;conv=>whnf
 refine cFq (f4) ?_;conv=>whnf
 refine⟨_,hC,?_⟩;conv=>whnf
 refine cTq (fc) ?_;(conv=>whnf);refine⟨_,‹_›,?_⟩;(conv=>whnf);exact rfl
theorem SWays_gen (a b:Rat) (most:Int) (hm:most≤200) (la:Sz a 90) (lb:Sz b 90) (na:natQ a) (nb:natQ b) (h:a.num≤b.num) (res:AV) (hno:NoId res)
  (r1:¬chsOk (min a.num (b.num-a.num)).toNat (max a.num (b.num-a.num)).toNat most→AV.tup [RN 0 1,.val (.int .i64 26)]=res)
  (r2:chsOk (min a.num (b.num-a.num)).toNat (max a.num (b.num-a.num)).toNat most→AV.tup [RN ((chs (max a.num (b.num-a.num)).toNat (min a.num (b.num-a.num)).toNat:Nat):Int) 1,.val (.int .i64 0)]=res) :
  AC Tryz.prog 194 [RN a.num a.den,RN b.num b.den,.val (.int .i64 most)] (.pure res):=by
 have i1:=is1 a.den;have j1:=is1 b.den;rw[decide_eq_true na.1]at i1;rw[decide_eq_true nb.1]at j1;have f1:(!((decS a.den).toList==({ data:=#[49] }:ByteArray).toList))=false:=by rw[i1];rfl
 have f2:(!((decS b.den).toList==({ data:=#[49] }:ByteArray).toList))=false:=by rw[j1];rfl
 have na2:=na.2;have nb2:=nb.2;have f3:decide (a.num<0)=false:=decide_eq_false (by omega);have f4:decide (b.num<0)=false:=decide_eq_false (by omega);have hC:=RCmp_ok a.num.natAbs b.num.natAbs;have hcmp:cmpN a.num.natAbs b.num.natAbs>0↔b.num<a.num:=by
  rw[cmpN_Z,cmpZ_pos];omega
 have fc:decide (cmpN a.num.natAbs b.num.natAbs>0)=false:=decide_eq_false (fun h'=>absurd (hcmp.1 h') (by omega));have hZ:=SZero_ok;have l1:=decL_le a.num.natAbs;have l2:=decL_le b.num.natAbs;have:=la.1;have:=lb.1;have hS:=RSub_ok b.num.natAbs a.num.natAbs (by omega) (by omega);have hC2:=RCmp_ok (b.num.natAbs-a.num.natAbs) a.num.natAbs;have hc2:cmpN (b.num.natAbs-a.num.natAbs) a.num.natAbs<0↔b.num-a.num<a.num:=by
  rw[cmpN_Z];unfold cmpZ;split
  ·omega
  ·split<;>omega
 have hlt2:=limbs_len_mono (Nat.sub_le b.num.natAbs a.num.natAbs);obtain⟨z,hz⟩:∃ z:Nat→Int,∀j,z j=(j:Int):=⟨_,fun j=>rfl⟩;refine AC.of_body TTok Tryz.func194 rfl (enter_of Tryz.func194 (by kernel_rfl) (by kernel_rfl)) (noid3 (RN_noid _ _) (RN_noid _ _) (.val _)) hno (nbq rfl) ?_;by_cases hs:b.num-a.num<a.num
 ·have fs:decide (cmpN (b.num.natAbs-a.num.natAbs) a.num.natAbs<0)=true:=decide_eq_true (hc2.2 hs);obtain⟨k,hk⟩:∃ k:Nat,k=b.num.natAbs-a.num.natAbs:=⟨_,rfl⟩;obtain⟨r,hr⟩:∃ r:Nat,r=a.num.natAbs:=⟨_,rfl⟩;rw[show (min a.num (b.num-a.num)).toNat=k by omega,show (max a.num (b.num-a.num)).toNat=r by omega]at r1 r2;have hkr:k≤r:=by omega
  have lr:(limbs r).length≤90:=by rw[hr];omega
  have lk:(limbs k).length≤90:=by rw[hk];omega
  have dk:=decL_le k;have hS2:=RSub_ok b.num.natAbs k (by omega) (by omega);rw[show b.num.natAbs-k=r by omega]at hS2;unfold RN at hZ ⊢;conv=>whnf
  refine cFq (f1) ?_;conv=>whnf
  refine cFq (f2) ?_;conv=>whnf
  refine cFq (f3) ?_;conv=>whnf
  refine cFq (f4) ?_;conv=>whnf
  refine⟨_,hC,?_⟩;conv=>whnf
  refine cFq (fc) ?_;conv=>whnf
  refine⟨_,hS,?_⟩;conv=>whnf
  refine⟨_,hC2,?_⟩;conv=>whnf
  refine cTq (fs) ?_;conv=>whnf
  refine⟨_,hS,?_⟩;conv=>whnf
  rw[←hk];refine SW.loopM TTok (fun j:Nat=>[(2,.val (.int .i64 most)),(4,.lp 8 0),(6,.lp 16 0),(8,.val (.string (decS k))),(9,.val (.string (decS (chs r j)))),(10,.val (.string (decS j))),(11,.val (.int .i64 (z j)))])
   (fun j=>[(8,.cells 3 [[.val (.bool (decide (b.num<0))),.val (.string (decS b.num.natAbs)),.val (.string (decS b.den))]]),(16,.cells 3 [[.val (.bool false),.val (.string ByteArray.empty),.val (.string ByteArray.empty)]])]) 352 80 rfl (fun j=>6500-j)
   (fun j=>j≤k∧(j=0∨((limbs (chs r j)).length:Int)≤most)) 0 [] ⟨Nat.zero_le _,.inl rfl⟩
   ⟨q2r,q2r,q2r,q2r,⟨strE decS_one.symm,rfl⟩,⟨strE decS_zero.symm,rfl⟩,⟨valI (hz 0).symm,rfl⟩,trivial⟩ ⟨q3r,q3r,trivial⟩ rfl ?_
  intro j hJ;have hj1:j≤k:=hJ.1;have hj2:j=0∨((limbs (chs r j)).length:Int)≤most:=hJ.2;clear hJ;have lc:(limbs (chs r j)).length≤200:=by
   rcases hj2 with h | h
   ·subst h;exact Nat.le_trans (limbs_small (n:=1) (by decide)) (by decide)
   ·omega
  have hjb:=chs_bound (Nat.le_trans hj1 hkr) lc;have fn:decide (z j<100000)=true:=decide_eq_true (by rw[hz];omega);have ek:=decS_eq j k;by_cases hjk:j=k
  ·rw[decide_eq_true hjk]at ek;have fk:(!((decS j).toList==(decS k).toList))=false:=by rw[ek];rfl
   conv=>whnf
   refine cTq (fn) ?_;conv=>whnf
   refine cFq (fk) ?_;conv=>whnf
   have e:=r2 (by rw[←hjk];rcases hj2 with h | h;exact .inl h;exact .inr h);have e2:RN ((chs r k:Nat):Int) 1 = .agg [.val (.bool false),.val (.string (decS (chs r j))),.val (.string { data:=#[49] })]:=by
    unfold RN;rw[decS_one,decide_eq_false (show ¬((chs r k:Nat):Int)<0 by omega),Int.natAbs_natCast,hjk]
   rw[e2]at e;exact Eq.trans rfl e
  ·rw[decide_eq_false hjk]at ek;have fk:(!((decS j).toList==(decS k).toList))=true:=by rw[ek];rfl
   have lj1:=limbs_small (n:=j+1) (by omega);have lj:=limbs_small (n:=j) (by omega);have dj:=decL_le j;have dj1:=decL_le (j+1);have dr:=decL_le r;have d1:=decL_le 1;have l1':=limbs_small (n:=1) (by decide);have dc:=decL_le (chs r j);have lrj:(limbs (r+(j+1))).length≤92:=by
    have:=limbs_abs_add (r:Int) ((j+1:Nat):Int);rw[show ((r:Int)+((j+1:Nat):Int)).natAbs=r+(j+1) by omega,Int.natAbs_natCast,Int.natAbs_natCast]at this;omega
   have drj:=decL_le (r+(j+1));have lcm:=limbs_mul (chs r j) (r+(j+1));have dcm:=decL_le (chs r j*(r+(j+1)));have hA1:=RAdd_ok j 1 (by omega);rw[decS_one]at hA1;have hA2:=RAdd_ok r (j+1) (by omega);have hM:=RMul_ok (chs r j) (r+(j+1)) (by omega);have hD:=RDivMod_ok (chs r j*(r+(j+1))) (j+1) (by omega) (by omega);rw[←chs_succ]at hD;have hle:(limbs (chs r (j+1))).length≤292:=by
    have:=limbs_len_mono (Nat.div_le_self (chs r j*(r+(j+1))) (j+1));rw[←chs_succ]at this;omega
   have hble:=blen_limbs' (chs r (j+1));have dcs:=decL_le (chs r (j+1));have hLi:=RLimbs_ok (chs r (j+1)) (by omega) (by omega);conv=>whnf
   refine cTq (fn) ?_;conv=>whnf
   refine cTq (fk) ?_;conv=>whnf
   refine⟨_,hA1,?_⟩;conv=>whnf
   refine⟨_,hS2,?_⟩;conv=>whnf
   refine⟨_,hA2,?_⟩;conv=>whnf
   refine⟨_,hM,?_⟩;conv=>whnf
   refine⟨_,hD,?_⟩;conv=>whnf
   refine⟨_,hLi,?_⟩;conv=>whnf
   refine caseb (fun h5=>?_) (fun h5=>?_)
   ·have h5':((limbs (chs r (j+1))).length:Int)>most:=of_decide_eq_true h5;have hmo:=limbs_len_mono (chs_mono r (show j+1≤k by omega));conv=>whnf
    refine⟨_,hZ,?_⟩;conv=>whnf
    exact r1 (fun hc=>by rcases hc with hc | hc<;>omega)
   ·have h5':¬((limbs (chs r (j+1))).length:Int)>most:=of_decide_eq_false h5;conv=>whnf
    refine⟨j+1,[],(by show 6500-(j+1)<6500-j;omega),⟨(by show j+1≤k;omega),.inr (by show ((limbs (chs r (j+1))).length:Int)≤most;omega)⟩,⟨q2r,q2r,q2r,q2r,q2r,q2r,⟨valI ?_,rfl⟩,trivial⟩,⟨q3r,q3r,trivial⟩,rfl⟩;show IntKind.i64.wrap (z j+1)=z (j+1);rw[hz,hz,IntWalk.i64_in _ (by omega)];omega
 ·have fs:decide (cmpN (b.num.natAbs-a.num.natAbs) a.num.natAbs<0)=false:=decide_eq_false (fun h=>hs (hc2.1 h));obtain⟨k,hk⟩:∃ k:Nat,k=a.num.natAbs:=⟨_,rfl⟩;obtain⟨r,hr⟩:∃ r:Nat,r=b.num.natAbs-a.num.natAbs:=⟨_,rfl⟩;rw[show (min a.num (b.num-a.num)).toNat=k by omega,show (max a.num (b.num-a.num)).toNat=r by omega]at r1 r2;have hkr:k≤r:=by omega
  have lr:(limbs r).length≤90:=by rw[hr];omega
  have lk:(limbs k).length≤90:=by rw[hk];omega
  have dk:=decL_le k;have hS2:=RSub_ok b.num.natAbs k (by omega) (by omega);rw[show b.num.natAbs-k=r by omega]at hS2;unfold RN at hZ ⊢;conv=>whnf
  refine cFq (f1) ?_;conv=>whnf
  refine cFq (f2) ?_;conv=>whnf
  refine cFq (f3) ?_;conv=>whnf
  refine cFq (f4) ?_;conv=>whnf
  refine⟨_,hC,?_⟩;conv=>whnf
  refine cFq (fc) ?_;conv=>whnf
  refine⟨_,hS,?_⟩;conv=>whnf
  refine⟨_,hC2,?_⟩;conv=>whnf
  refine cFq (fs) ?_;conv=>whnf
  rw[←hk];refine SW.loopM TTok (fun j:Nat=>[(2,.val (.int .i64 most)),(4,.lp 8 0),(6,.lp 16 0),(8,.val (.string (decS k))),(9,.val (.string (decS (chs r j)))),(10,.val (.string (decS j))),(11,.val (.int .i64 (z j)))])
   (fun j=>[(8,.cells 3 [[.val (.bool (decide (b.num<0))),.val (.string (decS b.num.natAbs)),.val (.string (decS b.den))]]),(16,.cells 3 [[.val (.bool false),.val (.string ByteArray.empty),.val (.string ByteArray.empty)]])]) 312 80 rfl (fun j=>6500-j)
   (fun j=>j≤k∧(j=0∨((limbs (chs r j)).length:Int)≤most)) 0 [] ⟨Nat.zero_le _,.inl rfl⟩
   ⟨q2r,q2r,q2r,q2r,⟨strE decS_one.symm,rfl⟩,⟨strE decS_zero.symm,rfl⟩,⟨valI (hz 0).symm,rfl⟩,trivial⟩ ⟨q3r,q3r,trivial⟩ rfl ?_
  intro j hJ;have hj1:j≤k:=hJ.1;have hj2:j=0∨((limbs (chs r j)).length:Int)≤most:=hJ.2;clear hJ;have lc:(limbs (chs r j)).length≤200:=by
   rcases hj2 with h | h
   ·subst h;exact Nat.le_trans (limbs_small (n:=1) (by decide)) (by decide)
   ·omega
  have hjb:=chs_bound (Nat.le_trans hj1 hkr) lc;have fn:decide (z j<100000)=true:=decide_eq_true (by rw[hz];omega);have ek:=decS_eq j k;by_cases hjk:j=k
  ·rw[decide_eq_true hjk]at ek;have fk:(!((decS j).toList==(decS k).toList))=false:=by rw[ek];rfl
   conv=>whnf
   refine cTq (fn) ?_;conv=>whnf
   refine cFq (fk) ?_;conv=>whnf
   have e:=r2 (by rw[←hjk];rcases hj2 with h | h;exact .inl h;exact .inr h);have e2:RN ((chs r k:Nat):Int) 1 = .agg [.val (.bool false),.val (.string (decS (chs r j))),.val (.string { data:=#[49] })]:=by
    unfold RN;rw[decS_one,decide_eq_false (show ¬((chs r k:Nat):Int)<0 by omega),Int.natAbs_natCast,hjk]
   rw[e2]at e;exact Eq.trans rfl e
  ·rw[decide_eq_false hjk]at ek;have fk:(!((decS j).toList==(decS k).toList))=true:=by rw[ek];rfl
   have lj1:=limbs_small (n:=j+1) (by omega);have lj:=limbs_small (n:=j) (by omega);have dj:=decL_le j;have dj1:=decL_le (j+1);have dr:=decL_le r;have d1:=decL_le 1;have l1':=limbs_small (n:=1) (by decide);have dc:=decL_le (chs r j);have lrj:(limbs (r+(j+1))).length≤92:=by
    have:=limbs_abs_add (r:Int) ((j+1:Nat):Int);rw[show ((r:Int)+((j+1:Nat):Int)).natAbs=r+(j+1) by omega,Int.natAbs_natCast,Int.natAbs_natCast]at this;omega
   have drj:=decL_le (r+(j+1));have lcm:=limbs_mul (chs r j) (r+(j+1));have dcm:=decL_le (chs r j*(r+(j+1)));have hA1:=RAdd_ok j 1 (by omega);rw[decS_one]at hA1;have hA2:=RAdd_ok r (j+1) (by omega);have hM:=RMul_ok (chs r j) (r+(j+1)) (by omega);have hD:=RDivMod_ok (chs r j*(r+(j+1))) (j+1) (by omega) (by omega);rw[←chs_succ]at hD;have hle:(limbs (chs r (j+1))).length≤292:=by
    have:=limbs_len_mono (Nat.div_le_self (chs r j*(r+(j+1))) (j+1));rw[←chs_succ]at this;omega
   have hble:=blen_limbs' (chs r (j+1));have dcs:=decL_le (chs r (j+1));have hLi:=RLimbs_ok (chs r (j+1)) (by omega) (by omega);conv=>whnf
   refine cTq (fn) ?_;conv=>whnf
   refine cTq (fk) ?_;conv=>whnf
   refine⟨_,hA1,?_⟩;conv=>whnf
   refine⟨_,hS2,?_⟩;conv=>whnf
   refine⟨_,hA2,?_⟩;conv=>whnf
   refine⟨_,hM,?_⟩;conv=>whnf
   refine⟨_,hD,?_⟩;conv=>whnf
   refine⟨_,hLi,?_⟩;conv=>whnf
   refine caseb (fun h5=>?_) (fun h5=>?_)
   ·have h5':((limbs (chs r (j+1))).length:Int)>most:=of_decide_eq_true h5;have hmo:=limbs_len_mono (chs_mono r (show j+1≤k by omega));conv=>whnf
    refine⟨_,hZ,?_⟩;conv=>whnf
    exact r1 (fun hc=>by rcases hc with hc | hc<;>omega)
   ·have h5':¬((limbs (chs r (j+1))).length:Int)>most:=of_decide_eq_false h5;conv=>whnf
    refine⟨j+1,[],(by show 6500-(j+1)<6500-j;omega),⟨(by show j+1≤k;omega),.inr (by show ((limbs (chs r (j+1))).length:Int)≤most;omega)⟩,⟨q2r,q2r,q2r,q2r,q2r,q2r,⟨valI ?_,rfl⟩,trivial⟩,⟨q3r,q3r,trivial⟩,rfl⟩;show IntKind.i64.wrap (z j+1)=z (j+1);rw[hz,hz,IntWalk.i64_in _ (by omega)];omega
theorem SWays_ok (a b:Rat) (most:Int) (hm:most≤200) (la:Sz a 90) (lb:Sz b 90):AC Tryz.prog 194 [RN a.num a.den,RN b.num b.den,.val (.int .i64 most)] (.pure (.tup [RN (chooseQ a b most).1.num (chooseQ a b most).1.den,.val (.int .i64 (chooseQ a b most).2)])):=by
 unfold chooseQ;by_cases hn:natQ a∧natQ b
 ·rw[if_neg (fun h=>h hn)];by_cases hl:b.num<a.num
  ·rw[if_pos hl];exact SWays_less a b most hn.1 hn.2 hl
  ·rw[if_neg hl];by_cases hc:chsOk (min a.num (b.num-a.num)).toNat (max a.num (b.num-a.num)).toNat most
   ·rw[if_pos hc];exact SWays_gen a b most hm la lb hn.1 hn.2 (by omega) _ (.tup _ (noid2 (RN_noid _ _) (.val _))) (fun h=>absurd hc h) (fun _=>rfl)
   ·rw[if_neg hc];exact SWays_gen a b most hm la lb hn.1 hn.2 (by omega) _ (.tup _ (noid2 (RN_noid _ _) (.val _))) (fun _=>rfl) (fun h=>absurd h hc)
 ·rw[if_pos hn];exact SWays_none a b most hn
end
section
def reckonQ (c:Int) (a b:Rat) (most:Int):Rat×Int :=
 if c=43 then (a+b,0)
 else if c=45 then (a + -b,0)
 else if c=215 then (a*b,0)
 else if c=247 then (if b≠0 then (a/b,0) else if a=0 then (1,0) else (0,22))
 else if c=8968 then (if a<b then b else a,0)
 else if c=8970 then (if a<b then a else b,0)
 else if c=124 then (restQ a b,0)
 else if c=42 then powerQ a b most
 else if c=33 then chooseQ a b most
 else (0,22)
theorem noid4 {a b c d:AV} (ha:NoId a) (hb:NoId b) (hc:NoId c) (hd:NoId d):∀x∈[a,b,c,d],NoId x:=by
 intro x hx;simp only[List.mem_cons,List.not_mem_nil,or_false]at hx;rcases hx with rfl | rfl | rfl | rfl<;>assumption
theorem not_f {b:Bool} (h:b=false):(!b)=true:=by rw[h];rfl
theorem sig_ne {q:Rat} (h:q≠0):(sigW q.num==0)=false:=beq_false_of_ne (by unfold sigW;rw[if_neg (num_ne h)];split<;>decide)
theorem sig_z {q:Rat} (h:q=0):(sigW q.num==0)=true:=by rw[h];rfl
theorem cmp_lt {a b:Rat} (h:a<b):cmpQ a b=-1:=if_pos h
theorem cmp_ge {a b:Rat} (h:¬a<b):decide (cmpQ a b<0)=false:=decide_eq_false (fun e=>h (cmpQ_neg.1 e))
theorem Rec43 (a b:Rat) (i j:Nat) (most:Int) (hi:dn i=a.den) (hj:dn j=b.den) (hm:most≤200) (la:Sz a 20) (lb:Sz b 20):∃ d,dn d=(reckonQ 43 a b most).1.den∧AC Tryz.prog 138 [.val (.int .i32 43),RA a.num i,RA b.num j,.val (.int .i64 most)] (.pure (.tup [RA (reckonQ 43 a b most).1.num d,.val (.int .i64 (reckonQ 43 a b most).2)])):=by
 rw[show reckonQ 43 a b most=(a+b,0) from rfl];have hP:=QPlus1 a b i j hi hj (la.mono (by decide)) (lb.mono (by decide));refine⟨_,dn_den _,?_⟩;refine AC.of_body TTok Tryz.func138 rfl (enter_of Tryz.func138 (by kernel_rfl) (by kernel_rfl)) (noid4 (.val _) (RA_noid _ _) (RA_noid _ _) (.val _)) (.tup _ (noid2 (RA_noid _ _) (.val _))) (nbq rfl) ?_
 revert hP
 generalize a+b=r;intro hP;unfold RA rowR at *;(conv=>whnf);refine⟨nbq rfl,_,‹_›,?_⟩;(conv=>whnf);exact rfl
theorem Rec45 (a b:Rat) (i j:Nat) (most:Int) (hi:dn i=a.den) (hj:dn j=b.den) (hm:most≤200) (la:Sz a 20) (lb:Sz b 20):∃ d,dn d=(reckonQ 45 a b most).1.den∧AC Tryz.prog 138 [.val (.int .i32 45),RA a.num i,RA b.num j,.val (.int .i64 most)] (.pure (.tup [RA (reckonQ 45 a b most).1.num d,.val (.int .i64 (reckonQ 45 a b most).2)])):=by
 rw[show reckonQ 45 a b most=(a + -b,0) from rfl];have hM:=QMinus_ok b.num j;rw[hj]at hM;have hM:AC Tryz.prog 153 [RA b.num j] (.pure (RA (-b).num b.den)):=hM;have hP:=QPlus1 a (-b) i b.den hi (dn_den b) (la.mono (by decide)) ((Sz_neg lb).mono (by decide));refine⟨_,dn_den _,?_⟩;refine AC.of_body TTok Tryz.func138 rfl (enter_of Tryz.func138 (by kernel_rfl) (by kernel_rfl)) (noid4 (.val _) (RA_noid _ _) (RA_noid _ _) (.val _)) (.tup _ (noid2 (RA_noid _ _) (.val _))) (nbq rfl) ?_
 revert hP
 generalize a + -b=r;intro hP;generalize -b=nb at *;unfold RA rowR at *;repeat ((conv=>whnf);(first | refine⟨_,‹_›,?_⟩|refine⟨nbq rfl,_,‹_›,?_⟩|refine⟨by kernel_rfl,?_⟩|exact rfl))
theorem Rec215 (a b:Rat) (i j:Nat) (most:Int) (hi:dn i=a.den) (hj:dn j=b.den) (hm:most≤200) (la:Sz a 20) (lb:Sz b 20):∃ d,dn d=(reckonQ 215 a b most).1.den∧AC Tryz.prog 138 [.val (.int .i32 215),RA a.num i,RA b.num j,.val (.int .i64 most)] (.pure (.tup [RA (reckonQ 215 a b most).1.num d,.val (.int .i64 (reckonQ 215 a b most).2)])):=by
 rw[show reckonQ 215 a b most=(a*b,0) from rfl];have hP:=QTimes1 a b i j hi hj (la.mono (by decide)) (lb.mono (by decide));refine⟨_,dn_den _,?_⟩;refine AC.of_body TTok Tryz.func138 rfl (enter_of Tryz.func138 (by kernel_rfl) (by kernel_rfl)) (noid4 (.val _) (RA_noid _ _) (RA_noid _ _) (.val _)) (.tup _ (noid2 (RA_noid _ _) (.val _))) (nbq rfl) ?_
 revert hP
 generalize a*b=r;intro hP;unfold RA rowR at *;(conv=>whnf);refine⟨nbq rfl,_,‹_›,?_⟩;(conv=>whnf);exact rfl
theorem Rec247 (a b:Rat) (i j:Nat) (most:Int) (hi:dn i=a.den) (hj:dn j=b.den) (hm:most≤200) (la:Sz a 20) (lb:Sz b 20):∃ d,dn d=(reckonQ 247 a b most).1.den∧AC Tryz.prog 138 [.val (.int .i32 247),RA a.num i,RA b.num j,.val (.int .i64 most)] (.pure (.tup [RA (reckonQ 247 a b most).1.num d,.val (.int .i64 (reckonQ 247 a b most).2)])):=by
 rw[show reckonQ 247 a b most=(if b≠0 then (a/b,0) else if a=0 then (1,0) else (0,22)) from rfl];have hSa:=RaSign_ok a.num i;have hSb:=RaSign_ok b.num j;by_cases hb:b=0
 ·rw[if_neg (fun h=>h hb)];have fb:=sig_z hb;by_cases ha:a=0
  ·rw[if_pos ha];have fa:=sig_z ha;have hF:=RatFrom_ok 1 (by decide);refine⟨1,rfl,?_⟩;show AC Tryz.prog 138 _ (.pure (.tup [RA 1 1,.val (.int .i64 0)]));refine AC.of_body TTok Tryz.func138 rfl (enter_of Tryz.func138 (by kernel_rfl) (by kernel_rfl)) (noid4 (.val _) (RA_noid _ _) (RA_noid _ _) (.val _)) (.tup _ (noid2 (RA_noid _ _) (.val _))) (nbq rfl) ?_;generalize sigW a.num=s at *;generalize sigW b.num=t at *;unfold RA at *;conv=>whnf
   refine⟨_,hSa,?_⟩;conv=>whnf
   refine cTq (fa) ?_;conv=>whnf
   refine⟨_,hSb,?_⟩;conv=>whnf
   refine cTq (fb) ?_;(conv=>whnf);refine⟨_,‹_›,?_⟩;(conv=>whnf);exact rfl
  ·rw[if_neg ha];have fa:=sig_ne ha;have hB:=By_zero a i j hi (by rw[hj,hb]) (la.mono (by decide));rw[←hb]at hB;refine⟨0,rfl,?_⟩;show AC Tryz.prog 138 _ (.pure (.tup [RA 0 0,.val (.int .i64 22)]));refine AC.of_body TTok Tryz.func138 rfl (enter_of Tryz.func138 (by kernel_rfl) (by kernel_rfl)) (noid4 (.val _) (RA_noid _ _) (RA_noid _ _) (.val _)) (.tup _ (noid2 (RA_noid _ _) (.val _))) (nbq rfl) ?_;generalize sigW a.num=s at *;unfold RA at *;conv=>whnf
   refine⟨_,hSa,?_⟩;conv=>whnf
   refine cFq (fa) ?_;(conv=>whnf);refine⟨_,‹_›,?_⟩;(conv=>whnf);exact rfl
 ·rw[if_pos hb];have fb:=sig_ne hb;have hB:=By_ok a b i j hi hj (la.mono (by decide)) (lb.mono (by decide)) hb;refine⟨_,dn_den _,?_⟩;refine AC.of_body TTok Tryz.func138 rfl (enter_of Tryz.func138 (by kernel_rfl) (by kernel_rfl)) (noid4 (.val _) (RA_noid _ _) (RA_noid _ _) (.val _)) (.tup _ (noid2 (RA_noid _ _) (.val _))) (nbq rfl) ?_
  revert hB
  generalize a/b=r;intro hB;by_cases ha:a=0
  ·have fa:=sig_z ha;generalize sigW a.num=s at *;generalize sigW b.num=t at *;unfold RA at *;conv=>whnf
   refine⟨_,hSa,?_⟩;conv=>whnf
   refine cTq (fa) ?_;conv=>whnf
   refine⟨_,hSb,?_⟩;conv=>whnf
   refine cFq (fb) ?_;(conv=>whnf);refine⟨_,‹_›,?_⟩;(conv=>whnf);exact rfl
  ·have fa:=sig_ne ha;generalize sigW a.num=s at *;unfold RA at *;conv=>whnf
   refine⟨_,hSa,?_⟩;conv=>whnf
   refine cFq (fa) ?_;(conv=>whnf);refine⟨_,‹_›,?_⟩;(conv=>whnf);exact rfl
theorem Rec8968 (a b:Rat) (i j:Nat) (most:Int) (hi:dn i=a.den) (hj:dn j=b.den) (hm:most≤200) (la:Sz a 20) (lb:Sz b 20):∃ d,dn d=(reckonQ 8968 a b most).1.den∧AC Tryz.prog 138 [.val (.int .i32 8968),RA a.num i,RA b.num j,.val (.int .i64 most)] (.pure (.tup [RA (reckonQ 8968 a b most).1.num d,.val (.int .i64 (reckonQ 8968 a b most).2)])):=by
 rw[show reckonQ 8968 a b most=(if a<b then b else a,0) from rfl];have hC:=QCmp_ok a b i j hi hj (la.mono (by decide)) (lb.mono (by decide));by_cases h:a<b
 ·rw[if_pos h];rw[cmp_lt h]at hC;refine⟨j,hj,?_⟩;refine AC.of_body TTok Tryz.func138 rfl (enter_of Tryz.func138 (by kernel_rfl) (by kernel_rfl)) (noid4 (.val _) (RA_noid _ _) (RA_noid _ _) (.val _)) (.tup _ (noid2 (RA_noid _ _) (.val _))) (nbq rfl) ?_;unfold RA at *;(conv=>whnf);refine⟨_,‹_›,?_⟩;(conv=>whnf);exact rfl
 ·rw[if_neg h];have f1:=cmp_ge h;refine⟨i,hi,?_⟩;refine AC.of_body TTok Tryz.func138 rfl (enter_of Tryz.func138 (by kernel_rfl) (by kernel_rfl)) (noid4 (.val _) (RA_noid _ _) (RA_noid _ _) (.val _)) (.tup _ (noid2 (RA_noid _ _) (.val _))) (nbq rfl) ?_;generalize cmpQ a b=s at *;unfold RA at *;conv=>whnf
  refine⟨_,hC,?_⟩;conv=>whnf
  refine cFq (f1) ?_;(conv=>whnf);exact rfl
theorem Rec8970 (a b:Rat) (i j:Nat) (most:Int) (hi:dn i=a.den) (hj:dn j=b.den) (hm:most≤200) (la:Sz a 20) (lb:Sz b 20):∃ d,dn d=(reckonQ 8970 a b most).1.den∧AC Tryz.prog 138 [.val (.int .i32 8970),RA a.num i,RA b.num j,.val (.int .i64 most)] (.pure (.tup [RA (reckonQ 8970 a b most).1.num d,.val (.int .i64 (reckonQ 8970 a b most).2)])):=by
 rw[show reckonQ 8970 a b most=(if a<b then a else b,0) from rfl];have hC:=QCmp_ok a b i j hi hj (la.mono (by decide)) (lb.mono (by decide));by_cases h:a<b
 ·rw[if_pos h];rw[cmp_lt h]at hC;refine⟨i,hi,?_⟩;refine AC.of_body TTok Tryz.func138 rfl (enter_of Tryz.func138 (by kernel_rfl) (by kernel_rfl)) (noid4 (.val _) (RA_noid _ _) (RA_noid _ _) (.val _)) (.tup _ (noid2 (RA_noid _ _) (.val _))) (nbq rfl) ?_;unfold RA at *;(conv=>whnf);refine⟨_,‹_›,?_⟩;(conv=>whnf);exact rfl
 ·rw[if_neg h];by_cases he:a=b
  ·have hC0:cmpQ a b=0:=cmpQ_eq.2 he;rw[hC0]at hC;refine⟨i,by rw[hi,he],?_⟩;rw[show RA b.num i=RA a.num i by rw[he]];refine AC.of_body TTok Tryz.func138 rfl (enter_of Tryz.func138 (by kernel_rfl) (by kernel_rfl)) (noid4 (.val _) (RA_noid _ _) (RA_noid _ _) (.val _)) (.tup _ (noid2 (RA_noid _ _) (.val _))) (nbq rfl) ?_;unfold RA at *;(conv=>whnf);refine⟨_,‹_›,?_⟩;(conv=>whnf);exact rfl
  ·have hC1:cmpQ a b=1:=by unfold cmpQ;rw[if_neg h,if_neg he]
   rw[hC1]at hC;refine⟨j,hj,?_⟩;refine AC.of_body TTok Tryz.func138 rfl (enter_of Tryz.func138 (by kernel_rfl) (by kernel_rfl)) (noid4 (.val _) (RA_noid _ _) (RA_noid _ _) (.val _)) (.tup _ (noid2 (RA_noid _ _) (.val _))) (nbq rfl) ?_;unfold RA at *;(conv=>whnf);refine⟨_,‹_›,?_⟩;(conv=>whnf);exact rfl
theorem Rec124 (a b:Rat) (i j:Nat) (most:Int) (hi:dn i=a.den) (hj:dn j=b.den) (hm:most≤200) (la:Sz a 20) (lb:Sz b 20):∃ d,dn d=(reckonQ 124 a b most).1.den∧AC Tryz.prog 138 [.val (.int .i32 124),RA a.num i,RA b.num j,.val (.int .i64 most)] (.pure (.tup [RA (reckonQ 124 a b most).1.num d,.val (.int .i64 (reckonQ 124 a b most).2)])):=by
 rw[show reckonQ 124 a b most=(restQ a b,0) from rfl];by_cases h:a=0
 ·have hR:=Rest_zero b i j (by rw[hi,h]) hj (lb.mono (by decide));rw[←h]at hR;rw[show restQ a b=b from if_pos h];refine⟨j,hj,?_⟩;refine AC.of_body TTok Tryz.func138 rfl (enter_of Tryz.func138 (by kernel_rfl) (by kernel_rfl)) (noid4 (.val _) (RA_noid _ _) (RA_noid _ _) (.val _)) (.tup _ (noid2 (RA_noid _ _) (.val _))) (nbq rfl) ?_;unfold RA at *;(conv=>whnf);refine⟨_,‹_›,?_⟩;(conv=>whnf);exact rfl
 ·have hR:=Rest_ok a b i j h hi hj la lb;refine⟨_,dn_den _,?_⟩;refine AC.of_body TTok Tryz.func138 rfl (enter_of Tryz.func138 (by kernel_rfl) (by kernel_rfl)) (noid4 (.val _) (RA_noid _ _) (RA_noid _ _) (.val _)) (.tup _ (noid2 (RA_noid _ _) (.val _))) (nbq rfl) ?_
  revert hR
  generalize restQ a b=r;intro hR;unfold RA at *;(conv=>whnf);refine⟨_,‹_›,?_⟩;(conv=>whnf);exact rfl
theorem Rec42 (a b:Rat) (i j:Nat) (most:Int) (hi:dn i=a.den) (hj:dn j=b.den) (hm:most≤200) (la:Sz a 20) (lb:Sz b 20):∃ d,dn d=(reckonQ 42 a b most).1.den∧AC Tryz.prog 138 [.val (.int .i32 42),RA a.num i,RA b.num j,.val (.int .i64 most)] (.pure (.tup [RA (reckonQ 42 a b most).1.num d,.val (.int .i64 (reckonQ 42 a b most).2)])):=by
 rw[show reckonQ 42 a b most=powerQ a b most from rfl];obtain⟨d,hd,hP⟩:=Power_ok a b i j most hi hj hm (la.mono (by decide));refine⟨d,hd,?_⟩;refine AC.of_body TTok Tryz.func138 rfl (enter_of Tryz.func138 (by kernel_rfl) (by kernel_rfl)) (noid4 (.val _) (RA_noid _ _) (RA_noid _ _) (.val _)) (.tup _ (noid2 (RA_noid _ _) (.val _))) (nbq rfl) ?_
 revert hP
 generalize (powerQ a b most).1=r;generalize (powerQ a b most).2=e;intro hP;unfold RA at *;(conv=>whnf);refine⟨_,‹_›,?_⟩;(conv=>whnf);exact rfl
theorem Rec33 (a b:Rat) (i j:Nat) (most:Int) (hi:dn i=a.den) (hj:dn j=b.den) (hm:most≤200) (la:Sz a 20) (lb:Sz b 20):∃ d,dn d=(reckonQ 33 a b most).1.den∧AC Tryz.prog 138 [.val (.int .i32 33),RA a.num i,RA b.num j,.val (.int .i64 most)] (.pure (.tup [RA (reckonQ 33 a b most).1.num d,.val (.int .i64 (reckonQ 33 a b most).2)])):=by
 rw[show reckonQ 33 a b most=chooseQ a b most from rfl];obtain⟨d,hd,hP⟩:=Choose_ok a b i j most hi hj hm (la.mono (by decide)) (lb.mono (by decide));refine⟨d,hd,?_⟩;refine AC.of_body TTok Tryz.func138 rfl (enter_of Tryz.func138 (by kernel_rfl) (by kernel_rfl)) (noid4 (.val _) (RA_noid _ _) (RA_noid _ _) (.val _)) (.tup _ (noid2 (RA_noid _ _) (.val _))) (nbq rfl) ?_
 revert hP
 generalize (chooseQ a b most).1=r;generalize (chooseQ a b most).2=e;intro hP;unfold RA at *;(conv=>whnf);refine⟨_,‹_›,?_⟩;(conv=>whnf);exact rfl
theorem Rec9055 (a b:Rat) (i j:Nat) (most:Int) (hi:dn i=a.den) (hj:dn j=b.den) (hm:most≤200) (la:Sz a 20) (lb:Sz b 20):∃ d,dn d=(reckonQ 9055 a b most).1.den∧AC Tryz.prog 138 [.val (.int .i32 9055),RA a.num i,RA b.num j,.val (.int .i64 most)] (.pure (.tup [RA (reckonQ 9055 a b most).1.num d,.val (.int .i64 (reckonQ 9055 a b most).2)])):=by
 refine⟨0,rfl,RZ22 ?_⟩;refine AC.of_body TTok Tryz.func138 rfl (enter_of Tryz.func138 (by kernel_rfl) (by kernel_rfl)) (noid4 (.val _) (RA_noid _ _) (RA_noid _ _) (.val _)) (.tup _ (noid2 RZ_noid (.val _))) (nbq rfl) ?_;unfold RZ;(conv=>whnf);exact rfl
theorem Rec9675 (a b:Rat) (i j:Nat) (most:Int) (hi:dn i=a.den) (hj:dn j=b.den) (hm:most≤200) (la:Sz a 20) (lb:Sz b 20):∃ d,dn d=(reckonQ 9675 a b most).1.den∧AC Tryz.prog 138 [.val (.int .i32 9675),RA a.num i,RA b.num j,.val (.int .i64 most)] (.pure (.tup [RA (reckonQ 9675 a b most).1.num d,.val (.int .i64 (reckonQ 9675 a b most).2)])):=by
 refine⟨0,rfl,RZ22 ?_⟩;refine AC.of_body TTok Tryz.func138 rfl (enter_of Tryz.func138 (by kernel_rfl) (by kernel_rfl)) (noid4 (.val _) (RA_noid _ _) (RA_noid _ _) (.val _)) (.tup _ (noid2 RZ_noid (.val _))) (nbq rfl) ?_;unfold RZ;(conv=>whnf);exact rfl
theorem Reckon_ok (a b:Rat) (i j:Nat) (most:Int) (hi:dn i=a.den) (hj:dn j=b.den) (hm:most≤200) (la:Sz a 20) (lb:Sz b 20) (c:Int) (hc:isRec c):∃ d,dn d=(reckonQ c a b most).1.den∧AC Tryz.prog 138 [.val (.int .i32 c),RA a.num i,RA b.num j,.val (.int .i64 most)] (.pure (.tup [RA (reckonQ c a b most).1.num d,.val (.int .i64 (reckonQ c a b most).2)])):=by
 rcases hc with rfl | rfl | rfl | rfl | rfl | rfl | rfl | rfl | rfl | rfl | rfl
 ·exact Rec43 a b i j most hi hj hm la lb
 ·exact Rec45 a b i j most hi hj hm la lb
 ·exact Rec215 a b i j most hi hj hm la lb
 ·exact Rec247 a b i j most hi hj hm la lb
 ·exact Rec8968 a b i j most hi hj hm la lb
 ·exact Rec8970 a b i j most hi hj hm la lb
 ·exact Rec124 a b i j most hi hj hm la lb
 ·exact Rec42 a b i j most hi hj hm la lb
 ·exact Rec33 a b i j most hi hj hm la lb
 ·exact Rec9055 a b i j most hi hj hm la lb
 ·exact Rec9675 a b i j most hi hj hm la lb
theorem SRec43 (a b:Rat) (most:Int) (hm:most≤200) (la:Sz a 20) (lb:Sz b 20):AC Tryz.prog 165 [.val (.int .i32 43),RN a.num a.den,RN b.num b.den,.val (.int .i64 most)] (.pure (.tup [RN (reckonQ 43 a b most).1.num (reckonQ 43 a b most).1.den,.val (.int .i64 (reckonQ 43 a b most).2)])):=by
 rw[show reckonQ 43 a b most=(a+b,0) from rfl];have hP:=SAdd_ok a b 20 20 la lb (by decide);refine AC.of_body TTok Tryz.func165 rfl (enter_of Tryz.func165 (by kernel_rfl) (by kernel_rfl)) (noid4 (.val _) (RN_noid _ _) (RN_noid _ _) (.val _)) (.tup _ (noid2 (RN_noid _ _) (.val _))) (nbq rfl) ?_
 revert hP
 generalize a+b=r;intro hP;unfold RN at *;(conv=>whnf);refine⟨_,‹_›,?_⟩;(conv=>whnf);exact rfl
theorem SRec45 (a b:Rat) (most:Int) (hm:most≤200) (la:Sz a 20) (lb:Sz b 20):AC Tryz.prog 165 [.val (.int .i32 45),RN a.num a.den,RN b.num b.den,.val (.int .i64 most)] (.pure (.tup [RN (reckonQ 45 a b most).1.num (reckonQ 45 a b most).1.den,.val (.int .i64 (reckonQ 45 a b most).2)])):=by
 rw[show reckonQ 45 a b most=(a + -b,0) from rfl];have hM:=SMinus_ok b.num b.den;have hM:AC Tryz.prog 189 [RN b.num b.den] (.pure (RN (-b).num b.den)):=hM;have hP:=SAdd_ok a (-b) 20 20 la (Sz_neg lb) (by decide);rw[Rat.neg_den]at hP;refine AC.of_body TTok Tryz.func165 rfl (enter_of Tryz.func165 (by kernel_rfl) (by kernel_rfl)) (noid4 (.val _) (RN_noid _ _) (RN_noid _ _) (.val _)) (.tup _ (noid2 (RN_noid _ _) (.val _))) (nbq rfl) ?_
 revert hP
 generalize a + -b=r;intro hP;generalize -b=nb at *;unfold RN at *;repeat ((conv=>whnf);(first | refine⟨_,‹_›,?_⟩|refine⟨by kernel_rfl,?_⟩|exact rfl))
theorem SRec215 (a b:Rat) (most:Int) (hm:most≤200) (la:Sz a 20) (lb:Sz b 20):AC Tryz.prog 165 [.val (.int .i32 215),RN a.num a.den,RN b.num b.den,.val (.int .i64 most)] (.pure (.tup [RN (reckonQ 215 a b most).1.num (reckonQ 215 a b most).1.den,.val (.int .i64 (reckonQ 215 a b most).2)])):=by
 rw[show reckonQ 215 a b most=(a*b,0) from rfl];have hP:=SMul_ok a b (la.mono (by decide)) (lb.mono (by decide));refine AC.of_body TTok Tryz.func165 rfl (enter_of Tryz.func165 (by kernel_rfl) (by kernel_rfl)) (noid4 (.val _) (RN_noid _ _) (RN_noid _ _) (.val _)) (.tup _ (noid2 (RN_noid _ _) (.val _))) (nbq rfl) ?_
 revert hP
 generalize a*b=r;intro hP;unfold RN at *;(conv=>whnf);refine⟨_,‹_›,?_⟩;(conv=>whnf);exact rfl
theorem SRec247 (a b:Rat) (most:Int) (hm:most≤200) (la:Sz a 20) (lb:Sz b 20):AC Tryz.prog 165 [.val (.int .i32 247),RN a.num a.den,RN b.num b.den,.val (.int .i64 most)] (.pure (.tup [RN (reckonQ 247 a b most).1.num (reckonQ 247 a b most).1.den,.val (.int .i64 (reckonQ 247 a b most).2)])):=by
 rw[show reckonQ 247 a b most=(if b≠0 then (a/b,0) else if a=0 then (1,0) else (0,22)) from rfl];have j0:=is0 b.num.natAbs;have i0:=is0 a.num.natAbs;have hC:=SCmp_ok a b (la.mono (by decide)) (lb.mono (by decide));have hZ:=SZero_ok;by_cases hb:b=0
 ·rw[if_neg (fun h=>h hb)];rw[decide_eq_true (by rw[hb];rfl)]at j0;have fb:(!((decS b.num.natAbs).toList==({ data:=#[48] }:ByteArray).toList))=false:=by rw[j0];rfl
  by_cases ha:a=0
  ·rw[if_pos ha];rw[decide_eq_true (by rw[ha];rfl)]at i0;have hF:=SFrom_ok 1 (by decide);show AC Tryz.prog 165 _ (.pure (.tup [RN 1 1,.val (.int .i64 0)]));refine AC.of_body TTok Tryz.func165 rfl (enter_of Tryz.func165 (by kernel_rfl) (by kernel_rfl)) (noid4 (.val _) (RN_noid _ _) (RN_noid _ _) (.val _)) (.tup _ (noid2 (RN_noid _ _) (.val _))) (nbq rfl) ?_;unfold RN at *;conv=>whnf
   refine cFq (fb) ?_;conv=>whnf
   refine cTq (i0) ?_;(conv=>whnf);refine⟨_,‹_›,?_⟩;(conv=>whnf);exact rfl
  ·rw[if_neg ha];rw[decide_eq_false (by have:=num_ne ha;omega)]at i0;show AC Tryz.prog 165 _ (.pure (.tup [RN 0 1,.val (.int .i64 22)]));refine AC.of_body TTok Tryz.func165 rfl (enter_of Tryz.func165 (by kernel_rfl) (by kernel_rfl)) (noid4 (.val _) (RN_noid _ _) (RN_noid _ _) (.val _)) (.tup _ (noid2 (RN_noid _ _) (.val _))) (nbq rfl) ?_;generalize cmpQ a b=s at *;unfold RN at *;conv=>whnf
   refine cFq (fb) ?_;conv=>whnf
   refine cFq (i0) ?_;repeat ((conv=>whnf);(first | refine⟨_,‹_›,?_⟩|exact rfl))
 ·rw[if_pos hb];rw[decide_eq_false (by have:=num_ne hb;omega)]at j0;have fb:(!((decS b.num.natAbs).toList==({ data:=#[48] }:ByteArray).toList))=true:=by rw[j0];rfl
  have hB:=SDiv_ok a b (la.mono (by decide)) (lb.mono (by decide)) hb;refine AC.of_body TTok Tryz.func165 rfl (enter_of Tryz.func165 (by kernel_rfl) (by kernel_rfl)) (noid4 (.val _) (RN_noid _ _) (RN_noid _ _) (.val _)) (.tup _ (noid2 (RN_noid _ _) (.val _))) (nbq rfl) ?_
  revert hB
  generalize a/b=r;intro hB;unfold RN at *;conv=>whnf
  refine cTq (fb) ?_;(conv=>whnf);refine⟨_,‹_›,?_⟩;(conv=>whnf);exact rfl
theorem SRec8968 (a b:Rat) (most:Int) (hm:most≤200) (la:Sz a 20) (lb:Sz b 20):AC Tryz.prog 165 [.val (.int .i32 8968),RN a.num a.den,RN b.num b.den,.val (.int .i64 most)] (.pure (.tup [RN (reckonQ 8968 a b most).1.num (reckonQ 8968 a b most).1.den,.val (.int .i64 (reckonQ 8968 a b most).2)])):=by
 rw[show reckonQ 8968 a b most=(if a<b then b else a,0) from rfl];have hC:=SCmp_ok a b (la.mono (by decide)) (lb.mono (by decide));by_cases h:a<b
 ·rw[if_pos h];rw[cmp_lt h]at hC;refine AC.of_body TTok Tryz.func165 rfl (enter_of Tryz.func165 (by kernel_rfl) (by kernel_rfl)) (noid4 (.val _) (RN_noid _ _) (RN_noid _ _) (.val _)) (.tup _ (noid2 (RN_noid _ _) (.val _))) (nbq rfl) ?_;unfold RN at *;(conv=>whnf);refine⟨_,‹_›,?_⟩;(conv=>whnf);exact rfl
 ·rw[if_neg h];have f1:=cmp_ge h;refine AC.of_body TTok Tryz.func165 rfl (enter_of Tryz.func165 (by kernel_rfl) (by kernel_rfl)) (noid4 (.val _) (RN_noid _ _) (RN_noid _ _) (.val _)) (.tup _ (noid2 (RN_noid _ _) (.val _))) (nbq rfl) ?_;unfold RN at *;generalize cmpQ a b=s at *;(conv=>whnf);refine⟨_,‹_›,?_⟩;conv=>whnf
  refine cFq (f1) ?_;(conv=>whnf);exact rfl
theorem SRec8970 (a b:Rat) (most:Int) (hm:most≤200) (la:Sz a 20) (lb:Sz b 20):AC Tryz.prog 165 [.val (.int .i32 8970),RN a.num a.den,RN b.num b.den,.val (.int .i64 most)] (.pure (.tup [RN (reckonQ 8970 a b most).1.num (reckonQ 8970 a b most).1.den,.val (.int .i64 (reckonQ 8970 a b most).2)])):=by
 rw[show reckonQ 8970 a b most=(if a<b then a else b,0) from rfl];have hC:=SCmp_ok a b (la.mono (by decide)) (lb.mono (by decide));by_cases h:a<b
 ·rw[if_pos h];rw[cmp_lt h]at hC;refine AC.of_body TTok Tryz.func165 rfl (enter_of Tryz.func165 (by kernel_rfl) (by kernel_rfl)) (noid4 (.val _) (RN_noid _ _) (RN_noid _ _) (.val _)) (.tup _ (noid2 (RN_noid _ _) (.val _))) (nbq rfl) ?_;unfold RN at *;(conv=>whnf);refine⟨_,‹_›,?_⟩;(conv=>whnf);exact rfl
 ·rw[if_neg h];have f1:=cmp_ge h;refine AC.of_body TTok Tryz.func165 rfl (enter_of Tryz.func165 (by kernel_rfl) (by kernel_rfl)) (noid4 (.val _) (RN_noid _ _) (RN_noid _ _) (.val _)) (.tup _ (noid2 (RN_noid _ _) (.val _))) (nbq rfl) ?_;unfold RN at *;generalize cmpQ a b=s at *;(conv=>whnf);refine⟨_,‹_›,?_⟩;conv=>whnf
  refine cTq (not_f f1) ?_;(conv=>whnf);exact rfl
theorem SRec124 (a b:Rat) (most:Int) (hm:most≤200) (la:Sz a 20) (lb:Sz b 20):AC Tryz.prog 165 [.val (.int .i32 124),RN a.num a.den,RN b.num b.den,.val (.int .i64 most)] (.pure (.tup [RN (reckonQ 124 a b most).1.num (reckonQ 124 a b most).1.den,.val (.int .i64 (reckonQ 124 a b most).2)])):=by
 rw[show reckonQ 124 a b most=(restQ a b,0) from rfl];have hC:=SCmp_ok a b (la.mono (by decide)) (lb.mono (by decide));by_cases h:a=0
 ·have hR:=SRest_zero b (lb.mono (by decide));rw[←h]at hR;rw[show restQ a b=b from if_pos h];refine AC.of_body TTok Tryz.func165 rfl (enter_of Tryz.func165 (by kernel_rfl) (by kernel_rfl)) (noid4 (.val _) (RN_noid _ _) (RN_noid _ _) (.val _)) (.tup _ (noid2 (RN_noid _ _) (.val _))) (nbq rfl) ?_;generalize cmpQ a b=s at *;unfold RN at *;repeat ((conv=>whnf);(first | refine⟨_,‹_›,?_⟩|exact rfl))
 ·have hR:=SRest_ok a b h la lb;refine AC.of_body TTok Tryz.func165 rfl (enter_of Tryz.func165 (by kernel_rfl) (by kernel_rfl)) (noid4 (.val _) (RN_noid _ _) (RN_noid _ _) (.val _)) (.tup _ (noid2 (RN_noid _ _) (.val _))) (nbq rfl) ?_
  revert hR
  generalize restQ a b=r;generalize cmpQ a b=s at *;intro hR;unfold RN at *;repeat ((conv=>whnf);(first | refine⟨_,‹_›,?_⟩|exact rfl))
theorem SRec42 (a b:Rat) (most:Int) (hm:most≤200) (la:Sz a 20) (lb:Sz b 20):AC Tryz.prog 165 [.val (.int .i32 42),RN a.num a.den,RN b.num b.den,.val (.int .i64 most)] (.pure (.tup [RN (reckonQ 42 a b most).1.num (reckonQ 42 a b most).1.den,.val (.int .i64 (reckonQ 42 a b most).2)])):=by
 rw[show reckonQ 42 a b most=powerQ a b most from rfl];have hC:=SCmp_ok a b (la.mono (by decide)) (lb.mono (by decide));have hP:=SPower_ok a b most hm (la.mono (by decide)) (lb.mono (by decide));refine AC.of_body TTok Tryz.func165 rfl (enter_of Tryz.func165 (by kernel_rfl) (by kernel_rfl)) (noid4 (.val _) (RN_noid _ _) (RN_noid _ _) (.val _)) (.tup _ (noid2 (RN_noid _ _) (.val _))) (nbq rfl) ?_
 revert hP
 generalize (powerQ a b most).1=r;generalize (powerQ a b most).2=e;generalize cmpQ a b=s at *;intro hP;unfold RN at *;repeat ((conv=>whnf);(first | refine⟨_,‹_›,?_⟩|exact rfl))
theorem SRec33 (a b:Rat) (most:Int) (hm:most≤200) (la:Sz a 20) (lb:Sz b 20):AC Tryz.prog 165 [.val (.int .i32 33),RN a.num a.den,RN b.num b.den,.val (.int .i64 most)] (.pure (.tup [RN (reckonQ 33 a b most).1.num (reckonQ 33 a b most).1.den,.val (.int .i64 (reckonQ 33 a b most).2)])):=by
 rw[show reckonQ 33 a b most=chooseQ a b most from rfl];have hC:=SCmp_ok a b (la.mono (by decide)) (lb.mono (by decide));have hP:=SWays_ok a b most hm (la.mono (by decide)) (lb.mono (by decide));refine AC.of_body TTok Tryz.func165 rfl (enter_of Tryz.func165 (by kernel_rfl) (by kernel_rfl)) (noid4 (.val _) (RN_noid _ _) (RN_noid _ _) (.val _)) (.tup _ (noid2 (RN_noid _ _) (.val _))) (nbq rfl) ?_
 revert hP
 generalize (chooseQ a b most).1=r;generalize (chooseQ a b most).2=e;generalize cmpQ a b=s at *;intro hP;unfold RN at *;repeat ((conv=>whnf);(first | refine⟨_,‹_›,?_⟩|exact rfl))
theorem SRec9055 (a b:Rat) (most:Int) (hm:most≤200) (la:Sz a 20) (lb:Sz b 20):AC Tryz.prog 165 [.val (.int .i32 9055),RN a.num a.den,RN b.num b.den,.val (.int .i64 most)] (.pure (.tup [RN (reckonQ 9055 a b most).1.num (reckonQ 9055 a b most).1.den,.val (.int .i64 (reckonQ 9055 a b most).2)])):=by
 have hC:=SCmp_ok a b (la.mono (by decide)) (lb.mono (by decide));have hZ:=SZero_ok;show AC Tryz.prog 165 _ (.pure (.tup [RN 0 1,.val (.int .i64 22)]));refine AC.of_body TTok Tryz.func165 rfl (enter_of Tryz.func165 (by kernel_rfl) (by kernel_rfl)) (noid4 (.val _) (RN_noid _ _) (RN_noid _ _) (.val _)) (.tup _ (noid2 (RN_noid _ _) (.val _))) (nbq rfl) ?_;generalize cmpQ a b=s at *;unfold RN at *;repeat ((conv=>whnf);(first | refine⟨_,‹_›,?_⟩|exact rfl))
theorem SRec9675 (a b:Rat) (most:Int) (hm:most≤200) (la:Sz a 20) (lb:Sz b 20):AC Tryz.prog 165 [.val (.int .i32 9675),RN a.num a.den,RN b.num b.den,.val (.int .i64 most)] (.pure (.tup [RN (reckonQ 9675 a b most).1.num (reckonQ 9675 a b most).1.den,.val (.int .i64 (reckonQ 9675 a b most).2)])):=by
 have hC:=SCmp_ok a b (la.mono (by decide)) (lb.mono (by decide));have hZ:=SZero_ok;show AC Tryz.prog 165 _ (.pure (.tup [RN 0 1,.val (.int .i64 22)]));refine AC.of_body TTok Tryz.func165 rfl (enter_of Tryz.func165 (by kernel_rfl) (by kernel_rfl)) (noid4 (.val _) (RN_noid _ _) (RN_noid _ _) (.val _)) (.tup _ (noid2 (RN_noid _ _) (.val _))) (nbq rfl) ?_;generalize cmpQ a b=s at *;unfold RN at *;repeat ((conv=>whnf);(first | refine⟨_,‹_›,?_⟩|exact rfl))
theorem SReckon_ok (a b:Rat) (most:Int) (hm:most≤200) (la:Sz a 20) (lb:Sz b 20) (c:Int) (hc:isRec c):AC Tryz.prog 165 [.val (.int .i32 c),RN a.num a.den,RN b.num b.den,.val (.int .i64 most)] (.pure (.tup [RN (reckonQ c a b most).1.num (reckonQ c a b most).1.den,.val (.int .i64 (reckonQ c a b most).2)])):=by
 rcases hc with rfl | rfl | rfl | rfl | rfl | rfl | rfl | rfl | rfl | rfl | rfl
 ·exact SRec43 a b most hm la lb
 ·exact SRec45 a b most hm la lb
 ·exact SRec215 a b most hm la lb
 ·exact SRec247 a b most hm la lb
 ·exact SRec8968 a b most hm la lb
 ·exact SRec8970 a b most hm la lb
 ·exact SRec124 a b most hm la lb
 ·exact SRec42 a b most hm la lb
 ·exact SRec33 a b most hm la lb
 ·exact SRec9055 a b most hm la lb
 ·exact SRec9675 a b most hm la lb
end
section
def twoQ (c:Int) (a b:Rat) (most:Int):Rat×Int :=
 if isCmp c then (tq (cmpS c (cmpQ a b)),0)
 else if isJdg c then judgeQ c a b
 else if ¬isRec c then (0,20)
 else if (reckonQ c a b most).2≠0 then (0,(reckonQ c a b most).2)
 else if most<(qLimbs (reckonQ c a b most).1.num (reckonQ c a b most).1.den:Nat) then (0,26)
 else ((reckonQ c a b most).1,0)
theorem chs_sz {k r:Nat} {most:Int} {K:Nat} (h1:1≤K) (hm:most≤K) (h:chsOk k r most):(limbs (chs r k)).length≤K:=by
 rcases h with h | h
 ·subst h;exact Nat.le_trans (limbs_small (n:=1) (by decide)) h1
 ·omega
theorem Sz_one:Sz 1 1:=Sz_small (by decide) (by decide)
theorem rest_sz {a x:Rat} {i j:Nat} (h0:a≠0) (la:Sz a i) (lx:Sz x j):Sz (restQ a x) (2*(j+(i+(j+i+2)))+1):=by
 unfold restQ;rw[if_neg h0];exact Sz_add lx (Sz_neg (Sz_mul la (Sz_int (by omega) (limbs_floor (Sz_div h0 lx la)))))
theorem reckon_sz (c:Int) (a b:Rat) (most:Int) (hm:most≤200) (la:Sz a 20) (lb:Sz b 20):Sz (reckonQ c a b most).1 400:=by
 unfold reckonQ;split
 ·exact (Sz_add la lb).mono (by decide)
 split
 ·exact (Sz_add la (Sz_neg lb)).mono (by decide)
 split
 ·exact (Sz_mul la lb).mono (by decide)
 split
 ·split
  ·rename_i h;exact (Sz_div h la lb).mono (by decide)
  ·split
   ·exact Sz_one.mono (by decide)
   ·exact Sz_zero.mono (by decide)
 split
 ·show Sz (if a<b then b else a) 400;split
  ·exact lb.mono (by decide)
  ·exact la.mono (by decide)
 split
 ·show Sz (if a<b then a else b) 400;split
  ·exact la.mono (by decide)
  ·exact lb.mono (by decide)
 split
 ·show Sz (restQ a b) 400;by_cases h:a=0
  ·rw[show restQ a b=b from if_pos h];exact lb.mono (by decide)
  ·exact (rest_sz h la lb).mono (by decide)
 split
 ·unfold powerQ;split
  ·exact Sz_zero.mono (by decide)
  split
  ·show Sz (if a.num<0∧b.num.natAbs % 2=0 then -a else a) 400;split
   ·exact (Sz_neg la).mono (by decide)
   ·exact la.mono (by decide)
  split
  ·exact Sz_zero.mono (by decide)
  ·exact (pow_sz a b.num most 200 (by decide) hm (la.mono (by decide))).mono (by decide)
 split
 ·unfold chooseQ;split
  ·exact Sz_zero.mono (by decide)
  split
  ·exact Sz_zero.mono (by decide)
  split
  ·rename_i h;exact (Sz_int (k:=200) (by decide) (by rw[Int.natAbs_natCast];exact chs_sz (by decide) hm h)).mono (by decide)
  ·exact Sz_zero.mono (by decide)
 ·exact Sz_zero.mono (by decide)
section
variable (c:Int) (a b:Rat) (i j:Nat) (most:Int) (hi:dn i=a.den) (hj:dn j=b.den) (hm:most≤200) (la:Sz a 20) (lb:Sz b 20)
include hi hj hm la lb
theorem Two_ok:∃ d,dn d=(twoQ c a b most).1.den∧AC Tryz.prog 112 [.val (.int .i32 c),RA a.num i,RA b.num j,.val (.int .i64 most)] (.pure (.tup [RA (twoQ c a b most).1.num d,.val (.int .i64 (twoQ c a b most).2)])):=by
 unfold twoQ;have hC:=compares_ok c;have hJ:=judges_ok c;have hR:=reckons_ok c;by_cases h1:isCmp c
 ·rw[if_pos h1];rw[decide_eq_true h1]at hC;have hQ:=QCmp_ok a b i j hi hj (la.mono (by decide)) (lb.mono (by decide));have hS:=Compare_ok c (cmpQ a b);have hT:=truth_ok (cmpS c (cmpQ a b));refine⟨_,td_dn _,?_⟩;refine AC.of_body TTok Tryz.func112 rfl (enter_of Tryz.func112 (by kernel_rfl) (by kernel_rfl)) (noid4 (.val _) (RA_noid _ _) (RA_noid _ _) (.val _)) (.tup _ (noid2 (RA_noid _ _) (.val _))) (nbq rfl) ?_
  revert hQ hS hT
  generalize cmpS c (cmpQ a b)=t;generalize cmpQ a b=n;intro hQ hS hT;generalize td t=e at *;generalize (tq t).num=f at *;unfold RA at *;repeat ((conv=>whnf);(first | refine⟨_,‹_›,?_⟩|exact rfl))
 rw[if_neg h1];rw[decide_eq_false h1]at hC;by_cases h2:isJdg c
 ·rw[if_pos h2];rw[decide_eq_true h2]at hJ;obtain⟨d,hd,hP⟩:=judge_ok c h2 a b i j hi hj (la.mono (by decide)) (lb.mono (by decide));refine⟨d,hd,?_⟩;refine AC.of_body TTok Tryz.func112 rfl (enter_of Tryz.func112 (by kernel_rfl) (by kernel_rfl)) (noid4 (.val _) (RA_noid _ _) (RA_noid _ _) (.val _)) (.tup _ (noid2 (RA_noid _ _) (.val _))) (nbq rfl) ?_
  revert hP
  generalize (judgeQ c a b).1=r;generalize (judgeQ c a b).2=e;intro hP;unfold RA at *;repeat ((conv=>whnf);(first | refine⟨_,‹_›,?_⟩|exact rfl))
 rw[if_neg h2];rw[decide_eq_false h2]at hJ;by_cases h3:isRec c
 rotate_left
 ·rw[if_pos h3];rw[decide_eq_false h3]at hR;refine⟨0,rfl,RZ22 ?_⟩;refine AC.of_body TTok Tryz.func112 rfl (enter_of Tryz.func112 (by kernel_rfl) (by kernel_rfl)) (noid4 (.val _) (RA_noid _ _) (RA_noid _ _) (.val _)) (.tup _ (noid2 RZ_noid (.val _))) (nbq rfl) ?_;unfold RA RZ at *;repeat ((conv=>whnf);(first | refine⟨_,‹_›,?_⟩|exact rfl))
 rw[if_neg (fun h=>h h3)];rw[decide_eq_true h3]at hR;obtain⟨d,hd,hP⟩:=Reckon_ok a b i j most hi hj hm la lb c h3;have hL:=QLimbs_ok (reckonQ c a b most).1.num d;rw[hd]at hL
 revert hd hP hL
 generalize (reckonQ c a b most).1=r;generalize (reckonQ c a b most).2=e;intro hd hP hL;by_cases he:e=0
 rotate_left
 ·rw[if_pos he];have f1:(e==0)=false:=beq_false_of_ne he;have f2:(e != 0)=true:=by rw[bne,f1];rfl
  refine⟨0,rfl,RZ22 ?_⟩;refine AC.of_body TTok Tryz.func112 rfl (enter_of Tryz.func112 (by kernel_rfl) (by kernel_rfl)) (noid4 (.val _) (RA_noid _ _) (RA_noid _ _) (.val _)) (.tup _ (noid2 RZ_noid (.val _))) (nbq rfl) ?_;unfold RA RZ at *;conv=>whnf
  refine⟨_,hC,?_⟩;conv=>whnf
  refine⟨_,hJ,?_⟩;conv=>whnf
  refine⟨_,hR,?_⟩;conv=>whnf
  refine⟨_,hP,?_⟩;conv=>whnf
  refine cFq (f1) ?_;conv=>whnf
  refine cTq (f2) ?_;(conv=>whnf);exact rfl
 rw[if_neg (fun h=>h he)];subst he;by_cases hq:most<(qLimbs r.num r.den:Nat)
 ·rw[if_pos hq];have f1:decide (((qLimbs r.num r.den:Nat):Int)>most)=true:=decide_eq_true hq;refine⟨0,rfl,RZ22 ?_⟩;refine AC.of_body TTok Tryz.func112 rfl (enter_of Tryz.func112 (by kernel_rfl) (by kernel_rfl)) (noid4 (.val _) (RA_noid _ _) (RA_noid _ _) (.val _)) (.tup _ (noid2 RZ_noid (.val _))) (nbq rfl) ?_;generalize ((qLimbs r.num r.den:Nat):Int)=n at *;unfold RA RZ at *;conv=>whnf
  refine⟨_,hC,?_⟩;conv=>whnf
  refine⟨_,hJ,?_⟩;conv=>whnf
  refine⟨_,hR,?_⟩;conv=>whnf
  refine⟨_,hP,?_⟩;conv=>whnf
  refine⟨_,hL,?_⟩;conv=>whnf
  refine cTq (f1) ?_;(conv=>whnf);exact rfl
 ·rw[if_neg hq];have f1:decide (((qLimbs r.num r.den:Nat):Int)>most)=false:=decide_eq_false hq;refine⟨d,hd,?_⟩;refine AC.of_body TTok Tryz.func112 rfl (enter_of Tryz.func112 (by kernel_rfl) (by kernel_rfl)) (noid4 (.val _) (RA_noid _ _) (RA_noid _ _) (.val _)) (.tup _ (noid2 (RA_noid _ _) (.val _))) (nbq rfl) ?_;generalize ((qLimbs r.num r.den:Nat):Int)=n at *;unfold RA at *;conv=>whnf
  refine⟨_,hC,?_⟩;conv=>whnf
  refine⟨_,hJ,?_⟩;conv=>whnf
  refine⟨_,hR,?_⟩;conv=>whnf
  refine⟨_,hP,?_⟩;conv=>whnf
  refine⟨_,hL,?_⟩;conv=>whnf
  refine cFq (f1) ?_;(conv=>whnf);exact rfl
end
theorem STwo_ok (c:Int) (a b:Rat) (most:Int) (hm:most≤200) (la:Sz a 20) (lb:Sz b 20):AC Tryz.prog 140 [.val (.int .i32 c),RN a.num a.den,RN b.num b.den,.val (.int .i64 most)] (.pure (.tup [RN (twoQ c a b most).1.num (twoQ c a b most).1.den,.val (.int .i64 (twoQ c a b most).2)])):=by
 unfold twoQ;have hH:=SHas_ok c;have hZ:=SZero_ok;by_cases h1:isCmp c
 ·rw[if_pos h1];rw[decide_eq_true (show isTwo c from .inr (.inl h1))]at hH;have hQ:=SCmp_ok a b (la.mono (by decide)) (lb.mono (by decide));have hS:=SCompare_ok c (cmpQ a b);have hT:=Struth_ok (cmpS c (cmpQ a b));refine AC.of_body TTok Tryz.func140 rfl (enter_of Tryz.func140 (by kernel_rfl) (by kernel_rfl)) (noid4 (.val _) (RN_noid _ _) (RN_noid _ _) (.val _)) (.tup _ (noid2 (RN_noid _ _) (.val _))) (nbq rfl) ?_
  revert hQ hS hT
  generalize cmpS c (cmpQ a b)=t;generalize cmpQ a b=n;intro hQ hS hT;generalize (tq t).den=e at *;generalize (tq t).num=f at *;unfold RN at *;rcases h1 with rfl | rfl | rfl | rfl | rfl | rfl
  all_goals
   repeat ((conv=>whnf);(first | refine⟨_,‹_›,?_⟩|exact rfl))
 rw[if_neg h1];by_cases h2:isJdg c
 ·rw[if_pos h2];rw[decide_eq_true (show isTwo c from .inr (.inr h2))]at hH;have hP:=Sjudge_ok c h2 a b (la.mono (by decide)) (lb.mono (by decide));refine AC.of_body TTok Tryz.func140 rfl (enter_of Tryz.func140 (by kernel_rfl) (by kernel_rfl)) (noid4 (.val _) (RN_noid _ _) (RN_noid _ _) (.val _)) (.tup _ (noid2 (RN_noid _ _) (.val _))) (nbq rfl) ?_
  revert hP
  generalize (judgeQ c a b).1=r;generalize (judgeQ c a b).2=e;intro hP;unfold RN at *;clear h1;rcases h2 with rfl | rfl | rfl | rfl
  all_goals
   repeat ((conv=>whnf);(first | refine⟨_,‹_›,?_⟩|exact rfl))
 rw[if_neg h2];by_cases h3:isRec c
 rotate_left
 ·rw[if_pos h3];rw[decide_eq_false (show ¬isTwo c from fun h=>h.elim h3 (fun h=>h.elim h1 h2))]at hH;show AC Tryz.prog 140 _ (.pure (.tup [RN 0 1,.val (.int .i64 20)]));refine AC.of_body TTok Tryz.func140 rfl (enter_of Tryz.func140 (by kernel_rfl) (by kernel_rfl)) (noid4 (.val _) (RN_noid _ _) (RN_noid _ _) (.val _)) (.tup _ (noid2 (RN_noid _ _) (.val _))) (nbq rfl) ?_;unfold RN at *;repeat ((conv=>whnf);(first | refine⟨_,‹_›,?_⟩|exact rfl))
 rw[if_neg (fun h=>h h3)];rw[decide_eq_true (show isTwo c from .inl h3)]at hH;have hP:=SReckon_ok a b most hm la lb c h3;have sz:=reckon_sz c a b most hm la lb;have hL:=SLimbs_ok (reckonQ c a b most).1.num (reckonQ c a b most).1.den (Nat.le_trans sz.1 (by decide)) (Nat.le_trans sz.2 (by decide));clear sz
 revert hP hL
 generalize (reckonQ c a b most).1=r;generalize (reckonQ c a b most).2=e;intro hP hL;have k1:(c==60)=false:=beq_false_of_ne (fun h=>h1 (.inl h));have k2:(c==8804)=false:=beq_false_of_ne (fun h=>h1 (.inr (.inl h)));have k3:(c==61)=false:=beq_false_of_ne (fun h=>h1 (.inr (.inr (.inl h))));have k4:(c==8805)=false:=beq_false_of_ne (fun h=>h1 (.inr (.inr (.inr (.inl h)))));have k5:(c==62)=false:=beq_false_of_ne (fun h=>h1 (.inr (.inr (.inr (.inr (.inl h))))));have k6:(c==8800)=false:=beq_false_of_ne (fun h=>h1 (.inr (.inr (.inr (.inr (.inr h))))));have m1:(c==8743)=false:=beq_false_of_ne (fun h=>h2 (.inl h));have m2:(c==8744)=false:=beq_false_of_ne (fun h=>h2 (.inr (.inl h)));have m3:(c==9074)=false:=beq_false_of_ne (fun h=>h2 (.inr (.inr (.inl h))));have m4:(c==9073)=false:=beq_false_of_ne (fun h=>h2 (.inr (.inr (.inr h))));by_cases he:e=0
 rotate_left
 ·rw[if_pos he];have f1:(e==0)=false:=beq_false_of_ne he;have f2:(e != 0)=true:=by rw[bne,f1];rfl
  show AC Tryz.prog 140 _ (.pure (.tup [RN 0 1,.val (.int .i64 e)]));refine AC.of_body TTok Tryz.func140 rfl (enter_of Tryz.func140 (by kernel_rfl) (by kernel_rfl)) (noid4 (.val _) (RN_noid _ _) (RN_noid _ _) (.val _)) (.tup _ (noid2 (RN_noid _ _) (.val _))) (nbq rfl) ?_;unfold RN at *;conv=>whnf
  refine⟨_,hH,?_⟩;conv=>whnf
  refine cFq (k1) ?_;conv=>whnf
  refine cFq (k2) ?_;conv=>whnf
  refine cFq (k3) ?_;conv=>whnf
  refine cFq (k4) ?_;conv=>whnf
  refine cFq (k5) ?_;conv=>whnf
  refine cFq (k6) ?_;conv=>whnf
  refine cFq (m1) ?_;conv=>whnf
  refine cFq (m2) ?_;conv=>whnf
  refine cFq (m3) ?_;conv=>whnf
  refine cFq (m4) ?_;conv=>whnf
  refine⟨_,hP,?_⟩;conv=>whnf
  refine cFq (f1) ?_;conv=>whnf
  refine cTq (f2) ?_;(conv=>whnf);refine⟨_,‹_›,?_⟩;(conv=>whnf);exact rfl
 rw[if_neg (fun h=>h he)];subst he;by_cases hq:most<(qLimbs r.num r.den:Nat)
 ·rw[if_pos hq];have f1:decide (((qLimbs r.num r.den:Nat):Int)>most)=true:=decide_eq_true hq;show AC Tryz.prog 140 _ (.pure (.tup [RN 0 1,.val (.int .i64 26)]));refine AC.of_body TTok Tryz.func140 rfl (enter_of Tryz.func140 (by kernel_rfl) (by kernel_rfl)) (noid4 (.val _) (RN_noid _ _) (RN_noid _ _) (.val _)) (.tup _ (noid2 (RN_noid _ _) (.val _))) (nbq rfl) ?_;generalize ((qLimbs r.num r.den:Nat):Int)=n at *;unfold RN at *;conv=>whnf
  refine⟨_,hH,?_⟩;conv=>whnf
  refine cFq (k1) ?_;conv=>whnf
  refine cFq (k2) ?_;conv=>whnf
  refine cFq (k3) ?_;conv=>whnf
  refine cFq (k4) ?_;conv=>whnf
  refine cFq (k5) ?_;conv=>whnf
  refine cFq (k6) ?_;conv=>whnf
  refine cFq (m1) ?_;conv=>whnf
  refine cFq (m2) ?_;conv=>whnf
  refine cFq (m3) ?_;conv=>whnf
  refine cFq (m4) ?_;conv=>whnf
  refine⟨_,hP,?_⟩;conv=>whnf
  refine⟨_,hL,?_⟩;conv=>whnf
  refine cTq (f1) ?_;(conv=>whnf);refine⟨_,‹_›,?_⟩;(conv=>whnf);exact rfl
 ·rw[if_neg hq];have f1:decide (((qLimbs r.num r.den:Nat):Int)>most)=false:=decide_eq_false hq;refine AC.of_body TTok Tryz.func140 rfl (enter_of Tryz.func140 (by kernel_rfl) (by kernel_rfl)) (noid4 (.val _) (RN_noid _ _) (RN_noid _ _) (.val _)) (.tup _ (noid2 (RN_noid _ _) (.val _))) (nbq rfl) ?_;generalize ((qLimbs r.num r.den:Nat):Int)=n at *;unfold RN at *;conv=>whnf
  refine⟨_,hH,?_⟩;conv=>whnf
  refine cFq (k1) ?_;conv=>whnf
  refine cFq (k2) ?_;conv=>whnf
  refine cFq (k3) ?_;conv=>whnf
  refine cFq (k4) ?_;conv=>whnf
  refine cFq (k5) ?_;conv=>whnf
  refine cFq (k6) ?_;conv=>whnf
  refine cFq (m1) ?_;conv=>whnf
  refine cFq (m2) ?_;conv=>whnf
  refine cFq (m3) ?_;conv=>whnf
  refine cFq (m4) ?_;conv=>whnf
  refine⟨_,hP,?_⟩;conv=>whnf
  refine⟨_,hL,?_⟩;conv=>whnf
  refine cFq (f1) ?_;(conv=>whnf);exact rfl
end
section
theorem kinds_len {sh:List Int} {ch:Bool} {a b:Nat} (h:kinds sh ch a b):((a+b:Nat):Int)=cntI sh∧(if ch then a else b)=a+b:=by
 unfold kinds at h;cases ch with
 | true =>
  have h:(a:Int)=cntI sh∧b=0:=h;exact⟨by omega,by show a=a+b;omega⟩
 | false =>
  have h:(b:Int)=cntI sh∧a=0:=h;exact⟨by omega,by show b=a+b;omega⟩
def ix (one:Bool) (i:Nat):Nat:=if one then 0 else i
theorem fit_idx {sa sb:List Int} {la lb:Nat} (ha:(la:Int)=cntI sa) (hb:(lb:Int)=cntI sb) (va:vS sa) (vb:vS sb) (he:(fitS sa sb la lb).2.2.2=0) :
  vS (fitS sa sb la lb).1∧(cntI (fitS sa sb la lb).1=la∨cntI (fitS sa sb la lb).1=lb)∧∀i:Nat,(i:Int)<cntI (fitS sa sb la lb).1→ix (fitS sa sb la lb).2.1 i<la∧ix (fitS sa sb la lb).2.2.1 i<lb:=by
 unfold fitS at *;by_cases hs:sa=sb
 ·rw[if_pos hs]at he ⊢;subst hs;exact⟨va,.inl ha.symm,fun i hi=>⟨by have hi:(i:Int)<cntI sa:=hi;show i<la;omega,by have hi:(i:Int)<cntI sa:=hi;show i<lb;omega⟩⟩
 ·rw[if_neg hs]at he ⊢;by_cases h1:la=1∧(lb≠1∨sa.length<sb.length)
  ·rw[if_pos h1]at he ⊢;exact⟨vb,.inr hb.symm,fun i hi=>⟨by show 0<la;omega,by have hi:(i:Int)<cntI sb:=hi;show i<lb;omega⟩⟩
  ·rw[if_neg h1]at he ⊢;by_cases h2:lb=1
   ·rw[if_pos h2]at he ⊢;exact⟨va,.inl ha.symm,fun i hi=>⟨by have hi:(i:Int)<cntI sa:=hi;show i<la;omega,by show 0<lb;omega⟩⟩
   ·rw[if_neg h2]at he;split at he
    ·exact absurd he (by decide)
    ·exact absurd he (by decide)
def denX:Option (Rat×Nat)→Nat
 | none=>0
 | some p=>p.2
theorem denX_ok {o:Option (Rat×Nat)} (h:okX o):dn (denX o)=(valX o).den:=by
 cases o with
 | none=>rfl
 | some p=>exact h
theorem rowX_le (o:Option (Rat×Nat)):AVle (.agg (rowX o)) (RA (valX o).num (denX o)):=by
 cases o with
 | none=>exact RZ_le
 | some p=>exact .refl _
theorem getD_val (na:List (Option (Rat×Nat))) (k:Nat):(na.map valX).getD k 0=valX (na.getD k none):=by
 rw[List.getD_eq_getElem?_getD,List.getD_eq_getElem?_getD,List.getElem?_map];cases na[k]?<;>rfl
theorem RatY_ok (sh:List Int) (ch:Bool) (tx:List Int) (na:List (Option (Rat×Nat))) (k:Nat) (hk:k<na.length) (hb:na.length≤1000):AC Tryz.prog 15 [AA sh ch tx na true,.val (.int .i64 (k:Int))] (.pure (RA ((na.map valX).getD k 0).num (denX (na.getD k none)))):=by
 have h:=RatI_ok sh ch tx na true k hk (by omega);rw[getD_val,List.getD_eq_getElem?_getD,List.getElem?_eq_getElem hk];exact AC.le_res h (rowX_le _) (RA_noid _ _)
theorem RuneX_ok (sh:List Int) (ch:Bool) (tx:List Int) (ns:List (Option (Rat×Nat))) (k:Nat) (hk:k<tx.length) (hb:tx.length≤1000):AC Tryz.prog 134 [AA sh ch tx ns true,.val (.int .i64 (k:Int))] (.pure (.val (.int .i32 (tx.getD k 0)))):=by
 have h:=RuneI_ok sh ch tx ns true k hk (by omega);rw[List.getD_eq_getElem?_getD,List.getElem?_eq_getElem hk];exact h
theorem atX_ok (i:Nat) (one:Bool):AC Tryz.prog 113 [.val (.int .i64 (i:Int)),.val (.bool one)] (.pure (.val (.int .i64 ((ix one i:Nat):Int)))):=by
 have h:=at_ok (i:Int) one;cases one
 ·exact h
 ·exact h
def elemF (c:Int) (ca cb:Bool) (ta tb:List Int) (qa qb:List Rat) (one two:Bool) (most:Int) (i:Nat):Rat×Int :=
 if ca=true∨cb=true then
  if c=61∨c=8800 then (if (ca&&cb&&decide (ta.getD (ix one i) 0=tb.getD (ix two i) 0))=decide (c=61) then 1 else 0,0) else (0,22)
 else twoQ c (qa.getD (ix one i) 0) (qb.getD (ix two i) 0) most
end
section
theorem rep_drop {α:Type} (x:α) (n i:Nat) (h:i<n):(List.replicate (n-i) x)=x :: List.replicate (n-(i+1)) x:=by
 rw[show n-i=(n-(i+1))+1 by omega,List.replicate_succ]
theorem rowsM_noid (l:List (Option (Rat×Nat))) (k:Nat):∀r∈l.map rowX++List.replicate k (rowX none),∀x∈r,NoId x:=by
 intro r hr;rcases List.mem_append.1 hr with h | h
 ·exact rowsX_noid l r h
 ·refine rowsX_noid [none] r ?_;rw[(List.mem_replicate.1 h).2];exact List.mem_singleton.2 rfl
theorem Two_loop (c:Int) (hc:isTwo c) (sa sb:List Int) (ta tb:List Int) (na nb:List (Option (Rat×Nat))) (qa qb:List Rat) (na1:na.map valX=qa) (nb1:nb.map valX=qb) (most:Int) (s:List Int) (one two:Bool) (n:Nat) (hn:n≤1000) (hv:vS s) (hcn:cntI s=(n:Int))
  (hfit:AC Tryz.prog 110 [AA sa false ta na true,AA sb false tb nb true] (.pure (FV (s,one,two,0))))
  (hix:∀i:Nat,i<n→ix one i<qa.length∧ix two i<qb.length) (la:qa.length≤1000) (lb:qb.length≤1000)
  (D:Nat→Nat) (f:Nat→Rat×Int)
  (hD:∀i<n,dn (D i)=(f i).1.den∧AC Tryz.prog 112 [.val (.int .i32 c),RA (qa.getD (ix one i) 0).num (denX (na.getD (ix one i) none)),RA (qb.getD (ix two i) 0).num (denX (nb.getD (ix two i) none)),.val (.int .i64 most)] (.pure (.tup [RA (f i).1.num (D i),.val (.int .i64 (f i).2)])))
  (E:Int) (hE:E=firstE ((List.range n).map f)) :
  AC Tryz.prog 66 [.val (.int .i32 c),AA sa false ta na true,AA sb false tb nb true,.val (.int .i64 most)] (.pure (if E=0 then .tup [AA s false [] ((List.range n).map fun i=>some ((f i).1,D i)) true,.val (.int .i64 0)] else .tup [AZ,.val (.int .i64 E)])):=by
 have hH:=Has_ok c;rw[decide_eq_true hc]at hH;have hIa:=IsChar_ok sa false ta na true;have hIb:=IsChar_ok sb false tb nb true;have hC:=Count_ok s (by have:=hv.1;omega);rw[CNT_good hv,hcn]at hC;obtain⟨Y,hY⟩:∃ Y:List (Option (Rat×Nat)),Y=(List.range n).map fun i=>some ((f i).1,D i):=⟨_,rfl⟩;rw[←hY];have l1:Y.length=n:=by rw[hY,List.length_map,List.length_range]
 have hYi:∀i (h:i<n),Y[i]'(by omega)=some ((f i).1,D i):=fun i h=>by subst hY;rw[List.getElem_map,List.getElem_range]
 have hN:=Nums_ok s Y hv (by rw[l1];exact hcn) (by omega);obtain⟨res,hres⟩:∃ res:AV,res=if E=0 then .tup [AA s false [] Y true,.val (.int .i64 0)] else .tup [AZ,.val (.int .i64 E)]:=⟨_,rfl⟩
 rw[←hres];have hnr:NoId res:=by
  rw[hres];split
  ·exact .tup _ (noid2 (AA_noid _ _ _ _ _) (.val _))
  ·exact AZt_noid _
 refine AC.of_body TTok Tryz.func66 rfl (enter_of Tryz.func66 (by kernel_rfl) (by kernel_rfl)) (noidF (.val _) (AA_noid _ _ _ _ _) (AA_noid _ _ _ _ _) (.val _)) hnr (nbq rfl) ?_;have lrep:∀k,(List.replicate k (rowX none)).length=k:=fun k=>List.length_replicate;have hA1:∀i<n,AC Tryz.prog 15 [AA sa false ta na true,.val (.int .i64 ((ix one i:Nat):Int))] (.pure (RA (qa.getD (ix one i) 0).num (denX (na.getD (ix one i) none)))):=fun i hi=>by
  have h:=RatY_ok sa false ta na (ix one i) (by have:=(hix i hi).1;rw[←na1,List.length_map]at this;exact this) (by rw[←na1,List.length_map]at la;exact la);rw[na1]at h;exact h
 have hB1:∀i<n,AC Tryz.prog 15 [AA sb false tb nb true,.val (.int .i64 ((ix two i:Nat):Int))] (.pure (RA (qb.getD (ix two i) 0).num (denX (nb.getD (ix two i) none)))):=fun i hi=>by
  have h:=RatY_ok sb false tb nb (ix two i) (by have:=(hix i hi).2;rw[←nb1,List.length_map]at this;exact this) (by rw[←nb1,List.length_map]at lb;exact lb);rw[nb1]at h;exact h
 unfold FV AA at hfit;unfold AA at hIa hIb hA1 hB1 ⊢;have start:∀(P:Prop),P→P:=fun _ h=>h;by_cases hn0:n=0
 ·subst hn0;have hY0:Y=[]:=List.length_eq_zero_iff.1 l1;have hE0:E=0:=by rw[hE];rfl
  rw[if_pos hE0]at hres;subst hres;rw[hY0]at hN ⊢;conv=>whnf
  refine⟨_,hH,?_⟩;conv=>whnf
  refine⟨_,hfit,?_⟩;conv=>whnf
  refine⟨_,hC,?_⟩;conv=>whnf
  refine⟨by decide,?_⟩;conv=>whnf
  refine SW.loopM TTok (fun _:Unit=>[(8,.lp 16 0),(10,.sl 1 (irows .i64 s) false),(16,.own 312 0 0),(65,.val (.int .i64 0)),(66,.val (.int .i64 0))]) (fun _=>[(16,.cells 5 [[.sl 0 [] true,.val (.bool false),.sl 0 [] true,.sl 0 [] true,.val (.bool false)]]),(312,.cells 3 [])]) 352 101 rfl (fun _=>0) (fun _=>True) () [] trivial
   ⟨q2r,q2r,q2r,q2r,q2r,trivial⟩ ⟨q3r,q3r,trivial⟩ rfl ?_
  intro _ _;unfold AA at hN ⊢;conv=>whnf
  refine⟨Nat.le_refl _,_,hN,?_⟩;(conv=>whnf);exact rfl
 ·conv=>whnf
  refine⟨_,hH,?_⟩;conv=>whnf
  refine⟨_,hfit,?_⟩;conv=>whnf
  refine⟨_,hC,?_⟩;conv=>whnf
  refine oTq (by omega) ?_;conv=>whnf
  refine⟨_,hIa,?_⟩;conv=>whnf
  refine⟨_,hIb,?_⟩;conv=>whnf
  refine⟨by show 0≤(n:Int)∧(n:Int)≤n∧(n:Int)*56≤140737488355328;omega,?_⟩;conv=>whnf
  refine SW.loopM TTok (fun i:Nat=>[(0,.val (.int .i32 c)),(3,.val (.int .i64 most)),(5,.lp 0 0),(6,.lp 8 0),(8,.lp 16 0),(10,.sl 1 (irows .i64 s) false),(11,.val (.bool one)),(12,.val (.bool two)),(16,.own 312 0 n),(65,.val (.int .i64 (n:Int))),(66,.val (.int .i64 (i:Int)))])
   (fun i=>[(0,.cells 5 [[.sl 1 (irows .i64 sa) false,.val (.bool false),.sl 1 (irows .i32 ta) false,.sl 3 (na.map rowX) false,.val (.bool true)]]),(8,.cells 5 [[.sl 1 (irows .i64 sb) false,.val (.bool false),.sl 1 (irows .i32 tb) false,.sl 3 (nb.map rowX) false,.val (.bool true)]]),(16,.cells 5 [[.sl 0 [] true,.val (.bool false),.sl 0 [] true,.sl 0 [] true,.val (.bool false)]]),(312,.cells 3 ((Y.take i).map rowX++List.replicate (n-i) (rowX none)))]) 352 101 rfl (fun i=>n-i) (fun i=>i≤n∧∀j<i,(f j).2=0) 0 [] ⟨Nat.zero_le _,fun x hx=>absurd hx (Nat.not_lt_zero _)⟩
   ⟨q2r,q2r,q2r,q2r,q2r,q2r,q2r,q2r,q2r,q2r,q2r,trivial⟩ ⟨q3r,q3r,q3r,⟨rfl,.inl ⟨rfl,rowsM_noid _ _⟩⟩,trivial⟩ rfl ?_
  intro i hJ;have hi:i≤n:=hJ.1;have hz:∀j<i,(f j).2=0:=hJ.2;clear hJ;have ltk:((Y.take i).map rowX).length=i:=by rw[List.length_map,List.length_take];omega
  have lr:((Y.take i).map rowX++List.replicate (n-i) (rowX none)).length=n:=by
   rw[List.length_append,ltk,List.length_replicate];omega
  by_cases hlt:i<n
  ·have eI:IntKind.i64.wrap ((i:Int)+1)=((i+1:Nat):Int):=by rw[IntWalk.i64_in _ (by omega)];omega
   have hA:=hA1 i hlt;have hB:=hB1 i hlt;have hta:=atX_ok i one;have htb:=atX_ok i two;obtain⟨d1,d2⟩:=hD i hlt;have hset:((Y.take i).map rowX++List.replicate (n-i) (rowX none)).set i (rowX (some ((f i).1,D i)))=(Y.take (i+1)).map rowX++List.replicate (n-(i+1)) (rowX none):=by
    rw[rep_drop _ n i hlt,take_snoc (show i<Y.length by omega),hYi i hlt];have:=set_mid ((Y.take i).map rowX) (rowX none) (rowX (some ((f i).1,D i))) (List.replicate (n-(i+1)) (rowX none));rw[ltk]at this;rw[this];simp
   by_cases he:(f i).2=0
   ·rw[he]at d2;unfold RA at d2 hA hB;conv=>whnf
    refine oTq (by omega) ?_;conv=>whnf
    refine⟨_,hta,?_⟩;conv=>whnf
    refine⟨_,hA,?_⟩;conv=>whnf
    refine⟨_,htb,?_⟩;conv=>whnf
    refine⟨_,hB,?_⟩;conv=>whnf
    refine⟨_,d2,?_⟩;conv=>whnf
    refine⟨by kernel_rfl,?_⟩;conv=>whnf
    refine⟨by omega,?_⟩;conv=>whnf
    refine⟨by rw[Nat.zero_add,Int.toNat_natCast];omega,?_⟩;conv=>whnf
    refine⟨i+1,[],(by show n-(i+1)<n-i;omega),⟨hlt,fun j hj=>?_⟩,⟨q2r,q2r,q2r,q2r,q2r,q2r,q2r,q2r,q2r,q2r,⟨valI eI,rfl⟩,trivial⟩,⟨q3r,q3r,q3r,⟨rfl,.inl ⟨celE ?_,rowsM_noid _ _⟩⟩,trivial⟩,rfl⟩
    ·by_cases hji:j=i
     ·rw[hji];exact he
     ·exact hz j (by omega)
    ·rw[←hset];show List.set _ (0+(i:Int).toNat) _=_;rw[Nat.zero_add,Int.toNat_natCast];rfl
   ·have hEe:E=(f i).2:=by
     rw[hE];have:=firstE_at (l:=(List.range n).map f) (i:=i) (by rw[List.length_map,List.length_range];exact hlt) (fun x hx=>by
      rw[←List.map_take]at hx;obtain⟨q,hq,rfl⟩:=List.mem_map.1 hx;refine hz q ?_;rw[List.take_range]at hq;have:=List.mem_range.1 hq;omega) (by rw[List.getElem_map,List.getElem_range];exact he)
     rw[this,List.getElem_map,List.getElem_range]
    rw[if_neg (by rw[hEe];exact he),hEe]at hres;subst hres;unfold RA at d2 hA hB;conv=>whnf
    refine oTq (by omega) ?_;conv=>whnf
    refine⟨_,hta,?_⟩;conv=>whnf
    refine⟨_,hA,?_⟩;conv=>whnf
    refine⟨_,htb,?_⟩;conv=>whnf
    refine⟨_,hB,?_⟩;conv=>whnf
    refine⟨_,d2,?_⟩;conv=>whnf
    refine⟨by kernel_rfl,?_⟩;conv=>whnf
    refine nFq (by omega) ?_;(conv=>whnf);exact rfl
  ·have hie:i=n:=by omega
   have hE0:E=0:=by
    rw[hE];refine firstE_zero (fun x hx=>?_);obtain⟨q,hq,rfl⟩:=List.mem_map.1 hx;exact hz q (by have:=List.mem_range.1 hq;omega)
   rw[if_pos hE0]at hres;subst hres;have e1:(Y.take i).map rowX++List.replicate (n-i) (rowX none)=Y.map rowX:=by
    rw[hie,List.take_of_length_le (by omega),Nat.sub_self,List.replicate_zero,List.append_nil]
   rw[e1];have key:List.take n (List.drop 0 (Y.map rowX))=Y.map rowX:=by rw[List.drop_zero,List.take_of_length_le (by rw[List.length_map];omega)]
   conv=>whnf
   refine oFq (by omega) ?_;conv=>whnf
   rw[key];have lY:(Y.map rowX).length=n:=by rw[List.length_map];exact l1
   unfold AA at *;refine⟨by show 0+n≤(Y.map rowX).length;omega,_,hN,?_⟩;(conv=>whnf);exact rfl
end
section
def smE (ca cb:Bool) (ta tb:List Int) (one two:Bool) (i:Nat):Bool:=ca&&cb&&decide (ta.getD (ix one i) 0=tb.getD (ix two i) 0)
def chE (c:Int) (ca cb:Bool) (ta tb:List Int) (one two:Bool) (i:Nat):Option (Rat×Nat):=if smE ca cb ta tb one two i=decide (c=61) then some (1,1) else none
theorem noid6 {a b c d e f:AV} (h1:NoId a) (h2:NoId b) (h3:NoId c) (h4:NoId d) (h5:NoId e) (h6:NoId f):∀x∈[a,b,c,d,e,f],NoId x:=by
 intro x hx;simp only[List.mem_cons,List.not_mem_nil,or_false]at hx;rcases hx with rfl | rfl | rfl | rfl | rfl | rfl<;>assumption
theorem chars_61 (sa sb:List Int) (ca cb:Bool) (ta tb:List Int) (na nb:List (Option (Rat×Nat))) (s:List Int) (one two:Bool) (n:Nat) (hn:n≤5000) (hv:vS s) (hcn:cntI s=(n:Int))
  (hix:∀i:Nat,i<n→(ca=true→ix one i<ta.length)∧(cb=true→ix two i<tb.length)) (la:ta.length≤1000) (lb:tb.length≤1000) :
  AC Tryz.prog 111 [.val (.int .i32 61),AA sa ca ta na true,AA sb cb tb nb true,.sl 1 (irows .i64 s) false,.val (.bool one),.val (.bool two)] (.pure (.tup [AA s false [] ((List.range n).map (chE 61 ca cb ta tb one two)) true,.val (.int .i64 0)])):=by
 have hIa:=IsChar_ok sa ca ta na true;have hIb:=IsChar_ok sb cb tb nb true;have hC:=Count_ok s (by have:=hv.1;omega);rw[CNT_good hv,hcn]at hC;obtain⟨Y,hY⟩:∃ Y:List (Option (Rat×Nat)),Y=(List.range n).map (chE 61 ca cb ta tb one two):=⟨_,rfl⟩;rw[←hY];have l1:Y.length=n:=by rw[hY,List.length_map,List.length_range]
 have hYi:∀i (h:i<n),Y[i]'(by omega)=chE 61 ca cb ta tb one two i:=fun i h=>by subst hY;rw[List.getElem_map,List.getElem_range]
 have hN:=Nums_ok s Y hv (by rw[l1];exact hcn) (by omega);have hF:=RatFrom_ok 1 (by decide);refine AC.of_body TTok Tryz.func111 rfl (enter_of Tryz.func111 (by kernel_rfl) (by kernel_rfl)) (noid6 (.val _) (AA_noid _ _ _ _ _) (AA_noid _ _ _ _ _) (noid_sl _ _ _) (.val _) (.val _)) (.tup _ (noid2 (AA_noid _ _ _ _ _) (.val _))) (nbq rfl) ?_;have hA1:∀i<n,ca=true→AC Tryz.prog 134 [AA sa ca ta na true,.val (.int .i64 ((ix one i:Nat):Int))] (.pure (.val (.int .i32 (ta.getD (ix one i) 0)))):=fun i hi h=>RuneX_ok sa ca ta na _ ((hix i hi).1 h) la;have hB1:∀i<n,cb=true→AC Tryz.prog 134 [AA sb cb tb nb true,.val (.int .i64 ((ix two i:Nat):Int))] (.pure (.val (.int .i32 (tb.getD (ix two i) 0)))):=fun i hi h=>RuneX_ok sb cb tb nb _ ((hix i hi).2 h) lb
 have u1:AA sa ca ta na true = .agg [.sl 1 (irows .i64 sa) false,.val (.bool ca),.sl 1 (irows .i32 ta) false,.sl 3 (na.map rowX) false,.val (.bool true)]:=rfl;have u2:AA sb cb tb nb true = .agg [.sl 1 (irows .i64 sb) false,.val (.bool cb),.sl 1 (irows .i32 tb) false,.sl 3 (nb.map rowX) false,.val (.bool true)]:=rfl;rw[u1]at hIa hA1 ⊢;rw[u2]at hIb hB1 ⊢;unfold RA at hF;conv=>whnf
 refine⟨_,hC,?_⟩;conv=>whnf
 refine⟨by show 0≤(n:Int)∧(n:Int)≤n∧(n:Int)*56≤140737488355328;omega,?_⟩;conv=>whnf
 refine SW.loopM TTok (fun i:Nat=>[(0,.val (.int .i32 61)),(3,.sl 1 (irows .i64 s) false),(4,.val (.bool one)),(5,.val (.bool two)),(7,.lp 0 0),(8,.lp 8 0),(12,.lp 16 0),(16,.own 144 0 n),(36,.val (.int .i64 (n:Int))),(37,.val (.int .i64 (i:Int)))])
   (fun i=>[(0,.cells 5 [[.sl 1 (irows .i64 sa) false,.val (.bool ca),.sl 1 (irows .i32 ta) false,.sl 3 (na.map rowX) false,.val (.bool true)]]),(8,.cells 5 [[.sl 1 (irows .i64 sb) false,.val (.bool cb),.sl 1 (irows .i32 tb) false,.sl 3 (nb.map rowX) false,.val (.bool true)]]),(16,.cells 5 [[.sl 0 [] true,.val (.bool false),.sl 0 [] true,.sl 0 [] true,.val (.bool false)]]),(144,.cells 3 ((Y.take i).map rowX++List.replicate (n-i) (rowX none)))]) 184 75 rfl (fun i=>n-i) (fun i=>i≤n) 0 [] (Nat.zero_le _)
   ⟨q2r,q2r,q2r,q2r,q2r,q2r,q2r,q2r,q2r,q2r,trivial⟩ ⟨q3r,q3r,q3r,⟨rfl,.inl ⟨rfl,rowsM_noid _ _⟩⟩,trivial⟩ rfl ?_
 intro i hJ;have hi:i≤n:=hJ;clear hJ;have ltk:((Y.take i).map rowX).length=i:=by rw[List.length_map,List.length_take];omega
 have lr:((Y.take i).map rowX++List.replicate (n-i) (rowX none)).length=n:=by
  rw[List.length_append,ltk,List.length_replicate];omega
 by_cases hlt:i<n
 ·have eI:IntKind.i64.wrap ((i:Int)+1)=((i+1:Nat):Int):=by rw[IntWalk.i64_in _ (by omega)];omega
  have hA:=hA1 i hlt;have hB:=hB1 i hlt;have hta:=atX_ok i one;have htb:=atX_ok i two;have hset:∀o,chE 61 ca cb ta tb one two i=o→((Y.take i).map rowX++List.replicate (n-i) (rowX none)).set i (rowX o)=(Y.take (i+1)).map rowX++List.replicate (n-(i+1)) (rowX none):=fun o ho=>by
   rw[rep_drop _ n i hlt,take_snoc (show i<Y.length by omega),hYi i hlt,ho];have:=set_mid ((Y.take i).map rowX) (rowX none) (rowX o) (List.replicate (n-(i+1)) (rowX none));rw[ltk]at this;rw[this];simp
  have hstay:chE 61 ca cb ta tb one two i=none→(Y.take i).map rowX++List.replicate (n-i) (rowX none)=(Y.take (i+1)).map rowX++List.replicate (n-(i+1)) (rowX none):=fun ho=>by
   rw[rep_drop _ n i hlt,take_snoc (show i<Y.length by omega),hYi i hlt,ho];simp
  obtain⟨x,hx⟩:∃ x,x=ta.getD (ix one i) 0:=⟨_,rfl⟩;obtain⟨y,hy⟩:∃ y,y=tb.getD (ix two i) 0:=⟨_,rfl⟩;rw[←hx]at hA;rw[←hy]at hB;cases ca
  ·cases cb
   ·conv=>whnf
    refine oTq (by omega) ?_;conv=>whnf
    refine⟨_,hIa,?_⟩;conv=>whnf
    refine⟨by kernel_rfl,?_⟩;conv=>whnf
    refine⟨i+1,[],(by show n-(i+1)<n-i;omega),hlt,⟨q2r,q2r,q2r,q2r,q2r,q2r,q2r,q2r,q2r,⟨valI eI,rfl⟩,trivial⟩,⟨q3r,q3r,q3r,⟨rfl,.inl ⟨celE ?_,rowsM_noid _ _⟩⟩,trivial⟩,rfl⟩;exact hstay (by unfold chE smE;simp)
   ·conv=>whnf
    refine oTq (by omega) ?_;conv=>whnf
    refine⟨_,hIa,?_⟩;conv=>whnf
    refine⟨by kernel_rfl,?_⟩;conv=>whnf
    refine⟨i+1,[],(by show n-(i+1)<n-i;omega),hlt,⟨q2r,q2r,q2r,q2r,q2r,q2r,q2r,q2r,q2r,⟨valI eI,rfl⟩,trivial⟩,⟨q3r,q3r,q3r,⟨rfl,.inl ⟨celE ?_,rowsM_noid _ _⟩⟩,trivial⟩,rfl⟩;exact hstay (by unfold chE smE;simp)
  ·cases cb
   ·conv=>whnf
    refine oTq (by omega) ?_;conv=>whnf
    refine⟨_,hIa,?_⟩;conv=>whnf
    refine⟨_,hIb,?_⟩;conv=>whnf
    refine⟨by kernel_rfl,?_⟩;conv=>whnf
    refine⟨i+1,[],(by show n-(i+1)<n-i;omega),hlt,⟨q2r,q2r,q2r,q2r,q2r,q2r,q2r,q2r,q2r,⟨valI eI,rfl⟩,trivial⟩,⟨q3r,q3r,q3r,⟨rfl,.inl ⟨celE ?_,rowsM_noid _ _⟩⟩,trivial⟩,rfl⟩;exact hstay (by unfold chE smE;simp)
   ·replace hA:=hA rfl
    replace hB:=hB rfl
    by_cases hxy:x=y
    ·have hs:((x==y)==true)=true:=by simp[hxy]
     conv=>whnf
     refine oTq (by omega) ?_;conv=>whnf
     refine⟨_,hIa,?_⟩;conv=>whnf
     refine⟨_,hIb,?_⟩;conv=>whnf
     refine⟨_,hta,?_⟩;conv=>whnf
     refine⟨_,hA,?_⟩;conv=>whnf
     refine⟨_,htb,?_⟩;conv=>whnf
     refine⟨_,hB,?_⟩;conv=>whnf
     refine⟨by kernel_rfl,?_⟩;conv=>whnf
     refine cTq (hs) ?_;conv=>whnf
     refine⟨_,hF,?_⟩;conv=>whnf
     refine⟨by omega,?_⟩;conv=>whnf
     refine⟨by rw[Nat.zero_add,Int.toNat_natCast];omega,?_⟩;conv=>whnf
     refine⟨i+1,[],(by show n-(i+1)<n-i;omega),hlt,⟨q2r,q2r,q2r,q2r,q2r,q2r,q2r,q2r,q2r,⟨valI eI,rfl⟩,trivial⟩,⟨q3r,q3r,q3r,⟨rfl,.inl ⟨celE ?_,rowsM_noid _ _⟩⟩,trivial⟩,rfl⟩;rw[←hset (some (1,1)) (by unfold chE smE;rw[←hx,←hy];simp[hxy])];show List.set _ (0+(i:Int).toNat) _=_;rw[Nat.zero_add,Int.toNat_natCast];rfl
    ·have hs:((x==y)==true)=false:=by simp[hxy]
     conv=>whnf
     refine oTq (by omega) ?_;conv=>whnf
     refine⟨_,hIa,?_⟩;conv=>whnf
     refine⟨_,hIb,?_⟩;conv=>whnf
     refine⟨_,hta,?_⟩;conv=>whnf
     refine⟨_,hA,?_⟩;conv=>whnf
     refine⟨_,htb,?_⟩;conv=>whnf
     refine⟨_,hB,?_⟩;conv=>whnf
     refine⟨by kernel_rfl,?_⟩;conv=>whnf
     refine cFq (hs) ?_;conv=>whnf
     refine⟨i+1,[],(by show n-(i+1)<n-i;omega),hlt,⟨q2r,q2r,q2r,q2r,q2r,q2r,q2r,q2r,q2r,⟨valI eI,rfl⟩,trivial⟩,⟨q3r,q3r,q3r,⟨rfl,.inl ⟨celE ?_,rowsM_noid _ _⟩⟩,trivial⟩,rfl⟩;exact hstay (by unfold chE smE;rw[←hx,←hy];simp[hxy])
 ·have hie:i=n:=by omega
  have e1:(Y.take i).map rowX++List.replicate (n-i) (rowX none)=Y.map rowX:=by
   rw[hie,List.take_of_length_le (by omega),Nat.sub_self,List.replicate_zero,List.append_nil]
  rw[e1];have key:List.take n (List.drop 0 (Y.map rowX))=Y.map rowX:=by rw[List.drop_zero,List.take_of_length_le (by rw[List.length_map];omega)]
  conv=>whnf
  refine oFq (by omega) ?_;conv=>whnf
  rw[key];have lY:(Y.map rowX).length=n:=by rw[List.length_map];exact l1
  unfold AA at *;refine⟨by show 0+n≤(Y.map rowX).length;omega,_,hN,?_⟩;(conv=>whnf);exact rfl
theorem chars_8800 (sa sb:List Int) (ca cb:Bool) (ta tb:List Int) (na nb:List (Option (Rat×Nat))) (s:List Int) (one two:Bool) (n:Nat) (hn:n≤5000) (hv:vS s) (hcn:cntI s=(n:Int))
  (hix:∀i:Nat,i<n→(ca=true→ix one i<ta.length)∧(cb=true→ix two i<tb.length)) (la:ta.length≤1000) (lb:tb.length≤1000) :
  AC Tryz.prog 111 [.val (.int .i32 8800),AA sa ca ta na true,AA sb cb tb nb true,.sl 1 (irows .i64 s) false,.val (.bool one),.val (.bool two)] (.pure (.tup [AA s false [] ((List.range n).map (chE 8800 ca cb ta tb one two)) true,.val (.int .i64 0)])):=by
 have hIa:=IsChar_ok sa ca ta na true;have hIb:=IsChar_ok sb cb tb nb true;have hC:=Count_ok s (by have:=hv.1;omega);rw[CNT_good hv,hcn]at hC;obtain⟨Y,hY⟩:∃ Y:List (Option (Rat×Nat)),Y=(List.range n).map (chE 8800 ca cb ta tb one two):=⟨_,rfl⟩;rw[←hY];have l1:Y.length=n:=by rw[hY,List.length_map,List.length_range]
 have hYi:∀i (h:i<n),Y[i]'(by omega)=chE 8800 ca cb ta tb one two i:=fun i h=>by subst hY;rw[List.getElem_map,List.getElem_range]
 have hN:=Nums_ok s Y hv (by rw[l1];exact hcn) (by omega);have hF:=RatFrom_ok 1 (by decide);refine AC.of_body TTok Tryz.func111 rfl (enter_of Tryz.func111 (by kernel_rfl) (by kernel_rfl)) (noid6 (.val _) (AA_noid _ _ _ _ _) (AA_noid _ _ _ _ _) (noid_sl _ _ _) (.val _) (.val _)) (.tup _ (noid2 (AA_noid _ _ _ _ _) (.val _))) (nbq rfl) ?_;have hA1:∀i<n,ca=true→AC Tryz.prog 134 [AA sa ca ta na true,.val (.int .i64 ((ix one i:Nat):Int))] (.pure (.val (.int .i32 (ta.getD (ix one i) 0)))):=fun i hi h=>RuneX_ok sa ca ta na _ ((hix i hi).1 h) la;have hB1:∀i<n,cb=true→AC Tryz.prog 134 [AA sb cb tb nb true,.val (.int .i64 ((ix two i:Nat):Int))] (.pure (.val (.int .i32 (tb.getD (ix two i) 0)))):=fun i hi h=>RuneX_ok sb cb tb nb _ ((hix i hi).2 h) lb
 have u1:AA sa ca ta na true = .agg [.sl 1 (irows .i64 sa) false,.val (.bool ca),.sl 1 (irows .i32 ta) false,.sl 3 (na.map rowX) false,.val (.bool true)]:=rfl;have u2:AA sb cb tb nb true = .agg [.sl 1 (irows .i64 sb) false,.val (.bool cb),.sl 1 (irows .i32 tb) false,.sl 3 (nb.map rowX) false,.val (.bool true)]:=rfl;rw[u1]at hIa hA1 ⊢;rw[u2]at hIb hB1 ⊢;unfold RA at hF;conv=>whnf
 refine⟨_,hC,?_⟩;conv=>whnf
 refine⟨by show 0≤(n:Int)∧(n:Int)≤n∧(n:Int)*56≤140737488355328;omega,?_⟩;conv=>whnf
 refine SW.loopM TTok (fun i:Nat=>[(0,.val (.int .i32 8800)),(3,.sl 1 (irows .i64 s) false),(4,.val (.bool one)),(5,.val (.bool two)),(7,.lp 0 0),(8,.lp 8 0),(12,.lp 16 0),(16,.own 144 0 n),(36,.val (.int .i64 (n:Int))),(37,.val (.int .i64 (i:Int)))])
   (fun i=>[(0,.cells 5 [[.sl 1 (irows .i64 sa) false,.val (.bool ca),.sl 1 (irows .i32 ta) false,.sl 3 (na.map rowX) false,.val (.bool true)]]),(8,.cells 5 [[.sl 1 (irows .i64 sb) false,.val (.bool cb),.sl 1 (irows .i32 tb) false,.sl 3 (nb.map rowX) false,.val (.bool true)]]),(16,.cells 5 [[.sl 0 [] true,.val (.bool false),.sl 0 [] true,.sl 0 [] true,.val (.bool false)]]),(144,.cells 3 ((Y.take i).map rowX++List.replicate (n-i) (rowX none)))]) 184 75 rfl (fun i=>n-i) (fun i=>i≤n) 0 [] (Nat.zero_le _)
   ⟨q2r,q2r,q2r,q2r,q2r,q2r,q2r,q2r,q2r,q2r,trivial⟩ ⟨q3r,q3r,q3r,⟨rfl,.inl ⟨rfl,rowsM_noid _ _⟩⟩,trivial⟩ rfl ?_
 intro i hJ;have hi:i≤n:=hJ;clear hJ;have ltk:((Y.take i).map rowX).length=i:=by rw[List.length_map,List.length_take];omega
 have lr:((Y.take i).map rowX++List.replicate (n-i) (rowX none)).length=n:=by
  rw[List.length_append,ltk,List.length_replicate];omega
 by_cases hlt:i<n
 ·have eI:IntKind.i64.wrap ((i:Int)+1)=((i+1:Nat):Int):=by rw[IntWalk.i64_in _ (by omega)];omega
  have hA:=hA1 i hlt;have hB:=hB1 i hlt;have hta:=atX_ok i one;have htb:=atX_ok i two;have hset:∀o,chE 8800 ca cb ta tb one two i=o→((Y.take i).map rowX++List.replicate (n-i) (rowX none)).set i (rowX o)=(Y.take (i+1)).map rowX++List.replicate (n-(i+1)) (rowX none):=fun o ho=>by
   rw[rep_drop _ n i hlt,take_snoc (show i<Y.length by omega),hYi i hlt,ho];have:=set_mid ((Y.take i).map rowX) (rowX none) (rowX o) (List.replicate (n-(i+1)) (rowX none));rw[ltk]at this;rw[this];simp
  have hstay:chE 8800 ca cb ta tb one two i=none→(Y.take i).map rowX++List.replicate (n-i) (rowX none)=(Y.take (i+1)).map rowX++List.replicate (n-(i+1)) (rowX none):=fun ho=>by
   rw[rep_drop _ n i hlt,take_snoc (show i<Y.length by omega),hYi i hlt,ho];simp
  obtain⟨x,hx⟩:∃ x,x=ta.getD (ix one i) 0:=⟨_,rfl⟩;obtain⟨y,hy⟩:∃ y,y=tb.getD (ix two i) 0:=⟨_,rfl⟩;rw[←hx]at hA;rw[←hy]at hB;cases ca
  ·cases cb
   ·conv=>whnf
    refine oTq (by omega) ?_;conv=>whnf
    refine⟨_,hIa,?_⟩;conv=>whnf
    refine⟨by kernel_rfl,?_⟩;conv=>whnf
    refine⟨_,hF,?_⟩;conv=>whnf
    refine⟨by omega,?_⟩;conv=>whnf
    refine⟨by rw[Nat.zero_add,Int.toNat_natCast];omega,?_⟩;conv=>whnf
    refine⟨i+1,[],(by show n-(i+1)<n-i;omega),hlt,⟨q2r,q2r,q2r,q2r,q2r,q2r,q2r,q2r,q2r,⟨valI eI,rfl⟩,trivial⟩,⟨q3r,q3r,q3r,⟨rfl,.inl ⟨celE ?_,rowsM_noid _ _⟩⟩,trivial⟩,rfl⟩;rw[←hset (some (1,1)) (by unfold chE smE;simp)];show List.set _ (0+(i:Int).toNat) _=_;rw[Nat.zero_add,Int.toNat_natCast];rfl
   ·conv=>whnf
    refine oTq (by omega) ?_;conv=>whnf
    refine⟨_,hIa,?_⟩;conv=>whnf
    refine⟨by kernel_rfl,?_⟩;conv=>whnf
    refine⟨_,hF,?_⟩;conv=>whnf
    refine⟨by omega,?_⟩;conv=>whnf
    refine⟨by rw[Nat.zero_add,Int.toNat_natCast];omega,?_⟩;conv=>whnf
    refine⟨i+1,[],(by show n-(i+1)<n-i;omega),hlt,⟨q2r,q2r,q2r,q2r,q2r,q2r,q2r,q2r,q2r,⟨valI eI,rfl⟩,trivial⟩,⟨q3r,q3r,q3r,⟨rfl,.inl ⟨celE ?_,rowsM_noid _ _⟩⟩,trivial⟩,rfl⟩;rw[←hset (some (1,1)) (by unfold chE smE;simp)];show List.set _ (0+(i:Int).toNat) _=_;rw[Nat.zero_add,Int.toNat_natCast];rfl
  ·cases cb
   ·conv=>whnf
    refine oTq (by omega) ?_;conv=>whnf
    refine⟨_,hIa,?_⟩;conv=>whnf
    refine⟨_,hIb,?_⟩;conv=>whnf
    refine⟨by kernel_rfl,?_⟩;conv=>whnf
    refine⟨_,hF,?_⟩;conv=>whnf
    refine⟨by omega,?_⟩;conv=>whnf
    refine⟨by rw[Nat.zero_add,Int.toNat_natCast];omega,?_⟩;conv=>whnf
    refine⟨i+1,[],(by show n-(i+1)<n-i;omega),hlt,⟨q2r,q2r,q2r,q2r,q2r,q2r,q2r,q2r,q2r,⟨valI eI,rfl⟩,trivial⟩,⟨q3r,q3r,q3r,⟨rfl,.inl ⟨celE ?_,rowsM_noid _ _⟩⟩,trivial⟩,rfl⟩;rw[←hset (some (1,1)) (by unfold chE smE;simp)];show List.set _ (0+(i:Int).toNat) _=_;rw[Nat.zero_add,Int.toNat_natCast];rfl
   ·replace hA:=hA rfl
    replace hB:=hB rfl
    by_cases hxy:x=y
    ·have hs:((x==y)==false)=false:=by simp[hxy]
     conv=>whnf
     refine oTq (by omega) ?_;conv=>whnf
     refine⟨_,hIa,?_⟩;conv=>whnf
     refine⟨_,hIb,?_⟩;conv=>whnf
     refine⟨_,hta,?_⟩;conv=>whnf
     refine⟨_,hA,?_⟩;conv=>whnf
     refine⟨_,htb,?_⟩;conv=>whnf
     refine⟨_,hB,?_⟩;conv=>whnf
     refine⟨by kernel_rfl,?_⟩;conv=>whnf
     refine cFq (hs) ?_;conv=>whnf
     refine⟨i+1,[],(by show n-(i+1)<n-i;omega),hlt,⟨q2r,q2r,q2r,q2r,q2r,q2r,q2r,q2r,q2r,⟨valI eI,rfl⟩,trivial⟩,⟨q3r,q3r,q3r,⟨rfl,.inl ⟨celE ?_,rowsM_noid _ _⟩⟩,trivial⟩,rfl⟩;exact hstay (by unfold chE smE;rw[←hx,←hy];simp[hxy])
    ·have hs:((x==y)==false)=true:=by simp[hxy]
     conv=>whnf
     refine oTq (by omega) ?_;conv=>whnf
     refine⟨_,hIa,?_⟩;conv=>whnf
     refine⟨_,hIb,?_⟩;conv=>whnf
     refine⟨_,hta,?_⟩;conv=>whnf
     refine⟨_,hA,?_⟩;conv=>whnf
     refine⟨_,htb,?_⟩;conv=>whnf
     refine⟨_,hB,?_⟩;conv=>whnf
     refine⟨by kernel_rfl,?_⟩;conv=>whnf
     refine cTq (hs) ?_;conv=>whnf
     refine⟨_,hF,?_⟩;conv=>whnf
     refine⟨by omega,?_⟩;conv=>whnf
     refine⟨by rw[Nat.zero_add,Int.toNat_natCast];omega,?_⟩;conv=>whnf
     refine⟨i+1,[],(by show n-(i+1)<n-i;omega),hlt,⟨q2r,q2r,q2r,q2r,q2r,q2r,q2r,q2r,q2r,⟨valI eI,rfl⟩,trivial⟩,⟨q3r,q3r,q3r,⟨rfl,.inl ⟨celE ?_,rowsM_noid _ _⟩⟩,trivial⟩,rfl⟩;rw[←hset (some (1,1)) (by unfold chE smE;rw[←hx,←hy];simp[hxy])];show List.set _ (0+(i:Int).toNat) _=_;rw[Nat.zero_add,Int.toNat_natCast];rfl
 ·have hie:i=n:=by omega
  have e1:(Y.take i).map rowX++List.replicate (n-i) (rowX none)=Y.map rowX:=by
   rw[hie,List.take_of_length_le (by omega),Nat.sub_self,List.replicate_zero,List.append_nil]
  rw[e1];have key:List.take n (List.drop 0 (Y.map rowX))=Y.map rowX:=by rw[List.drop_zero,List.take_of_length_le (by rw[List.length_map];omega)]
  conv=>whnf
  refine oFq (by omega) ?_;conv=>whnf
  rw[key];have lY:(Y.map rowX).length=n:=by rw[List.length_map];exact l1
  unfold AA at *;refine⟨by show 0+n≤(Y.map rowX).length;omega,_,hN,?_⟩;(conv=>whnf);exact rfl
end
section
section
variable (c:Int) (sa sb:List Int) (ca cb:Bool) (ta tb:List Int)
theorem Two_not (h:¬isTwo c) (na nb:List (Option (Rat×Nat))) (most:Int):AC Tryz.prog 66 [.val (.int .i32 c),AA sa ca ta na true,AA sb cb tb nb true,.val (.int .i64 most)] (.pure (.tup [AZ,.val (.int .i64 20)])):=by
 have hH:=Has_ok c;rw[decide_eq_false h]at hH;refine AC.of_body TTok Tryz.func66 rfl (enter_of Tryz.func66 (by kernel_rfl) (by kernel_rfl)) (noidF (.val _) (AA_noid _ _ _ _ _) (AA_noid _ _ _ _ _) (.val _)) (AZt_noid _) (nbq rfl) ?_;unfold AA;(conv=>whnf);refine⟨_,‹_›,?_⟩;(conv=>whnf);exact rfl
theorem Two_unfit (h:isTwo c) (na nb:List (Option (Rat×Nat))) (most:Int) (x:List Int×Bool×Bool×Int) (he:x.2.2.2≠0) (hF:AC Tryz.prog 110 [AA sa ca ta na true,AA sb cb tb nb true] (.pure (FV x))) :
  AC Tryz.prog 66 [.val (.int .i32 c),AA sa ca ta na true,AA sb cb tb nb true,.val (.int .i64 most)] (.pure (.tup [AZ,.val (.int .i64 x.2.2.2)])):=by
 have hH:=Has_ok c;rw[decide_eq_true h]at hH;obtain⟨s,one,two,e⟩:=x;refine AC.of_body TTok Tryz.func66 rfl (enter_of Tryz.func66 (by kernel_rfl) (by kernel_rfl)) (noidF (.val _) (AA_noid _ _ _ _ _) (AA_noid _ _ _ _ _) (.val _)) (AZt_noid _) (nbq rfl) ?_;unfold FV at hF;have he:e≠0:=he;have hF:AC Tryz.prog 110 [AA sa ca ta na true,AA sb cb tb nb true] (.pure (.tup [.sl 1 (irows .i64 s) false,.val (.bool one),.val (.bool two),.val (.int .i64 e)])):=hF;unfold AA at *;conv=>whnf
 refine⟨_,hH,?_⟩;conv=>whnf
 refine⟨_,hF,?_⟩;conv=>whnf
 refine nFq (by omega) ?_;(conv=>whnf);exact rfl
theorem Two_nil (h:isTwo c) (na nb:List (Option (Rat×Nat))) (most:Int) (s:List Int) (one two:Bool) (hv:vS s) (hcn:cntI s=0) (hF:AC Tryz.prog 110 [AA sa ca ta na true,AA sb cb tb nb true] (.pure (FV (s,one,two,0)))) :
  AC Tryz.prog 66 [.val (.int .i32 c),AA sa ca ta na true,AA sb cb tb nb true,.val (.int .i64 most)] (.pure (.tup [AA s false [] [] true,.val (.int .i64 0)])):=by
 have hH:=Has_ok c;rw[decide_eq_true h]at hH;have hC:=Count_ok s (by have:=hv.1;omega);rw[CNT_good hv,hcn]at hC;have hN:=Nums_ok s [] hv (by rw[hcn];rfl) (by decide);refine AC.of_body TTok Tryz.func66 rfl (enter_of Tryz.func66 (by kernel_rfl) (by kernel_rfl)) (noidF (.val _) (AA_noid _ _ _ _ _) (AA_noid _ _ _ _ _) (.val _)) (.tup _ (noid2 (AA_noid _ _ _ _ _) (.val _))) (nbq rfl) ?_;unfold FV AA at hF;unfold AA;conv=>whnf
 refine⟨_,hH,?_⟩;conv=>whnf
 refine⟨_,hF,?_⟩;conv=>whnf
 refine⟨_,hC,?_⟩;conv=>whnf
 refine⟨by decide,?_⟩;conv=>whnf
 refine SW.loopM TTok (fun _:Unit=>[(8,.lp 16 0),(10,.sl 1 (irows .i64 s) false),(16,.own 312 0 0),(65,.val (.int .i64 0)),(66,.val (.int .i64 0))]) (fun _=>[(16,.cells 5 [[.sl 0 [] true,.val (.bool false),.sl 0 [] true,.sl 0 [] true,.val (.bool false)]]),(312,.cells 3 [])]) 352 101 rfl (fun _=>0) (fun _=>True) () [] trivial
  ⟨q2r,q2r,q2r,q2r,q2r,trivial⟩ ⟨q3r,q3r,trivial⟩ rfl ?_
 intro _ _;unfold AA at hN;conv=>whnf
 refine⟨Nat.le_refl _,_,hN,?_⟩;(conv=>whnf);exact rfl
theorem Two_chars (h:isTwo c) (hch:ca=true∨cb=true) (na nb:List (Option (Rat×Nat))) (most:Int) (s:List Int) (one two:Bool) (n:Nat) (hn:0<n) (hv:vS s) (hcn:cntI s=(n:Int)) (hF:AC Tryz.prog 110 [AA sa ca ta na true,AA sb cb tb nb true] (.pure (FV (s,one,two,0))))
  (e:Int) (k1 k3 k4:Nat) (l1 l3 l4:List (List AV)) (z1 z3 z4:Bool) (v2 v5:Value) (hnr:NoId (.tup [.agg [.sl k1 l1 z1,.val v2,.sl k3 l3 z3,.sl k4 l4 z4,.val v5],.val (.int .i64 e)]))
  (hX:AC Tryz.prog 111 [.val (.int .i32 c),AA sa ca ta na true,AA sb cb tb nb true,.sl 1 (irows .i64 s) false,.val (.bool one),.val (.bool two)] (.pure (.tup [.agg [.sl k1 l1 z1,.val v2,.sl k3 l3 z3,.sl k4 l4 z4,.val v5],.val (.int .i64 e)]))) :
  AC Tryz.prog 66 [.val (.int .i32 c),AA sa ca ta na true,AA sb cb tb nb true,.val (.int .i64 most)] (.pure (.tup [.agg [.sl k1 l1 z1,.val v2,.sl k3 l3 z3,.sl k4 l4 z4,.val v5],.val (.int .i64 e)])):=by
 have hH:=Has_ok c;rw[decide_eq_true h]at hH;have hC:=Count_ok s (by have:=hv.1;omega);rw[CNT_good hv,hcn]at hC;have hIa:=IsChar_ok sa ca ta na true;have hIb:=IsChar_ok sb cb tb nb true;refine AC.of_body TTok Tryz.func66 rfl (enter_of Tryz.func66 (by kernel_rfl) (by kernel_rfl)) (noidF (.val _) (AA_noid _ _ _ _ _) (AA_noid _ _ _ _ _) (.val _)) hnr (nbq rfl) ?_;unfold FV AA at hF;unfold AA at *;cases ca
 ·have hcb:cb=true:=hch.resolve_left Bool.false_ne_true;subst hcb;conv=>whnf
  refine⟨_,hH,?_⟩;conv=>whnf
  refine⟨_,hF,?_⟩;conv=>whnf
  refine⟨_,hC,?_⟩;conv=>whnf
  refine oTq (by omega) ?_;conv=>whnf
  refine⟨_,hIa,?_⟩;conv=>whnf
  refine⟨_,hIb,?_⟩;conv=>whnf
  refine⟨_,hX,?_⟩;(conv=>whnf);exact rfl
 ·conv=>whnf
  refine⟨_,hH,?_⟩;conv=>whnf
  refine⟨_,hF,?_⟩;conv=>whnf
  refine⟨_,hC,?_⟩;conv=>whnf
  refine oTq (by omega) ?_;conv=>whnf
  refine⟨_,hIa,?_⟩;conv=>whnf
  refine⟨_,hX,?_⟩;(conv=>whnf);exact rfl
theorem chars_not (h1:c≠61) (h2:c≠8800) (na nb:List (Option (Rat×Nat))) (s:List Int) (one two:Bool) :
  AC Tryz.prog 111 [.val (.int .i32 c),AA sa ca ta na true,AA sb cb tb nb true,.sl 1 (irows .i64 s) false,.val (.bool one),.val (.bool two)] (.pure (.tup [AZ,.val (.int .i64 22)])):=by
 refine AC.of_body TTok Tryz.func111 rfl (enter_of Tryz.func111 (by kernel_rfl) (by kernel_rfl)) (noid6 (.val _) (AA_noid _ _ _ _ _) (AA_noid _ _ _ _ _) (noid_sl _ _ _) (.val _) (.val _)) (AZt_noid _) (nbq rfl) ?_;unfold AA;conv=>whnf
 refine nFq (by omega) ?_;conv=>whnf
 refine nFq (by omega) ?_;(conv=>whnf);exact rfl
end
end
section
def twoE (c:Int) (sa sb:List Int) (ca cb:Bool) (ta tb:List Int) (qa qb:List Rat) (most:Int):Int :=
 if isTwo c then (if (fitS sa sb (ta.length+qa.length) (tb.length+qb.length)).2.2.2≠0 then (fitS sa sb (ta.length+qa.length) (tb.length+qb.length)).2.2.2
  else firstE ((List.range (cntI (fitS sa sb (ta.length+qa.length) (tb.length+qb.length)).1).toNat).map (elemF c ca cb ta tb qa qb (fitS sa sb (ta.length+qa.length) (tb.length+qb.length)).2.1 (fitS sa sb (ta.length+qa.length) (tb.length+qb.length)).2.2.1 most))) else 20
def twoV (c:Int) (sa sb:List Int) (ca cb:Bool) (ta tb:List Int) (qa qb:List Rat) (most:Int):List Rat :=
 (List.range (cntI (fitS sa sb (ta.length+qa.length) (tb.length+qb.length)).1).toNat).map fun i=>(elemF c ca cb ta tb qa qb (fitS sa sb (ta.length+qa.length) (tb.length+qb.length)).2.1 (fitS sa sb (ta.length+qa.length) (tb.length+qb.length)).2.2.1 most i).1
theorem chE_val (c:Int) (hc:c=61∨c=8800) (ca cb:Bool) (hch:ca=true∨cb=true) (ta tb:List Int) (qa qb:List Rat) (one two:Bool) (most:Int) (i:Nat) :
  valX (chE c ca cb ta tb one two i)=(elemF c ca cb ta tb qa qb one two most i).1∧okX (chE c ca cb ta tb one two i):=by
 unfold chE elemF smE;rw[if_pos hch,if_pos hc];by_cases h:(ca&&cb&&decide (ta.getD (ix one i) 0=tb.getD (ix two i) 0))=decide (c=61)
 ·rw[if_pos h,if_pos h];exact q2r
 ·rw[if_neg h,if_neg h];exact⟨rfl,trivial⟩
theorem chars_ok (c:Int) (hc:c=61∨c=8800) (sa sb:List Int) (ca cb:Bool) (ta tb:List Int) (na nb:List (Option (Rat×Nat))) (s:List Int) (one two:Bool) (n:Nat) (hn:n≤5000) (hv:vS s) (hcn:cntI s=(n:Int))
  (hix:∀i:Nat,i<n→(ca=true→ix one i<ta.length)∧(cb=true→ix two i<tb.length)) (la:ta.length≤1000) (lb:tb.length≤1000) :
  AC Tryz.prog 111 [.val (.int .i32 c),AA sa ca ta na true,AA sb cb tb nb true,.sl 1 (irows .i64 s) false,.val (.bool one),.val (.bool two)] (.pure (.tup [AA s false [] ((List.range n).map (chE c ca cb ta tb one two)) true,.val (.int .i64 0)])):=by
 rcases hc with rfl | rfl
 ·exact chars_61 sa sb ca cb ta tb na nb s one two n hn hv hcn hix la lb
 ·exact chars_8800 sa sb ca cb ta tb na nb s one two n hn hv hcn hix la lb
theorem getD_okX {na:List (Option (Rat×Nat))} (h:∀o∈na,okX o) (k:Nat):okX (na.getD k none):=by
 rw[List.getD_eq_getElem?_getD];cases hk:na[k]? with
 | none=>trivial
 | some o=>exact h o (List.mem_of_getElem? hk)
theorem PTwoN_ok (c:Int) (sa sb:List Int) (ca cb:Bool) (ta tb:List Int) (na nb:List (Option (Rat×Nat))) (oa:∀o∈na,okX o) (ob:∀o∈nb,okX o) (qa qb:List Rat) (na1:na.map valX=qa) (nb1:nb.map valX=qb) (most:Int) (hm:most≤200) (hva:vS sa) (hvb:vS sb) (hka:kinds sa ca ta.length qa.length) (hkb:kinds sb cb tb.length qb.length)
  (h1:ta.length≤500) (h2:tb.length≤500) (h3:qa.length≤500) (h4:qb.length≤500) (hQa:∀q∈qa,Sz q 20) (hQb:∀q∈qb,Sz q 20) :
  ∃ l:List (Option (Rat×Nat)),(twoE c sa sb ca cb ta tb qa qb most=0→l.map valX=twoV c sa sb ca cb ta tb qa qb most)∧(∀o∈l,okX o)∧l.length≤5000 ∧
   AC Tryz.prog 66 [.val (.int .i32 c),AA sa ca ta na true,AA sb cb tb nb true,.val (.int .i64 most)] (.pure (resA (fitS sa sb (ta.length+qa.length) (tb.length+qb.length)).1 (twoE c sa sb ca cb ta tb qa qb most) l)):=by
 have la:na.length=qa.length:=by rw[←na1,List.length_map]
 have lb:nb.length=qb.length:=by rw[←nb1,List.length_map]
 have hF:=Fit_ok sa sb ca cb ta tb na nb (by have:=hva.1;omega) (by have:=hvb.1;omega) (by omega) (by omega) (by omega) (by omega);rw[la,lb]at hF;obtain⟨ka1,ka2⟩:=kinds_len hka;obtain⟨kb1,kb2⟩:=kinds_len hkb;have hI:=fit_idx ka1 kb1 hva hvb;unfold twoE twoV;generalize hx:fitS sa sb (ta.length+qa.length) (tb.length+qb.length)=x at hF hI ⊢;by_cases hc:isTwo c
 ·rw[if_pos hc];by_cases he:x.2.2.2=0
  ·obtain⟨v1,v2,v3⟩:=hI he;obtain⟨s,one,two,e⟩:=x;have he:e=0:=he;subst he;have v1:vS s:=v1;have v2:cntI s=((ta.length+qa.length:Nat):Int)∨cntI s=((tb.length+qb.length:Nat):Int):=v2;have v3:∀i:Nat,(i:Int)<cntI s→ix one i<ta.length+qa.length∧ix two i<tb.length+qb.length:=v3;obtain⟨n,hn⟩:∃ n:Nat,cntI s=(n:Int):=by rcases v2 with h | h<;>exact⟨_,h⟩
   have hn5:n≤1000:=by omega
   rw[if_neg (fun h=>h rfl)];show ∃ l:List (Option (Rat×Nat)),(firstE ((List.range (cntI s).toNat).map (elemF c ca cb ta tb qa qb one two most))=0→l.map valX=(List.range (cntI s).toNat).map fun i=>(elemF c ca cb ta tb qa qb one two most i).1)∧(∀o∈l,okX o)∧l.length≤5000 ∧
    AC Tryz.prog 66 _ (.pure (resA s (firstE ((List.range (cntI s).toNat).map (elemF c ca cb ta tb qa qb one two most))) l))
   rw[hn,Int.toNat_natCast];rw[hn]at v3;by_cases hn0:n=0
   ·subst hn0;refine⟨[],fun _=>rfl,fun o ho=>(nomatch ho),Nat.zero_le _,?_⟩;show AC Tryz.prog 66 _ (.pure (resA s 0 []));unfold resA;rw[if_pos rfl];exact Two_nil c sa sb ca cb ta tb hc _ _ most s one two v1 hn hF
   ·by_cases hch:ca=true∨cb=true
    ·by_cases hcc:c=61∨c=8800
     ·have hz:firstE ((List.range n).map (elemF c ca cb ta tb qa qb one two most))=0:=firstE_zero (fun y hy=>by
       obtain⟨i,_,rfl⟩:=List.mem_map.1 hy;unfold elemF;rw[if_pos hch,if_pos hcc])
      refine⟨(List.range n).map (chE c ca cb ta tb one two),fun _=>?_,fun o ho=>?_,by rw[List.length_map,List.length_range];omega,?_⟩
      ·rw[List.map_map];exact List.map_congr_left (fun i _=>(chE_val c hcc ca cb hch ta tb qa qb one two most i).1)
      ·obtain⟨i,_,rfl⟩:=List.mem_map.1 ho;exact (chE_val c hcc ca cb hch ta tb qa qb one two most i).2
      ·rw[hz];unfold resA;rw[if_pos rfl];have hX:=chars_ok c hcc sa sb ca cb ta tb na nb s one two n (by omega) v1 hn (fun i hi=>⟨fun h=>by
        have:=(v3 i (by omega)).1;rw[h,if_pos rfl]at ka2;omega,fun h=>by
        have:=(v3 i (by omega)).2;rw[h,if_pos rfl]at kb2;omega⟩) (by omega) (by omega)
       unfold AA at hX ⊢;exact Two_chars c sa sb ca cb ta tb hc hch _ _ most s one two n (by omega) v1 hn hF 0 1 1 3 _ _ _ _ _ _ _ _ (.tup _ (noid2 (AA_noid _ _ _ _ _) (.val _))) hX
     ·have hz:firstE ((List.range n).map (elemF c ca cb ta tb qa qb one two most))=22:=by
       have he22:∀i,(elemF c ca cb ta tb qa qb one two most i).2=22:=fun i=>by
        unfold elemF;rw[if_pos hch,if_neg hcc]
       have:=firstE_at (l:=(List.range n).map (elemF c ca cb ta tb qa qb one two most)) (i:=0) (by rw[List.length_map,List.length_range];omega) (fun y hy=>nomatch hy) (by rw[List.getElem_map,he22];decide);rw[this,List.getElem_map,he22]
      refine⟨[],fun h=>absurd (hz.symm.trans h) (by decide),fun o ho=>(nomatch ho),Nat.zero_le _,?_⟩;rw[hz];have hX:=chars_not c sa sb ca cb ta tb (fun h=>hcc (.inl h)) (fun h=>hcc (.inr h)) na nb s one two;exact resA_err s _ (by decide) (Two_chars c sa sb ca cb ta tb hc hch _ _ most s one two n (by omega) v1 hn hF 22 0 0 0 _ _ _ _ _ _ _ _ (AZt_noid _) hX)
    ·have hca:ca=false:=by cases ca with | false=>rfl | true=>exact absurd (.inl rfl) hch
     have hcb:cb=false:=by cases cb with | false=>rfl | true=>exact absurd (.inr rfl) hch
     subst hca hcb;have ka2:qa.length=ta.length+qa.length:=ka2;have kb2:qb.length=tb.length+qb.length:=kb2;have hix:∀i:Nat,i<n→ix one i<qa.length∧ix two i<qb.length:=fun i hi=>by
      have:=v3 i (by omega);omega
     have hel:∀i,elemF c false false ta tb qa qb one two most i=twoQ c (qa.getD (ix one i) 0) (qb.getD (ix two i) 0) most:=fun i=>by
      unfold elemF;rw[if_neg hch]
     obtain⟨D,hD⟩:=pick_all (l:=List.range n) (p:=fun i d=>dn d=(elemF c false false ta tb qa qb one two most i).1.den∧AC Tryz.prog 112 [.val (.int .i32 c),RA (qa.getD (ix one i) 0).num (denX (na.getD (ix one i) none)),RA (qb.getD (ix two i) 0).num (denX (nb.getD (ix two i) none)),.val (.int .i64 most)] (.pure (.tup [RA (elemF c false false ta tb qa qb one two most i).1.num d,.val (.int .i64 (elemF c false false ta tb qa qb one two most i).2)]))) (fun i hi=>by
      have hi:=List.mem_range.1 hi;obtain⟨i1,i2⟩:=hix i hi;rw[hel];refine Two_ok c _ _ _ _ most (by rw[←na1,getD_val];exact denX_ok (getD_okX oa _)) (by rw[←nb1,getD_val];exact denX_ok (getD_okX ob _)) hm ?_ ?_
      ·rw[List.getD_eq_getElem?_getD,List.getElem?_eq_getElem i1];exact hQa _ (List.getElem_mem i1)
      ·rw[List.getD_eq_getElem?_getD,List.getElem?_eq_getElem i2];exact hQb _ (List.getElem_mem i2))
     have hL:=Two_loop c hc sa sb ta tb na nb qa qb na1 nb1 most s one two n hn5 v1 hn hF hix (by omega) (by omega) D (elemF c false false ta tb qa qb one two most) (fun i hi=>hD i (List.mem_range.2 hi)) _ rfl;refine⟨(List.range n).map fun i=>some ((elemF c false false ta tb qa qb one two most i).1,D i),fun _=>by rw[List.map_map];rfl,fun o ho=>?_,by rw[List.length_map,List.length_range];omega,?_⟩
     ·obtain⟨i,hi,rfl⟩:=List.mem_map.1 ho;exact (hD i hi).1
     ·unfold resA;by_cases hE:firstE ((List.range n).map (elemF c false false ta tb qa qb one two most))=0
      ·rw[if_pos hE]at hL ⊢;exact hL
      ·rw[if_neg hE]at hL ⊢;exact AC.le_res hL (.tup2 AZ_le (.refl _)) (.tup _ (noid2 (AA_noid _ _ _ _ _) (.val _)))
  ·rw[if_pos he];refine⟨[],fun h=>absurd h he,fun o ho=>(nomatch ho),Nat.zero_le _,?_⟩;exact resA_err _ _ he (Two_unfit c sa sb ca cb ta tb hc _ _ most x he hF)
 ·rw[if_neg hc];exact⟨[],fun h=>absurd h (by decide),fun o ho=>(nomatch ho),Nat.zero_le _,resA_err _ _ (by decide) (Two_not c sa sb ca cb ta tb hc _ _ most)⟩
theorem map_valX_of (qs:List Rat):(qs.map ofX).map valX=qs:=by rw[List.map_map];exact List.map_id qs
theorem ofX_ok (qs:List Rat):∀o∈qs.map ofX,okX o:=fun o ho=>by
 obtain⟨q,_,rfl⟩:=List.mem_map.1 ho;exact dn_den q
end
section
def PE (ch:Bool) (x:Int) (q:Rat):AV:=if ch then PA [] true [x] [] else PA [] false [] [q]
theorem PE_noid (ch:Bool) (x:Int) (q:Rat):NoId (PE ch x q):=by
 unfold PE;split<;>exact PA_noid _ _ _ _
theorem PE_le1 (x:Int) (q:Rat):AVle (.agg [.sl 0 [] true,.val (.bool true),.sl 1 (irows .i32 [x]) false,.sl 0 [] true]) (PE true x q):=le_agg4 (le_nil 1) (.refl _) (.refl _) (le_nil 3)
theorem PE_le2 (q:Rat) (x:Int):AVle (.agg [.sl 0 [] true,.val (.bool false),.sl 0 [] true,.sl 3 [rowN q] false]) (PE false x q):=le_agg4 (le_nil 1) (.refl _) (le_nil 1) (.refl _)
theorem element_ok (sh:List Int) (ch:Bool) (tx:List Int) (qs:List Rat) (i:Nat) (one:Bool) (hi:(if ch then tx.length else qs.length)≤1000) (h:if ch then ix one i<tx.length else ix one i<qs.length) :
  AC Tryz.prog 119 [PA sh ch tx qs,.val (.int .i64 (i:Int)),.val (.bool one)] (.pure (PE ch (tx.getD (ix one i) 0) (qs.getD (ix one i) 0))):=by
 cases ch
 ·have h:ix one i<qs.length:=h;have hi:qs.length≤1000:=hi;obtain⟨q,hq⟩:∃ q,q=qs.getD (ix one i) 0:=⟨_,rfl⟩;have hg:(qs.map rowN)[ix one i]?=some [.val (.bool (decide (q.num<0))),.val (.string (decS q.num.natAbs)),.val (.string (decS q.den))]:=by
   rw[hq,List.getD_eq_getElem?_getD,List.getElem?_eq_getElem h,List.getElem?_map,List.getElem?_eq_getElem h];rfl
  rw[←hq];have l1:(qs.map rowN).length=qs.length:=List.length_map _;refine AC.le_res ?_ (PE_le2 q _) (PE_noid _ _ _);refine AC.of_body TTok Tryz.func119 rfl (enter_of Tryz.func119 (by kernel_rfl) (by kernel_rfl)) (noid3 (PA_noid _ _ _ _) (.val _) (.val _)) (.agg _ (noidF (.sl _ _ _ (fun r hr=>nomatch hr)) (.val _) (.sl _ _ _ (fun r hr=>nomatch hr)) (slN_noid [q]))) (nbq rfl) ?_;unfold PA;cases one
  ·have hg:(qs.map rowN)[i]?=_:=hg;have h:i<qs.length:=h;conv=>whnf
   refine⟨_,⟨by omega,hg⟩,?_⟩;(conv=>whnf);exact⟨nbq rfl,rfl⟩
  ·have hg:(qs.map rowN)[0]?=_:=hg;have h:0<qs.length:=h;conv=>whnf
   refine⟨_,⟨by omega,hg⟩,?_⟩;(conv=>whnf);exact⟨nbq rfl,rfl⟩
 ·have h:ix one i<tx.length:=h;have hi:tx.length≤1000:=hi;obtain⟨q,hq⟩:∃ q,q=tx.getD (ix one i) 0:=⟨_,rfl⟩;have hg:(irows .i32 tx)[ix one i]?=some [.val (.int .i32 q)]:=irows_get .i32 tx (by
   rw[hq,List.getD_eq_getElem?_getD,List.getElem?_eq_getElem h];rfl)
  rw[←hq];have l1:=irows_len .i32 tx;refine AC.le_res ?_ (PE_le1 q _) (PE_noid _ _ _);refine AC.of_body TTok Tryz.func119 rfl (enter_of Tryz.func119 (by kernel_rfl) (by kernel_rfl)) (noid3 (PA_noid _ _ _ _) (.val _) (.val _)) (.agg _ (noidF (.sl _ _ _ (fun r hr=>nomatch hr)) (.val _) (noid_sl _ _ _) (.sl _ _ _ (fun r hr=>nomatch hr)))) (nbq rfl) ?_;unfold PA;cases one
  ·have hg:(irows .i32 tx)[i]?=_:=hg;have h:i<tx.length:=h;conv=>whnf
   refine⟨_,⟨by omega,hg⟩,?_⟩;(conv=>whnf);exact⟨nbq rfl,rfl⟩
  ·have hg:(irows .i32 tx)[0]?=_:=hg;have h:0<tx.length:=h;conv=>whnf
   refine⟨_,⟨by omega,hg⟩,?_⟩;(conv=>whnf);exact⟨nbq rfl,rfl⟩
def pairV (c:Int) (ca cb:Bool) (x y:Int) (p q:Rat) (most:Int):Rat×Int :=
 if ca=true∨cb=true then
  if c=61∨c=8800 then (if (ca&&cb&&decide (x=y))=decide (c=61) then 1 else 0,0) else (0,22)
 else twoQ c p q most
def pairR (r:Rat×Int):AV:=.tup [RN r.1.num r.1.den,.val (.int .i64 r.2)]
theorem pairR_noid (r:Rat×Int):NoId (pairR r):=.tup _ (noid2 (RN_noid _ _) (.val _))
section
variable (c:Int) (ca cb:Bool) (x y:Int) (p q:Rat) (most:Int) (hm:most≤200) (lp:Sz p 20) (lq:Sz q 20)
include hm lp lq
theorem pair_ok:AC Tryz.prog 118 [.val (.int .i32 c),PE ca x p,PE cb y q,.val (.int .i64 most)] (.pure (pairR (pairV c ca cb x y p q most))):=by
 have h2:=STwo_ok c p q most hm lp lq;have hZ:=SZero_ok;have hF:=SFrom_ok 1 (by decide);have e1:∀x p,PE false x p = .agg [.sl 1 [] false,.val (.bool false),.sl 1 [] false,.sl 3 [[.val (.bool (decide (p.num<0))),.val (.string (decS p.num.natAbs)),.val (.string (decS p.den))]] false]:=fun _ _=>rfl;have e2:∀x p,PE true x p = .agg [.sl 1 [] false,.val (.bool true),.sl 1 [[.val (.int .i32 x)]] false,.sl 3 [] false]:=fun _ _=>rfl;have nd:∀z∈[AV.val (.int .i32 c),PE ca x p,PE cb y q,.val (.int .i64 most)],NoId z:=noidF (.val _) (PE_noid _ _ _) (PE_noid _ _ _) (.val _);unfold pairV;cases ca
 ·cases cb
  ·rw[if_neg (fun h=>by rcases h with h | h<;>exact Bool.false_ne_true h)];generalize twoQ c p q most=r at *;refine AC.of_body TTok Tryz.func118 rfl (enter_of Tryz.func118 (by kernel_rfl) (by kernel_rfl)) nd (pairR_noid _) (nbq rfl) ?_;unfold pairR;rw[e1,e1];unfold RN at *;conv=>whnf
   refine⟨_,⟨by decide,rfl⟩,?_⟩;conv=>whnf
   refine⟨_,⟨by decide,rfl⟩,?_⟩;conv=>whnf
   refine⟨_,h2,?_⟩;(conv=>whnf);refine⟨by kernel_rfl,?_⟩;(conv=>whnf);exact rfl
  ·rw[if_pos (by decide)];by_cases h61:c=61
   ·subst h61;rw[if_pos (by decide)];rw[if_neg (by simp)];refine AC.of_body TTok Tryz.func118 rfl (enter_of Tryz.func118 (by kernel_rfl) (by kernel_rfl)) nd (pairR_noid _) (nbq rfl) ?_;unfold pairR;rw[e1,e2];unfold RN at *;repeat ((conv=>whnf);(first | refine⟨_,‹_›,?_⟩|refine⟨by kernel_rfl,?_⟩|exact rfl))
   ·by_cases h88:c=8800
    ·subst h88;rw[if_pos (by decide)];rw[if_pos (by simp)];refine AC.of_body TTok Tryz.func118 rfl (enter_of Tryz.func118 (by kernel_rfl) (by kernel_rfl)) nd (pairR_noid _) (nbq rfl) ?_;unfold pairR;rw[e1,e2];unfold RN at *;repeat ((conv=>whnf);(first | refine⟨_,‹_›,?_⟩|refine⟨by kernel_rfl,?_⟩|exact rfl))
    ·rw[if_neg (fun h=>h.elim h61 h88)];refine AC.of_body TTok Tryz.func118 rfl (enter_of Tryz.func118 (by kernel_rfl) (by kernel_rfl)) nd (pairR_noid _) (nbq rfl) ?_;unfold pairR;rw[e1,e2];unfold RN at *;conv=>whnf
     refine nFq (by omega) ?_;conv=>whnf
     refine nFq (by omega) ?_;(conv=>whnf);refine⟨_,‹_›,?_⟩;(conv=>whnf);exact rfl
 ·cases cb
  ·rw[if_pos (by decide)];by_cases h61:c=61
   ·subst h61;rw[if_pos (by decide)];rw[if_neg (by simp)];refine AC.of_body TTok Tryz.func118 rfl (enter_of Tryz.func118 (by kernel_rfl) (by kernel_rfl)) nd (pairR_noid _) (nbq rfl) ?_;unfold pairR;rw[e2,e1];unfold RN at *;repeat ((conv=>whnf);(first | refine⟨_,‹_›,?_⟩|refine⟨by kernel_rfl,?_⟩|exact rfl))
   ·by_cases h88:c=8800
    ·subst h88;rw[if_pos (by decide)];rw[if_pos (by simp)];refine AC.of_body TTok Tryz.func118 rfl (enter_of Tryz.func118 (by kernel_rfl) (by kernel_rfl)) nd (pairR_noid _) (nbq rfl) ?_;unfold pairR;rw[e2,e1];unfold RN at *;repeat ((conv=>whnf);(first | refine⟨_,‹_›,?_⟩|refine⟨by kernel_rfl,?_⟩|exact rfl))
    ·rw[if_neg (fun h=>h.elim h61 h88)];refine AC.of_body TTok Tryz.func118 rfl (enter_of Tryz.func118 (by kernel_rfl) (by kernel_rfl)) nd (pairR_noid _) (nbq rfl) ?_;unfold pairR;rw[e2,e1];unfold RN at *;conv=>whnf
     refine nFq (by omega) ?_;conv=>whnf
     refine nFq (by omega) ?_;(conv=>whnf);refine⟨_,‹_›,?_⟩;(conv=>whnf);exact rfl
  ·rw[if_pos (by decide)];by_cases h61:c=61
   ·subst h61;rw[if_pos (by decide)];by_cases hxy:x=y
    ·rw[if_pos (by simp[hxy])];refine AC.of_body TTok Tryz.func118 rfl (enter_of Tryz.func118 (by kernel_rfl) (by kernel_rfl)) nd (pairR_noid _) (nbq rfl) ?_;unfold pairR;rw[e2,e2];unfold RN at *;have hs:((x==y)==true)=true:=by simp[hxy]
     conv=>whnf
     refine⟨_,⟨by decide,rfl⟩,?_⟩;conv=>whnf
     refine⟨_,⟨by decide,rfl⟩,?_⟩;conv=>whnf
     refine⟨by kernel_rfl,?_⟩;conv=>whnf
     refine cTq (hs) ?_;(conv=>whnf);refine⟨_,‹_›,?_⟩;(conv=>whnf);exact rfl
    ·rw[if_neg (by simp[hxy])];refine AC.of_body TTok Tryz.func118 rfl (enter_of Tryz.func118 (by kernel_rfl) (by kernel_rfl)) nd (pairR_noid _) (nbq rfl) ?_;unfold pairR;rw[e2,e2];unfold RN at *;have hs:((x==y)==true)=false:=by simp[hxy]
     conv=>whnf
     refine⟨_,⟨by decide,rfl⟩,?_⟩;conv=>whnf
     refine⟨_,⟨by decide,rfl⟩,?_⟩;conv=>whnf
     refine⟨by kernel_rfl,?_⟩;conv=>whnf
     refine cFq (hs) ?_;(conv=>whnf);refine⟨_,‹_›,?_⟩;(conv=>whnf);exact rfl
   ·by_cases h88:c=8800
    ·subst h88;rw[if_pos (by decide)];by_cases hxy:x=y
     ·rw[if_neg (by simp[hxy])];refine AC.of_body TTok Tryz.func118 rfl (enter_of Tryz.func118 (by kernel_rfl) (by kernel_rfl)) nd (pairR_noid _) (nbq rfl) ?_;unfold pairR;rw[e2,e2];unfold RN at *;have hs:((x==y)==false)=false:=by simp[hxy]
      conv=>whnf
      refine⟨_,⟨by decide,rfl⟩,?_⟩;conv=>whnf
      refine⟨_,⟨by decide,rfl⟩,?_⟩;conv=>whnf
      refine⟨by kernel_rfl,?_⟩;conv=>whnf
      refine cFq (hs) ?_;(conv=>whnf);refine⟨_,‹_›,?_⟩;(conv=>whnf);exact rfl
     ·rw[if_pos (by simp[hxy])];refine AC.of_body TTok Tryz.func118 rfl (enter_of Tryz.func118 (by kernel_rfl) (by kernel_rfl)) nd (pairR_noid _) (nbq rfl) ?_;unfold pairR;rw[e2,e2];unfold RN at *;have hs:((x==y)==false)=true:=by simp[hxy]
      conv=>whnf
      refine⟨_,⟨by decide,rfl⟩,?_⟩;conv=>whnf
      refine⟨_,⟨by decide,rfl⟩,?_⟩;conv=>whnf
      refine⟨by kernel_rfl,?_⟩;conv=>whnf
      refine cTq (hs) ?_;(conv=>whnf);refine⟨_,‹_›,?_⟩;(conv=>whnf);exact rfl
    ·rw[if_neg (fun h=>h.elim h61 h88)];refine AC.of_body TTok Tryz.func118 rfl (enter_of Tryz.func118 (by kernel_rfl) (by kernel_rfl)) nd (pairR_noid _) (nbq rfl) ?_;unfold pairR;rw[e2,e2];unfold RN at *;conv=>whnf
     refine nFq (by omega) ?_;conv=>whnf
     refine nFq (by omega) ?_;(conv=>whnf);refine⟨_,‹_›,?_⟩;(conv=>whnf);exact rfl
end
end
section
def PEt (ch:Bool) (x:Int):List (List AV):=if ch then [[.val (.int .i32 x)]] else []
def PEn (ch:Bool) (q:Rat):List (List AV):=if ch then [] else [rowN q]
theorem PE_eq (ch:Bool) (x:Int) (q:Rat):PE ch x q = .agg [.sl 1 [] false,.val (.bool ch),.sl 1 (PEt ch x) false,.sl 3 (PEn ch q) false]:=by cases ch<;>rfl
theorem RTwo_loop (c:Int) (hc:isTwo c) (sa sb:List Int) (ca cb:Bool) (ta tb:List Int) (qa qb:List Rat) (most:Int) (hm:most≤200) (s:List Int) (one two:Bool) (n:Nat) (hn:n≤1000) (hv:vS s) (hcn:cntI s=(n:Int))
  (hfit:AC Tryz.prog 117 [PA sa ca ta qa,PA sb cb tb qb] (.pure (FV (s,one,two,0))))
  (f:Nat→Rat×Int)
  (hEA:∀i:Nat,i<n→AC Tryz.prog 119 [PA sa ca ta qa,.val (.int .i64 (i:Int)),.val (.bool one)] (.pure (PE ca (ta.getD (ix one i) 0) (qa.getD (ix one i) 0))))
  (hEB:∀i:Nat,i<n→AC Tryz.prog 119 [PA sb cb tb qb,.val (.int .i64 (i:Int)),.val (.bool two)] (.pure (PE cb (tb.getD (ix two i) 0) (qb.getD (ix two i) 0))))
  (hP:∀i:Nat,i<n→AC Tryz.prog 118 [.val (.int .i32 c),PE ca (ta.getD (ix one i) 0) (qa.getD (ix one i) 0),PE cb (tb.getD (ix two i) 0) (qb.getD (ix two i) 0),.val (.int .i64 most)] (.pure (pairR (f i))))
  (E:Int) (hE:E=firstE ((List.range n).map f)) :
  AC Tryz.prog 78 [.val (.int .i32 c),PA sa ca ta qa,PA sb cb tb qb,.val (.int .i64 most)] (.pure (if E=0 then .tup [.agg [.sl 1 (irows .i64 s) false,.val (.bool false),.sl 0 [] true,.sl 3 (((List.range n).map fun i=>(f i).1).map rowN) false],.val (.int .i64 0)] else .tup [PZ,.val (.int .i64 E)])):=by
 have hH:=SHas_ok c;rw[decide_eq_true hc]at hH;have hC:=RCount_ok s (by have:=hv.1;omega);rw[CNT_good hv,hcn]at hC;obtain⟨Y,hY⟩:∃ Y:List Rat,Y=(List.range n).map fun i=>(f i).1:=⟨_,rfl⟩;rw[←hY];have l1:Y.length=n:=by rw[hY,List.length_map,List.length_range]
 have hYi:∀i (h:i<n),Y[i]'(by omega)=(f i).1:=fun i h=>by subst hY;rw[List.getElem_map,List.getElem_range]
 obtain⟨res,hres⟩:∃ res:AV,res=if E=0 then .tup [.agg [.sl 1 (irows .i64 s) false,.val (.bool false),.sl 0 [] true,.sl 3 (Y.map rowN) false],.val (.int .i64 0)] else .tup [PZ,.val (.int .i64 E)]:=⟨_,rfl⟩
 rw[←hres];have hnr:NoId res:=by
  rw[hres];split
  ·exact good_noid _ _
  ·exact PZt_noid _
 refine AC.of_body TTok Tryz.func78 rfl (enter_of Tryz.func78 (by kernel_rfl) (by kernel_rfl)) (noidF (.val _) (PA_noid _ _ _ _) (PA_noid _ _ _ _) (.val _)) hnr (nbq rfl) ?_;unfold FV PA at hfit;simp only[PE_eq]at hEA hEB hP;unfold PA at hEA hEB ⊢;conv=>whnf
 refine⟨_,hH,?_⟩;conv=>whnf
 refine⟨_,hfit,?_⟩;conv=>whnf
 refine⟨_,hC,?_⟩;conv=>whnf
 refine SW.nilC 240 3 3 rfl rfl ?_;refine SW.loopM TTok (fun i:Nat=>[(0,.val (.int .i32 c)),(3,.val (.int .i64 most)),(5,.lp 0 0),(6,.lp 8 0),(8,.lp 16 0),(11,.val (.bool one)),(12,.val (.bool two)),(14,.val (.int .i64 (n:Int))),(16,.lp 240 0),(17,.val (.int .i64 (i:Int)))])
  (fun i=>[(0,.cells 4 [[.sl 1 (irows .i64 sa) false,.val (.bool ca),.sl 1 (irows .i32 ta) false,.sl 3 (qa.map rowN) false]]),(8,.cells 4 [[.sl 1 (irows .i64 sb) false,.val (.bool cb),.sl 1 (irows .i32 tb) false,.sl 3 (qb.map rowN) false]]),(16,.cells 4 [[.sl 0 [] true,.val (.bool false),.sl 0 [] true,.sl 0 [] true]]),(240,.cells 4 [[.sl 1 (irows .i64 s) false,.val (.bool false),.sl 0 [] true,.own 264 0 i]]),(264,.cells 3 ((Y.take i).map rowN))]) 272 73 rfl (fun i=>n-i) (fun i=>i≤n∧∀j<i,(f j).2=0) 0 [] ⟨Nat.zero_le _,fun x hx=>absurd hx (Nat.not_lt_zero _)⟩
  ⟨q2r,q2r,q2r,q2r,q2r,q2r,q2r,q2r,q2r,q2r,trivial⟩ ⟨q3r,q3r,q3r,q3r,⟨rfl,.inl ⟨rfl,rowsN_noid _⟩⟩,trivial⟩ rfl ?_
 intro i hJ;have hi:i≤n:=hJ.1;have hz:∀j<i,(f j).2=0:=hJ.2;clear hJ;have lr:((Y.take i).map rowN).length=i:=by rw[List.length_map,List.length_take];omega
 by_cases hlt:i<n
 ·have eI:IntKind.i64.wrap ((i:Int)+1)=((i+1:Nat):Int):=by rw[IntWalk.i64_in _ (by omega)];omega
  have hA:=hEA i hlt;have hB:=hEB i hlt;have d2:=hP i hlt;unfold pairR at d2;have hsn:(Y.take i).map rowN++[rowN (f i).1]=(Y.take (i+1)).map rowN:=by
   rw[take_snoc (show i<Y.length by omega),List.map_append,hYi i hlt];rfl
  have htk:List.take i (List.drop 0 ((Y.take i).map rowN))=(Y.take i).map rowN:=by rw[List.drop_zero,List.take_of_length_le (by omega)]
  by_cases he:(f i).2=0
  ·rw[he]at d2;unfold RN at d2;conv=>whnf
   refine oTq (by omega) ?_;conv=>whnf
   refine⟨_,hA,?_⟩;conv=>whnf
   refine⟨_,hB,?_⟩;conv=>whnf
   refine⟨_,d2,?_⟩;conv=>whnf
   refine⟨by kernel_rfl,?_⟩;conv=>whnf
   refine⟨⟨by show 0+i≤_;omega,by show (i+1)*40≤140737488355328;omega,nbq rfl⟩,?_⟩;conv=>whnf
   refine⟨i+1,[(264,480)],(by show n-(i+1)<n-i;omega),⟨hlt,fun j hj=>?_⟩,⟨q2r,q2r,q2r,q2r,q2r,q2r,q2r,q2r,q2r,⟨valI eI,rfl⟩,trivial⟩,⟨q3r,q3r,q3r,q3r,⟨rfl,.inl ⟨celE ?_,rowsN_noid _⟩⟩,trivial⟩,rfl⟩
   ·by_cases hji:j=i
    ·rw[hji];exact he
    ·exact hz j (by omega)
   ·rw[←hsn];show List.take i (List.drop 0 ((Y.take i).map rowN))++[_]=_;rw[htk];rfl
  ·have hEe:E=(f i).2:=by
    rw[hE];have:=firstE_at (l:=(List.range n).map f) (i:=i) (by rw[List.length_map,List.length_range];exact hlt) (fun x hx=>by
     rw[←List.map_take]at hx;obtain⟨q,hq,rfl⟩:=List.mem_map.1 hx;refine hz q ?_;rw[List.take_range]at hq;have:=List.mem_range.1 hq;omega) (by rw[List.getElem_map,List.getElem_range];exact he)
    rw[this,List.getElem_map,List.getElem_range]
   rw[if_neg (by rw[hEe];exact he),hEe]at hres;subst hres;unfold RN at d2;conv=>whnf
   refine oTq (by omega) ?_;conv=>whnf
   refine⟨_,hA,?_⟩;conv=>whnf
   refine⟨_,hB,?_⟩;conv=>whnf
   refine⟨_,d2,?_⟩;conv=>whnf
   refine⟨by kernel_rfl,?_⟩;conv=>whnf
   refine nFq (by omega) ?_;(conv=>whnf);exact rfl
 ·have hie:i=n:=by omega
  have hE0:E=0:=by
   rw[hE];refine firstE_zero (fun x hx=>?_);obtain⟨q,hq,rfl⟩:=List.mem_map.1 hx;exact hz q (by have:=List.mem_range.1 hq;omega)
  rw[if_pos hE0]at hres;subst hres;have e1:Y.take i=Y:=List.take_of_length_le (by omega);rw[e1]at lr ⊢;have key:List.take i (List.drop 0 (Y.map rowN))=Y.map rowN:=by rw[List.drop_zero,List.take_of_length_le (by omega)]
  conv=>whnf
  refine oFq (by omega) ?_;conv=>whnf
  refine⟨by show 0+i≤_;omega,?_⟩;show AV.tup [AV.agg [_,_,_,AV.sl 3 (List.take i (List.drop 0 (Y.map rowN))) false],_]=_;rw[key];rfl
end
section
theorem RTwo_not (c:Int) (h:¬isTwo c) (sa sb:List Int) (ca cb:Bool) (ta tb:List Int) (qa qb:List Rat) (most:Int):AC Tryz.prog 78 [.val (.int .i32 c),PA sa ca ta qa,PA sb cb tb qb,.val (.int .i64 most)] (.pure (.tup [PZ,.val (.int .i64 20)])):=by
 have hH:=SHas_ok c;rw[decide_eq_false h]at hH;refine AC.of_body TTok Tryz.func78 rfl (enter_of Tryz.func78 (by kernel_rfl) (by kernel_rfl)) (noidF (.val _) (PA_noid _ _ _ _) (PA_noid _ _ _ _) (.val _)) (PZt_noid _) (nbq rfl) ?_;unfold PA;(conv=>whnf);refine⟨_,‹_›,?_⟩;(conv=>whnf);exact rfl
theorem RTwo_unfit (c:Int) (h:isTwo c) (sa sb:List Int) (ca cb:Bool) (ta tb:List Int) (qa qb:List Rat) (most:Int) (x:List Int×Bool×Bool×Int) (he:x.2.2.2≠0) (hF:AC Tryz.prog 117 [PA sa ca ta qa,PA sb cb tb qb] (.pure (FV x))) :
  AC Tryz.prog 78 [.val (.int .i32 c),PA sa ca ta qa,PA sb cb tb qb,.val (.int .i64 most)] (.pure (.tup [PZ,.val (.int .i64 x.2.2.2)])):=by
 have hH:=SHas_ok c;rw[decide_eq_true h]at hH;obtain⟨s,one,two,e⟩:=x;refine AC.of_body TTok Tryz.func78 rfl (enter_of Tryz.func78 (by kernel_rfl) (by kernel_rfl)) (noidF (.val _) (PA_noid _ _ _ _) (PA_noid _ _ _ _) (.val _)) (PZt_noid _) (nbq rfl) ?_;unfold FV at hF;have he:e≠0:=he;have hF:AC Tryz.prog 117 [PA sa ca ta qa,PA sb cb tb qb] (.pure (.tup [.sl 1 (irows .i64 s) false,.val (.bool one),.val (.bool two),.val (.int .i64 e)])):=hF;unfold PA at *;conv=>whnf
 refine⟨_,hH,?_⟩;conv=>whnf
 refine⟨_,hF,?_⟩;conv=>whnf
 refine nFq (by omega) ?_;(conv=>whnf);exact rfl
theorem elem_pair (c:Int) (ca cb:Bool) (ta tb:List Int) (qa qb:List Rat) (one two:Bool) (most:Int) (i:Nat) :
  elemF c ca cb ta tb qa qb one two most i=pairV c ca cb (ta.getD (ix one i) 0) (tb.getD (ix two i) 0) (qa.getD (ix one i) 0) (qb.getD (ix two i) 0) most:=rfl
theorem getD_sz {j:Nat} (hj:1≤j) {l:List Rat} (h:∀q∈l,Sz q j) (k:Nat):Sz (l.getD k 0) j:=by
 rw[List.getD_eq_getElem?_getD];by_cases hk:k<l.length
 ·rw[List.getElem?_eq_getElem hk];exact h _ (List.getElem_mem hk)
 ·rw[List.getElem?_eq_none (by omega)];exact Sz_zero.mono hj
theorem RTwoN_ok (c:Int) (sa sb:List Int) (ca cb:Bool) (ta tb:List Int) (qa qb:List Rat) (most:Int) (hm:most≤200) (hva:vS sa) (hvb:vS sb) (hka:kinds sa ca ta.length qa.length) (hkb:kinds sb cb tb.length qb.length)
  (h1:ta.length≤500) (h2:tb.length≤500) (h3:qa.length≤500) (h4:qb.length≤500) (hQa:∀q∈qa,Sz q 20) (hQb:∀q∈qb,Sz q 20) :
  AC Tryz.prog 78 [.val (.int .i32 c),PA sa ca ta qa,PA sb cb tb qb,.val (.int .i64 most)] (.pure (resP (fitS sa sb (ta.length+qa.length) (tb.length+qb.length)).1 (twoE c sa sb ca cb ta tb qa qb most) (twoV c sa sb ca cb ta tb qa qb most))):=by
 have hF:=RFit_ok sa sb ca cb ta tb qa qb (by have:=hva.1;omega) (by have:=hvb.1;omega) (by omega) (by omega) (by omega) (by omega);obtain⟨ka1,ka2⟩:=kinds_len hka;obtain⟨kb1,kb2⟩:=kinds_len hkb;have hI:=fit_idx ka1 kb1 hva hvb;unfold twoE twoV;generalize hx:fitS sa sb (ta.length+qa.length) (tb.length+qb.length)=x at hF hI ⊢;by_cases hc:isTwo c
 ·rw[if_pos hc];by_cases he:x.2.2.2=0
  ·obtain⟨v1,v2,v3⟩:=hI he;obtain⟨s,one,two,e⟩:=x;have he:e=0:=he;subst he;have v1:vS s:=v1;have v2:cntI s=((ta.length+qa.length:Nat):Int)∨cntI s=((tb.length+qb.length:Nat):Int):=v2;have v3:∀i:Nat,(i:Int)<cntI s→ix one i<ta.length+qa.length∧ix two i<tb.length+qb.length:=v3;obtain⟨n,hn⟩:∃ n:Nat,cntI s=(n:Int):=by rcases v2 with h | h<;>exact⟨_,h⟩
   have hn5:n≤1000:=by omega
   rw[if_neg (fun h=>h rfl)];show AC Tryz.prog 78 _ (.pure (resP s (firstE ((List.range (cntI s).toNat).map (elemF c ca cb ta tb qa qb one two most))) ((List.range (cntI s).toNat).map fun i=>(elemF c ca cb ta tb qa qb one two most i).1)));rw[hn,Int.toNat_natCast];rw[hn]at v3;have hL:=RTwo_loop c hc sa sb ca cb ta tb qa qb most hm s one two n hn5 v1 hn hF (elemF c ca cb ta tb qa qb one two most)
    (fun i hi=>element_ok sa ca ta qa i one (by cases ca<;>(simp only[if_pos,Bool.false_eq_true,if_false];omega)) (by
     have:=(v3 i (by omega)).1;cases ca
     ·have ka2:qa.length=ta.length+qa.length:=ka2;show ix one i<qa.length;omega
     ·have ka2:ta.length=ta.length+qa.length:=ka2;show ix one i<ta.length;omega))
    (fun i hi=>element_ok sb cb tb qb i two (by cases cb<;>(simp only[if_pos,Bool.false_eq_true,if_false];omega)) (by
     have:=(v3 i (by omega)).2;cases cb
     ·have kb2:qb.length=tb.length+qb.length:=kb2;show ix two i<qb.length;omega
     ·have kb2:tb.length=tb.length+qb.length:=kb2;show ix two i<tb.length;omega))
    (fun i hi=>by
     rw[elem_pair];exact pair_ok c ca cb _ _ _ _ most hm (getD_sz (by decide) hQa _) (getD_sz (by decide) hQb _)) _ rfl
   unfold resP;by_cases hE:firstE ((List.range n).map (elemF c ca cb ta tb qa qb one two most))=0
   ·rw[if_pos hE]at hL ⊢;exact AC.le_res hL (.tup2 (le_agg4 (.refl _) (.refl _) (le_nil 1) (.refl _)) (.refl _)) (.tup _ (noid2 (PA_noid _ _ _ _) (.val _)))
   ·rw[if_neg hE]at hL ⊢;exact AC.le_res hL (.tup2 PZ_le (.refl _)) (.tup _ (noid2 (PA_noid _ _ _ _) (.val _)))
  ·rw[if_pos he];exact resP_err _ _ he (RTwo_unfit c hc sa sb ca cb ta tb qa qb most x he hF)
 ·rw[if_neg hc];exact resP_err _ _ (by decide) (RTwo_not c hc sa sb ca cb ta tb qa qb most)
end
section
theorem sz_nat (n:Nat) (h:n<4294967296):Sz ((n:Int):Rat) 1:=Sz_small (by
 show ((n:Int)).natAbs<_;rw[Int.natAbs_natCast];exact h) (by show (1:Nat)<4294967296;decide)
end
section
theorem uP4:Tryz.prog.underlying 4=some .bool:=by kernel_rfl
theorem uP9:Tryz.prog.underlying 9=some .string:=by kernel_rfl
theorem uP3:Tryz.prog.underlying 3=some (.int .i64):=by kernel_rfl
theorem uP21:Tryz.prog.underlying 21=some (.int .i32):=by kernel_rfl
theorem uP27:Tryz.prog.underlying 27=some (.slice 3):=by kernel_rfl
theorem uP29:Tryz.prog.underlying 29=some (.slice 21):=by kernel_rfl
theorem uP49:Tryz.prog.underlying 49=some (.slice 116):=by kernel_rfl
theorem uP116:Tryz.prog.underlying 116=some (.struct (Tryz.prog.fieldsOf 116)):=by kernel_rfl
theorem uP51:Tryz.prog.underlying 51=some (.struct (Tryz.prog.fieldsOf 51)):=by kernel_rfl
theorem opNum:Opens Tryz.prog 116 (fun xs=>∃ b s t,xs=[.val (.bool b),.val (.string s),.val (.string t)]∧s.size≤maxLen∧t.size≤maxLen):=by
 have h:=opens_struct (l:=[(0,4),(1,9),(2,9)]) (n:=3) uP116 (by kernel_rfl) (by kernel_rfl) (.cons _ _ 0 1 3 _ _ (by kernel_rfl) (opens_bool uP4) (.cons _ _ 1 1 3 _ _ (by kernel_rfl) (opens_str uP9) (.cons _ _ 2 1 3 _ _ (by kernel_rfl) (opens_str uP9) (.nil 3))));refine h.mono ?_;rintro xs ⟨a,b,rfl,⟨x,rfl⟩,c,d,rfl,⟨y,rfl,hy⟩,e,f,rfl,⟨z,rfl,hz⟩,rfl⟩;exact⟨x,y,z,rfl,hy,hz⟩
theorem opInts:Opens Tryz.prog 27 (fun xs=>∃ L:List Int,xs=[.sl 1 (irows .i64 L) false]∧L.length<9223372036854775808):=by
 refine (opens_slice (c:=1) uP27 (by kernel_rfl) (nbq rfl) (opens_int uP3)).mono ?_;rintro xs ⟨rows,rfl,hl,hr⟩;have key:∀rows:List (List AV),(∀r∈rows,r.length=1∧∃ n,r=[.val (.int .i64 n)]∧(Lit.int .i64 n).wf=true)→∃ L:List Int,rows=irows .i64 L:=by
  intro rows;induction rows with
  | nil=>exact fun _=>⟨[],rfl⟩
  | cons r rows ih =>
   intro h;obtain⟨_,n,hn,_⟩:=h r List.mem_cons_self;obtain⟨L,hL⟩:=ih (fun r hr=>h r (List.mem_cons_of_mem _ hr));exact⟨n :: L,by rw[hn,hL];rfl⟩
 obtain⟨L,rfl⟩:=key rows hr;refine⟨L,rfl,?_⟩;rw[irows_len]at hl;unfold maxLen at hl;omega
theorem opRunes:Opens Tryz.prog 29 (fun xs=>∃ L:List Int,xs=[.sl 1 (irows .i32 L) false]∧L.length<9223372036854775808):=by
 refine (opens_slice (c:=1) uP29 (by kernel_rfl) (nbq rfl) (opens_int uP21)).mono ?_;rintro xs ⟨rows,rfl,hl,hr⟩;have key:∀rows:List (List AV),(∀r∈rows,r.length=1∧∃ n,r=[.val (.int .i32 n)]∧(Lit.int .i32 n).wf=true)→∃ L:List Int,rows=irows .i32 L:=by
  intro rows;induction rows with
  | nil=>exact fun _=>⟨[],rfl⟩
  | cons r rows ih =>
   intro h;obtain⟨_,n,hn,_⟩:=h r List.mem_cons_self;obtain⟨L,hL⟩:=ih (fun r hr=>h r (List.mem_cons_of_mem _ hr));exact⟨n :: L,by rw[hn,hL];rfl⟩
 obtain⟨L,rfl⟩:=key rows hr;refine⟨L,rfl,?_⟩;rw[irows_len]at hl;unfold maxLen at hl;omega
def GN (L:List TX):Prop:=∀x∈L,bytX x∧x.2.1.length<9223372036854775808∧x.2.2.length<9223372036854775808
theorem bytesL_len (s:ByteArray):(bytesL s).length=s.size:=by unfold bytesL;rw[List.length_map,Array.length_toList];rfl
theorem opNums:Opens Tryz.prog 49 (fun xs=>∃ L:List TX,xs=[.sl 3 (L.map rowB) false]∧L.length<9223372036854775808∧GN L):=by
 refine (opens_slice (c:=3) uP49 (by kernel_rfl) (nbq rfl) opNum).mono ?_;rintro xs ⟨rows,rfl,hl,hr⟩;have key:∀rows:List (List AV),(∀r∈rows,r.length=3∧∃ b s t,r=[.val (.bool b),.val (.string s),.val (.string t)]∧s.size≤maxLen∧t.size≤maxLen)→∃ L:List TX,rows=L.map rowB∧GN L:=by
  intro rows;induction rows with
  | nil=>exact fun _=>⟨[],rfl,fun x hx=>nomatch hx⟩
  | cons r rows ih =>
   intro h;obtain⟨_,b,s,t,hn,hs,ht⟩:=h r List.mem_cons_self;obtain⟨L,hL,hG⟩:=ih (fun r hr=>h r (List.mem_cons_of_mem _ hr));refine⟨(b,bytesL s,bytesL t) :: L,?_,fun x hx=>?_⟩
   ·rw[hn,hL];show _=rowB (b,bytesL s,bytesL t) :: L.map rowB;unfold rowB;rw[strL_bytesL,strL_bytesL]
   ·rcases List.mem_cons.1 hx with rfl | hx
    ·have l1:=bytesL_len s;have l2:=bytesL_len t;unfold maxLen at hs ht;exact⟨⟨bytesL_byt s,bytesL_byt t⟩,by show (bytesL s).length<_;omega,by show (bytesL t).length<_;omega⟩
    ·exact hG x hx
 obtain⟨L,rfl,hG⟩:=key rows hr;refine⟨L,rfl,?_,hG⟩;rw[List.length_map]at hl;unfold maxLen at hl;omega
theorem opPlain:Opens Tryz.prog 51 (fun xs=>∃ sh ch tx L,xs=[.sl 1 (irows .i64 sh) false,.val (.bool ch),.sl 1 (irows .i32 tx) false,.sl 3 (L.map rowB) false]∧sh.length<9223372036854775808∧tx.length<9223372036854775808∧L.length<9223372036854775808∧GN L):=by
 have h:=opens_struct (l:=[(0,27),(1,4),(2,29),(3,49)]) (n:=4) uP51 (by kernel_rfl) (by kernel_rfl) (.cons _ _ 0 1 4 _ _ (by kernel_rfl) opInts (.cons _ _ 1 1 4 _ _ (by kernel_rfl) (opens_bool uP4) (.cons _ _ 2 1 4 _ _ (by kernel_rfl) opRunes (.cons _ _ 3 1 4 _ _ (by kernel_rfl) opNums (.nil 4)))));refine h.mono ?_;rintro xs ⟨a,b,rfl,⟨sh,rfl,h1⟩,c,d,rfl,⟨ch,rfl⟩,e,f,rfl,⟨tx,rfl,h2⟩,g,i,rfl,⟨L,rfl,h3,h4⟩,rfl⟩;exact⟨sh,ch,tx,L,rfl,h1,h2,h3,h4⟩
end
section
def Lite (sh:List Int) (ch:Bool) (tx:List Int) (L:List TX) (most:Nat) (qs:List Rat):Prop :=
 PB sh ch tx L=PA sh ch tx qs∧vS sh∧kinds sh ch tx.length qs.length∧tx.length≤most∧qs.length≤most∧∀q∈qs,QR q
theorem lite_ok (sh:List Int) (ch:Bool) (tx:List Int) (L:List TX) (most:Nat) (hm:most≤1000) (z:sh.length<9223372036854775808∧tx.length<9223372036854775808∧L.length<9223372036854775808∧GN L) :
  ∃ r:Bool,AC Tryz.prog 48 [PB sh ch tx L,.val (.int .i64 (most:Int))] (.pure (.val (.bool r)))∧(r=true→∃ qs,Lite sh ch tx L most qs):=by
 obtain⟨z1,z2,z3,z4⟩:=z;obtain⟨r,hr,hP⟩:=Light_ok sh ch tx L (most:Int) (by omega) z1 z2 z3 z4;refine⟨r,hP,fun h=>?_⟩;obtain⟨g1,g2,g3,g4,g5,g6⟩:=hr h;refine⟨L.map qX,PB_PA g6,g4,by rw[List.length_map];exact g5,by omega,by rw[List.length_map];omega,fun q hq=>?_⟩;obtain⟨x,hx,rfl⟩:=List.mem_map.1 hq;exact⟨_,_,_,g6 x hx,(z4 x hx).1.1,(z4 x hx).1.2,(g3 x hx).1,(g3 x hx).2,rfl⟩
end
section
end
end Go.Proofs.YtbdklokfijjifaaGreat
