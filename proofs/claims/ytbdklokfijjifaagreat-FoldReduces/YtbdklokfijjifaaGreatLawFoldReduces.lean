/- The statement FoldReduces: the row, out of the walk. -/
import Derived.Test.YtbdklokfijjifaaGreatRows
import Derived.Test.YtbdklokfijjifaaGreatB5
import Derived.Test.YtbdklokfijjifaaGreatB2
import Derived.WalkKit
import Derived.ProofKit
import Derived.OpenShut
import Derived.ShutString
import Derived.ChangeOld
import Derived.Below
import Derived.SizedLaws
import Derived.Carry
set_option linter.unusedVariables false
namespace Go.Proofs.YtbdklokfijjifaaGreat.foldReduces
open Go Go.AL NM
open Go.ChangeShapes Go.WideShapes Go.ChangeAt Go.RowKit
open Go.ChangeMaps (open_string shut_string)
theorem own:ownKnob Tryz.prog.godebug=none:=by kernel_rfl
theorem laidOut:laidOutB Tryz.prog=true:=by kernel_rfl
theorem u21:Tryz.prog.underlying 21=some (.int .i32):=by kernel_rfl
theorem u3:Tryz.prog.underlying 3=some (.int .i64):=by kernel_rfl
theorem u4:Tryz.prog.underlying 4=some .bool:=by kernel_rfl
set_option maxRecDepth 100000 in
theorem lifted (os:Os) (started:os.Started) (H:Type) (enc:TypeId×Value→H) :
  ReturnsInHanded {} Tryz.checked os 5 .any (Rows.foldReducesSpec.pre6 enc Tryz.prog Tryz.f5 Rows.foldReducesRow.domain false) (Rows.foldReducesSpec.post enc Tryz.prog Tryz.f5 false true false false):=by
 refine returnsInHanded_of_change_sized (C:=Tryz.checked) own started (by kernel_rfl) Tryz.func5
  (ChangeSpec.witness6 (enc:=enc) (C:=Tryz.checked) false ⟨#[],#[.int .i32 0,.agg #[.slice none 0 0,.bool false,.slice none 0 0,.slice none 0 0],.int .i64 0],[]⟩ 8 (by kernel_rfl) (by kernel_rfl) (by kernel_rfl) (by kernel_rfl)) ?_
 intro W base args ds gs before hval0 hW hcnd hsz0 _;have hp:Tryz.f5.params=#[21,51,3]:=rfl;have hsz:(DataW.weightsEach Tryz.prog (Tryz.f5.params.toList++Rows.foldReducesSpec.plain.varTypes Tryz.prog) (ds++gs)).all (·≤reachBytes)=true:=hsz0;have hval:∀(j:Nat) t v,Tryz.f5.params[j]?=some t→args[j]?=some v→Value.okWide Tryz.prog W .any base t v:=hval0;have hW':=hW;obtain⟨p,q,hA0,hV,rfl,hfz,hnd⟩:=hW;have hA:DataW.TrodAll enc Tryz.prog W 0 (fun _=>true) true Tryz.f5.params.toList args.toList ds p:=hA0;rw[hp]at hA hval hsz;obtain⟨v0,vs0,d0,ds0,p0,q0,hargs,rfl,rfl,h0,r0⟩:=trodAll_cons hA;obtain⟨v1,vs1,d1,ds1,p1,q1,rfl,rfl,rfl,h1,r1⟩:=trodAll_cons r0;obtain⟨v2,vs2,d2,ds2,p2,q2,rfl,rfl,rfl,h2,r2⟩:=trodAll_cons r1;obtain⟨rfl,rfl,rfl⟩:=trodAll_nil r2;obtain rfl:args=#[v0,v1,v2]:=by cases args;simp_all
 obtain⟨rfl,rfl⟩:=trodVars_none hV;obtain⟨a0,rfl,rfl,rfl,w0⟩:=open_int u21 (hval 0 21 v0 rfl rfl) h0;have hw0:-2147483648≤a0∧a0<2147483648:=by
  have:=w0;simp[Lit.wf,IntKind.min,IntKind.max,IntKind.signed,IntKind.bits]at this;omega
 obtain⟨c1,rfl,_⟩:=okWide_struct uP51 (hval 1 51 v1 rfl rfl);obtain⟨xs1,⟨sh1,ch1,tx1,L1,rfl,z1⟩,vr1,_⟩:=Opens.struct opPlain h1;have lt1:∀x∈p1,x.block<W.heap.size:=by obtain⟨m,hm⟩:=h1;exact DataW.trod_lt m _ _ _ hm
 obtain⟨a2,rfl,rfl,rfl,w2⟩:=open_int u3 (hval 2 3 v2 rfl rfl) h2;have hw2:-9223372036854775808≤a2∧a2<9223372036854775808:=by
  have:=w2;simp[Lit.wf,IntKind.min,IntKind.max,IntKind.signed,IntKind.bits]at this;omega
 clear hA0 hval0 hsz0 hsz;refine ((holds a0 sh1 ch1 tx1 L1 a2 hw0 z1 hw2).law W _ rfl (fun i x hx=>by
  rcases i with _ | i
  ·simp at hx;subst hx;exact .val _
  rcases i with _ | i
  ·simp at hx;subst hx;exact vr1
  rcases i with _ | i
  ·simp at hx;subst hx;exact .val _
  ·simp at hx)).mono fun e W' ⟨he,bel⟩=>?_
 subst he;exact⟨_,rfl,_,_,_,[],_,[],hW',trodAll_mk1 (shut_bool u4 _),(trodAll_cons_mk (shut_int u21 w0) (trodAll_cons_mk (Below.trod laidOut (by kernel_rfl) (of_decide_eq_true (by kernel_rfl)) h1 bel lt1) (trodAll_cons_mk (shut_int u3 w2) trodAll_mk0))),rfl,bel.frame _,fun h=>by cases h⟩
theorem over:Rows.foldReducesRow.holds Tryz.pinned (OpenSpec.ofChange Rows.foldReducesSpec) :=
 OpenClaim.holds_of_wide 5 Tryz.f5 rfl rfl rfl rfl rfl rfl rfl ⟨rfl,rfl,rfl,rfl,rfl⟩ rfl rfl rfl rfl rfl (by kernel_rfl) Tryz.func5 (by kernel_rfl)
  (of_decide_eq_true (by kernel_rfl)) (by unfold Func.isWrapper;first | (rw[if_pos (by decide +kernel)];kernel_rfl) | (rw[if_neg (by decide +kernel)];exact q2r))
  (fun os started H enc _=>lifted os started H enc)
theorem proved:Rows.FoldReducesSaid:=over
end Go.Proofs.YtbdklokfijjifaaGreat.foldReduces
namespace Go.Proofs.YtbdklokfijjifaaGreat
theorem foldReduces_holds:Rows.FoldReducesSaid:=foldReduces.proved
end Go.Proofs.YtbdklokfijjifaaGreat
