/- The statement ProductInners: the row, out of the walk. -/
import Derived.Test.YtbdklokfijjifaaGreatRows
import Derived.Test.YtbdklokfijjifaaGreatB6
import Derived.Test.YtbdklokfijjifaaGreatB2
import Derived.WalkKit
import Derived.ProofKit
import Derived.OpenShut
import Derived.ShutString
import Derived.ChangeOld
import Derived.Below
import Derived.SizedLaws
import Derived.Carry
set_option linter.unusedVariables false
namespace Go.Proofs.YtbdklokfijjifaaGreat.productInners
open Go Go.AL NM
open Go.ChangeShapes Go.WideShapes Go.ChangeAt Go.RowKit
open Go.ChangeMaps (open_string shut_string)
theorem own:ownKnob Tryz.prog.godebug=none:=by kernel_rfl
theorem laidOut:laidOutB Tryz.prog=true:=by kernel_rfl
theorem u21:Tryz.prog.underlying 21=some (.int .i32):=by kernel_rfl
theorem u4:Tryz.prog.underlying 4=some .bool:=by kernel_rfl
set_option maxRecDepth 100000 in
theorem lifted (os:Os) (started:os.Started) (H:Type) (enc:TypeId×Value→H) :
  ReturnsInHanded {} Tryz.checked os 8 .any (Rows.productInnersSpec.pre6 enc Tryz.prog Tryz.f8 Rows.productInnersRow.domain false) (Rows.productInnersSpec.post enc Tryz.prog Tryz.f8 false true false false):=by
 refine returnsInHanded_of_change_sized (C:=Tryz.checked) own started (by kernel_rfl) Tryz.func8
  (ChangeSpec.witness6 (enc:=enc) (C:=Tryz.checked) false ⟨#[],#[.int .i32 0,.int .i32 0,.agg #[.slice none 0 0,.bool false,.slice none 0 0,.slice none 0 0],.agg #[.slice none 0 0,.bool false,.slice none 0 0,.slice none 0 0]],[]⟩ 8 (by kernel_rfl) (by kernel_rfl) (by kernel_rfl) (by kernel_rfl)) ?_
 intro W base args ds gs before hval0 hW hcnd hsz0 _;have hp:Tryz.f8.params=#[21,21,51,51]:=rfl;have hsz:(DataW.weightsEach Tryz.prog (Tryz.f8.params.toList++Rows.productInnersSpec.plain.varTypes Tryz.prog) (ds++gs)).all (·≤reachBytes)=true:=hsz0;have hval:∀(j:Nat) t v,Tryz.f8.params[j]?=some t→args[j]?=some v→Value.okWide Tryz.prog W .any base t v:=hval0;have hW':=hW;obtain⟨p,q,hA0,hV,rfl,hfz,hnd⟩:=hW;have hA:DataW.TrodAll enc Tryz.prog W 0 (fun _=>true) true Tryz.f8.params.toList args.toList ds p:=hA0;rw[hp]at hA hval hsz;obtain⟨v0,vs0,d0,ds0,p0,q0,hargs,rfl,rfl,h0,r0⟩:=trodAll_cons hA;obtain⟨v1,vs1,d1,ds1,p1,q1,rfl,rfl,rfl,h1,r1⟩:=trodAll_cons r0;obtain⟨v2,vs2,d2,ds2,p2,q2,rfl,rfl,rfl,h2,r2⟩:=trodAll_cons r1;obtain⟨v3,vs3,d3,ds3,p3,q3,rfl,rfl,rfl,h3,r3⟩:=trodAll_cons r2;obtain⟨rfl,rfl,rfl⟩:=trodAll_nil r3;obtain rfl:args=#[v0,v1,v2,v3]:=by cases args;simp_all
 obtain⟨rfl,rfl⟩:=trodVars_none hV;obtain⟨a0,rfl,rfl,rfl,w0⟩:=open_int u21 (hval 0 21 v0 rfl rfl) h0;have hw0:-2147483648≤a0∧a0<2147483648:=by
  have:=w0;simp[Lit.wf,IntKind.min,IntKind.max,IntKind.signed,IntKind.bits]at this;omega
 obtain⟨a1,rfl,rfl,rfl,w1⟩:=open_int u21 (hval 1 21 v1 rfl rfl) h1;have hw1:-2147483648≤a1∧a1<2147483648:=by
  have:=w1;simp[Lit.wf,IntKind.min,IntKind.max,IntKind.signed,IntKind.bits]at this;omega
 obtain⟨c2,rfl,_⟩:=okWide_struct uP51 (hval 2 51 v2 rfl rfl);obtain⟨xs2,⟨sh2,ch2,tx2,L2,rfl,z2⟩,vr2,_⟩:=Opens.struct opPlain h2;have lt2:∀x∈p2,x.block<W.heap.size:=by obtain⟨m,hm⟩:=h2;exact DataW.trod_lt m _ _ _ hm
 obtain⟨c3,rfl,_⟩:=okWide_struct uP51 (hval 3 51 v3 rfl rfl);obtain⟨xs3,⟨sh3,ch3,tx3,L3,rfl,z3⟩,vr3,_⟩:=Opens.struct opPlain h3;have lt3:∀x∈p3,x.block<W.heap.size:=by obtain⟨m,hm⟩:=h3;exact DataW.trod_lt m _ _ _ hm
 clear hA0 hval0 hsz0 hsz;refine ((holds a0 a1 sh2 ch2 tx2 L2 sh3 ch3 tx3 L3 hw0 hw1 z2 z3).law W _ rfl (fun i x hx=>by
  rcases i with _ | i
  ·simp at hx;subst hx;exact .val _
  rcases i with _ | i
  ·simp at hx;subst hx;exact .val _
  rcases i with _ | i
  ·simp at hx;subst hx;exact vr2
  rcases i with _ | i
  ·simp at hx;subst hx;exact vr3
  ·simp at hx)).mono fun e W' ⟨he,bel⟩=>?_
 subst he;exact⟨_,rfl,_,_,_,[],_,[],hW',trodAll_mk1 (shut_bool u4 _),(trodAll_cons_mk (shut_int u21 w0) (trodAll_cons_mk (shut_int u21 w1) (trodAll_cons_mk (Below.trod laidOut (by kernel_rfl) (of_decide_eq_true (by kernel_rfl)) h2 bel lt2) (trodAll_cons_mk (Below.trod laidOut (by kernel_rfl) (of_decide_eq_true (by kernel_rfl)) h3 bel lt3) trodAll_mk0)))),rfl,bel.frame _,fun h=>by cases h⟩
theorem over:Rows.productInnersRow.holds Tryz.pinned (OpenSpec.ofChange Rows.productInnersSpec) :=
 OpenClaim.holds_of_wide 8 Tryz.f8 rfl rfl rfl rfl rfl rfl rfl ⟨rfl,rfl,rfl,rfl,rfl⟩ rfl rfl rfl rfl rfl (by kernel_rfl) Tryz.func8 (by kernel_rfl)
  (of_decide_eq_true (by kernel_rfl)) (by unfold Func.isWrapper;first | (rw[if_pos (by decide +kernel)];kernel_rfl) | (rw[if_neg (by decide +kernel)];exact q2r))
  (fun os started H enc _=>lifted os started H enc)
theorem proved:Rows.ProductInnersSaid:=over
end Go.Proofs.YtbdklokfijjifaaGreat.productInners
namespace Go.Proofs.YtbdklokfijjifaaGreat
theorem productInners_holds:Rows.ProductInnersSaid:=productInners.proved
end Go.Proofs.YtbdklokfijjifaaGreat
