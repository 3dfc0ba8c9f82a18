/-
  The statement Rows.JournalMatchesSaid: for every input the law returns true, and its arguments read as they did. No condition.
-/
import Derived.Test.YtbgjlpdeoljmiaaRows
import Derived.Test.YtbgjlpdeoljmiaaJwD
import Derived.ProofKit
import Derived.OpenShut
import Derived.ShutString
import Derived.ChangeOld
import Derived.Below
import Derived.Carry
import Derived.Deep.Slices
import Derived.Deep.Fields
import Derived.Deep.Strs
namespace Go.Proofs.Ytbgjlpdeoljmiaa.journalMatches
open Go.ChangeShapes Go.WideShapes Go.ChangeAt Go.RowKit Go.Deep
set_option linter.unusedVariables false

theorem own:ownKnob Try.prog.godebug=none:=by kernel_rfl
theorem laidOut:laidOutB Try.prog=true:=by kernel_rfl

set_option maxRecDepth 100000 in
theorem lifted(os:Os)(started:os.Started)(H:Type)(enc:TypeId×Value→H) :
  ReturnsInHanded {} Try.checked os 8 .any (Rows.journalMatchesSpec.pre6 enc Try.prog Try.f8 Rows.journalMatchesRow.domain false) (Rows.journalMatchesSpec.post enc Try.prog Try.f8 false true false false):=by
 refine returnsInHanded_of_change (C:=Try.checked) own started (by kernel_rfl) Try.func8
  (ChangeSpec.witness6 (enc:=enc) (C:=Try.checked) false ⟨#[],#[.agg #[.slice none 0 0],.int .i64 0,.string ⟨#[]⟩,.slice none 0 0,.string ⟨#[]⟩,.string ⟨#[]⟩],[]⟩ 8 (by kernel_rfl) (by kernel_rfl) (by kernel_rfl) (by kernel_rfl)) ?_
 intro W base args ds gs before hval0 hW hcnd _;have hval:∀(j:Nat) t v,Try.f8.params[j]?=some t→args[j]?=some v→Value.okWide Try.prog W .any base t v:=hval0;have hW':=hW;obtain ⟨p,q,hA0,hV,rfl,hfz,hnd⟩:=hW;have hA:DataW.TrodAll enc Try.prog W 0 (fun _=>true) true Try.f8.params.toList args.toList ds p:=hA0;rw [Try.params8] at hA hval;obtain ⟨v0,vs0,d0,ds0,p0,q0,hargs,rfl,rfl,h0,r0⟩:=trodAll_cons hA;obtain ⟨v1,vs1,d1,ds1,p1,q1,rfl,rfl,rfl,h1,r1⟩:=trodAll_cons r0;obtain ⟨v2,vs2,d2,ds2,p2,q2,rfl,rfl,rfl,h2,r2⟩:=trodAll_cons r1;obtain ⟨v3,vs3,d3,ds3,p3,q3,rfl,rfl,rfl,h3,r3⟩:=trodAll_cons r2;obtain ⟨v4,vs4,d4,ds4,p4,q4,rfl,rfl,rfl,h4,r4⟩:=trodAll_cons r3;obtain ⟨v5,vs5,d5,ds5,p5,q5,rfl,rfl,rfl,h5,r5⟩:=trodAll_cons r4;obtain ⟨rfl,rfl,rfl⟩:=trodAll_nil r5;obtain rfl:args = #[v0,v1,v2,v3,v4,v5]:=by cases args; simp_all
 obtain ⟨rfl,rfl⟩:=trodVars_none hV;have k0:=h0;have lt0:∀x∈p0,x.block<W.heap.size:=by obtain ⟨m,hm⟩:=k0; exact DataW.trod_lt m _ _ _ hm
 obtain ⟨z0,hp0,hw0⟩:=open_val Qg (d:=6) (t:=24) (by kernel_rfl) (hval 0 24 v0 rfl rfl) h0;obtain ⟨x0,rfl,ok0⟩:=arg_24 hw0;have k1:=h1;have lt1:∀x∈p1,x.block<W.heap.size:=by obtain ⟨m,hm⟩:=k1; exact DataW.trod_lt m _ _ _ hm
 obtain ⟨z1,hp1,hw1⟩:=open_val Qg (d:=1) (t:=3) (by kernel_rfl) (hval 1 3 v1 rfl rfl) h1;obtain ⟨x1,rfl,ok1⟩:=arg_3 hw1;have k2:=h2;have lt2:∀x∈p2,x.block<W.heap.size:=by obtain ⟨m,hm⟩:=k2; exact DataW.trod_lt m _ _ _ hm
 obtain ⟨z2,hp2,hw2⟩:=open_val Qg (d:=1) (t:=9) (by kernel_rfl) (hval 2 9 v2 rfl rfl) h2;obtain ⟨x2,rfl,ok2⟩:=arg_9 hw2;have k3:=h3;have lt3:∀x∈p3,x.block<W.heap.size:=by obtain ⟨m,hm⟩:=k3; exact DataW.trod_lt m _ _ _ hm
 obtain ⟨z3,hp3,hw3⟩:=open_val Qg (d:=3) (t:=45) (by kernel_rfl) (hval 3 45 v3 rfl rfl) h3;obtain ⟨x3,rfl,ok3⟩:=arg_45 hw3;have k4:=h4;have lt4:∀x∈p4,x.block<W.heap.size:=by obtain ⟨m,hm⟩:=k4; exact DataW.trod_lt m _ _ _ hm
 obtain ⟨z4,hp4,hw4⟩:=open_val Qg (d:=1) (t:=9) (by kernel_rfl) (hval 4 9 v4 rfl rfl) h4;obtain ⟨x4,rfl,ok4⟩:=arg_9 hw4;have k5:=h5;have lt5:∀x∈p5,x.block<W.heap.size:=by obtain ⟨m,hm⟩:=k5; exact DataW.trod_lt m _ _ _ hm
 obtain ⟨z5,hp5,hw5⟩:=open_val Qg (d:=1) (t:=9) (by kernel_rfl) (hval 5 9 v5 rfl rfl) h5;obtain ⟨x5,rfl,ok5⟩:=arg_9 hw5;refine (law_call (ps:=[(.agg (Qf.cells x0)),(.int .i64 x1),(.str x2),(.sl .any 3 (x3.map Qb.cells)),(.str x4),(.str x5)]) (vs:=[v0,v1,v2,v3,v4,v5]) (f8_ok x0 x1 x2 x3 x4 x5 (lawMatches x0 x1 x2 x3 x4 x5 ok0 ok1 ok2 ok3 ok4 ok5)) (vrt_cons hp0 (vrt_cons hp1 (vrt_cons hp2 (vrt_cons hp3 (vrt_cons hp4 (vrt_cons hp5 vrt_nil))))))).mono fun e W' ⟨he,bel⟩=>?_;subst he
 exact ⟨_,rfl,_,_,_,[],_,[],hW',trodAll_mk1 (shut_bool Try.underlying4 _),(trodAll_cons_mk (Below.trod laidOut (by kernel_rfl) (of_decide_eq_true (by kernel_rfl)) k0 bel lt0) (trodAll_cons_mk (Below.trod laidOut (by kernel_rfl) (of_decide_eq_true (by kernel_rfl)) k1 bel lt1) (trodAll_cons_mk (Below.trod laidOut (by kernel_rfl) (of_decide_eq_true (by kernel_rfl)) k2 bel lt2) (trodAll_cons_mk (Below.trod laidOut (by kernel_rfl) (of_decide_eq_true (by kernel_rfl)) k3 bel lt3) (trodAll_cons_mk (Below.trod laidOut (by kernel_rfl) (of_decide_eq_true (by kernel_rfl)) k4 bel lt4) (trodAll_cons_mk (Below.trod laidOut (by kernel_rfl) (of_decide_eq_true (by kernel_rfl)) k5 bel lt5) trodAll_mk0)))))),rfl,bel.frame _,fun h=>by cases h⟩

theorem over:Rows.journalMatchesRow.holds Try.pinned (OpenSpec.ofChange Rows.journalMatchesSpec) :=
 OpenClaim.holds_of_wide 8 Try.f8 rfl rfl rfl rfl rfl rfl rfl ⟨rfl,rfl,rfl,rfl,rfl⟩ rfl rfl rfl rfl rfl (by kernel_rfl) Try.func8 (by kernel_rfl)
  (of_decide_eq_true (by kernel_rfl)) (by unfold Func.isWrapper; first | (rw [if_pos (by decide +kernel)]; kernel_rfl) | (rw [if_neg (by decide +kernel)]; exact ⟨rfl,rfl⟩))
  (fun os started H enc _=>lifted os started H enc)

theorem proved:Rows.JournalMatchesSaid:=over
#print axioms proved
end Go.Proofs.Ytbgjlpdeoljmiaa.journalMatches
