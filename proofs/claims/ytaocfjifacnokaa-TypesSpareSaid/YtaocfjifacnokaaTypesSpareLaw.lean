/-
  TypesSpare: every call returns true, and leaves its arguments as they were.
  Conditions: none beyond the given statement.
-/
import Derived.Test.YtaocfjifacnokaaRows
import Derived.Test.YtaocfjifacnokaaPC
import Derived.Test.YtaocfjifacnokaaXRun
import Derived.Test.YtaocfjifacnokaaD14
import Derived.Test.YtaocfjifacnokaaOpr
import Derived.Test.YtaocfjifacnokaaLaid
import Derived.ProofKit
import Derived.OpenShut
import Derived.ShutString
import Derived.ChangeOld
import Derived.Below
import Derived.JoinedCond
namespace Go.Proofs.Ytaocfjifacnokaa.typesSpare
open Go.ChangeShapes Go.WideShapes Go.ChangeAt Go.RowKit Go.Lad
open Go.ChangeMaps (open_string shut_string)
set_option linter.unusedVariables false
set_option linter.unusedSimpArgs false
theorem own:ownKnob Try.prog.godebug = none:=by kernel_rfl
theorem laidOut:laidOutB Try.prog = true:=by kernel_rfl
set_option maxRecDepth 100000 in
theorem contract (H:Type) (enc:TypeId × Value → H) (W:World) (base:Nat) (args:Array Value) (ds gs:List (DataW H)) (before:List MemPlace)
  (hval0:∀ (j:Nat) t v,Try.f6.params[j]? = some t → args[j]? = some v → Value.okWide Try.prog W .any base t v)
  (hW:DataW.Whole enc Try.prog Try.f6.params.toList Rows.typesSpareSpec.vars false W args.toList ds gs before) (hS:W.ShapedOpen Try.prog) :
  Calls Try.prog 6 args W fun e W'=>∃ v,e = .returned v ∧ Rows.typesSpareSpec.post enc Try.prog Try.f6 false true false false W args v W':=by
 have hval:∀ (j:Nat) t v,Try.f6.params[j]? = some t → args[j]? = some v → Value.okWide Try.prog W .any base t v:=hval0
 have hW':=hW
 obtain⟨p,q,hA0,hV,rfl,hfz,hnd⟩:=hW
 have hA:DataW.TrodAll enc Try.prog W 0 (fun _=>true) true Try.f6.params.toList args.toList ds p:=hA0
 rw[Try.params6] at hA hval
 obtain⟨v0,vs0,d0,ds0,p0,q0,hargs,rfl,rfl,h0,r0⟩:=trodAll_cons hA
 obtain⟨v1,vs1,d1,ds1,p1,q1,rfl,rfl,rfl,h1,r1⟩:=trodAll_cons r0
 obtain⟨v2,vs2,d2,ds2,p2,q2,rfl,rfl,rfl,h2,r2⟩:=trodAll_cons r1
 obtain⟨v3,vs3,d3,ds3,p3,q3,rfl,rfl,rfl,h3,r3⟩:=trodAll_cons r2
 obtain⟨v4,vs4,d4,ds4,p4,q4,rfl,rfl,rfl,h4,r4⟩:=trodAll_cons r3
 obtain⟨rfl,rfl,rfl⟩:=trodAll_nil r4
 obtain rfl:args = #[v0,v1,v2,v3,v4]:=by cases args; simp_all
 obtain⟨rfl,rfl⟩:=trodVars_none hV
 have k0:=h0
 have lt0:∀ x ∈ p0,x.block < W.heap.size:=by obtain⟨m,hm⟩:=k0; exact DataW.trod_lt m _ _ _ hm
 obtain⟨cs0,rfl⟩:=okWide_agg Try.underlying39 (hval 0 39 v0 rfl rfl)
 obtain⟨x0,y0⟩:=Opens.arg (opens_tyU 30 39 GModuleT (by kernel_rfl)) h0
 have k1:=h1
 have lt1:∀ x ∈ p1,x.block < W.heap.size:=by obtain⟨m,hm⟩:=k1; exact DataW.trod_lt m _ _ _ hm
 obtain⟨a1,len1,cap1,rfl⟩:=okWide_slice Try.underlying40 (hval 1 40 v1 rfl rfl)
 obtain⟨x1,y1⟩:=Opens.arg (opens_tyU 30 40 (.sl GFaceT) (by kernel_rfl)) h1
 have k2:=h2
 have lt2:∀ x ∈ p2,x.block < W.heap.size:=by obtain⟨m,hm⟩:=k2; exact DataW.trod_lt m _ _ _ hm
 obtain⟨a2,len2,cap2,rfl⟩:=okWide_slice Try.underlying22 (hval 2 22 v2 rfl rfl)
 obtain⟨x2,y2⟩:=Opens.arg (opens_tyU 30 22 (.sl GFieldT) (by kernel_rfl)) h2
 have k3:=h3
 have lt3:∀ x ∈ p3,x.block < W.heap.size:=by obtain⟨m,hm⟩:=k3; exact DataW.trod_lt m _ _ _ hm
 obtain⟨cs3,rfl⟩:=okWide_agg Try.underlying42 (hval 3 42 v3 rfl rfl)
 obtain⟨x3,y3⟩:=Opens.arg (opens_tyU 30 42 GExpT (by kernel_rfl)) h3
 have k4:=h4
 have lt4:∀ x ∈ p4,x.block < W.heap.size:=by obtain⟨m,hm⟩:=k4; exact DataW.trod_lt m _ _ _ hm
 obtain⟨x4,rfl,rfl,rfl,w4⟩:=open_int Try.underlying3 (hval 4 3 v4 rfl rfl) h4
 have y4:=i64_of_wf w4
 clear hA0 hval0
 have fnT:ladinglaw16_TypesSpare.con.fn (x0,x1,x2,x3,x4) = ladinglaw16_TypesSpare x0 x1 x2 x3 x4:=by kernel_rfl
 refine (law_of_meets (ladinglaw16_TypesSpare.ok.2 (x0,x1,x2,x3,x4) true (fnT.trans (spare_true x0 x1 x2 x3 x4))) (glob_of_shape hS) (all2_cons (srd_tagg y0) (all2_cons (srd_tsl y1) (all2_cons (srd_tsl y2) (all2_cons (srd_tagg y3) (all2_cons (srd_int y4) all2_nil)))))).mono fun e W' ⟨he,bel⟩=>?_
 subst he
 exact⟨_,rfl,_,_,_,[],_,[],hW',trodAll_mk1 (shut_bool Try.underlying4 _),(trodAll_cons_mk (Below.trod laidOut (by kernel_rfl) (of_decide_eq_true (by kernel_rfl)) k0 bel lt0) (trodAll_cons_mk (Below.trod laidOut (by kernel_rfl) (of_decide_eq_true (by kernel_rfl)) k1 bel lt1) (trodAll_cons_mk (Below.trod laidOut (by kernel_rfl) (of_decide_eq_true (by kernel_rfl)) k2 bel lt2) (trodAll_cons_mk (Below.trod laidOut (by kernel_rfl) (of_decide_eq_true (by kernel_rfl)) k3 bel lt3) (trodAll_cons_mk (Below.trod laidOut (by kernel_rfl) (of_decide_eq_true (by kernel_rfl)) k4 bel lt4) trodAll_mk0))))),rfl,bel.frame _,fun h=>by cases h⟩
set_option maxRecDepth 100000 in
theorem lifted (os:Os) (started:os.Started) (H:Type) (enc:TypeId × Value → H) :
  ReturnsInHanded {} Try.checked os 6 .any (Rows.typesSpareSpec.pre6 enc Try.prog Try.f6 Rows.typesSpareRow.domain false) (Rows.typesSpareSpec.post enc Try.prog Try.f6 false true false false):=by
 refine returnsInHanded_of_calls (C:=Try.checked) own started (by kernel_rfl)
  (ChangeSpec.witness6 (enc:=enc) (C:=Try.checked) false ⟨#[],#[.agg #[.string ⟨#[]⟩,.slice none 0 0,.slice none 0 0,.slice none 0 0,.slice none 0 0,.bool false,.slice none 0 0,.slice none 0 0,.slice none 0 0],.slice none 0 0,.slice none 0 0,.agg #[.int .i64 0,.int .i64 0,.string ⟨#[]⟩,.string ⟨#[]⟩,.slice none 0 0,.slice none 0 0],.int .i64 0],[]⟩ 8 (by kernel_rfl) (by kernel_rfl) (by kernel_rfl) (by kernel_rfl)) ?_
 intro w tape i _ hsh _ hok hpre _
 obtain⟨_,_,_,fn2,hfn2,_,_,_,_,hval⟩:=hok
 have e:fn2 = Try.f6:=Option.some.inj (hfn2.symm.trans Try.func6)
 subst e
 obtain⟨⟨ds,gs,before,hw,hc⟩,_⟩:=hpre
 have hw2:=DataW.Whole.of_heap (w':=w.forCall tape i) (by rfl) hw
 refine (contract H enc (w.forCall tape i) w.heap.size i.args ds gs before hval hw2 hsh).mono fun e W' ⟨v,he,hp⟩=>?_
 subst he
 exact ChangeSpec.post_blind hp
theorem over:Rows.typesSpareRow.holds Try.pinned (OpenSpec.ofChange Rows.typesSpareSpec) :=
 OpenClaim.holds_of_wide 6 Try.f6 rfl rfl rfl rfl rfl rfl rfl ⟨rfl,rfl,rfl,rfl,rfl⟩ rfl rfl rfl rfl rfl (by kernel_rfl) Try.func6 (by kernel_rfl)
  (of_decide_eq_true (by kernel_rfl)) (by unfold Func.isWrapper; first | (rw[if_pos (by decide +kernel)]; kernel_rfl) | (rw[if_neg (by decide +kernel)]; exact⟨rfl,rfl⟩))
  (fun os started H enc _=>lifted os started H enc)
end Go.Proofs.Ytaocfjifacnokaa.typesSpare
namespace Go.Proofs.Ytaocfjifacnokaa
theorem typesSpare_holds:Rows.TypesSpareSaid:=typesSpare.over
end Go.Proofs.Ytaocfjifacnokaa
