/-
  TypesTells: every call returns true, and leaves its arguments as they were.
  Conditions: none beyond the given statement.
-/
import Derived.Test.YtaocfjifacnokaaGreatRows
import Derived.Test.YtaocfjifacnokaaGreatPZ2
import Derived.Test.YtaocfjifacnokaaGreatTRun
import Derived.Test.YtaocfjifacnokaaGreatOpr
import Derived.Test.YtaocfjifacnokaaGreatLaid
import Derived.Test.YtaocfjifacnokaaGreatAi
import Derived.ProofKit
import Derived.OpenShut
import Derived.ShutString
import Derived.ChangeOld
import Derived.Below
import Derived.JoinedCond
namespace Go.Proofs.YtaocfjifacnokaaGreat.typesTells
open Go.ChangeShapes Go.WideShapes Go.ChangeAt Go.RowKit Go.Lad
open Go.ChangeMaps (open_string shut_string)
set_option linter.unusedVariables false
set_option linter.unusedSimpArgs false
theorem own:ownKnob Tryz.prog.godebug = none:=by kernel_rfl
theorem laidOut:laidOutB Tryz.prog = true:=by kernel_rfl
set_option maxRecDepth 100000 in
theorem Iq (H:Type) (enc:TypeId × Value → H) (W:World) (base:Nat) (args:Array Value) (ds gs:List (DataW H)) (before:List MemPlace)
  (hval0:∀ (j:Nat) t v,Tryz.f3.params[j]? = some t → args[j]? = some v → Value.okWide Tryz.prog W .any base t v)
  (hW:DataW.Whole enc Tryz.prog Tryz.f3.params.toList Rows.typesTellsSpec.vars false W args.toList ds gs before) (hS:W.ShapedOpen Tryz.prog) :
  Calls Tryz.prog 3 args W fun e W'=>∃ v,e = .returned v ∧ Rows.typesTellsSpec.post enc Tryz.prog Tryz.f3 false true false false W args v W':=by
 have hval:∀ (j:Nat) t v,Tryz.f3.params[j]? = some t → args[j]? = some v → Value.okWide Tryz.prog W .any base t v:=hval0
 have hW':=hW
 obtain⟨p,q,hA0,hV,rfl,hfz,hnd⟩:=hW
 have hA:DataW.TrodAll enc Tryz.prog W 0 (fun _=>true) true Tryz.f3.params.toList args.toList ds p:=hA0
 rw[Tryz.params3] at hA hval
 obtain⟨v0,vs0,d0,ds0,p0,q0,hargs,rfl,rfl,h0,r0⟩:=trodAll_cons hA
 obtain⟨v1,vs1,d1,ds1,p1,q1,rfl,rfl,rfl,h1,r1⟩:=trodAll_cons r0
 obtain⟨v2,vs2,d2,ds2,p2,q2,rfl,rfl,rfl,h2,r2⟩:=trodAll_cons r1
 obtain⟨v3,vs3,d3,ds3,p3,q3,rfl,rfl,rfl,h3,r3⟩:=trodAll_cons r2
 obtain⟨v4,vs4,d4,ds4,p4,q4,rfl,rfl,rfl,h4,r4⟩:=trodAll_cons r3
 obtain⟨v5,vs5,d5,ds5,p5,q5,rfl,rfl,rfl,h5,r5⟩:=trodAll_cons r4
 obtain⟨rfl,rfl,rfl⟩:=trodAll_nil r5
 obtain rfl:args = #[v0,v1,v2,v3,v4,v5]:=by cases args; simp_all
 obtain⟨rfl,rfl⟩:=trodVars_none hV
 have k0:=h0
 have lt0:∀ x ∈ p0,x.block < W.heap.size:=by obtain⟨m,hm⟩:=k0; exact DataW.trod_lt m _ _ _ hm
 obtain⟨cs0,rfl⟩:=nu Tryz.underlying24 (hval 0 24 v0 rfl rfl)
 obtain⟨x0,y0⟩:=gV.arg (jx 30 24 ck (by kernel_rfl)) h0
 have k1:=h1
 have lt1:∀ x ∈ p1,x.block < W.heap.size:=by obtain⟨m,hm⟩:=k1; exact DataW.trod_lt m _ _ _ hm
 obtain⟨cs1,rfl⟩:=nu Tryz.underlying24 (hval 1 24 v1 rfl rfl)
 obtain⟨x1,y1⟩:=gV.arg (jx 30 24 ck (by kernel_rfl)) h1
 have k2:=h2
 have lt2:∀ x ∈ p2,x.block < W.heap.size:=by obtain⟨m,hm⟩:=k2; exact DataW.trod_lt m _ _ _ hm
 obtain⟨cs2,rfl⟩:=nu Tryz.underlying31 (hval 2 31 v2 rfl rfl)
 obtain⟨x2,y2⟩:=gV.arg (jx 30 31 iJ (by kernel_rfl)) h2
 have k3:=h3
 have lt3:∀ x ∈ p3,x.block < W.heap.size:=by obtain⟨m,hm⟩:=k3; exact DataW.trod_lt m _ _ _ hm
 obtain⟨a3,len3,cap3,rfl⟩:=okWide_slice Tryz.underlying32 (hval 3 32 v3 rfl rfl)
 obtain⟨x3,y3⟩:=gV.arg (jx 30 32 (.sl dP) (by kernel_rfl)) h3
 have k4:=h4
 have lt4:∀ x ∈ p4,x.block < W.heap.size:=by obtain⟨m,hm⟩:=k4; exact DataW.trod_lt m _ _ _ hm
 obtain⟨a4,len4,cap4,rfl⟩:=okWide_slice Tryz.underlying22 (hval 4 22 v4 rfl rfl)
 obtain⟨x4,y4⟩:=gV.arg (jx 30 22 (.sl eG) (by kernel_rfl)) h4
 have k5:=h5
 have lt5:∀ x ∈ p5,x.block < W.heap.size:=by obtain⟨m,hm⟩:=k5; exact DataW.trod_lt m _ _ _ hm
 obtain⟨cs5,rfl⟩:=nu Tryz.underlying34 (hval 5 34 v5 rfl rfl)
 obtain⟨x5,y5⟩:=gV.arg (jx 30 34 nU (by kernel_rfl)) h5
 clear hA0 hval0
 have fnT:cz.con.fn (x0,x1,x2,x3,x4,x5) = cz x0 x1 x2 x3 x4 x5:=by kernel_rfl
 refine (yE (cz.ok.2 (x0,x1,x2,x3,x4,x5) true (fnT.trans (C2 x0 x1 x2 x3 x4 x5 (Lu y2)))) (wO hS) (lg (rB y0) (lg (rB y1) (lg (rB y2) (lg (Ee y3) (lg (Ee y4) (lg (rB y5) GG))))))).mono fun e W' ⟨he,bel⟩=>?_
 subst he
 exact⟨_,rfl,_,_,_,[],_,[],hW',trodAll_mk1 (shut_bool Tryz.underlying4 _),(trodAll_cons_mk (Below.trod laidOut (by kernel_rfl) (of_decide_eq_true (by kernel_rfl)) k0 bel lt0) (trodAll_cons_mk (Below.trod laidOut (by kernel_rfl) (of_decide_eq_true (by kernel_rfl)) k1 bel lt1) (trodAll_cons_mk (Below.trod laidOut (by kernel_rfl) (of_decide_eq_true (by kernel_rfl)) k2 bel lt2) (trodAll_cons_mk (Below.trod laidOut (by kernel_rfl) (of_decide_eq_true (by kernel_rfl)) k3 bel lt3) (trodAll_cons_mk (Below.trod laidOut (by kernel_rfl) (of_decide_eq_true (by kernel_rfl)) k4 bel lt4) (trodAll_cons_mk (Below.trod laidOut (by kernel_rfl) (of_decide_eq_true (by kernel_rfl)) k5 bel lt5) trodAll_mk0)))))),rfl,bel.frame _,fun h=>by cases h⟩
set_option maxRecDepth 100000 in
theorem lifted (os:Os) (started:os.Started) (H:Type) (enc:TypeId × Value → H) :
  ReturnsInHanded {} Tryz.checked os 3 .any (Rows.typesTellsSpec.pre6 enc Tryz.prog Tryz.f3 Rows.typesTellsRow.domain false) (Rows.typesTellsSpec.post enc Tryz.prog Tryz.f3 false true false false):=by
 refine returnsInHanded_of_calls (C:=Tryz.checked) own started (by kernel_rfl)
  (ChangeSpec.witness6 (enc:=enc) (C:=Tryz.checked) false ⟨#[],#[.agg #[.int .i64 0,.slice none 0 0],.agg #[.int .i64 0,.slice none 0 0],.agg #[.string ⟨#[]⟩,.slice none 0 0,.slice none 0 0,.slice none 0 0,.slice none 0 0,.bool false,.slice none 0 0,.slice none 0 0,.slice none 0 0],.slice none 0 0,.slice none 0 0,.agg #[.int .i64 0,.int .i64 0,.string ⟨#[]⟩,.string ⟨#[]⟩,.slice none 0 0,.slice none 0 0]],[]⟩ 8 (by kernel_rfl) (by kernel_rfl) (by kernel_rfl) (by kernel_rfl)) ?_
 intro w tape i _ hsh _ hok hpre _
 obtain⟨_,_,_,fn2,hfn2,_,_,_,_,hval⟩:=hok
 have e:fn2 = Tryz.f3:=Option.some.inj (hfn2.symm.trans Tryz.func3)
 subst e
 obtain⟨⟨ds,gs,before,hw,hc⟩,_⟩:=hpre
 have hw2:=DataW.Whole.of_heap (w':=w.forCall tape i) (by rfl) hw
 refine (Iq H enc (w.forCall tape i) w.heap.size i.args ds gs before hval hw2 hsh).mono fun e W' ⟨v,he,hp⟩=>?_
 subst he
 exact ChangeSpec.post_blind hp
theorem M3:Rows.typesTellsRow.holds Tryz.pinned (OpenSpec.ofChange Rows.typesTellsSpec) :=
 OpenClaim.holds_of_wide 3 Tryz.f3 rfl rfl rfl rfl rfl rfl rfl ⟨rfl,rfl,rfl,rfl,rfl⟩ rfl rfl rfl rfl rfl (by kernel_rfl) Tryz.func3 (by kernel_rfl)
  (of_decide_eq_true (by kernel_rfl)) (by unfold Func.isWrapper; first | (rw[if_pos (by decide +kernel)]; kernel_rfl) | (rw[if_neg (by decide +kernel)]; exact⟨rfl,rfl⟩))
  (fun os started H enc _=>lifted os started H enc)
end Go.Proofs.YtaocfjifacnokaaGreat.typesTells
namespace Go.Proofs.YtaocfjifacnokaaGreat
theorem typesTells_holds:Rows.TypesTellsSaid:=typesTells.M3
end Go.Proofs.YtaocfjifacnokaaGreat
