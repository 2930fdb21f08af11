import Derived.Test.YtkpefpjpadahiaaGreatDoorD10
namespace Go.Lad
set_option linter.unusedVariables false
set_option linter.unusedSimpArgs false
open Go.RowKit
structure Dz (P:Program) (it:Iter):Prop where
 enter:∀ args w,(callFunc it.f args).run P w = .ok (.enter it.f args) w
 law:∀ ol xs,it.fn ol=some xs->KP P it.f (xs.map fun x=>(it.row x).map TC.un) (fun k=>(it.at_ ol k).map cV.un)
 at0:∀ ol xs,it.fn ol=some xs->it.at_ ol 0=ol
 len:∀ ol xs,it.fn ol=some xs->∀ k,(it.at_ ol k).length=ol.length
 ids:∀ ol xs,it.fn ol=some xs->∀ k,∀ h∈it.at_ ol k,h.ik=[]
theorem Bv:∀ (ss:List CSh) (ds:List Dyn),(kW ss ds).1.length=ss.length
 | [],_=>rfl
 | s::ss,ds=>by
  show (kW ss (mkC s ds).2).1.length+1=ss.length+1;rw[Bv ss]
section
variable {fx cur:TSt} {os:List Nat} {ol:List cV} {σs:Shp} {kt kh:List Nat}
end
section
variable {E:Env} {Γ:Opt}
theorem lO {α:Type} {b:Bool} {x:Option α} {r:α} (h:(Bool.rec none x b:Option α)=some r):b=true/\x=some r:=by
 cases b with
 | true=>exact⟨rfl,h⟩
 | false=>cases h
def qt (js:List Nat):Code->An->Bool
 | .seq a b,.seq x y=>qt js a x && qt js b y
 | .seq a b,.join _ _ _ _ x y=>js.contains (pj b) && qt js a x && qt js b y
 | .cond _ a b,.cond x y=>qt js a x && qt js b y
 | .block _ b,.one x=>qt js b x
 | .loop b,.loop _ _ _ x=>qt js b x
 | .scope b,.one x=>qt js b x
 | .rangeFunc _ _ a b,.range _ _ _ x y=>qt js a x && qt js b y
 | _,_=>true
def jW:Code->An->List (Nat×Code)
 | .seq a b,.seq x y=>jW a x++jW b y
 | .seq a b,.join _ _ _ _ x y=>jW a x++jW b y
 | .seq a b,.hand i=>[(i,.seq a b)]
 | .cond _ a b,.cond x y=>jW a x++jW b y
 | .block _ b,.one x=>jW b x
 | .loop b,.loop _ _ _ x=>jW b x
 | .scope b,.one x=>jW b x
 | .rangeFunc _ _ a b,.range _ _ _ x y=>jW a x++jW b y
 | _,_=>[]
def I3 (E:Env) (Γ:Opt) (x:Nat×Code):Prop := ∀ h,NS E.IK x.1=some h->kN x.2=false/\∀ fx cur cur',h fx cur=some cur'->MM E.P Γ x.2 (un2 fx cur) (un2 fx cur')
theorem Gp {α:Type} {p:α->Prop} {l m:List α} (h:∀ x∈l++m,p x):∀ x∈l,p x:=fun x hx=>h x (List.mem_append_left _ hx)
theorem Gq {α:Type} {p:α->Prop} {l m:List α} (h:∀ x∈l++m,p x):∀ x∈m,p x:=fun x hx=>h x (List.mem_append_right _ hx)
theorem EP {fx2:TSt} {σs:Shp} {v:Tup σs.ps} {b:Code} {s:St} {K:St->Prop} (hj:Γ.js.contains (pj b)=true) (hs:∃ σ,Sub σ s (nH ((σs.at v).tm++fx2.tm)) (dY ((σs.at v).hp++fx2.hp))) (hK:K (un2 fx2 (σs.at v))):mF Γ.js b K s:=by
 unfold mF;rw[if_pos hj];obtain⟨σ,hs⟩:=hs;exact .inr ⟨_,_,σ,hs,hK⟩
theorem ke [Fuel] (hIt:∀ it∈E.its,Dz E.P it) (hvs:Γ.vs=E.fz) (hΦ:∀ con∈E.Φ,au E.P con) (hΓ:Γ.hs=E.hs/\Γ.fz=E.zs/\Γ.mv=E.ns/\Γ.bx=E.bs):∀ (c:Code) (an:An) (fx:TSt) (ρ:Type) (dq:DecidableEq ρ) (cur:TSt) (K:AEx->TSt->Option ρ) (r:ρ) (Q:AEx->St->Prop),(∀ x∈jW c an,I3 E Γ x)->qt Γ.js c an=true->den E c an fx ρ dq cur K=some r->(∀ e c,K e c=some r->Q e (un2 fx c))->ij E.P Γ c (un2 fx cur) Q
 | .skip,an,fx,ρ,dq,cur,K,r,Q,hH,hj,h,hQ=>hQ _ _ h
 | .region id ops dr,an,fx,ρ,dq,cur,K,r,Q,hH,hj,h,hQ=>EO rfl hvs hΦ hΓ (fun c hc=>hQ _ _ hc) _ _ h
 | .seq a b,an,fx,ρ,dq,cur,K,r,Q,hH,hj,h,hQ=>by
  cases an with
  | seq x y =>
   unfold qt at hj;rw[Bool.and_eq_true] at hj;refine .inl (ke hIt hvs hΦ hΓ a x fx ρ dq cur _ r _ (Gp hH) hj.1 h fun e c hc=>?_);cases e with
   | normal =>
    have hb:=ke hIt hvs hΦ hΓ b y fx ρ dq c K r Q (Gq hH) hj.2 hc hQ;show mF Γ.js b (fun s=>ij E.P Γ b s Q) _;unfold mF;split
    ·exact .inl hb
    ·exact hb
   | exit i=>exact hQ _ _ hc
   | ret=>exact hQ _ _ hc
  | join σs kt kh pure x y =>
   unfold qt at hj;rw[Bool.and_eq_true,Bool.and_eq_true] at hj;obtain⟨⟨hj1,hj2⟩,hj3⟩:=hj;cases pure with
   | true =>
    obtain⟨hc,h⟩:=lO h;rw[Bool.and_eq_true] at hc;obtain⟨hcl,hdr⟩:=hc;obtain⟨v,h1,h2⟩:=bind_some h;have hb:=ke hIt hvs hΦ hΓ b y fx ρ _ _ K r Q (Gq hH) hj3 h2 hQ;rw[rP hdr] at hb;have ha:=ke hIt hvs hΦ hΓ a x _ _ _ _ _ v (Ej (mF Γ.js b fun s=>ij E.P Γ b s Q) Q) (Gp hH) hj2 h1 fun e c hc=>by
     cases e with
     | normal =>
      obtain⟨hk,hc⟩:=lO hc;obtain⟨v',hv,hs⟩:=nL hc;injection hv with hv
      subst hv;exact EP hj1 (hs (wy hcl hk)) hb
     | exit i=>cases hc
     | ret=>cases hc
    rw[EH hdr] at ha;exact .inl ha
   | false =>
    obtain⟨hc,h⟩:=lO h;rw[Bool.and_eq_true] at hc;obtain⟨hcl,hdr⟩:=hc;obtain⟨v,h1,h2⟩:=bind_some h;have ha:=ke hIt hvs hΦ hΓ a x _ _ _ _ _ v (Ej (mF Γ.js b fun s=>ij E.P Γ b s Q) Q) (Gp hH) hj2 h1 fun e c hc=>by
     have out:∀ e',e'=e->((K e' ⟨c.tm++(cu cur σs kt kh).tm,c.hp++(cu cur σs kt kh).hp⟩).map Sum.inr=some v)->Q e' (un2 (jm fx cur (cu cur σs kt kh) σs) c):=fun e' _ hc=>by
      rw[Option.map_eq_some_iff] at hc;obtain⟨r',hr,rfl⟩:=hc;dsimp only at h2;injection h2 with h2
      subst h2;rw[← rP hdr];exact hQ _ _ hr
     cases e with
     | normal =>
      obtain⟨hk,hc⟩:=lO hc;obtain⟨v',hv,hs⟩:=nL hc;injection hv with hv
      subst hv;dsimp only at h2;have hb:=ke hIt hvs hΦ hΓ b y fx ρ _ _ K r Q (Gq hH) hj3 h2 hQ;rw[rP hdr] at hb;exact EP hj1 (hs (wy hcl hk)) hb
     | exit i=>exact out _ rfl hc
     | ret=>exact out _ rfl hc
    rw[EH hdr] at ha;exact .inl ha
  | hand i =>
   unfold den at h;dsimp only at h;split at h
   ·rename_i hd hi;obtain⟨cur',h1,h2⟩:=bind_some h;obtain⟨h3,h4⟩:=hH (i,.seq a b) List.mem_cons_self hd hi;exact .inr ⟨h3,_,h4 fx cur cur' h1,hQ _ _ h2⟩
   ·cases h
  | no=>cases h
  | cond _ _=>cases h
  | loop _ _ _ _=>cases h
  | one _=>cases h
  | range _ _ _ _ _=>cases h
 | .cond c a b,an,fx,ρ,dq,cur,K,r,Q,hH,hj,h,hQ=>by
  cases an with
  | cond x y =>
   unfold qt at hj;rw[Bool.and_eq_true] at hj;unfold den at h;dsimp only at h;show Ek ((un2 fx cur).ev c) _ _;rw[fF];split at h
   ·rename_i t heq;obtain⟨t,rfl⟩:∃ q:Bool,q=t:=⟨t,rfl⟩;rw[heq];show (t=true->_)/\(t=false->_);cases t with
    | true=>exact⟨fun _=>ke hIt hvs hΦ hΓ a x fx ρ dq cur K r Q (Gp hH) hj.1 h hQ,(fun h=>nomatch h)⟩
    | false=>exact⟨(fun h=>nomatch h),fun _=>ke hIt hvs hΦ hΓ b y fx ρ dq cur K r Q (Gq hH) hj.2 h hQ⟩
   ·rename_i pos t l heq;rw[heq];cases pos with
    | true =>
     obtain⟨h1,h2⟩:=vN (show po l (den E a x fx ρ dq cur K) (den E b y fx ρ dq cur K)=some r from h);show (l.map (enc t)=[]->_)/\_;exact⟨fun hl=>ke hIt hvs hΦ hΓ a x fx ρ dq cur K r Q (Gp hH) hj.1 (h2 (List.map_eq_nil_iff.1 hl)) hQ,ke hIt hvs hΦ hΓ b y fx ρ dq cur K r Q (Gq hH) hj.2 h1 hQ⟩
    | false =>
     obtain⟨h1,h2⟩:=vN (show po l (den E b y fx ρ dq cur K) (den E a x fx ρ dq cur K)=some r from h);show _/\(l.map (enc t)=[]->_);exact⟨ke hIt hvs hΦ hΓ a x fx ρ dq cur K r Q (Gp hH) hj.1 h1 hQ,fun hl=>ke hIt hvs hΦ hΓ b y fx ρ dq cur K r Q (Gq hH) hj.2 (h2 (List.map_eq_nil_iff.1 hl)) hQ⟩
   ·cases h
  | no=>cases h
  | hand _=>cases h
  | seq _ _=>cases h
  | join _ _ _ _ _ _=>cases h
  | loop _ _ _ _=>cases h
  | one _=>cases h
  | range _ _ _ _ _=>cases h
 | .block id b,an,fx,ρ,dq,cur,K,r,Q,hH,hj,h,hQ=>by
  cases an with
  | one x =>
   refine ke hIt hvs hΦ hΓ b x fx ρ dq cur _ r _ hH hj h fun e c hc=>?_;cases e with
   | normal=>exact hQ _ _ hc
   | exit i =>
    show (if i=id then Q .normal (un2 fx c) else Q (.exit i) (un2 fx c));have hc:(Bool.rec (K (.exit i) c) (K .normal c) (Nat.beq i id):Option ρ)=some r:=hc;rw[eU] at hc;by_cases hi:i=id
    ·rw[if_pos hi];rw[decide_eq_true hi] at hc;exact hQ _ _ hc
    ·rw[if_neg hi];rw[decide_eq_false hi] at hc;exact hQ _ _ hc
   | ret=>exact hQ _ _ hc
  | no=>cases h
  | hand _=>cases h
  | seq _ _=>cases h
  | join _ _ _ _ _ _=>cases h
  | loop _ _ _ _=>cases h
  | cond _ _=>cases h
  | range _ _ _ _ _=>cases h
 | .loop b,an,fx,ρ,dq,cur,K,r,Q,hH,hj,h,hQ=>by
  cases an with
  | loop σs kt kh x =>
   obtain⟨hc,h⟩:=lO h;rw[Bool.and_eq_true] at hc;obtain⟨hcl,hdr⟩:=hc;obtain⟨v0,h1,hs0⟩:=nL h;obtain⟨σ0,hs0⟩:=hs0 (Ln hcl);refine No _ (fun v=>nH ((σs.at v).tm++(jm fx cur (cu cur σs kt kh) σs).tm)) (fun v=>dY ((σs.at v).hp++(jm fx cur (cu cur σs kt kh) σs).hp)) v0 r (AT h1) σ0 hs0 fun v o ho hr=>?_;refine ke hIt hvs hΦ hΓ b x _ _ _ _ _ o (Ig _ _ (fun y=>o = .inl y) Q) hH hj ho fun e c hc=>?_;have out:∀ e',((K e' ⟨c.tm++(cu cur σs kt kh).tm,c.hp++(cu cur σs kt kh).hp⟩).map Sum.inr=some o)->Q e' (un2 (jm fx cur (cu cur σs kt kh) σs) c):=fun e' hc=>by
    rw[Option.map_eq_some_iff] at hc;obtain⟨r',hr',rfl⟩:=hc;have:=hr r' rfl;subst this;rw[← rP hdr];exact hQ _ _ hr'
   cases e with
   | normal =>
    obtain⟨hk,hc⟩:=lO hc;obtain⟨v',hv,hs⟩:=nL hc;injection hv with hv
    obtain⟨σ,hs⟩:=hs (wy hcl hk);exact⟨v',σ,hv.symm,hs⟩
   | exit i=>exact out _ hc
   | ret=>exact out _ hc
  | no=>cases h
  | hand _=>cases h
  | seq _ _=>cases h
  | join _ _ _ _ _ _=>cases h
  | one _=>cases h
  | cond _ _=>cases h
  | range _ _ _ _ _=>cases h
 | .exit id,an,fx,ρ,dq,cur,K,r,Q,hH,hj,h,hQ=>hQ _ _ h
 | .ret,an,fx,ρ,dq,cur,K,r,Q,hH,hj,h,hQ=>hQ _ _ h
 | .scope b,an,fx,ρ,dq,cur,K,r,Q,hH,hj,h,hQ=>by
  cases an with
  | one x=>exact ke hIt hvs hΦ hΓ b x fx ρ dq cur K r Q hH hj h hQ
  | no=>cases h
  | hand _=>cases h
  | seq _ _=>cases h
  | join _ _ _ _ _ _=>cases h
  | loop _ _ _ _=>cases h
  | cond _ _=>cases h
  | range _ _ _ _ _=>cases h
 | .rangeFunc g ps a b,an,fx,ρ,dq,cur,K,r,Q,hH,hj,h,hQ=>by cases h
 | .label _,an,fx,ρ,dq,cur,K,r,Q,hH,hj,h,hQ=>by cases h
 | .goto _,an,fx,ρ,dq,cur,K,r,Q,hH,hj,h,hQ=>by cases h
 | .refuse _,an,fx,ρ,dq,cur,K,r,Q,hH,hj,h,hQ=>by cases h
end
end Go.Lad
