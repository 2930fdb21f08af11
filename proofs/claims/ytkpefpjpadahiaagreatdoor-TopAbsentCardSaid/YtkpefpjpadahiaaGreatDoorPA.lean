import Derived.Test.YtkpefpjpadahiaaGreatDoorAModel
import Derived.Test.YtkpefpjpadahiaaGreatDoorDPl
import Derived.Test.YtkpefpjpadahiaaGreatDoorLs
import Derived.Lib.SplitLaws
import Derived.IntWalk
set_option linter.unusedVariables false
set_option linter.unusedSimpArgs false
set_option linter.unusedSectionVars false
namespace Go.Lad
def Has {α:Type} (x:Option α) (Q:α->Prop):Prop := ∃ b,x=some b/\Q b
section
variable {α β:Type} {Q:α->Prop} {R:β->Prop}
theorem ae {a:α} (h:Q a):Has (some a) Q:=⟨a,rfl,h⟩
theorem iB {x:Option α} {b:α} (h:x=some b) (hq:Q b):Has x Q:=⟨b,h,hq⟩
theorem Has.mono {x:Option α} {Q':α->Prop} (h:Has x Q) (hq:∀ a,Q a->Q' a):Has x Q':=by
 obtain⟨b,h1,h2⟩:=h;exact⟨b,h1,hq b h2⟩
theorem aa {x:Option α} {f:α->Option β} (h:Has x Q) (hf:∀ a,Q a->Has (f a) R):Has (x.bind f) R:=by
 obtain⟨a,rfl,ha⟩:=h;exact hf a ha
theorem LH {x:Option α} {f:α->β} (h:Has x Q) (hf:∀ a,Q a->R (f a)):Has (x.map f) R:=by
 obtain⟨a,rfl,ha⟩:=h;exact⟨f a,rfl,hf a ha⟩
theorem ah {b:Bool} {x y:Option α} (hx:b=true->Has x Q) (hy:b=false->Has y Q):Has (bif b then x else y) Q:=by
 cases b
 ·exact hy rfl
 ·exact hx rfl
theorem bO {l:List α} {i:Int} (h0:0<=i) (h1:i<l.length):Has (idx l i) (fun x=>x∈l/\l[i.toNat]?=some x):=by
 have hi:i.toNat<l.length:=by omega
 exact⟨l[i.toNat],N7 h0 (List.getElem?_eq_getElem hi),List.getElem_mem hi,List.getElem?_eq_getElem hi⟩
theorem bD {n:Int} (h0 : -9223372036854775808<=n) (h1:n<=9223372036854775807):Has (z64 n) (· = n):=⟨n,DD h0 h1,rfl⟩
theorem fK {σ:Type} {body:σ->Option (σ⊕β)} (I:σ->Prop) (μ:σ->Nat) {x:σ} (h0:I x) (hN:μ x<=100000000)
  (h:∀ x,I x->μ x<=100000000->Has (body x) fun r=>match r with | .inl y=>I y/\μ y<μ x | .inr b=>R b):Has (bS body x) R:=by
 have key:∀ n x,I x->μ x<=n->n<=100000000->∃ b,iterM body (n+1) x=some b/\R b:=by
  intro n;induction n with
  | zero =>
   intro x hx hm hn;obtain⟨r,hr,hq⟩:=h x hx (by omega);cases r with
   | inl y=>exact absurd hq.2 (by omega)
   | inr b=>exact⟨b,by unfold iterM; rw[hr],hq⟩
  | succ n ih =>
   intro x hx hm hn;obtain⟨r,hr,hq⟩:=h x hx (by omega);cases r with
   | inl y =>
    obtain⟨b,hb,hq2⟩:=ih y hq.1 (by omega) (by omega);exact⟨b,by rw[iterM,hr]; exact hb,hq2⟩
   | inr b=>exact⟨b,by rw[iterM,hr],hq⟩
 obtain⟨b,hb,hq⟩:=key (μ x) x h0 (Nat.le_refl _) hN;exact⟨b,rX hb (by omega),hq⟩
theorem eT {a b:Int} (h:ltZ a b=true):a<b:=by rw[dP] at h; simpa using h
theorem dx {a b:Int} (h:ltZ a b=false):b<=a:=by rw[dP] at h; simpa using h
theorem j0 {a b:Int} (h:leZ a b=true):a<=b:=by rw[iv] at h; simpa using h
theorem yn {a b:Int} (h:leZ a b=false):b<a:=by rw[iv] at h; simpa using h
theorem dW {a b:Int} (h:eqZ a b=true):a=b:=by rw[fE] at h; simpa using h
theorem kD {a b:Int} (h:eqZ a b=false):a≠b:=by rw[fE] at h; simpa using h
theorem mi {l m:List α} (h:l.length+m.length<=1000000):Has (app? l m) (· = l++m):=⟨l++m,by unfold app?; rw[if_pos (by omega)],rfl⟩
theorem zA {l:List α} {i j:Int} (h0:0<=i) (h1:i<=j) (h2:j<=l.length):Has (cut l i j) (fun m=>m=(l.take j.toNat).drop i.toNat/\(m.length:Int)=j-i):=by
 refine⟨_,by unfold cut; rw[if_pos ⟨h0,h1,h2⟩],rfl,?_⟩;rw[List.length_drop,List.length_take]; omega
theorem Jf {p:Prop} [Decidable p] (h:p):Has (qM p) (fun _=>True):=⟨(),by unfold qM; rw[if_pos h],trivial⟩
theorem kk {body:Int->Option (Int⊕β)} (l:List α) (hl:l.length<=100000000) (h:∀ (i:Nat) x,l[i]?=some x->Has (body (i:Int)) fun r=>match r with | .inl y=>y=((i+1:Nat):Int) | .inr b=>R b)
  (he:Has (body (l.length:Int)) fun r=>match r with | .inl _=>False | .inr b=>R b):Has (bS body 0) R:=by
 refine fK (fun i=>∃ k:Nat,i=(k:Int)/\k<=l.length) (fun i=>l.length-i.toNat) ⟨0,rfl,Nat.zero_le _⟩ (by simpa using hl) (fun i hi hm=>?_);obtain⟨k,rfl,hk⟩:=hi;rcases Nat.lt_or_ge k l.length with h2 | h2
 ·refine (h k _ (List.getElem?_eq_getElem h2)).mono fun r hr=>?_;cases r with
  | inl y =>
   have hr:y=((k+1:Nat):Int):=hr;subst hr;exact⟨⟨k+1,rfl,h2⟩,by show l.length-((k+1:Nat):Int).toNat<l.length-((k:Int)).toNat; omega⟩
  | inr b=>exact hr
 ·have:k=l.length:=by omega
  subst this;refine he.mono fun r hr=>?_;cases r with
  | inl y=>exact hr.elim
  | inr b=>exact hr
end
end Go.Lad
namespace Go.Proofs.YtkpefpjpadahiaaGreatDoor
open Go.Lad
abbrev lx {α:Type}:α->Prop:=fun _=>True
theorem MZ (x:Int):cmp_isNaN_int x=some false:=by unfold cmp_isNaN_int; rw[fE]; simp
theorem zB (x y:Int):Has (cmp_Compare_int x y) lx:=by
 unfold cmp_Compare_int;rw[MZ,MZ];show Has (bif ltZ x y then some (-1) else bif ltZ y x then some 1 else some 0) lx;exact ah (fun _=>ae trivial) fun _=>ah (fun _=>ae trivial) fun _=>ae trivial
theorem N8 (l:List Int) (h:l.length<=1000):Has (gr l) lx:=by
 unfold gr;refine kk l (by omega) (fun i x hx=>?_) ?_
 ·obtain⟨hi,_⟩:=List.getElem?_eq_some_iff.1 hx;unfold gr.b1;refine ah (fun _=>?_) fun h2=>absurd (dx h2) (by omega);refine aa (bO (by omega) (by omega)) fun a _=>ah (fun _=>ae trivial) fun _=>aa (bD (by omega) (by omega)) fun j hj=>ae ?_;show j=_;omega
 ·unfold gr.b1;exact ah (fun h2=>absurd (eT h2) (by omega)) fun _=>ae trivial
theorem rY (a b:cZ):Has (cw a b) lx:=by
 unfold cw;exact aa (zB _ _) fun i _=>aa (zB _ _) fun j _=>aa (zB _ _) fun k _=>aa (N8 _ (by simp)) fun _ _=>ae trivial
theorem yo (r:bB):Has (fg r) lx:=aa (rY _ _) fun _ _=>ae trivial
theorem Gy (r s:bB):Has (gS r s) lx:=aa (rY _ _) fun _ _=>ae trivial
theorem zC (l:List bB) (h:l.length<=1000):Has (aV l) (fun i=>i = -1\/0<=i/\i<l.length):=by
 unfold aV;refine kk l (by omega) (fun i x hx=>?_) ?_
 ·obtain⟨hi,_⟩:=List.getElem?_eq_some_iff.1 hx;unfold aV.b1;refine ah (fun _=>?_) fun h2=>absurd (dx h2) (by omega);refine aa (bO (by omega) (by omega)) fun a _=>aa (bO (by omega) (by omega)) fun b _=>aa (yo b) fun c _=>ah (fun _=>ae (.inr ⟨by omega,by omega⟩)) fun _=>aa (bD (by omega) (by omega)) fun j hj=>ae ?_;show j=_;omega
 ·unfold aV.b1;exact ah (fun h2=>absurd (eT h2) (by omega)) fun _=>ae (.inl rfl)
theorem zD (l:List bB) (h:l.length<=1000):Has (aT l) (fun m=>m.length<=l.length):=by
 unfold aT;refine aa (zC l h) fun r hr=>ah (fun _=>ae (Nat.le_refl _)) fun h1=>?_;have h1:=kD h1;have hr:0<=r/\r<l.length:=hr.resolve_left h1;refine aa (bD (by omega) (by omega)) fun v hv=>?_;refine fK (fun x=>0<=x.1/\x.1<x.2.1/\x.2.1<=x.2.2.length/\x.2.2.length=l.length) (fun x=>(x.2.2.length:Nat)-x.2.1.toNat) ⟨hr.1,by show r<v; omega,by show v<=l.length; omega,rfl⟩ (by show l.length-v.toNat<=_; omega) (fun x hx _=>?_);obtain⟨i,j,s⟩:=x;obtain⟨x1,x2,x3,x4⟩:=hx;simp only at x1 x2 x3 x4;show Has (aT.b1 i j s) _;unfold aT.b1;refine ah (fun h2=>?_) fun h2=>?_
 ·have h2:=eT h2;refine aa (bO (by omega) h2) fun _ _=>aa (bO (by omega) h2) fun b _=>aa (yo b) fun c _=>ah (fun _=>?_) fun _=>?_
  ·refine aa (bO x1 (by omega)) fun _ _=>aa (bO x1 (by omega)) fun _ _=>aa (bD (by omega) (by omega)) fun p hp=>aa (bD (by omega) (by omega)) fun q hq=>ae ?_;subst hp hq;refine⟨⟨by show 0<=i+1; omega,by show i+1<j+1; omega,?_,?_⟩,?_⟩
   ·show j+1<=((s.set i.toNat b).length:Int); rw[List.length_set]; omega
   ·show (s.set i.toNat b).length=_; rw[List.length_set]; exact x4
   ·show (s.set i.toNat b).length-(j+1).toNat<s.length-j.toNat; rw[List.length_set]; omega
  ·refine aa (bD (by omega) (by omega)) fun q hq=>ae ?_;subst hq;exact⟨⟨x1,by show i<j+1; omega,by show j+1<=(s.length:Int); omega,x4⟩,by show s.length-(j+1).toNat<s.length-j.toNat; omega⟩
 ·have h2:=dx h2;refine LH (Q:=fun m:List bB=>m.length<=l.length) ?_ fun a ha=>ha;refine aa (zA x1 (by omega) (Int.le_refl _)) fun _ _=>aa (Jf (by omega)) fun _ _=>aa (zA (Int.le_refl 0) x1 ?_) fun m hm=>ae ?_
  ·unfold KX;simp only[List.length_append,List.length_take,List.length_drop,List.length_replicate];omega
  ·have:=hm.2; omega
theorem LJ (a b:Int) (l:List bB) (h0:0<=a) (h1:b<=l.length) (h:l.length<=1000) (h2:a<=1000):Has (ay a b l) (fun m=>m.length=l.length):=by
 unfold ay;refine aa (bD (by omega) (by omega)) fun v hv=>?_;refine fK (fun x=>a<x.1/\x.2.length=l.length) (fun x=>(2000-x.1).toNat) ⟨by show a<v; omega,rfl⟩ (by show (2000-v).toNat<=_; omega) (fun x hx _=>?_);obtain⟨i,d⟩:=x;obtain⟨x1,x2⟩:=hx;simp only at x1 x2;show Has (ay.b2 a b i d) _;unfold ay.b2;refine ah (fun h3=>?_) fun _=>ae x2;have h3:=eT h3;refine (fK (R:=fun r:(Int×List bB)⊕List bB=>match r with | .inl y=>y.1=i+1/\y.2.length=l.length | .inr m=>m.length=l.length) (fun y=>a<=y.1/\y.1<(l.length:Int)/\y.2.length=l.length) (fun y=>y.1.toNat) ⟨by show a<=i; omega,by show i<(l.length:Int); omega,x2⟩ (by show i.toNat<=_; omega) (fun y hy _=>?_)).mono fun r hr=>?_
 ·obtain⟨j,e⟩:=y;obtain⟨y1,y2,y3⟩:=hy;simp only at y1 y2 y3;show Has (ay.b1 a i j e) _;unfold ay.b1;refine aa (Q:=fun c:Bool=>c=true->a<j) ?_ fun c hc=>?_
  ·refine ah (fun h4=>?_) fun _=>ae (fun h=>by cases h);have h4:=eT h4;refine aa (bO (by omega) (by omega)) fun _ _=>aa (bO (by omega) (by omega)) fun _ _=>aa (bD (by omega) (by omega)) fun q hq=>?_;subst hq;exact aa (bO (by omega) (by omega)) fun _ _=>aa (bO (by omega) (by omega)) fun _ _=>aa (Gy _ _) fun _ _=>ae fun _=>h4
  ·unfold ay.j1;refine ah (fun h5=>?_) fun _=>?_
   ·have h4:=hc h5;refine aa (bD (by omega) (by omega)) fun q hq=>aa (bD (by omega) (by omega)) fun q2 hq2=>?_;subst hq hq2;refine aa (bO (by omega) (by omega)) fun _ _=>aa (bO (by omega) (by omega)) fun _ _=>aa (bO (by omega) (by omega)) fun _ _=>aa (bO (by omega) (by omega)) fun _ _=>aa (bO (by omega) (by omega)) fun _ _=>aa (bO (by omega) (by omega)) fun _ _=>aa (bO (by omega) (by rw[List.length_set]; omega)) fun _ _=>aa (bO (by omega) (by rw[List.length_set]; omega)) fun _ _=>aa (bD (by omega) (by omega)) fun q3 hq3=>ae ?_;subst hq3;refine⟨⟨by show a<=j-1; omega,by show j-1<(l.length:Int); omega,?_⟩,by show (j-1).toNat<j.toNat; omega⟩;show (List.set _ _ _).length=_;rw[List.length_set,List.length_set]; exact y3
   ·have hz:Has ((z64 (i+1)).bind fun v27=>some (.inl (v27,e):(Int×List bB)⊕List bB)) (fun y=>∃ z,y = .inl z/\z.1=i+1/\z.2.length=l.length):=aa (bD (by omega) (by omega)) fun q hq=>ae ⟨_,rfl,hq,y3⟩;obtain⟨_,e1,z,rfl,e2⟩:=hz;exact⟨.inr (.inl z),by rw[e1]; rfl,e2⟩
 ·cases r with
  | inl y=>exact⟨⟨by have:=hr.1; omega,hr.2⟩,by have:=hr.1; show (2000-y.1).toNat<(2000-i).toNat; have:=hr.1; omega⟩
  | inr m=>exact hr
end Go.Proofs.YtkpefpjpadahiaaGreatDoor
namespace Go.Proofs.YtkpefpjpadahiaaGreatDoor
open Go.Lad
abbrev Mx:Nat:=1000000
def isL (c:UInt8):Bool:=decide (97<=c.toNat/\c.toNat<=122)
def isD (c:UInt8):Bool:=decide (48<=c.toNat/\c.toNat<=57)
def isA (c:UInt8):Bool:=isL c || isD c
def tP (p:UInt8->Bool):Bs->Bool
 | []=>false
 | c::_=>p c
theorem LL {s:Bs} {k:Nat} (h:k<s.length):bAt s (k:Int)=some (s[k].toNat:Int):=by unfold bAt; rw[jg h]; rfl
theorem Jg {c:UInt8} {r:Bs}:bAt (c::r) 0=some (c.toNat:Int):=LL (s:=c::r) (k:=0) (by simp)
theorem E3 {α β:Type} {body:Int->Option (Int⊕β)} (l:List α) (c:Nat->α->Bool) (b:Nat->α->β) (e:β)
  (h:∀ k (hk:k<l.length),body (k:Int)=some (if c k l[k]=true then .inr (b k l[k]) else .inl ((k+1:Nat):Int)))
  (hd:body (l.length:Int)=some (.inr e)) (hn:l.length<1606938044258990275541962092341162602522202993782792835301376:=by omega) :
  bS body 0=some ((scan (fun k x=>if c k x=true then some (b k x) else none) 0 l).getD e) :=
 Gx l _ e (fun k hk=>by rw[h k hk]; by_cases hc:c k l[k]=true <;> simp [hc]) hd hn
def cH:Bs->List Bs
 | []=>[[]]
 | c::r=>if c=45 then []::cH r else (c::(cH r).headD [])::(cH r).tail
theorem oH (s:Bs):cH s≠[]:=by
 cases s with
 | nil=>simp [cH]
 | cons c r=>unfold cH; split <;> simp
theorem oR:∀ s:Bs,Lib.split s [45]=cH s
 | []=>rfl
 | c::r=>by
  have ih:=oR r;unfold Lib.split at *
  by_cases h:c=45
  ·subst h;have hix:Lib.index ((45:UInt8)::r) [45]=0:=by rw[Lib.index]; simp [List.isPrefixOf]
   rw[Lib.count_cons_eq,Nat.add_comm,Lib.splitK,hix];show (([]:Bs)::Lib.splitK [45] 0 (Lib.count r [45]) r)=_;rw[ih]; simp [cH]
  ·have hp:([45]:List UInt8).isPrefixOf (c::r)=false:=by simp [List.isPrefixOf,Ne.symm h]
   have hix:Lib.index (c::r) [45]=if Lib.index r [45] == -1 then -1 else Lib.index r [45]+1:=by rw[Lib.index,hp]; simp
   rw[Lib.count_cons_ne c 45 r h];have e:cH (c::r)=(c::(cH r).headD [])::(cH r).tail:=by rw[cH,if_neg h]
   rw[e,← ih];cases hn:Lib.count r [45] with
   | zero=>rfl
   | succ k =>
    have hm:¬ Lib.index r [45] = -1:=fun e=>by rw[Lib.count_miss e] at hn; cases hn
    have hge:=Lib.index_ge r [45];obtain⟨j,hj⟩:∃ j:Nat,Lib.index r [45]=j:=⟨(Lib.index r [45]).toNat,by omega⟩;have e1:(Lib.index r [45] == -1)=false:=beq_eq_false_iff_ne.2 hm;rw[Lib.splitK,Lib.splitK,hix,e1];simp only[Bool.false_eq_true,if_false,hj];have e2:(((j:Int)+1) == -1)=false:=beq_eq_false_iff_ne.2 (by omega);rw[e2];simp only[Bool.false_eq_true,if_false];have e3:((j:Int)+1).toNat=j+1:=by omega
    have e4:((j:Int)).toNat=j:=by omega
    rw[e3,e4];simp
def chk:Bool->Bs->Bool
 | d,[]=>!d
 | d,c::r=>if c=45 then !d && chk true r else isA c && chk false r
def okP (p:Bs):Bool:=decide (p≠[]) && p.all isA
theorem wI:∀ (s:Bs),(∀ d,chk d s=((!d || decide ((cH s).headD []≠[])) && ((cH s).headD []).all isA && (cH s).tail.all okP))
 | [],d=>by cases d <;> simp [chk,cH]
 | c::r,d=>by
  have ih:=wI r;unfold chk cH;by_cases h:c=45
  ·rw[if_pos h,if_pos h,ih];have hne:=oH r;cases hp:cH r with
   | nil=>exact absurd hp hne
   | cons p ps=>cases d <;> simp [okP,Bool.and_assoc]
  ·rw[if_neg h,if_neg h,ih];simp [Bool.and_assoc]
def kf (s:Bs):Bool:=decide (s.length<=20) && (tP isL s && chk false s)
theorem PR (c:UInt8):isA c=false↔((c.toNat<97\/122<c.toNat)/\(c.toNat<48\/57<c.toNat)):=by
 unfold isA isL isD;rw[Bool.or_eq_false_iff,decide_eq_false_iff_not,decide_eq_false_iff_not];omega
theorem Jh (v3:Int) (p:Bs) (hv:0<=v3/\v3<=1000000000000) (hp:p.length<=Mx) :
  bS (fun x=>bj.b1 v3 p x) 0=some (if p.all isA=true then .inl (v3+1) else .inr false):=by
 unfold Mx at hp;have hl:(bJ p).length=p.length:=by unfold bJ; simp
 have:=E3 (body:=fun x=>bj.b1 v3 p x) p (fun _ c=>!isA c) (fun _ _=>Sum.inr false) (.inl (v3+1)) (fun k hk=>?_) ?_
 ·rw[this,BJ (fun c=>!isA c)];congr 1;by_cases h:p.all isA=true
  ·have:p.any (fun c=>!isA c)=false:=by rw[List.any_eq_false]; intro x hx; rw[List.all_eq_true] at h; simp [h x hx]
   rw[this,if_pos h]; rfl
  ·have:p.any (fun c=>!isA c)=true:=by
    rw[Bool.not_eq_true,List.all_eq_false] at h;obtain⟨x,hx,h⟩:=h;exact List.any_eq_true.2 ⟨x,hx,by simp at h; simp [h]⟩
   rw[this,if_neg h,if_pos rfl]; rfl
 ·have e:idx (bJ p) (k:Int)=some ((p[k].toNat:Nat):Int):=by
   rw[jg (by rw[hl]; exact hk)]; unfold bJ; simp
  have hz:=mO (show k+1<=9223372036854775807 by omega);have key:∀ b:Bool,b = !isA p[k]->bj.j1 (k:Int) b=some (if (!isA p[k])=true then .inr (.inr false) else .inl ((k+1:Nat):Int)):=by
   intro b hb;unfold bj.j1;cases hA:isA p[k] with
   | true=>rw[hA] at hb; subst hb; rw[Bool.not_true,cond_false,hz]; rfl
   | false=>rw[hA] at hb; subst hb; rfl
  have hA:=PR p[k];have hcase:isA p[k]=true\/isA p[k]=false:=by cases isA p[k] <;> simp
  dsimp only[bj.b1];rw[hl,pY,if_pos (by omega),e,aA];simp only[dP,zy];by_cases h1:p[k].toNat<97
  ·rw[if_pos (by omega)];by_cases h2:p[k].toNat<48
   ·rw[if_pos (by omega),aA]; exact key true (by simp [hA.2 (by omega)])
   ·rw[if_neg (by omega),aA];by_cases h3:57<p[k].toNat
    ·rw[decide_eq_true (by omega)]; exact key true (by simp [hA.2 (by omega)])
    ·rcases hcase with h | h
     ·rw[decide_eq_false (by omega)]; exact key false (by simp [h])
     ·have:=hA.1 h; omega
  ·rw[if_neg (by omega)];by_cases h4:122<p[k].toNat
   ·rw[if_pos (by omega),if_neg (by omega),aA];rw[decide_eq_true (by omega)]; exact key true (by simp [hA.2 (by omega)])
   ·rw[if_neg (by omega),aA];rcases hcase with h | h
    ·exact key false (by simp [h])
    ·have:=hA.1 h; omega
 ·show bj.b1 v3 p (p.length:Int)=_;unfold bj.b1;rw[hl,pY,if_neg (by omega),Jd (by omega),aA]; rfl
theorem Gz (c:UInt8):isL c=false↔(c.toNat<97\/122<c.toNat):=by
 unfold isL;rw[decide_eq_false_iff_not];omega
theorem BK (s:Bs):bj s=some (kf s):=by
 unfold bj kf;rw[pY];by_cases h20:s.length<=20
 ·rw[if_neg (by omega),decide_eq_true h20,Bool.true_and];have hsp:strings_Split s ([45]:Bs)=some (cH s):=by
   unfold strings_Split tf;rw[show Nat.ble s.length 1000000000=true by rw[Nat.ble_eq]; omega,oR]; rfl
  rw[hsp,aA];have hlen:∀ s:Bs,(cH s).length<=s.length+1/\∀ p∈cH s,p.length<=s.length:=by
   intro s;induction s with
   | nil=>simp [cH]
   | cons c r ih =>
    unfold cH;have hne:=oH r;cases hp:cH r with
    | nil=>exact absurd hp hne
    | cons p ps =>
     rw[hp] at ih;obtain⟨i1,i2⟩:=ih;simp only[List.length_cons] at *
     split
     ·exact⟨by simp; omega,fun q hq=>by
       rcases List.mem_cons.1 hq with rfl | hq
       ·simp
       ·have:=i2 q hq; omega⟩
     ·refine⟨by simp; omega,fun q hq=>?_⟩;simp only[List.headD_cons,List.tail_cons] at hq;rcases List.mem_cons.1 hq with rfl | hq
      ·have:=i2 p List.mem_cons_self; simp; omega
      ·have:=i2 q (List.mem_cons_of_mem _ hq); omega
  obtain⟨l1,l2⟩:=hlen s;have:=E3 (body:=fun x=>bj.b2 (cH s) x) (cH s) (fun k p=>decide (p=[]) || (decide (k=0) && !tP isL p) || !p.all isA) (fun _ _=>false) true (fun k hk=>?_) ?_
  ·rw[this];congr 1;have tail:∀ (l:List Bs) (k:Nat),(scan (fun k p=>if (decide (p=[]) || (decide (k=0) && !tP isL p) || !p.all isA)=true then some false else none) (k+1) l).getD true=l.all okP:=by
    intro l;induction l with
    | nil=>intro k; rfl
    | cons p ps ih =>
     intro k;unfold scan;rw[show (decide (k+1=0))=false from by simp,Bool.false_and,Bool.or_false,List.all_cons];rw[show okP p=(decide (p≠[]) && p.all isA) from rfl];by_cases hp:p=[]
     ·subst hp; rfl
     ·rw[decide_eq_false hp,Bool.false_or,decide_eq_true hp,Bool.true_and];cases p.all isA with
      | true=>simpa using ih (k+1)
      | false=>simp
   have hc:=wI s false;have hne:=oH s;cases hp:cH s with
   | nil=>exact absurd hp hne
   | cons p ps =>
    rw[hp] at hc;unfold scan;rw[hc];simp only[List.headD_cons,List.tail_cons,Bool.not_false,Bool.true_or,Bool.true_and,decide_true];have hhead:(decide (p=[]) || !tP isL p) = !tP isL s:=by
     cases s with
     | nil=>simp [cH] at hp; obtain⟨rfl,rfl⟩:=hp; rfl
     | cons c r =>
      unfold cH at hp;by_cases h:c=45
      ·rw[if_pos h] at hp;injection hp with h1 h2
       subst h1 h;rfl
      ·rw[if_neg h] at hp;injection hp with h1 h2
       subst h1;simp [tP]
    rw[hhead];cases tP isL s with
    | false=>rfl
    | true =>
     cases p.all isA with
     | true=>simpa using tail ps 0
     | false=>rfl
  ·have hz:=mO (show k+1<=9223372036854775807 by omega);have hk':k<=21:=by omega
   have hpl:=l2 (cH s)[k] (List.getElem_mem hk);have hin:=Jh (k:Int) (cH s)[k] (by omega) (by unfold Mx; omega);dsimp only[bj.b2];rw[pY,if_pos (by omega),jg hk,aA];simp only[zy,LD,pY];generalize (cH s)[k]=p at *
   have j2t:bj.j2 (k:Int) p true=some (.inr false):=rfl;have j2f:bj.j2 (k:Int) p false=some (if p.all isA=true then .inl ((k:Int)+1) else .inr false):=hin;cases p with
   | nil=>rw[if_pos rfl,aA,j2t]; rfl
   | cons c r =>
    rw[if_neg (show ¬ (c::r=([]:Bs)) by simp),Jg,aA,aA,dP];rw[decide_eq_false (show ¬ (c::r=([]:Bs)) by simp),Bool.false_or];have hL:=Gz c;have hcase:isL c=true\/isL c=false:=by cases isL c <;> simp
    rw[show tP isL (c::r)=isL c from rfl];by_cases h0:k=0
    ·rw[if_pos (by omega),decide_eq_true h0,Bool.true_and];have jt:isL c=false->Option.bind (some true) (fun x=>bj.j2 (k:Int) (c::r) x)=some (if (!isL c || !(c::r).all isA)=true then .inr false else .inl ((k+1:Nat):Int)):=by
      intro h; rw[h,aA,j2t]; rfl
     by_cases h1:c.toNat<97
     ·rw[if_pos (by omega)]; exact jt (hL.2 (by omega))
     ·rw[if_neg (by omega)];by_cases h2:122<c.toNat
      ·rw[decide_eq_true (by omega)]; exact jt (hL.2 (by omega))
      ·rw[decide_eq_false (by omega),aA,j2f];rcases hcase with h | h
       ·rw[h,Bool.not_true,Bool.false_or];cases (c::r).all isA <;> rfl
       ·have:=hL.1 h; omega
    ·rw[if_neg (by omega),decide_eq_false h0,Bool.false_and,Bool.false_or,aA,j2f];cases (c::r).all isA <;> rfl
  ·show bj.b2 (cH s) ((cH s).length:Int)=_;unfold bj.b2;rw[pY,if_neg (by omega)]
 ·rw[if_pos (by omega),decide_eq_false h20]; rfl
end Go.Proofs.YtkpefpjpadahiaaGreatDoor
namespace Go.Proofs.YtkpefpjpadahiaaGreatDoor
open Go.Lad
theorem BL (n:Nat) (h:n<=255):Has (bits_Len (IntKind.u64.wrap (n:Int))) lx:=by
 have h1:IntKind.u64.wrap (n:Int)=Int.ofNat n:=by
  unfold IntKind.wrap;simp [IntKind.min,IntKind.bits,IntKind.signed];omega
 rw[h1];unfold bits_Len rW;show Has (cond (Nat.ble n 255) _ none) lx;rw[show Nat.ble n 255=true by rw[Nat.ble_eq]; exact h];exact ae trivial
theorem Ji (l:List bB) (h:l.length<=12):Has (bU l) (fun m=>m.length=l.length):=by
 unfold bU;refine aa (BL _ (by omega)) fun b _=>aa (Q:=fun m:List bB=>m.length=l.length) ?_ fun m hm=>ae hm;unfold bw;refine fK (fun x=>x.1=0/\x.2.1=(l.length:Int)) (fun _=>0) ⟨rfl,rfl⟩ (by omega) (fun x hx _=>?_);obtain⟨a,b',lim,p,q⟩:=x;obtain⟨hx1,hx2⟩:=hx;simp only at hx1 hx2;subst hx1 hx2;show Has (bw.b1 l 0 (l.length:Int) lim p q) _;unfold bw.b1;refine aa (bD (by omega) (by omega)) fun v hv=>ah (fun _=>?_) fun h3=>absurd (yn h3) (by omega);exact aa (LJ 0 _ l (by omega) (by omega) (by omega) (by omega)) fun m hm=>ae hm
theorem zE (r:List bB) (h:r.length<=12):Has (bS (fun x=>dT.b1 r x.1 x.2) (0,[])) (fun m=>m.length<=r.length):=by
 refine fK (fun x=>0<=x.1/\x.1<=(r.length:Int)/\(x.2.length:Int)<=x.1) (fun x=>r.length-x.1.toNat) ⟨by show (0:Int)<=0; omega,by show (0:Int)<=_; omega,by show ((0:Nat):Int)<=0; omega⟩ (by show r.length-_<=_; omega) (fun x hx _=>?_);obtain⟨v,o⟩:=x;obtain⟨x1,x2,x3⟩:=hx;simp only at x1 x2 x3;show Has (dT.b1 r v o) _;unfold dT.b1;refine ah (fun h2=>?_) fun _=>ae (by omega);have h2:=eT h2;refine aa (bO x1 h2) fun _ _=>aa (bO x1 h2) fun w _=>aa (bD (by omega) (by omega)) fun k hk=>?_;subst hk;refine aa (Q:=fun c:Bool=>c=true->(0:Int)<=(o.length:Int)-1) ?_ fun c hc=>?_
 ·refine ah (fun h4=>?_) fun _=>ae (fun h=>by cases h);have h4:=j0 h4;exact aa (bO h4 (by omega)) fun _ _=>aa (bO h4 (by omega)) fun _ _=>aa (rY _ _) fun _ _=>ae fun _=>h4
 ·unfold dT.j1;refine ah (fun h5=>?_) fun _=>?_
  ·have h4:=hc h5;refine aa (bO h4 (by omega)) fun _ _=>aa (bO h4 (by omega)) fun _ _=>aa (rY _ _) fun _ _=>ah (fun _=>?_) fun _=>?_
   ·refine aa (bO h4 (by omega)) fun _ _=>aa (bO h4 (by omega)) fun _ _=>aa (bD (by omega) (by omega)) fun q hq=>ae ?_;subst hq;refine⟨⟨by show 0<=v+1; omega,by show v+1<=(r.length:Int); omega,?_⟩,by show r.length-(v+1).toNat<r.length-v.toNat; omega⟩;show ((List.set _ _ _).length:Int)<=v+1;rw[List.length_set]; omega
   ·refine aa (bD (by omega) (by omega)) fun q hq=>ae ?_;subst hq;exact⟨⟨by show 0<=v+1; omega,by show v+1<=(r.length:Int); omega,by show (o.length:Int)<=v+1; omega⟩,by show r.length-(v+1).toNat<r.length-v.toNat; omega⟩
  ·refine aa (mi (by show o.length+1<=1000000; omega)) fun m hm=>aa (bD (by omega) (by omega)) fun q hq=>ae ?_;subst hm hq;refine⟨⟨by show 0<=v+1; omega,by show v+1<=(r.length:Int); omega,?_⟩,by show r.length-(v+1).toNat<r.length-v.toNat; omega⟩;show ((o++[w]).length:Int)<=v+1;rw[List.length_append]; simp; omega
theorem GA (l:List bB) (h:l.length<=1000):Has (cm l) (· = l):=by
 unfold cm;refine⟨l,DE ?_ (fun e=>by rw[e]),rfl⟩;obtain⟨m,e,hm⟩:=mi (l:=([]:List bB)) (m:=l) (by simp; omega);rw[e,hm]; rfl
theorem Jj (l:List bB) (h:l.length<=12):Has (dT l) (fun m=>m.length<=12):=by
 unfold dT;refine aa (GA l (by omega)) fun a ha=>aa (zD a (by rw[ha]; omega)) fun b hb=>?_;subst ha;exact aa (Ji b (by omega)) fun c hc=>(zE c (by omega)).mono fun m hm=>by omega
theorem oJ (a b:List bB) (h:a.length<=1000):Has (aH a b) lx:=by
 unfold aH;refine ah (fun _=>ae trivial) fun h1=>?_;have h1:(a.length:Int)=b.length:=by
  rw[Bool.not_eq_false'] at h1;exact dW h1
 refine kk a (by omega) (fun i x hx=>?_) ?_
 ·obtain⟨hi,_⟩:=List.getElem?_eq_some_iff.1 hx;unfold aH.b1;refine ah (fun _=>?_) fun h2=>absurd (dx h2) (by omega);refine aa (bO (by omega) (by omega)) fun _ _=>aa (bO (by omega) (by omega)) fun _ _=>ah (fun _=>ae trivial) fun _=>aa (bD (by omega) (by omega)) fun j hj=>ae ?_;show j=_;omega
 ·unfold aH.b1;exact ah (fun h2=>absurd (eT h2) (by omega)) fun _=>ae trivial
abbrev small (v:cZ):Prop:=(0<=v.1/\v.1<=1048576)/\(0<=v.2.1/\v.2.1<=1048576)/\(0<=v.2.2/\v.2.2<=1048576)
theorem mP (v:cZ):Has (cA v) (fun b=>b=true->small v):=by
 unfold cA;refine ah (fun h=>ae fun h2=>?_) fun _=>ae (fun h=>by cases h);have h:=j0 h;have h2:=j0 h2;omega
theorem qa {α β:Type} {body:Int->Option (Int⊕β)} {R:β->Prop} (l:List α) (P:α->Prop) (hl:l.length<=1000) (h:∀ (i:Nat) x,l[i]?=some x->Has (body (i:Int)) fun r=>match r with | .inl y=>y=((i+1:Nat):Int)/\P x | .inr b=>R b)
  (he:(∀ x∈l,P x)->Has (body (l.length:Int)) fun r=>match r with | .inl _=>False | .inr b=>R b):Has (bS body 0) R:=by
 refine fK (fun x=>∃ i:Nat,x=(i:Int)/\i<=l.length/\∀ j (hj:j<l.length),j<i->P l[j]) (fun x=>l.length-x.toNat) ⟨0,rfl,Nat.zero_le _,fun j _ hj=>by omega⟩ (by show l.length-_<=_; omega) (fun x hx _=>?_);obtain⟨i,rfl,h2,h3⟩:=hx;rcases Nat.lt_or_ge i l.length with hi | hi
 ·refine (h i _ (List.getElem?_eq_getElem hi)).mono fun r hr=>?_;cases r with
  | inl y =>
   obtain⟨hy,hp⟩:=hr;subst hy;refine⟨⟨i+1,rfl,hi,fun j hj hji=>?_⟩,by show l.length-((i+1:Nat):Int).toNat<l.length-((i:Int)).toNat; omega⟩;rcases Nat.lt_or_ge j i with h4 | h4
   ·exact h3 j hj h4
   ·have:j=i:=by omega
    subst this;exact hp
  | inr b=>exact hr
 ·have:i=l.length:=by omega
  subst this;refine (he fun x hx=>?_).mono fun r hr=>?_
  ·obtain⟨j,hj,rfl⟩:=List.mem_iff_getElem.1 hx;exact h3 j hj hj
  ·cases r with
   | inl y=>exact hr.elim
   | inr b=>exact hr
theorem wJ (l:List bB) (h:l.length<=12):Has (dd l) (fun b=>b=true->∀ r∈l,small r.1/\small r.2):=by
 unfold dd;refine aa (Q:=fun x:Unit⊕Bool=>match x with | .inl _=>∀ r∈l,small r.1/\small r.2 | .inr b=>b=false) ?_ fun x hx=>?_
 ·refine qa l (fun r=>small r.1/\small r.2) (by omega) (fun i x hx=>?_) (fun hall=>?_)
  ·obtain⟨hi,hxe⟩:=List.getElem?_eq_some_iff.1 hx;unfold dd.b1;refine ah (fun _=>?_) fun h2=>absurd (dx h2) (by omega);rw[jg hi,hxe];show Has (((cA x.1).bind _).bind _) _;refine aa (Q:=fun b:Bool=>b=false->small x.1/\small x.2) ?_ fun c hc=>?_
   ·refine aa (mP _) fun p hp=>ah (fun _=>ae (fun h=>by cases h)) fun e1=>aa (mP _) fun q hq=>ae fun e2=>?_;exact⟨hp (by simpa using e1),hq (by simpa using e2)⟩
   ·unfold dd.j1;refine ah (fun _=>ae rfl) fun e=>aa (bD (by omega) (by omega)) fun j hj=>ae ⟨?_,hc e⟩;omega
  ·unfold dd.b1;exact ah (fun h2=>absurd (eT h2) (by omega)) fun _=>ae hall
 ·cases x with
  | inl u =>
   have hx:∀ r∈l,small r.1/\small r.2:=hx;show Has (dd.j2 l) _;unfold dd.j2;exact ah (fun _=>aa (Jj l h) fun m hm=>aa (oJ m l (by omega)) fun _ _=>ae fun _=>hx) fun _=>ae (fun h=>by cases h)
  | inr b =>
   have hb:b=false:=hx;subst hb;exact ae (fun h=>by cases h)
theorem DG {s:Bs} (h:kf s=true):s.length<=20:=by
 unfold kf at h;rw[Bool.and_eq_true] at h;exact of_decide_eq_true h.1
theorem rZ (l:List Bs) (h:l.length<=1000):Has (eL l) (fun b=>b=true->∀ x∈l,x.length<=20):=by
 unfold eL;refine qa l (fun x=>x.length<=20) (by omega) (fun i x hx=>?_) (fun hall=>?_)
 ·obtain⟨hi,_⟩:=List.getElem?_eq_some_iff.1 hx;unfold eL.b1;refine ah (fun _=>?_) fun h2=>absurd (dx h2) (by omega);refine aa (bO (by omega) (by omega)) fun a ha=>aa (Q:=fun b:Bool=>b=false->x.length<=20) (aa (iB (Q:=fun b=>b=kf a) (BK a) rfl) fun b hb=>ah (fun _=>ae (fun h=>by cases h)) fun e=>?_) fun c hc=>?_
  ·have hax:a=x:=by
    have h5:=ha.2;rw[Int.toNat_natCast,hx] at h5;exact (Option.some.inj h5).symm
   have hl:x.length<=20:=DG (by rw[← hax,← hb]; simpa using e);refine ah (fun h3=>?_) fun _=>ae fun _=>hl;have h3:=eT h3;exact aa (bD (by omega) (by omega)) fun q hq=>aa (bO (by omega) (by omega)) fun _ _=>ae fun _=>hl
  ·unfold eL.j1;refine ah (fun _=>ae (fun h=>by cases h)) fun e=>aa (bD (by omega) (by omega)) fun j hj=>ae ⟨?_,hc e⟩;show j=_;omega
 ·unfold eL.b1;exact ah (fun h2=>absurd (eT h2) (by omega)) fun _=>ae fun _=>hall
end Go.Proofs.YtkpefpjpadahiaaGreatDoor
namespace Go.Lad
open Go.Proofs.YtkpefpjpadahiaaGreatDoor
def aE.op:aE->Int
 | .mk o _ _=>o
def aE.nm:aE->Bs
 | .mk _ n _=>n
def aE.ar:aE->List aE
 | .mk _ _ l=>l
theorem aE.eta (f:aE):aE.mk f.op f.nm f.ar=f:=by cases f; rfl
mutual
def aE.sz:aE->Nat
 | .mk _ _ l=>aE.szs l+1
def aE.szs:List aE->Nat
 | []=>0
 | x::r=>x.sz+aE.szs r
end
theorem aE.E4 (e:aE):e.sz=aE.szs e.ar+1:=by cases e; rw[aE.sz]; rfl
theorem aE.N9 {l:List aE} {x:aE} (h:x∈l):x.sz<=aE.szs l:=by
 induction l with
 | nil=>cases h
 | cons y r ih =>
  rw[aE.szs];rcases List.mem_cons.1 h with rfl | h
  ·omega
  ·have:=ih h; omega
theorem aE.Jk (e:aE):1<=e.sz:=by rw[aE.E4]; omega
theorem aE.E5:∀ l:List aE,l.length<=aE.szs l
 | []=>Nat.zero_le _
 | x::r=>by have:=aE.E5 r; have:=x.Jk; rw[aE.szs,List.length_cons]; omega
theorem aE.M0 {e x:aE} (h:x∈e.ar):x.sz<e.sz:=by rw[aE.E4 e]; have:=aE.N9 h; omega
theorem aE.ind {p:aE->Prop} (h:∀ e:aE,(∀ x∈e.ar,p x)->p e) (e:aE):p e:=by
 have:∀ n,∀ e:aE,e.sz<=n->p e:=by
  intro n;induction n with
  | zero=>intro e he; have:=e.Jk; omega
  | succ n ih=>intro e he; exact h e fun x hx=>ih x (by have:=aE.M0 hx; omega)
 exact this _ e (Nat.le_refl _)
def unL (l:List aE):List dM:=List.map (α:=aE) (β:=dM) (Uun 2) l
def mkLt (l:List dM):List aE:=List.map (α:=dM) (β:=aE) (Umk 2) l
theorem fu1 (l:List aE):@List.map (UD 2) dM (Uun 2) l=unL l:=rfl
theorem fu2 (l:List aE):@List.map aE dM (Uun 2) l=unL l:=rfl
theorem fu3 (l:List aE):@List.map (UD 2) (iz 2).den (Uun 2) l=unL l:=rfl
theorem fu4 (l:List aE):@List.map aE (iz 2).den (Uun 2) l=unL l:=rfl
theorem tQ:∀ (l:List aE),mkLt (unL l)=l
 | []=>rfl
 | x::r=>congr (congrArg List.cons (Il 2 x)) (tQ r)
theorem fx1 (l:List aE):@List.map (iz 2).den aE (Umk 2) (@List.map (UD 2) (iz 2).den (Uun 2) l)=l:=tQ l
theorem fx2 (l:List aE):@List.map (iz 2).den (UD 2) (Umk 2) (@List.map (UD 2) (iz 2).den (Uun 2) l)=l:=tQ l
theorem fx3 (l:List aE):@List.map dM aE (Umk 2) (@List.map (UD 2) dM (Uun 2) l)=l:=tQ l
theorem O5 (f:aE):(Uun 2 f:dM)=(f.op,f.nm,f.ar):=by cases f; rfl
theorem mQ (l:List aE):(unL l).length=l.length:=List.length_map _
theorem Oa (l:List aE) {k:Nat} (h:k<l.length):(unL l)[k]'(by rw[mQ]; exact h)=(l[k].op,l[k].nm,l[k].ar) :=
 (List.getElem_map (α:=aE) (β:=dM) (Uun 2)).trans (O5 _)
theorem Jl {l:List aE} {k:Nat} (h:k<l.length):idx (unL l) (k:Int)=some (l[k].op,l[k].nm,l[k].ar):=by
 rw[jg (by rw[mQ]; exact h),Oa l h]
theorem Ob (l m:List aE):unL l++unL m=unL (l++m):=(List.map_append).symm
theorem Oc (e:aE):[(e.op,e.nm,e.ar)]=unL [e]:=by show _=[Uun 2 e]; rw[O5]; rfl
theorem Od {s:Bs} {k:Nat} (h:k<s.length):bAt s (k:Int)=some (s[k].toNat:Int):=by unfold bAt; rw[jg h]; rfl
def qz:Bs:=[97,98,99,100,101,102,103,104,105,106,107,108,109,110,111,112,113,114,115,116,117,118,119,120,121,122,48,49,50,51,52,53,54,55,56,57,45,46]
theorem LN:(List.range 256).all (fun n=>qz.contains (UInt8.ofNat n) == rU (UInt8.ofNat n))=true:=by kernel_rfl
theorem LO (c:UInt8):qz.contains c=rU c:=by
 have:=List.all_eq_true.1 LN c.toNat (List.mem_range.2 c.toNat_lt);rw[show UInt8.ofNat c.toNat=c by simp] at this
 simpa using this
theorem drop_nil {α:Type} (p:α->Bool) (l:List α):l.dropWhile p=[]↔l.all p=true:=by
 induction l with
 | nil=>simp
 | cons x r ih =>
  rw[List.dropWhile_cons,List.all_cons];cases h:p x with
  | true=>simp only[h,if_true,Bool.true_and]; exact ih
  | false=>simp [h]
theorem Jm (s:Bs):Lib.trimS s qz=[]↔s.all rU=true:=by
 unfold Lib.trimS Lib.trimLeftS Lib.trimRightS;rw[drop_nil];have e:(fun x=>qz.contains x)=rU:=funext LO;rw[e];constructor
 ·intro h;refine Classical.byContradiction fun hn=>?_;have h2:s.reverse.dropWhile rU≠[]:=fun he=>hn (by rw[drop_nil,List.all_reverse] at he; exact he);obtain⟨x,r,hx⟩:=List.exists_cons_of_ne_nil h2;have h3:rU x=false:=by
   have:=List.head_dropWhile_not rU (l:=s.reverse) h2
   simpa [hx] using this
  rw[hx,List.all_eq_true] at h;have:=h x (by simp);rw[h3] at this; cases this
 ·intro h;have:s.reverse.dropWhile rU=[]:=by rw[drop_nil,List.all_reverse]; exact h
  rw[this]; rfl
theorem LP (s:Bs):gA s qz=some (Lib.trimS s qz):=by
 unfold gA BD;rw[show (qz.all (fun c=>Nat.blt c.toNat 128) && Nat.ble qz.length 1000000)=true by kernel_rfl,cond_true]
theorem BM (s:Bs):dX s=some (mN s):=by
 unfold dX dX.j1 mN;match s with
 | []=>rfl
 | c::r =>
  rw[decide_eq_false (by simp),cond_false];have hb:bAt (c::r) 0=some (c.toNat:Int):=Od (s:=c::r) (k:=0) (by simp);simp only[hb,aA];show Option.bind _ (fun x=>bif x then some false else Option.bind (gA (c::r) qz) _)=_;rw[LP];simp only[aA];have ht:decide (Lib.trimS (c::r) qz=[])=(c::r).all rU:=by
   rw[Bool.eq_iff_iff,decide_eq_true_eq]; exact Jm _
  rw[ht];by_cases h20:(20:Int)<((c::r).length:Int)
  ·rw[dP,decide_eq_true h20,cond_true,aA,cond_true,show Nat.ble (c::r).length 20=false by rw[il]; simp; simp at h20; omega];rfl
  ·rw[dP,decide_eq_false h20,cond_false,show Nat.ble (c::r).length 20=true by rw[il]; simp at h20 ⊢; omega];cases h1:decide ((c::r)=[97,110,100]) with
   | true=>rfl
   | false =>
    cases h2:decide ((c::r)=[111,114]) with
    | true=>rfl
    | false =>
     simp only[cond_false,aA,Bool.not_false,Bool.true_and,dP];by_cases h3:(c.toNat:Int)<97
     ·rw[decide_eq_true h3,show Nat.ble 97 c.toNat=false by rw[il]; simp; omega]; rfl
     ·rw[decide_eq_false h3,show Nat.ble 97 c.toNat=true by rw[il]; simp; omega];by_cases h4:(122:Int)<(c.toNat:Int)
      ·rw[decide_eq_true h4,show Nat.ble c.toNat 122=false by rw[il]; simp; omega]; rfl
      ·rw[decide_eq_false h4,show Nat.ble c.toNat 122=true by rw[il]; simp; omega];simp only[cond_false,aA,Bool.true_and];cases h5:(c::r).all rU with
       | false=>rfl
       | true =>
        unfold eP wG;rw[h5]; rfl
mutual
def aE.lv:aE->Nat
 | .mk o _ l=>if o=0 then 1 else aE.lvs l
def aE.lvs:List aE->Nat
 | []=>0
 | x::r=>x.lv+aE.lvs r
end
mutual
def aE.dp:aE->Nat
 | .mk o _ l=>if o=0 then 0 else aE.dps l+1
def aE.dps:List aE->Nat
 | []=>0
 | x::r=>max x.dp (aE.dps r)
end
mutual
def aE.fm:aE->Bool
 | .mk o n l=>if o=0 then mN n && l.isEmpty else decide ((o=1\/o=2)/\n=[]/\2<=l.length) && aE.fms o l
def aE.fms:Int->List aE->Bool
 | _,[]=>true
 | o,x::r=>(x.fm && decide (x.op≠o)) && aE.fms o r
end
theorem aE.yp (e:aE):e.lv=if e.op=0 then 1 else aE.lvs e.ar:=by cases e; rw[aE.lv]; rfl
theorem aE.M1 (e:aE):e.dp=if e.op=0 then 0 else aE.dps e.ar+1:=by cases e; rw[aE.dp]; rfl
theorem aE.qA (e:aE):e.fm=if e.op=0 then mN e.nm && e.ar.isEmpty else decide ((e.op=1\/e.op=2)/\e.nm=[]/\2<=e.ar.length) && aE.fms e.op e.ar:=by cases e; rw[aE.fm]; rfl
theorem aE.qb (o:Int) (l:List aE):aE.fms o l=true↔∀ x∈l,x.fm=true/\x.op≠o:=by
 induction l with
 | nil=>simp [aE.fms]
 | cons x r ih=>rw[aE.fms,Bool.and_eq_true,Bool.and_eq_true,decide_eq_true_eq,ih,List.forall_mem_cons]
theorem aE.uB (l m:List aE):aE.lvs (l++m)=aE.lvs l+aE.lvs m:=by
 induction l with
 | nil=>simp [aE.lvs]
 | cons x r ih=>rw[List.cons_append,aE.lvs,aE.lvs,ih,Nat.add_assoc]
theorem aE.qc (x:aE):aE.lvs [x]=x.lv:=by rw[aE.lvs,aE.lvs,Nat.add_zero]
theorem aE.Oe {l:List aE} {x:aE} (h:x∈l):x.lv<=aE.lvs l:=by
 induction l with
 | nil=>cases h
 | cons y r ih =>
  rw[aE.lvs];rcases List.mem_cons.1 h with rfl | h
  ·omega
  ·have:=ih h; omega
theorem aE.Of {l:List aE} {x:aE} (h:x∈l):x.dp<=aE.dps l:=by
 induction l with
 | nil=>cases h
 | cons y r ih =>
  rw[aE.dps];rcases List.mem_cons.1 h with rfl | h
  ·omega
  ·have:=ih h; omega
theorem aE.Og {l:List aE} {d:Nat} (h:∀ x∈l,x.dp<=d):aE.dps l<=d:=by
 induction l with
 | nil=>rw[aE.dps]; omega
 | cons y r ih =>
  rw[aE.dps];have h1:=h y List.mem_cons_self;have h2:=ih fun x hx=>h x (List.mem_cons_of_mem _ hx);omega
theorem aE.Jn:∀ e:aE,e.fm=true->e.dp+1<=e.lv:=by
 refine aE.ind fun e ih h=>?_;rw[aE.qA] at h;rw[aE.M1,aE.yp];by_cases h0:e.op=0
 ·rw[if_pos h0,if_pos h0]; omega
 ·rw[if_neg h0] at h ⊢;rw[if_neg h0];rw[Bool.and_eq_true,decide_eq_true_eq,aE.qb] at h;obtain⟨⟨_,_,hl⟩,hx⟩:=h;have key:∀ l:List aE,(∀ x∈l,x.dp+1<=x.lv)->aE.dps l+l.length<=aE.lvs l:=by
   intro l;induction l with
   | nil=>intro _; simp [aE.dps,aE.lvs]
   | cons x r ih2 =>
    intro hall;have h1:=hall x List.mem_cons_self;have h2:=ih2 fun y hy=>hall y (List.mem_cons_of_mem _ hy);rw[aE.dps,aE.lvs,List.length_cons];omega
  have:=key e.ar fun x hxm=>ih x hxm (hx x hxm).1;omega
def aE.rt (e:aE):Bool:=e.fm && Nat.ble e.lv 16
theorem BN {n:Nat} (h:n<1606938044258990275541962092341162602522202993782792835301376):n<jH.n:=h
theorem xl {α:Type} {l:List α} {p:α->Prop} {k:Nat} (hk:k<l.length) (h:∀ x∈l.take k,p x) (hx:p l[k]):∀ x∈l.take (k+1),p x:=by
 intro x hxm;rw[List.take_succ_eq_append_getElem hk] at hxm;rcases List.mem_append.1 hxm with h1 | h1
 ·exact h x h1
 ·rw[List.mem_singleton.1 h1]; exact hx
theorem qB {l:List aE} {k:Nat} (hk:k<l.length):aE.lvs (l.take (k+1))=aE.lvs (l.take k)+l[k].lv:=by
 rw[List.take_succ_eq_append_getElem hk,aE.uB,aE.qc]
theorem BO (l:List aE) (k:Nat):aE.lvs (l.take k)<=aE.lvs l:=by
 conv=>rhs; rw[← List.take_append_drop k l]
 rw[aE.uB]; omega
theorem GB (o:Int) (nm:Bs) (len lev:Nat):(bif (!eqZ o 1) then (bif (!eqZ o 2) then some true else (bif (!decide (nm=([]:Bs))) then some true else (bif (ltZ (len:Int) 2) then some true else some (ltZ 16 (lev:Int))))) else (bif (!decide (nm=([]:Bs))) then some true else (bif (ltZ (len:Int) 2) then some true else some (ltZ 16 (lev:Int)))))=some (!decide (((o=1\/o=2)/\nm=[]/\2<=len)/\lev<=16)):=by
 simp only[dP,fE];by_cases h4:2<=len
 ·rw[decide_eq_false (show ¬ ((len:Int)<2) by omega)];by_cases h5:lev<=16
  ·rw[decide_eq_false (show ¬ ((16:Int)<lev) by omega)];by_cases h1:o=1 <;> by_cases h2:o=2 <;> by_cases h3:nm=[] <;> simp [h1,h2,h3,h4,h5]
  ·rw[decide_eq_true (show ((16:Int)<lev) by omega)];by_cases h1:o=1 <;> by_cases h2:o=2 <;> by_cases h3:nm=[] <;> simp [h1,h2,h3,h4,h5]
 ·rw[decide_eq_true (show ((len:Int)<2) by omega)];by_cases h1:o=1 <;> by_cases h2:o=2 <;> by_cases h3:nm=[] <;> simp [h1,h2,h3,h4]
def SzQ (e:aE) (lev:Nat) (r:Int):Prop:=0<=r/\r<=17+16 * (18-(lev:Int))/\(r<=16↔e.fm=true/\e.lv<=16/\e.dp+lev<=17)/\(r<=16->r=e.lv)
theorem BP:∀ (n lev:Nat) (e:aE),lev<=17->17-lev<n->e.sz<=1000000000->∃ r,bn.rec n e.op e.nm (unL e.ar) (lev:Int)=some r/\SzQ e lev r
 | 0,_,_,_,h,_=>absurd h (by omega)
 | n+1,lev,e,hl,hn,hz=>by
  show ∃ r,bn.body (bn.rec n) e.op e.nm (unL e.ar) (lev:Int)=some r/\_;unfold bn.body bn.j2 bn.j1;unfold SzQ;rw[aE.qA,aE.yp,aE.M1];by_cases h0:e.op=0
  ·rw[fE,decide_eq_true h0,cond_true,BM,if_pos h0,if_pos h0,if_pos h0];simp only[aA];cases hnm:mN e.nm with
   | false=>exact⟨17,rfl,by omega,by omega,by simp,by simp⟩
   | true =>
    rw[Bool.not_true,cond_false,mQ,dP];simp only[aA];by_cases ha:e.ar=[]
    ·rw[ha];exact⟨1,rfl,by omega,by omega,by simp; omega,by simp⟩
    ·have:0<e.ar.length:=List.length_pos_iff.2 ha;rw[decide_eq_true (by omega)];exact⟨17,rfl,by omega,by omega,by simp [ha],by simp⟩
  ·rw[fE,decide_eq_false h0,cond_false,if_neg h0,if_neg h0,if_neg h0,mQ];rw[GB,aA];by_cases hok:((e.op=1\/e.op=2)/\e.nm=[]/\2<=e.ar.length)/\lev<=16
   rotate_left
   ·rw[decide_eq_false hok];refine⟨17,rfl,by omega,by omega,?_,by simp⟩;constructor
    ·intro h; omega
    ·rintro⟨h1,_,h3⟩;rw[Bool.and_eq_true,decide_eq_true_eq] at h1;exact absurd ⟨h1.1,by omega⟩ hok
   ·rw[decide_eq_true hok,Bool.not_true,cond_false];obtain⟨hk,hl16⟩:=hok;rw[decide_eq_true hk,Bool.true_and];have hlen:e.ar.length<=1000000000:=by have:=aE.E5 e.ar; rw[aE.E4] at hz; omega
    exact pZ (body:=fun x=>bn.b1 (bn.rec n) e.op (unL e.ar) (lev:Int) x.1 x.2)
     (fun k x=>∃ nn:Nat,x=((nn:Int),(k:Int))/\nn<=16/\nn=aE.lvs (e.ar.take k)/\∀ x∈e.ar.take k,(x.fm=true/\x.op≠e.op)/\x.dp+(lev+1)<=17)
     (Q:=fun r=>0<=r/\r<=17+16 * (18-(lev:Int))/\(r<=16↔aE.fms e.op e.ar=true/\aE.lvs e.ar<=16/\aE.dps e.ar+1+lev<=17)/\(r<=16->r=(aE.lvs e.ar:Int)))
     e.ar.length (x:=(0,0)) ⟨0,rfl,by omega,by simp [aE.lvs],by simp⟩ (fun k hk2 x hx=>by
      obtain⟨nn,rfl,h16,hnn,hall⟩:=hx;have hbad:¬ ((e.ar[k].fm=true/\e.ar[k].op≠e.op)/\e.ar[k].dp+(lev+1)<=17) -> ¬ (aE.fms e.op e.ar=true/\aE.lvs e.ar<=16/\aE.dps e.ar+1+lev<=17):=fun h1 h2=>by
       have hm:=List.getElem_mem hk2;have:=aE.Of hm;exact h1 ⟨(aE.qb _ _).1 h2.1 _ hm,by omega⟩
      unfold bn.b1;dsimp only;rw[mQ,dP,decide_eq_true (by omega),cond_true,Jl hk2];simp only[aA,fE,fu1,fu2,fu3,fu4];by_cases hop:e.ar[k].op=e.op
      ·rw[decide_eq_true hop,cond_true];exact .inr ⟨17,rfl,by omega,by omega,⟨fun h=>absurd h (by omega),fun h=>absurd h (hbad fun h2=>h2.1.2 hop)⟩,fun h=>absurd h (by omega)⟩
      ·rw[decide_eq_false hop,cond_false,mO (by omega),aA];have hsz:e.ar[k].sz<=1000000000:=by have:=aE.M0 (List.getElem_mem hk2); omega
       obtain⟨r,hr,q1,q2,q3,q4⟩:=BP n (lev+1) e.ar[k] (by omega) (by omega) hsz;rw[hr,aA,Jd (by omega),aA,dP];by_cases hbig:16<(nn:Int)+r
       ·rw[decide_eq_true hbig,cond_true];refine .inr ⟨_,rfl,by omega,by omega,⟨fun h=>absurd h (by omega),fun h=>?_⟩,fun h=>absurd h (by omega)⟩;have hm:=List.getElem_mem hk2;by_cases hr16:r<=16
        ·have:=q4 hr16;have h1:=qB hk2;have h2:=BO e.ar (k+1);omega
        ·refine absurd h (hbad fun h2=>hr16 (q3.2 ⟨h2.1.1,?_,by omega⟩));have:=aE.Oe hm;omega
       ·rw[decide_eq_false hbig,cond_false,mO (by omega),aA];have hr16:r<=16:=by omega
        have hre:=q4 hr16;obtain⟨a1,a2,a3⟩:=q3.1 hr16;refine .inl ⟨_,rfl,nn+e.ar[k].lv,by rw[hre]; rfl,by omega,by rw[qB hk2,hnn],xl hk2 hall ⟨⟨a1,hop⟩,by omega⟩⟩) (fun x hx=>by
      obtain⟨nn,rfl,h16,hnn,hall⟩:=hx;unfold bn.b1;dsimp only;rw[mQ,dP,decide_eq_false (by omega),cond_false];rw[List.take_length] at hnn hall;refine⟨_,rfl,by omega,by omega,⟨fun _=>⟨(aE.qb _ _).2 fun x hx=>(hall x hx).1,by omega,?_⟩,fun _=>by omega⟩,fun _=>by omega⟩;have:=aE.Og (l:=e.ar) (d:=17-(lev+1)) fun x hx=>by have:=(hall x hx).2; omega
      omega) (by omega)
theorem Jo (e:aE) (hz:e.sz<=1000000000):gE e.op e.nm (unL e.ar)=some e.rt:=by
 unfold gE bn;obtain⟨r,hr,q1,q2,q3,q4⟩:=BP jH.n 0 e (by omega) (BN (by omega)) hz;rw[show ((0:Nat):Int)=0 from rfl] at hr;rw[hr,aA,iv];congr 1;rw[Bool.eq_iff_iff,decide_eq_true_eq,q3];unfold aE.rt;rw[Bool.and_eq_true,il,decide_eq_true_eq];constructor
 ·rintro⟨h1,h2,_⟩; exact⟨h1,h2⟩
 ·rintro⟨h1,h2⟩;have:=aE.Jn e h1;exact⟨h1,h2,by omega⟩
end Go.Lad
namespace Go.Proofs.YtkpefpjpadahiaaGreatDoor
open Go.Lad
theorem O6 {e x:aE} (h:e.fm=true) (hx:x∈e.ar):x.fm=true/\x.op≠e.op:=by
 rw[aE.qA] at h;by_cases h0:e.op=0
 ·rw[if_pos h0,Bool.and_eq_true,List.isEmpty_iff] at h;rw[h.2] at hx; cases hx
 ·rw[if_neg h0,Bool.and_eq_true] at h;exact (aE.qb _ _).1 h.2 x hx
theorem Oh {e:aE} (h:e.fm=true):1<=e.lv:=by have:=aE.Jn e h; omega
theorem E6 {l:List aE} (h:∀ x∈l,x.fm=true):l.length<=aE.lvs l:=by
 induction l with
 | nil=>exact Nat.zero_le _
 | cons x r ih =>
  have:=Oh (h x (by simp));have:=ih fun y hy=>h y (by simp [hy]);rw[aE.lvs,List.length_cons]; omega
def lt (a:aE):dM:=(a.op,a.nm,a.ar)
end Go.Proofs.YtkpefpjpadahiaaGreatDoor
namespace Go.Lad
open Go.Proofs.YtkpefpjpadahiaaGreatDoor
theorem Jp {e:aE} (h:e.fm=true) (h0:¬ e.op=0):2<=e.ar.length/\e.nm=[]:=by
 rw[aE.qA,if_neg h0,Bool.and_eq_true,decide_eq_true_eq] at h;exact⟨h.1.2.2,h.1.2.1⟩
abbrev Par:=List Bs->Option (aE×List Bs)
abbrev opW:Bs:=[40]
abbrev clW:Bs:=[41]
abbrev th:Bs:=[97,110,100]
abbrev orW:Bs:=[111,114]
def sev (P:Par) (s:Bs):Nat->List Bs->Option (List aE×List Bs)
 | 0,_=>none
 | k+1,ts=>match P ts with
  | none=>none
  | some (e,r)=>match r with
   | []=>some ([e],[])
   | t::q=>if t=s then (sev P s k q).map (fun x=>(e::x.1,x.2)) else some ([e],t::q)
def fl (o:Int) (e:aE):List aE:=if e.op=o then e.ar else [e]
def fls (o:Int) (l:List aE):List aE:=l.flatMap (fl o)
def jn (o:Int) (l:List aE):aE:=match l with
 | [e]=>e
 | _=>.mk o [] (fls o l)
def lW (G:Par):Par:=fun ts=>match ts with
 | []=>none
 | t::r=>if t=opW then (match G r with
   | none=>none
   | some (e,q)=>match q with
    | []=>none
    | u::q'=>if u=clW then some (e,q') else none)
  else if mN t=true then some (.mk 0 t [],r) else none
def pC (P:Par) (o:Int) (s:Bs):Par:=fun ts=>(sev P s (ts.length+1) ts).map fun x=>(jn o x.1,x.2)
def sa:Nat->Par
 | 0=>fun _=>none
 | n+1=>pC (pC (lW (sa n)) 1 th) 2 orW
def qC (P:Par):Prop := ∀ ts e r,P ts=some (e,r)->r.length+e.lv<=ts.length/\e.fm=true
theorem Oi {e:aE} (h:e.fm=true):1<=e.lv:=by have:=aE.Jn e h; omega
theorem pD (o:Int) (e:aE) (l:List aE):fls o (e::l)=fl o e++fls o l:=by unfold fls; rw[List.flatMap_cons]
theorem M3 {o:Int} (ho:o≠0) (e:aE):aE.lvs (fl o e)=e.lv:=by
 unfold fl;split
 ·rename_i h; rw[aE.yp,if_neg (by rw[h]; exact ho)]
 ·exact aE.qc e
theorem DH {o:Int} (ho:o≠0):∀ l:List aE,aE.lvs (fls o l)=aE.lvs l
 | []=>rfl
 | e::l=>by rw[pD,aE.uB,M3 ho,DH ho l,aE.lvs]
theorem LQ {e x:aE} (h:e.fm=true) (hx:x∈e.ar):x.fm=true/\x.op≠e.op:=by
 by_cases h0:e.op=0
 ·rw[aE.qA,if_pos h0,Bool.and_eq_true] at h;rw[List.isEmpty_iff.1 h.2] at hx; cases hx
 ·rw[aE.qA,if_neg h0,Bool.and_eq_true] at h;exact (aE.qb _ _).1 h.2 x hx
theorem Jq {o:Int} {e x:aE} (h:e.fm=true) (hx:x∈fl o e):x.fm=true/\x.op≠o:=by
 unfold fl at hx;split at hx
 ·rename_i ho;rw[← ho]; exact LQ h hx
 ·rename_i ho;rw[List.mem_singleton.1 hx]; exact⟨h,ho⟩
theorem zF {o:Int} (ho:o≠0) {e:aE} (h:e.fm=true):1<=(fl o e).length:=by
 unfold fl;split
 ·rename_i h1;rw[aE.qA,if_neg (by rw[h1]; exact ho),Bool.and_eq_true,decide_eq_true_eq] at h;have:=h.1.2.2; omega
 ·simp
theorem O7 {o:Int} {l:List aE} (h:o≠0):(aE.mk o [] l).lv=aE.lvs l:=by rw[aE.yp]; exact if_neg h
theorem O8 {o:Int} {l:List aE} (h:o≠0):(aE.mk o [] l).fm=(decide ((o=1\/o=2)/\([]:Bs)=[]/\2<=l.length) && aE.fms o l):=by rw[aE.qA]; exact if_neg h
theorem LR (t:Bs):(aE.mk 0 t []).lv=1:=by rw[aE.yp]; exact if_pos rfl
theorem LU (t:Bs):(aE.mk 0 t []).fm=mN t:=by rw[aE.qA]; exact (if_pos rfl).trans (Bool.and_true _)
theorem LV {o:Int} (ho:o=1\/o=2) {l:List aE} (hl:l≠[]) (hf:∀ e∈l,e.fm=true):(jn o l).fm=true/\(jn o l).lv=aE.lvs l:=by
 have ho0:o≠0:=by omega
 match l,hl with
 | [e],_=>exact⟨hf e (by simp),(aE.qc e).symm⟩
 | a::b::r,_ =>
  show (aE.mk o [] (fls o (a::b::r))).fm=true/\(aE.mk o [] (fls o (a::b::r))).lv=_;constructor
  ·rw[O8 ho0,Bool.and_eq_true,decide_eq_true_eq];refine⟨⟨ho,rfl,?_⟩,(aE.qb _ _).2 fun x hx=>?_⟩
   ·show 2<=(fls o (a::b::r)).length;have h1:=zF ho0 (hf a (by simp));have h2:=zF ho0 (hf b (by simp));rw[pD,pD,List.length_append,List.length_append]; omega
   ·obtain⟨y,hy,hx⟩:=List.mem_flatMap.1 hx;exact Jq (hf y hy) hx
  ·rw[O7 ho0];exact DH ho0 _
theorem sb {P:Par} {s:Bs} (hP:qC P):∀ (k:Nat) (ts:List Bs) l r,sev P s k ts=some (l,r)->r.length+aE.lvs l<=ts.length/\l≠[]/\∀ e∈l,e.fm=true
 | 0,_,_,_,h=>by rw[sev] at h; cases h
 | k+1,ts,l,r,h=>by
  rw[sev] at h;cases hp:P ts with
  | none=>rw[hp] at h; cases h
  | some x =>
   obtain⟨e,q⟩:=x;obtain⟨h1,h2⟩:=hP ts e q hp;rw[hp] at h;cases q with
   | nil =>
    cases h;exact⟨by rw[aE.qc]; exact h1,by simp,fun e' he=>by rw[List.mem_singleton.1 he]; exact h2⟩
   | cons t q =>
    simp only at h;split at h
    ·cases hs:sev P s k q with
     | none=>rw[hs] at h; cases h
     | some x =>
      rw[hs] at h;obtain⟨l',r'⟩:=x;cases h;obtain⟨g1,g2,g3⟩:=sb hP k q l' r' hs;refine⟨?_,by simp,fun e' he=>?_⟩
      ·show r'.length+aE.lvs (e::l')<=_;rw[aE.lvs];rw[List.length_cons] at h1;omega
      ·rcases List.mem_cons.1 he with rfl | he
       ·exact h2
       ·exact g3 e' he
    ·cases h;exact⟨by rw[aE.qc]; exact h1,by simp,fun e' he=>by rw[List.mem_singleton.1 he]; exact h2⟩
theorem tj {P:Par} {s:Bs} {o:Int} (ho:o=1\/o=2) (hP:qC P):qC (pC P o s):=by
 intro ts e r h;unfold pC at h;cases hs:sev P s (ts.length+1) ts with
 | none=>rw[hs] at h; cases h
 | some x =>
  rw[hs] at h;obtain⟨l,q⟩:=x;cases h;obtain⟨h1,h2,h3⟩:=sb hP _ ts l _ hs;obtain⟨g1,g2⟩:=LV ho h2 h3;exact⟨by rw[g2]; exact h1,g1⟩
theorem oK {G:Par} (hG:qC G):qC (lW G):=by
 intro ts e r h;cases ts with
 | nil=>cases h
 | cons t q =>
  unfold lW at h;simp only at h;split at h
  ·cases hg:G q with
   | none=>rw[hg] at h; cases h
   | some x =>
    obtain⟨e',q'⟩:=x;rw[hg] at h;obtain⟨h1,h2⟩:=hG q e' q' hg;cases q' with
    | nil=>cases h
    | cons u q' =>
     simp only at h;split at h
     ·cases h;exact⟨by rw[List.length_cons] at h1 ⊢; omega,h2⟩
     ·cases h
  ·split at h
   ·rename_i hn;cases h;exact⟨by rw[LR,List.length_cons]; exact Nat.le_refl _,by rw[LU,hn]⟩
   ·cases h
theorem qd:∀ n,qC (sa n)
 | 0=>fun _ _ _ h=>by cases h
 | n+1=>tj (.inr rfl) (tj (.inl rfl) (oK (qd n)))
end Go.Lad
namespace Go.Proofs.YtkpefpjpadahiaaGreatDoor
open Go.Lad
abbrev GC:=List Bs->Option (dM×Bool×List Bs)
def uh (f:GC) (P:Par) (ts:List Bs):Prop:=(∀ e r,P ts=some (e,r)->f ts=some (lt e,true,r))/\(P ts=none->∃ x r,f ts=some (x,false,r))
theorem BQ (s:Bs):bm s []=some (false,[]):=rfl
theorem tk (s t:Bs) (r:List Bs):bm s (t::r)=some (if t=s then (true,r) else (false,t::r)):=by
 unfold bm bm.j1;rw[dP,decide_eq_true (by simp),cond_true,show idx (t::r) 0=some t from jg (l:=t::r) (k:=0) (by simp),aA,aA];by_cases h:t=s
 ·rw[decide_eq_true h,cond_true,if_pos h,I9 (by omega) (by simp; omega) (by simp),aA];show some (true,(List.take (t::r).length (t::r)).drop 1)=_;rw[List.take_length]; rfl
 ·rw[decide_eq_false h,cond_false,if_neg h]
theorem GD (t:Bs) (r:List Bs):dh (t::r)=some (if mN t=true then (t,true,r) else ([],false,t::r)):=by
 unfold dh dh.j1;have hi:idx (t::r) 0=some t:=jg (l:=t::r) (k:=0) (by simp);rw[fE,decide_eq_false (by simp; omega),cond_false,hi,aA,BM,aA,aA];cases mN t with
 | true =>
  rw[Bool.not_true,cond_false,aA,I9 (by omega) (by simp; omega) (by simp),aA,if_pos rfl];show some (t,true,(List.take (t::r).length (t::r)).drop 1)=_;rw[List.take_length]; rfl
 | false=>rfl
theorem Jr {Gr:GC} {G:Par} {ts:List Bs} (h:∀ q:List Bs,q.length<ts.length->uh Gr G q):uh (dU Gr) (lW G) ts:=by
 cases ts with
 | nil=>exact⟨fun e r h=>(by cases h),fun _=>⟨_,_,rfl⟩⟩
 | cons t q =>
  obtain⟨h1,h2⟩:=h q (by simp);unfold uh lW dU;rw[tk,aA];by_cases ht:t=opW
  ·rw[if_pos ht];simp only[if_pos ht,cond_true];cases hg:G q with
   | none =>
    obtain⟨x,r,hx⟩:=h2 hg;rw[hx,aA];exact⟨fun e r h=>(by cases h),fun _=>⟨_,_,rfl⟩⟩
   | some y =>
    obtain⟨e',q'⟩:=y;rw[h1 e' q' hg,aA,cond_true];cases q' with
    | nil =>
     rw[BQ,aA];exact⟨fun e r h=>(by cases h),fun _=>⟨_,_,rfl⟩⟩
    | cons u q' =>
     rw[tk,aA];by_cases hu:u=clW
     ·simp only[if_pos hu,fx1,fx2,fx3,lt];exact⟨fun e r h=>(by cases h; rfl),fun h=>(by cases h)⟩
     ·simp only[if_neg hu];exact⟨fun e r h=>(by cases h),fun _=>⟨_,_,rfl⟩⟩
  ·rw[if_neg ht];simp only[if_neg ht,cond_false];rw[GD,aA];cases hn:mN t with
   | true=>exact⟨fun e r h=>(by cases h; rfl),fun h=>(by cases h)⟩
   | false=>exact⟨fun e r h=>(by cases h),fun _=>⟨_,_,rfl⟩⟩
def GF (f:GC) (op1:Int) (e6:Int) (e7:Bs) (v8:List dM) (v10:Bool) (p11:List Bs):Option ((Bool×(List Bs)×Int×Bs×List dM)⊕((Int×Bs×Int×Bs×(List Bs)×List dM)⊕(dM×Bool×List Bs))) :=
 bif v10 then
 ((f p11).bind fun p12 =>
 bif (!p12.2.1) then
  some (.inr (.inr ((0,([]:Bs),[]),false,p12.2.2)))
 else
  (bif (eqZ p12.1.1 op1) then
  ((app? v8 (p12.1.2.2.map (Uun 2))).bind fun l13 =>
  some (.inl (false,p12.2.2,e6,e7,l13)))
  else
  ((app? v8 ([(p12.1.1,p12.1.2.1,((p12.1.2.2.map (Uun 2)).map (Umk 2)))]:List dM)).bind fun l14 =>
  some (.inl (false,p12.2.2,e6,e7,l14)))))
 else
 some (.inr (.inl (0,[],e6,e7,p11,v8)))
theorem Oj (o:Int) (l:List aE) (e:aE):unL (fls o l)++unL (fl o e)=unL (fls o (l++[e])):=by
 rw[Ob];unfold fls;rw[List.flatMap_append];simp
theorem GG {f:GC} {P:Par} {o:Int} (ho:o≠0) {q:List Bs} {dn:List aE} (hr:uh f P q) (hg:qC P) (hf:∀ e∈dn,e.fm=true) (hb:aE.lvs dn+q.length<=1000000) :
  (P q=none/\∃ x r,GF f o o [] (unL (fls o dn)) true q=some (.inr (.inr (x,false,r))))\/(∃ e r,P q=some (e,r)/\GF f o o [] (unL (fls o dn)) true q=some (.inl (false,r,o,[],unL (fls o (dn++[e]))))):=by
 unfold GF;rw[cond_true];cases hp:P q with
 | none =>
  obtain⟨x,r,hx⟩:=hr.2 hp;rw[hx,aA];exact .inl ⟨rfl,_,_,rfl⟩
 | some y =>
  obtain⟨e,r⟩:=y;obtain⟨g1,g2⟩:=hg q e r hp;refine .inr ⟨e,r,rfl,?_⟩;rw[hr.1 e r hp,aA];simp only[Bool.not_true,cond_false,lt,fu1,fu2,fu3,fu4,fx1,fx2,fx3];have hfl:(unL (fls o dn)).length<=aE.lvs dn:=by
   rw[mQ,← DH ho dn];refine E6 fun x hx=>?_;obtain⟨y,hy,hx⟩:=List.mem_flatMap.1 hx;exact (Jq (hf y hy) hx).1
  have hel:(fl o e).length<=e.lv:=by
   rw[← M3 ho e];exact E6 fun x hx=>(Jq g2 hx).1
  have hun:=Oj o dn e;unfold fl at hun hel;by_cases h:e.op=o
  ·rw[fE,decide_eq_true h,cond_true];rw[if_pos h] at hun hel;rw[tg (by rw[mQ e.ar]; omega),hun]; rfl
  ·rw[fE,decide_eq_false h,cond_false];rw[if_neg h] at hun hel;have e1:=Oc e;show Option.bind (app? (unL (fls o dn)) [(e.op,e.nm,_)]) _=_;have e2:([(e.op,e.nm,mkLt (unL e.ar))]:List dM)=unL [e]:=by rw[tQ]; exact e1
   show Option.bind (app? (unL (fls o dn)) [(e.op,e.nm,mkLt (unL e.ar))]) _=_;rw[e2,tg (by rw[mQ [e]]; simp only[List.length_singleton]; omega),hun]; rfl
def xm (P:Par) (s:Bs) (k:Nat) (dn:List aE) (p:List Bs):Option (List aE×List Bs):=match p with
 | []=>some (dn,[])
 | t::q=>if t=s then (sev P s k q).map (fun y=>(dn++y.1,y.2)) else some (dn,t::q)
theorem Js {P:Par} {s:Bs} {k:Nat} {q:List Bs} {dn:List aE} {e:aE} {r:List Bs} (h:P q=some (e,r)):(sev P s (k+1) q).map (fun y=>(dn++y.1,y.2))=xm P s k (dn++[e]) r:=by
 rw[sev,h];unfold xm;cases r with
 | nil=>rfl
 | cons t r =>
  simp only;by_cases ht:t=s
  ·rw[if_pos ht,if_pos ht,Option.map_map];congr 1;funext y
   show (dn++e::y.1,y.2)=(dn++[e]++y.1,y.2);rw[List.append_assoc]; rfl
  ·rw[if_neg ht,if_neg ht]; rfl
theorem Jt {P:Par} {s:Bs} {k:Nat} {q:List Bs} (h:P q=none):sev P s (k+1) q=none:=by rw[sev,h]
theorem BR {f : GC} {P : Par} {o : Int} (ho : o≠0) (s : Bs) (ts : List Bs) (hlen : ts.length<=100000) (hg : qC P) (hr : ∀ q : List Bs, q.length<=ts.length->uh f P q)
    {body : Bool×List Bs×Int×Bs×List dM->Option ((Bool×List Bs×Int×Bs×List dM)⊕((Int×Bs×Int×Bs×List Bs×List dM)⊕(dM×Bool×List Bs)))}
    (hb : ∀ x, body x=(bif x.1 then some (true, x.2.1) else (bm s x.2.1).bind fun s9 => some (s9.1, s9.2)).bind fun y => GF f o x.2.2.1 x.2.2.2.1 x.2.2.2.2 y.1 y.2) :
    ∃ b, bS body (true, ts, o, [], [])=some b/\(∀ l r, sev P s (ts.length+1) ts=some (l, r)->b = .inl (0, [], o, [], r, unL (fls o l)))/\(sev P s (ts.length+1) ts=none->∃ x r, b = .inr (x, false, r)) := by
  refine pZ (body := body) (fun j x => x.2.2.1=o/\x.2.2.2.1=[]/\∃ dn : List aE, x.2.2.2.2=unL (fls o dn)/\(∀ e∈dn, e.fm=true)/\aE.lvs dn+x.2.1.length<=ts.length /\
    ((x.1=true/\j=0/\dn=[]/\x.2.1=ts)\/(x.1=false/\j+x.2.1.length<=ts.length/\sev P s (ts.length+1) ts=xm P s (ts.length+1-j) dn x.2.1))) (ts.length+1) ⟨rfl, rfl, [], rfl, by simp, by rw [aE.lvs]; simp, .inl ⟨rfl, rfl, rfl, rfl⟩⟩ (fun j hj x hx => ?_) (fun x hx => ?_) (by omega)
  · obtain ⟨first, p, o', nm, v8⟩ := x
    obtain ⟨h1, h2, dn, h3, h4, h5, h6⟩ := hx;simp only at h1 h2 h3 h5 h6;subst h1 h2 h3;have step : ∀ q : List Bs, q.length+j<=ts.length->aE.lvs dn+q.length<=ts.length->sev P s (ts.length+1) ts=(sev P s (ts.length+1-j) q).map (fun y => (dn++y.1, y.2)) ->
        (∃ y, GF f o' o' [] (unL (fls o' dn)) true q=some (.inl y)/\(y.2.2.1=o'/\y.2.2.2.1=[]/\∃ dn : List aE, y.2.2.2.2=unL (fls o' dn)/\(∀ e∈dn, e.fm=true)/\aE.lvs dn+y.2.1.length<=ts.length /\
    ((y.1=true/\j+1=0/\dn=[]/\y.2.1=ts)\/(y.1=false/\j+1+y.2.1.length<=ts.length/\sev P s (ts.length+1) ts=xm P s (ts.length+1-(j+1)) dn y.2.1)))) \/
        (∃ b, GF f o' o' [] (unL (fls o' dn)) true q=some (.inr b)/\(∀ l r, sev P s (ts.length+1) ts=some (l, r)->b = .inl (0, [], o', [], r, unL (fls o' l)))/\(sev P s (ts.length+1) ts=none->∃ x r, b = .inr (x, false, r))) := fun q hq1 hq2 hq3 => by
      have hk : ts.length+1-j=(ts.length-j)+1 := by omega
      rw [hk] at hq3;rcases GG (o := o') (dn := dn) ho (hr q (by omega)) hg h4 (by omega) with ⟨e1, x, r, e2⟩ | ⟨e, r, e1, e2⟩
      · refine .inr ⟨_, e2, fun l r h => ?_, fun _ => ⟨_, _, rfl⟩⟩
        rw [hq3, Jt e1] at h; cases h
      · obtain ⟨g1, g2⟩ := hg q e r e1
        have g3 := Oi g2;refine .inl ⟨_, e2, rfl, rfl, dn++[e], rfl, fun x hx => ?_, ?_, .inr ⟨rfl, ?_, ?_⟩⟩
        · rcases List.mem_append.1 hx with hx | hx
          · exact h4 x hx
          · rw [List.mem_singleton.1 hx]; exact g2
        · show aE.lvs (dn++[e])+r.length<=_
          rw [aE.uB, aE.qc]; omega
        · show j+1+r.length<=_
          omega
        · show _=xm P s (ts.length+1-(j+1)) (dn++[e]) r
          rw [hq3, Js e1];congr 1; omega
    rw [hb];rcases h6 with ⟨rfl, rfl, rfl, rfl⟩ | ⟨rfl, h7, h8⟩
    · simp only [cond_true, aA]
      refine step p (by omega) h5 ?_;show _=Option.map (fun y => ([]++y.1, y.2)) (sev P s (p.length+1-0) p);rw [Nat.sub_zero];cases sev P s (p.length+1) p <;> rfl
    · simp only [cond_false]
      cases p with
      | nil =>
        rw [BQ];refine .inr ⟨_, rfl, fun l r h => ?_, fun h => ?_⟩
        · rw [h8] at h; unfold xm at h; cases h; rfl
        · rw [h8] at h; unfold xm at h; cases h
      | cons t q =>
        rw [tk, aA];rw [List.length_cons] at h5 h7;by_cases ht : t=s
        · simp only [if_pos ht, aA]
          refine step q (by omega) (by omega) ?_;rw [h8]; unfold xm; simp only [if_pos ht]
        · simp only [if_neg ht, aA]
          refine .inr ⟨_, rfl, fun l r h => ?_, fun h => ?_⟩
          · rw [h8] at h; unfold xm at h; simp only [if_neg ht] at h; cases h; rfl
          · rw [h8] at h; unfold xm at h; simp only [if_neg ht] at h; cases h
  · obtain ⟨first, p, o', nm, v8⟩ := x
    obtain ⟨h1, h2, dn, h3, h4, h5, h6⟩ := hx;simp only at h6;rcases h6 with ⟨_, h, _, _⟩ | ⟨_, h, _⟩ <;> omega
theorem E7 {o:Int} (ho:o=1\/o=2) {l:List aE} (hl:l≠[]) (hf:∀ e∈l,e.fm=true) (r:List Bs):aW.j2 0 [] o [] r (unL (fls o l))=some (lt (jn o l),true,r):=by
 have ho0:o≠0:=by omega
 unfold aW.j2;have gen:2<=(fls o l).length->(bif (eqZ ((unL (fls o l)).length:Int) 1) then ((idx (unL (fls o l)) 0).bind fun _19=>(idx (unL (fls o l)) 0).bind fun v20=>some (((v20.1,v20.2.1,((v20.2.2.map (Uun 2)).map (Umk 2))):dM),true,r)) else some ((o,([]:Bs),((unL (fls o l)).map (Umk 2))),true,r))=some (lt (.mk o [] (fls o l)),true,r):=fun h=>by
  rw[mQ,fE,decide_eq_false (by omega),cond_false];show some ((o,([]:Bs),mkLt (unL (fls o l))),true,r)=_;rw[tQ]; rfl
 match l,hl with
 | [e],_ =>
  have hfe:=hf e (by simp);have e1:fls o [e]=fl o e:=by unfold fls; simp
  show _=some (lt e,true,r);rw[e1] at gen ⊢;by_cases h:e.op=o
  ·have h2:=Jp hfe (by rw[h]; exact ho0);have e2:fl o e=e.ar:=if_pos h;rw[e2] at gen ⊢;rw[gen h2.1];show some (lt (aE.mk o [] e.ar),true,r)=_;rw[← h,← h2.2,aE.eta]
  ·have e2:fl o e=[e]:=if_neg h;rw[e2,mQ,fE,decide_eq_true (by simp),cond_true];have hi:idx (unL [e]) 0=some (e.op,e.nm,e.ar):=Jl (l:=[e]) (k:=0) (by simp);rw[hi,aA,aA];show some ((e.op,e.nm,mkLt (unL e.ar)),true,r)=_;rw[tQ]; rfl
 | a::b::q,_ =>
  refine gen ?_;have h1:=zF ho0 (hf a (by simp));have h2:=zF ho0 (hf b (by simp));rw[pD,pD,List.length_append,List.length_append]; omega
theorem zG {Gr:GC} {G:Par} {ts:List Bs} (hlen:ts.length<=100000) (hg:qC G) (h:∀ q:List Bs,q.length<ts.length->uh Gr G q):uh (cC Gr) (pC (lW G) 1 th) ts:=by
 obtain⟨b,hb,h1,h2⟩:=BR (f:=dU Gr) (P:=lW G) (o:=1) (by omega) th ts hlen (oK hg) (fun q hq=>Jr fun q' hq'=>h q' (by omega)) (body:=fun x=>aW.b1 Gr 1 th x.1 x.2.1 x.2.2.1 x.2.2.2.1 x.2.2.2.2) (fun x=>rfl);have key:cC Gr ts=(match b with | .inl x=>aW.j2 x.1 x.2.1 x.2.2.1 x.2.2.2.1 x.2.2.2.2.1 x.2.2.2.2.2 | .inr r=>some r).bind fun v2=>some ((v2.1.1,v2.1.2.1,((v2.1.2.2.map (Uun 2)).map (Umk 2))),v2.2.1,v2.2.2):=by
  unfold cC aW;rw[hb]; rfl
 unfold uh;rw[key];unfold pC;cases hs:sev (lW G) th (ts.length+1) ts with
 | none =>
  obtain⟨x,r,rfl⟩:=h2 hs;exact⟨fun e r h=>(by cases h),fun _=>⟨_,_,rfl⟩⟩
 | some y =>
  obtain⟨l,r⟩:=y;obtain⟨g1,g2,g3⟩:=sb (oK hg) _ ts l r hs;rw[h1 l r hs];simp only;rw[E7 (.inl rfl) g2 g3,aA];simp only[lt,fx1,fx2,fx3];refine⟨fun e r h=>?_,fun h=>(by cases h)⟩;cases h; rfl
theorem nP:∀ (n:Nat) (ts:List Bs),ts.length<n->ts.length<=100000->uh (aj.rec n) (sa n) ts
 | 0,_,h,_=>absurd h (by omega)
 | n+1,ts,hn,hlen=>by
  show uh (aj.body (aj.rec n)) (sa (n+1)) ts;have hseq:∀ q:List Bs,q.length<=ts.length->uh (cC (aj.rec n)) (pC (lW (sa n)) 1 th) q:=fun q hq =>
   zG (by omega) (qd n) fun q' hq'=>nP n q' (by omega) (by omega)
  have hgood:qC (pC (lW (sa n)) 1 th):=tj (.inl rfl) (oK (qd n));obtain⟨b,hb,h1,h2⟩:=BR (f:=cC (aj.rec n)) (P:=pC (lW (sa n)) 1 th) (o:=2) (by omega) orW ts hlen hgood hseq (body:=fun x=>bQ.b1 (aj.rec n) 2 orW x.1 x.2.1 x.2.2.1 x.2.2.2.1 x.2.2.2.2) (fun x=>rfl);have key:aj.body (aj.rec n) ts=(match b with | .inl x=>aW.j2 x.1 x.2.1 x.2.2.1 x.2.2.2.1 x.2.2.2.2.1 x.2.2.2.2.2 | .inr r=>some r).bind fun v2=>some ((v2.1.1,v2.1.2.1,((v2.1.2.2.map (Uun 2)).map (Umk 2))),v2.2.1,v2.2.2):=by
   unfold aj.body bQ;rw[hb]; rfl
  unfold uh;rw[key];show (∀ e r,pC (pC (lW (sa n)) 1 th) 2 orW ts=some (e,r)->_)/\(pC (pC (lW (sa n)) 1 th) 2 orW ts=none->_);rw[show pC (pC (lW (sa n)) 1 th) 2 orW ts=(sev (pC (lW (sa n)) 1 th) orW (ts.length+1) ts).map fun x=>(jn 2 x.1,x.2) from rfl];cases hs:sev (pC (lW (sa n)) 1 th) orW (ts.length+1) ts with
  | none =>
   obtain⟨x,r,rfl⟩:=h2 hs;exact⟨fun e r h=>(by cases h),fun _=>⟨_,_,rfl⟩⟩
  | some y =>
   obtain⟨l,r⟩:=y;obtain⟨g1,g2,g3⟩:=sb hgood _ ts l r hs;rw[h1 l r hs];simp only;rw[E7 (.inr rfl) g2 g3,aA];simp only[lt,fx1,fx2,fx3];refine⟨fun e r h=>?_,fun h=>(by cases h)⟩;cases h; rfl
def pieces:Bs->List Bs
 | []=>[[]]
 | c::r=>if c=32 then []::pieces r else (c::(pieces r).headD [])::(pieces r).tail
theorem yq (s:Bs):pieces s≠[]:=by
 cases s with
 | nil=>simp [pieces]
 | cons c r=>unfold pieces; split <;> simp
theorem sc:∀ s:Bs,Lib.split s [32]=pieces s
 | []=>rfl
 | c::r=>by
  have ih:=sc r;unfold Lib.split at *
  by_cases h:c=32
  ·subst h;have hix:Lib.index ((32:UInt8)::r) [32]=0:=by rw[Lib.index]; simp [List.isPrefixOf]
   rw[Lib.count_cons_eq,Nat.add_comm,Lib.splitK,hix];show (([]:Bs)::Lib.splitK [32] 0 (Lib.count r [32]) r)=_;rw[ih]; simp [pieces]
  ·have hp:([32]:List UInt8).isPrefixOf (c::r)=false:=by simp [List.isPrefixOf,Ne.symm h]
   have hix:Lib.index (c::r) [32]=if Lib.index r [32] == -1 then -1 else Lib.index r [32]+1:=by rw[Lib.index,hp]; simp
   rw[Lib.count_cons_ne c 32 r h];have e:pieces (c::r)=(c::(pieces r).headD [])::(pieces r).tail:=by rw[pieces,if_neg h]
   rw[e,← ih];cases hn:Lib.count r [32] with
   | zero=>rfl
   | succ k =>
    have hm:¬ Lib.index r [32] = -1:=fun e=>by rw[Lib.count_miss e] at hn; cases hn
    have hge:=Lib.index_ge r [32];obtain⟨j,hj⟩:∃ j:Nat,Lib.index r [32]=j:=⟨(Lib.index r [32]).toNat,by omega⟩;have e1:(Lib.index r [32] == -1)=false:=beq_eq_false_iff_ne.2 hm;rw[Lib.splitK,Lib.splitK,hix,e1];simp only[Bool.false_eq_true,if_false,hj];have e2:(((j:Int)+1) == -1)=false:=beq_eq_false_iff_ne.2 (by omega);rw[e2];simp only[Bool.false_eq_true,if_false];have e3:((j:Int)+1).toNat=j+1:=by omega
    have e4:((j:Int)).toNat=j:=by omega
    rw[e3,e4];simp
def wd (cur:Bs):List Bs:=if cur=[] then [] else [cur]
def tkz:Bs->Bs->List Bs
 | cur,[]=>wd cur
 | cur,c::s=>if c=32 then wd cur++tkz [] s else if c=40\/c=41 then wd cur++[c]::tkz [] s else tkz (cur++[c]) s
def ne (l:List Bs):List Bs:=l.filter fun x=>!decide (x=[])
def pre (cur:Bs) (l:List Bs):List Bs:=(cur++l.headD [])::l.tail
theorem uC (x:Bs) (l:List Bs):ne (x::l)=wd x++ne l:=by
 unfold ne wd;by_cases h:x=[]
 ·rw[if_pos h,List.filter_cons_of_neg (by simp [h])]; rfl
 ·rw[if_neg h,List.filter_cons_of_pos (by simp [h])]; rfl
theorem pre_nil {l:List Bs} (h:l≠[]):pre [] l=l:=by
 cases l with
 | nil=>exact absurd rfl h
 | cons x r=>rfl
theorem BS:∀ (s cur:Bs),ne (pre cur (pieces (s.flatMap rp1)))=tkz cur s
 | [],cur=>by
  show ne [cur++[]]=_;rw[uC,List.append_nil];show wd cur++[]=wd cur;rw[List.append_nil]
 | c::s,cur=>by
  have ih:=BS s;have h0:pieces (s.flatMap rp1)≠[]:=yq _;have ih0:ne (pieces (s.flatMap rp1))=tkz [] s:=by rw[← ih,pre_nil h0]
  rw[List.flatMap_cons];unfold tkz;by_cases h32:c=32
  ·subst h32;rw[if_pos rfl];show ne (pre cur (pieces (32::s.flatMap rp1)))=_;rw[pieces,if_pos rfl];show ne ((cur++[])::pieces (s.flatMap rp1))=_;rw[uC,ih0,List.append_nil]
  ·rw[if_neg h32];by_cases hp:c=40\/c=41
   ·rw[if_pos hp];have hr:rp1 c=[32,c,32]:=by rcases hp with rfl | rfl <;> rfl
    rw[hr];show ne (pre cur (pieces (32::c::32::s.flatMap rp1)))=_;rw[pieces,if_pos rfl,pieces,if_neg h32,pieces,if_pos rfl];show ne ((cur++[])::[c]::pieces (s.flatMap rp1))=_;rw[uC,uC,ih0,List.append_nil];rfl
   ·rw[if_neg hp];have hr:rp1 c=[c]:=by
     unfold rp1;have h1:Nat.beq c.toNat 40=false:=by rw[← Bool.not_eq_true]; intro h; exact hp (.inl (UInt8.toNat_inj.1 (Nat.eq_of_beq_eq_true h)))
     have h2:Nat.beq c.toNat 41=false:=by rw[← Bool.not_eq_true]; intro h; exact hp (.inr (UInt8.toNat_inj.1 (Nat.eq_of_beq_eq_true h)))
     rw[h1,h2]; rfl
    rw[hr,← ih];show ne (pre cur (pieces (c::s.flatMap rp1)))=_;rw[pieces,if_neg h32];unfold pre;simp [List.append_assoc]
theorem LW (s:Bs):(s.flatMap rp1).length<=3 * s.length:=by
 induction s with
 | nil=>simp
 | cons c s ih =>
  rw[List.flatMap_cons,List.length_append,List.length_cons];have:(rp1 c).length<=3:=by
   unfold rp1;cases Nat.beq c.toNat 40 <;> cases Nat.beq c.toNat 41 <;> simp
  omega
theorem wK:∀ s:Bs,(pieces s).length<=s.length+1
 | []=>by simp [pieces]
 | c::r=>by
  have:=wK r;unfold pieces;split
  ·simp; omega
  ·simp; omega
theorem GH (l:List Bs) (hl:l.length<=1000000):bS (fun x=>cB.b1 l x.1 x.2) (0,[])=some (ne l):=by
 refine Jc (body:=fun x=>cB.b1 l x.1 x.2) (fun k=>((k:Int),ne (l.take k))) l.length rfl (fun k hk=>?_) ?_ (by omega)
 ·have hnl:(ne (l.take k)).length<=l.length:=by
   unfold ne;refine Nat.le_trans (List.length_filter_le _ _) ?_;rw[List.length_take]; omega
  simp only[cB.b1];rw[dP,decide_eq_true (by omega),cond_true,jg hk,aA,Gw l k hk];have e:ne (l.take k++[l[k]])=ne (l.take k)++wd l[k]:=by
   unfold ne wd;rw[List.filter_append];by_cases h:l[k]=[]
   ·rw[if_pos h]; simp [h]
   ·rw[if_neg h]; simp [h]
  rw[e,mO (by omega)];unfold wd;by_cases h:l[k]=[]
  ·rw[decide_eq_true h,if_pos h,Bool.not_true,cond_false,aA,List.append_nil]
  ·rw[decide_eq_false h,if_neg h,Bool.not_false,cond_true,tg (by simp only[List.length_singleton]; omega),aA,aA]
 ·simp only[cB.b1];rw[dP,decide_eq_false (by omega),cond_false,List.take_length]
theorem DI (s:Bs) (hs:s.length<=1000):((eC ([([40]:Bs),([32,40,32]:Bs),([41]:Bs),([32,41,32]:Bs)]:List Bs)).bind fun n2 =>
 (cX s n2.1 n2.2.1 n2.2.2.1 n2.2.2.2).bind fun r3 =>
 (strings_Split r3 ([32]:Bs)).bind fun s4 =>
 bS (fun x=>cB.b1 s4 x.1 x.2) (0,[]))=some (tkz [] s):=by
 have h1:eC ([([40]:Bs),([32,40,32]:Bs),([41]:Bs),([32,41,32]:Bs)]:List Bs)=some (0,0,0,rpl):=rfl;have h2:cX s 0 0 0 rpl=some (s.flatMap rp1):=by
  unfold cX BF;rw[decide_eq_true (by simp),show Nat.ble s.length 1000000=true by rw[Nat.ble_eq]; omega]; rfl
 have hl:=LW s;have h3:strings_Split (s.flatMap rp1) [32]=some (pieces (s.flatMap rp1)):=by
  unfold strings_Split tf;rw[show Nat.ble (s.flatMap rp1).length 1000000000=true by rw[Nat.ble_eq]; omega,sc]; rfl
 rw[h1,aA];simp only;rw[h2,aA,h3,aA,GH _ (by have:=wK (s.flatMap rp1); omega),← BS,pre_nil (yq _)]
theorem zH:∀ (s cur:Bs),(tkz cur s).length<=s.length * 2+1
 | [],cur=>by unfold tkz wd; split <;> simp
 | c::s,cur=>by
  have h1:=zH s [];have h2:=zH s (cur++[c]);have h3:(wd cur).length<=1:=by unfold wd; split <;> simp
  unfold tkz;rw[List.length_cons];split
  ·rw[List.length_append]; omega
  ·split
   ·rw[List.length_append,List.length_cons]; omega
   ·omega
theorem LX {l:List aE} (h:∀ x∈l,x.sz+1<=2 * x.lv):aE.szs l+l.length<=2 * aE.lvs l:=by
 induction l with
 | nil=>rw[aE.szs,aE.lvs]; exact Nat.le_refl _
 | cons x r ih =>
  have h1:=h x (by simp);have h2:=ih fun y hy=>h y (by simp [hy]);rw[aE.szs,aE.lvs,List.length_cons]; omega
theorem O9:∀ e:aE,e.fm=true->e.sz+1<=2 * e.lv:=by
 intro e;induction e using aE.ind with
 | h e ih =>
  intro hf;rw[aE.E4,aE.yp];by_cases h0:e.op=0
  ·have har:e.ar=[]:=by
    rw[aE.qA,if_pos h0,Bool.and_eq_true] at hf
    simpa using hf.2
   rw[if_pos h0,har,aE.szs]; exact Nat.le_refl _
  ·rw[if_neg h0];have h2:=(Jp hf h0).1;have h3:=LX fun x hx=>ih x hx (O6 hf hx).1;omega
def Ok:aE := .mk 0 [] []
def zI (ts:List Bs):aE×Int:=match sa jH.n ts with
 | some (e,[])=>if e.lv<=16 then (e,0) else (Ok,6)
 | _=>(Ok,2)
def DJ (s:Bs):aE×Int:=if 1000<s.length then (Ok,6) else zI (tkz [] s)
theorem Pb (ts:List Bs) (hl:ts.length<=3000):cB.j2 ts=some (lt (zI ts).1,(zI ts).2):=by
 unfold cB.j2 aj;obtain⟨h1,h2⟩:=nP jH.n ts (BN (by omega)) (by omega);unfold zI;cases hp:sa jH.n ts with
 | none =>
  obtain⟨x,r,hx⟩:=h2 hp;show Option.bind (aj.rec jH.n ts) _=_;rw[hx]; rfl
 | some y =>
  obtain⟨e,r⟩:=y;obtain⟨g1,g2⟩:=qd jH.n ts e r hp;show Option.bind (aj.rec jH.n ts) _=_;rw[h1 e r hp,aA];simp only[Bool.not_true,cond_false,aA];unfold cB.j1;cases r with
  | cons t r =>
   rw[dP,decide_eq_true (by simp),cond_true]; rfl
  | nil =>
   have hsz:=O9 e g2;simp only[lt,fu1,fu2,fu3,fu4];rw[dP,decide_eq_false (by simp),cond_false,Jo e (by omega),aA];unfold aE.rt;rw[g2,Bool.true_and,il];by_cases h16:e.lv<=16
   ·rw[decide_eq_true h16,Bool.not_true,cond_false,if_pos h16];show some ((e.op,e.nm,mkLt (unL e.ar)),(0:Int))=_;rw[tQ]
   ·rw[decide_eq_false h16,Bool.not_false,cond_true,if_neg h16]; rfl
theorem Ju (s:Bs):cB s=some (lt (DJ s).1,(DJ s).2):=by
 unfold cB DJ;by_cases h:1000<s.length
 ·rw[dP,decide_eq_true (by omega),cond_true,if_pos h]; rfl
 ·rw[dP,decide_eq_false (by omega),cond_false,if_neg h,DI s (by omega),aA];have:=zH s [];exact Pb _ (by omega)
end Go.Proofs.YtkpefpjpadahiaaGreatDoor
namespace Go.Proofs.YtkpefpjpadahiaaGreatDoor
open Go.Lad
theorem wL (l:List Bs) (s:Bs) (h:l.length<=1000):Has (aZ l s) (fun i=>i = -1\/0<=i/\i<l.length/\s∈l):=by
 unfold aZ;refine kk l (by omega) (fun i x hx=>?_) ?_
 ·obtain⟨hi,_⟩:=List.getElem?_eq_some_iff.1 hx;unfold aZ.b1;refine ah (fun _=>?_) fun h2=>absurd (dx h2) (by omega);refine aa (bO (by omega) (by omega)) fun a ha=>ah (fun e=>ae (.inr ⟨by omega,by omega,?_⟩)) fun _=>aa (bD (by omega) (by omega)) fun j hj=>ae ?_
  ·rw[of_decide_eq_true e]; exact ha.1
  ·show j=_;omega
 ·unfold aZ.b1;exact ah (fun h2=>absurd (eT h2) (by omega)) fun _=>ae (.inl rfl)
theorem qD (l:List Bs) (s:Bs) (h:l.length<=1000):Has (bT l s) (fun b=>b=true->s∈l) :=
 aa (wL l s h) fun i hi=>ae fun e=>by
  have e:=j0 e;rcases hi with h | h
  ·omega
  ·exact h.2.2
theorem BT (l m:List Bs) (h:l.length<=1000) (hm:m.length<=1000):Has (cF l m) lx:=by
 refine aa (Q:=lx) ?_ fun _ _=>ae trivial;unfold bC;refine kk l (by omega) (fun i x hx=>?_) ?_
 ·obtain⟨hi,_⟩:=List.getElem?_eq_some_iff.1 hx;unfold bC.b1;refine ah (fun _=>?_) fun h2=>absurd (dx h2) (by omega);refine aa (bO (by omega) (by omega)) fun _ _=>aa (Q:=lx) (aa (qD m _ hm) fun _ _=>ae trivial) fun _ _=>ah (fun _=>ae trivial) fun _=>aa (bD (by omega) (by omega)) fun j hj=>ae ?_;show j=_;omega
 ·unfold bC.b1;exact ah (fun h2=>absurd (eT h2) (by omega)) fun _=>ae trivial
theorem ly (s:Bs):Has (bj s) (fun b=>b=kf s):=iB (BK s) rfl
structure wM (fs:List Bs) (n:jG):Prop where
 kind:0<=n.2.2.1/\n.2.2.1<3
 rng:∀ r∈n.2.1,small r.1/\small r.2
 P5:n.2.2.2.1=[]\/n.2.2.2.1∈fs
 M4:∀ s∈n.2.2.2.2,s.length<=20
theorem Jv (n:jG) (fs:List Bs) (h1:n.2.1.length<=12) (h2:n.2.2.2.2.length<=1000) (h3:fs.length<=1000):Has (dH n fs) (fun b=>b=true->wM fs n):=by
 unfold dH;refine aa (Q:=fun b:Bool=>b=false->(0<=n.2.2.1/\n.2.2.1<3)/\∀ r∈n.2.1,small r.1/\small r.2) ?_ fun x hx=>?_
 ·refine aa (ly _) fun a _=>ah (fun e=>ae fun e'=>by rw[e] at e'; cases e') fun _=>aa (wJ _ h1) fun p hp=>ah (fun e=>ae fun e'=>by rw[e] at e'; cases e') fun e=>ah (fun e=>ae fun e'=>by rw[e] at e'; cases e') fun e2=>ae fun e3=>?_;have e2:=dx e2;have e3:=yn e3;exact⟨⟨e2,e3⟩,hp (by simpa using e)⟩
 ·unfold dH.j2;refine ah (fun _=>ae (fun h=>by cases h)) fun e0=>aa (Q:=fun b:Bool=>b=false->n.2.2.2.1=[]\/n.2.2.2.1∈fs) ?_ fun y hy=>?_
  ·refine ah (fun _=>aa (qD fs _ h3) fun c hc=>ae fun e=>.inr (hc (by simpa using e))) fun e=>ae fun _=>.inl ?_
   simpa using e
  ·unfold dH.j1;refine ah (fun _=>ae (fun h=>by cases h)) fun e1=>aa (rZ _ h2) fun c hc=>ah (fun e2=>?_) fun _=>ae (fun h=>by cases h);have ok:wM fs n:=⟨(hx e0).1,(hx e0).2,hy e1,hc e2⟩;exact ah (fun _=>ae fun _=>ok) fun _=>ae fun _=>ok
theorem GI (l:List jG) (m:List Bs) (h:l.length<=1000) (hm:m.length<=1000) (hl:∀ n∈l,n.2.1.length<=12/\n.2.2.2.2.length<=1000):Has (cg l m) (fun b=>b=false->∀ n∈l,wM m n):=by
 refine aa (Q:=fun i:Int=>i = -1/\(∀ n∈l,wM m n)\/0<=i) ?_ fun i hi=>ae fun e=>?_
 ·unfold ba;refine qa l (wM m) (by omega) (fun i x hx=>?_) (fun hall=>?_)
  ·obtain⟨hi,_⟩:=List.getElem?_eq_some_iff.1 hx;unfold ba.b1;refine ah (fun _=>?_) fun h2=>absurd (dx h2) (by omega);refine aa (bO (by omega) (by omega)) fun n hn=>aa (Q:=fun b:Bool=>b=false->wM m n) (aa (Jv n m (hl n hn.1).1 (hl n hn.1).2 hm) fun b hb=>ae fun e=>hb (by simpa using e)) fun c hc=>ah (fun _=>ae (.inr (by omega))) fun e=>aa (bD (by omega) (by omega)) fun j hj=>ae ⟨?_,?_⟩
   ·show j=_;omega
   ·have h5:=hn.2;rw[Int.toNat_natCast,hx] at h5;rw[Option.some.inj h5];exact hc e
  ·unfold ba.b1;exact ah (fun h2=>absurd (eT h2) (by omega)) fun _=>ae (.inl ⟨rfl,hall⟩)
 ·have e:=yn e;rcases hi with h | h
  ·exact h.2
  ·omega
structure LY (r:ff):Prop where
 Pc:r.2.2.2.1.length<=3
 qM:∀ n∈r.2.2.2.1,n.2.1.length<=3/\n.2.2.2.2.length<=3/\n.1.length<=60
 M4:r.2.2.2.2.1.length<=3
 P8:∀ f∈r.2.2.2.2.1,f.2.length<=3
 PS:r.2.2.2.2.2.1.length<=3
 source:r.2.2.1.length<=200
 lic:r.2.2.2.2.2.2.length<=60
 name:r.1.length<=60
theorem GJ (r:ff) (h:r.2.2.2.2.1.length<=1000):Has (bS (fun x=>bM.b1 r x.1 x.2) (0,[])) (fun l=>l=r.2.2.2.2.1.map (·.1)):=by
 refine fK (fun x=>∃ i:Nat,x.1=(i:Int)/\i<=r.2.2.2.2.1.length/\x.2=(r.2.2.2.2.1.take i).map (·.1)) (fun x=>r.2.2.2.2.1.length-x.1.toNat) ⟨0,rfl,Nat.zero_le _,rfl⟩ (by show r.2.2.2.2.1.length-_<=_; omega) (fun x hx _=>?_);obtain⟨v,o⟩:=x;obtain⟨i,x1,x2,x3⟩:=hx;simp only at x1 x2 x3;subst x1 x3;show Has (bM.b1 r (i:Int) _) _;unfold bM.b1;refine ah (fun h2=>?_) fun h2=>ae ?_
 ·have h2:i<r.2.2.2.2.1.length:=by have:=eT h2; omega
  refine aa (bO (by omega) (by omega)) fun w hw=>aa (mi (by simp; omega)) fun m hm=>aa (bD (by omega) (by omega)) fun q hq=>ae ?_;subst hm hq;have hw:w=r.2.2.2.2.1[i]:=by
   have h5:=hw.2;rw[Int.toNat_natCast,List.getElem?_eq_getElem h2] at h5;exact (Option.some.inj h5).symm
  refine⟨⟨i+1,rfl,h2,?_⟩,by show r.2.2.2.2.1.length-((i:Int)+1).toNat<r.2.2.2.2.1.length-((i:Int)).toNat; omega⟩;show _++[w.1]=_;rw[List.take_succ_eq_append_getElem h2,List.map_append,hw]; rfl
 ·have h2:i=r.2.2.2.2.1.length:=by have:=dx h2; omega
  show List.map _ (List.take i _)=_;rw[h2,List.take_length]
structure LZ (r:ff):Prop where
 name:kf r.1=true
 ver:small r.2.1
 Pc:∀ n∈r.2.2.2.1,wM (r.2.2.2.2.1.map (·.1)) n
 names:∀ s∈r.2.2.2.2.1.map (·.1),s.length<=20
 M4:∀ f∈r.2.2.2.2.1,∀ s∈f.2,s.length<=20
 PS:∀ s∈r.2.2.2.2.2.1,s.length<=20
theorem BU (r:ff) (h:LY r):Has (bM r) (fun b=>b=true->LZ r):=by
 obtain⟨h1,h2,h3,h4,h5,h6,h7,h8⟩:=h;unfold bM;refine aa (GJ r (by omega)) fun ns hns=>?_;have hnl:ns.length<=3:=by rw[hns,List.length_map]; omega
 unfold bM.j4;refine aa (Q:=fun b:Bool=>b=false->kf r.1=true/\small r.2.1/\(∀ s∈ns,s.length<=20)/\∀ s∈r.2.2.2.2.2.1,s.length<=20) ?_ fun b hb=>?_
 ·refine aa (ly _) fun p hp=>ah (fun _=>ae (fun h=>by cases h)) fun e1=>aa (mP _) fun q hq=>ah (fun _=>ae (fun h=>by cases h)) fun e2=>?_;have e1:kf r.1=true:=by rw[← hp]; simpa using e1
  have e2:=hq (by simpa using e2);refine ah (fun _=>ae (fun h=>by cases h)) fun _=>aa (rZ ns (by omega)) fun c hc=>ah (fun _=>ae (fun h=>by cases h)) fun e3=>ah (fun _=>ae (fun h=>by cases h)) fun _=>aa (rZ _ (by omega)) fun d hd=>ae fun e4=>⟨e1,e2,hc (by simpa using e3),hd (by simpa using e4)⟩
 ·unfold bM.j3;refine ah (fun _=>ae (fun h=>by cases h)) fun e=>?_;obtain⟨b1,b2,b3,b4⟩:=hb e;refine aa (Q:=fun x:Unit⊕Bool=>match x with | .inl _=>∀ f∈r.2.2.2.2.1,∀ s∈f.2,s.length<=20 | .inr c=>c=false) ?_ fun x hx=>?_
  ·refine qa r.2.2.2.2.1 (fun f=>∀ s∈f.2,s.length<=20) (by omega) (fun i x hx=>?_) (fun hall=>?_)
   ·obtain⟨hi,_⟩:=List.getElem?_eq_some_iff.1 hx;unfold bM.b2;refine ah (fun _=>?_) fun h2=>absurd (dx h2) (by omega);refine aa (bO (by omega) (by omega)) fun n hn=>aa (Q:=fun b:Bool=>b=false->∀ s∈n.2,s.length<=20) ?_ fun y hy=>?_
    ·have:=h4 n hn.1;exact aa (rZ _ (by omega)) fun c hc=>ah (fun _=>ae (fun h=>by cases h)) fun e5=>aa (BT _ _ (by omega) (by omega)) fun _ _=>ae fun _=>hc (by simpa using e5)
    ·unfold bM.j1;refine ah (fun _=>ae rfl) fun e6=>aa (bD (by omega) (by omega)) fun j hj=>ae ⟨?_,?_⟩
     ·show j=_;omega
     ·have h5:=hn.2;rw[Int.toNat_natCast,hx] at h5;rw[Option.some.inj h5];exact hy e6
   ·unfold bM.b2;exact ah (fun h2=>absurd (eT h2) (by omega)) fun _=>ae hall
  ·cases x with
   | inl u =>
    have hx:∀ f∈r.2.2.2.2.1,∀ s∈f.2,s.length<=20:=hx;show Has (bM.j2 r ns) _;unfold bM.j2;refine aa (GI _ ns (by omega) (by omega) fun n hn=>?_) fun c hc=>ah (fun _=>ae (fun h=>by cases h)) fun e7=>aa (iB (Q:=lx) (Ju _) trivial) fun _ _=>ae fun _=>⟨b1,b2,by rw[← hns]; exact hc e7,by rw[← hns]; exact b3,hx,b4⟩;have:=h2 n hn;omega
   | inr c =>
    have hc:c=false:=hx;subst hc;exact ae (fun h=>by cases h)
end Go.Proofs.YtkpefpjpadahiaaGreatDoor
namespace Go.Proofs.YtkpefpjpadahiaaGreatDoor
open Go.Lad
def isKey (n:Int):Bool:=decide (0<=n/\n<200)
theorem Ol (n:Int):lP n=some (isKey n):=by
 unfold lP isKey;simp only[iv,dP,zy];by_cases h:0<=n
 ·rw[if_pos h]; congr 1; rw[decide_eq_decide]; omega
 ·rw[if_neg h,decide_eq_false (by omega)]
abbrev RM:Type:=List (ew×Int)
structure Ring (E:List ew) (M:RM):Prop where
 look:∀ e,cM M e=(pos E e).map fun i=>(i:Int)
 nd:E.Nodup
 keys:∀ e∈E,isKey e.1=true
def sd (E:List ew) (e:ew):List ew:=if isKey e.1=true/\e∉E then E++[e] else E
def E8 (E:List ew) (M:RM) (e:ew):RM:=if isKey e.1=true/\e∉E then gv M e (E.length:Int) else M
def tR (E:List ew) (e:ew):da:=if isKey e.1=true then (e.1,e.2,(((pos E e).getD E.length:Nat):Int)) else (0,[],0)
theorem Jw:Ring [] []:=⟨fun e=>rfl,List.nodup_nil,fun e he=>by cases he⟩
theorem yr {E:List ew} {M:RM} (h:Ring E M) (e:ew):Ring (sd E e) (E8 E M e):=by
 unfold sd E8;by_cases hc:isKey e.1=true/\e∉E
 ·rw[if_pos hc,if_pos hc];refine⟨fun x=>?_,?_,fun x hx=>?_⟩
  ·rw[BH,h.look,kZ];by_cases hx:x=e
   ·subst hx;rw[if_pos rfl,jI.2 hc.2];simp [pos]
   ·rw[if_neg hx];cases hp:pos E x with
    | some i=>rfl
    | none =>
     have:pos [e] x=none:=jI.2 (by simp [hx]);rw[this]; rfl
  ·rw[List.nodup_append];exact⟨h.nd,by simp,fun a ha b hb=>by rw[List.mem_singleton.1 hb]; intro he; exact hc.2 (he ▸ ha)⟩
  ·rcases List.mem_append.1 hx with hx | hx
   ·exact h.keys x hx
   ·rw[List.mem_singleton.1 hx]; exact hc.1
 ·rw[if_neg hc,if_neg hc]; exact h
theorem GK (E:List ew) (e:ew):E.length<=(sd E e).length/\(sd E e).length<=E.length+1:=by
 unfold sd;split <;> simp
theorem sign_eq {E:List ew} {M:RM} (h:Ring E M) (hl:E.length<=1000) (k:Int) (t:Bs):di k t E M=some (tR E (k,t),sd E (k,t),E8 E M (k,t)):=by
 unfold di tR sd E8;rw[Ol,aA,E1,h.look];cases hk:isKey k with
 | false=>simp
 | true =>
  rw[cond_true,E1];cases hp:pos E (k,t) with
  | some i =>
   have hm:(k,t)∈E:=List.mem_of_getElem? (ig hp).1;simp [hm]
  | none =>
   have hm:(k,t)∉E:=jI.1 hp;rw[tg (by simp; omega),aA];simp [hm]
theorem Jx {E:List ew} {M:RM} (h:Ring E M) {s:da} {i:Nat} (hp:pos E (s.1,s.2.1)=some i) (hs:s.2.2=(i:Int)):bK s E M=some true:=by
 unfold bK;rw[h.look,hp,fE];simp [hs]
theorem GL {E:List ew} {e:ew} (hk:isKey e.1=true):∃ i:Nat,pos (sd E e) ((tR E e).1,(tR E e).2.1)=some i/\(tR E e).2.2=(i:Int):=by
 unfold tR sd;rw[if_pos hk];dsimp only;cases hp:pos E e with
 | some i =>
  have hm:e∈E:=List.mem_of_getElem? (ig hp).1;rw[if_neg (fun h=>h.2 hm)];exact⟨i,hp,rfl⟩
 | none =>
  have hm:e∉E:=jI.1 hp;rw[if_pos ⟨hk,hm⟩];refine⟨E.length,?_,rfl⟩;rw[show (e.1,e.2)=e from rfl,kZ,hp];simp [pos]
end Go.Proofs.YtkpefpjpadahiaaGreatDoor
