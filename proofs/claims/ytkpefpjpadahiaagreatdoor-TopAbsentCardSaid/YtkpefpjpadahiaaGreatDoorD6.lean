import Derived.Test.YtkpefpjpadahiaaGreatDoorD5
namespace Go.Lad
set_option linter.unusedVariables false
set_option linter.unusedSimpArgs false
open Go.RowKit
structure FS.le (f g:FS):Prop where
 m:∀ x∈f.m,x∈g.m
 lM:∀ x∈f.lM,x∈g.lM
 frz:∀ x∈f.frz,x∈g.frz
theorem FS.le_refl (f:FS):f.le f:=⟨fun _ h=>h,fun _ h=>h,fun _ h=>h⟩
theorem FS.le_trans {f g h:FS} (a:f.le g) (b:g.le h):f.le h:=⟨fun x hx=>b.m x (a.m x hx),fun x hx=>b.lM x (a.lM x hx),fun x hx=>b.frz x (a.frz x hx)⟩
structure Bf (σ:Ren) (hps:List (Nat×df)) (F:FS):Prop where
 nd:σ.nodup
 m:∀ x∈F.m,x∈σ.m/\aq hps x.2≠none
 frz:∀ o∈F.frz,o∉σ.m.map (·.1)/\σ.may o
 lM:∀ o∈F.lM,o∉σ.m.map (·.2)/\aq hps o≠none/\σ.low o
theorem Bg:∀ (l:List (Nat×Nat)) (a b:Nat),Dj l a b=true↔(a,b)∈l
 | [],a,b=>by simp [Dj]
 | x::l,a,b=>by
  unfold Dj;rw[eU,eU];by_cases h:a=x.1/\b=x.2
  ·have:(decide (a=x.1) && decide (b=x.2))=true:=by simp [h]
   rw[this];simp only[cond_true,true_iff];exact List.mem_cons.2 (.inl (by cases x; simp_all))
  ·have:(decide (a=x.1) && decide (b=x.2))=false:=by rw[Bool.eq_false_iff]; simpa using h
   rw[this,cond_false,Bg l a b,List.mem_cons];constructor
   ·exact .inr
   ·rintro (h2 | h2)
    ·exact absurd ⟨congrArg (·.1) h2,congrArg (·.2) h2⟩ h
    ·exact h2
theorem qT (f:FS) (o o2:Nat):f.le (f.ren o o2):=by
 unfold FS.ren;cases Dj f.m o o2 with
 | true=>exact FS.le_refl f
 | false=>exact⟨fun x hx=>List.mem_cons_of_mem _ hx,fun _ h=>h,fun _ h=>h⟩
theorem oy (f:FS) (o o2:Nat):(o,o2)∈(f.ren o o2).m:=by
 unfold FS.ren;cases h:Dj f.m o o2 with
 | true=>exact (Bg _ _ _).1 h
 | false=>exact List.mem_cons_self
theorem cG:∀ (l:List Nat) (a:Nat),cr l a=true↔a∈l
 | [],a=>by simp [cr]
 | x::l,a=>by
  unfold cr;rw[eU,List.mem_cons];by_cases h:a=x
  ·simp [h]
  ·simp [h,cG l a]
theorem zn {t t':Ty} (e:t'=t) (x:t'.den) (ds:List Dyn):mkL (.d t) (⟨t',x⟩::ds)=(.v t (lf e x),ds):=by
 subst e;have:∃ h,Ty.same t' t'=some h:=by
  have key:∀ t:Ty,∃ h,Ty.same t t=some h:=by
   intro t;induction t with
   | any=>exact⟨_,rfl⟩
   | int k=>unfold Ty.same IntKind.same; rw[dif_pos rfl]; exact⟨_,rfl⟩
   | bool=>exact⟨_,rfl⟩
   | str=>exact⟨_,rfl⟩
   | sl e ih=>obtain⟨h,ih⟩:=ih; unfold Ty.same; rw[ih]; exact⟨_,rfl⟩
   | pair a b iha ihb=>obtain⟨h,iha⟩:=iha; obtain⟨g,ihb⟩:=ihb; unfold Ty.same; rw[iha,ihb]; exact⟨_,rfl⟩
   | map k e ih=>obtain⟨h,ih⟩:=ih; unfold Ty.same IntKind.same; rw[dif_pos rfl,ih]; exact⟨_,rfl⟩
   | slu i=>unfold Ty.same; rw[dif_pos rfl]; exact⟨_,rfl⟩
  exact key t'
 obtain⟨h,hs⟩:=this;unfold mkL;simp only[hs]
theorem mK {t:Ty} (x:List t.den):jE t ⟨.sl t,x⟩=x:=by
 unfold jE;have:∃ h,Ty.same (.sl t) (.sl t)=some h:=by
  have key:∀ t:Ty,∃ h,Ty.same t t=some h:=by
   intro t;induction t with
   | any=>exact⟨_,rfl⟩
   | int k=>unfold Ty.same IntKind.same; rw[dif_pos rfl]; exact⟨_,rfl⟩
   | bool=>exact⟨_,rfl⟩
   | str=>exact⟨_,rfl⟩
   | sl e ih=>obtain⟨h,ih⟩:=ih; unfold Ty.same; rw[ih]; exact⟨_,rfl⟩
   | pair a b iha ihb=>obtain⟨h,iha⟩:=iha; obtain⟨g,ihb⟩:=ihb; unfold Ty.same; rw[iha,ihb]; exact⟨_,rfl⟩
   | map k e ih=>obtain⟨h,ih⟩:=ih; unfold Ty.same IntKind.same; rw[dif_pos rfl,ih]; exact⟨_,rfl⟩
   | slu i=>unfold Ty.same; rw[dif_pos rfl]; exact⟨_,rfl⟩
  exact key _
 obtain⟨h,hs⟩:=this;simp only[hs];rfl
theorem Lk {k:IntKind} {t:Ty} (x:List (Int×List t.den)):IC k t ⟨.map k t,x⟩=x:=by
 have h9:=zn (t := .map k t) rfl (show (Ty.map k t).den from x) [];unfold mkL at h9;unfold IC;dsimp only at h9 ⊢;cases hs:Ty.same (.map k t) (.map k t) with
 | none=>rw[hs] at h9; simp at h9
 | some g=>rfl
section
variable {ρ:Type} {fx cur:TSt} {r:ρ} {σ:Ren} {hps:List (Nat×df)}
theorem lN (t:Ty) (x:t.den) (s:St):nu σ s hps (TL.v t x).un (TL.v t x).un:=by
 cases t <;> first | rfl | (show nu σ s hps (match enc _ x with | [p]=>aJ.p p | _=>.dead) (match enc _ x with | [p]=>aJ.p p | _=>.dead); split <;> first | rfl | trivial)
theorem sX:∀ (xs ys:List Nat) (f g:FS),vV xs ys f=some g->f.le g/\∀ F,g.le F->Bf σ hps F->pM σ hps xs ys
 | [],[],f,g,h=>by
  simp only[vV,Option.some.injEq] at h;subst h;exact⟨FS.le_refl f,fun _ _ _=>trivial⟩
 | x::xs,y::ys,f,g,h=>by
  unfold vV at h;obtain⟨h1,h2⟩:=sX xs ys _ g h;refine⟨FS.le_trans (qT f x y) h1,fun F hF hf=>⟨?_,h2 F hF hf⟩⟩;have:=hf.m _ (hF.m _ (h1.m _ (oy f x y)));exact this
 | [],_::_,f,g,h=>by cases h
 | _::_,[],f,g,h=>by cases h
def Gk (σ:Ren) (ρ':List (Nat×Nat)):Prop := ∀ o o2,(o,o2)∈σ.m->rnT ρ' o2=o
theorem x6 {ρ':List (Nat×Nat)} (hb:Gk σ ρ'):∀ (xs ys:List Nat),pM σ hps xs ys->ys.map (rnT ρ')=xs
 | [],[],_=>rfl
 | x::xs,y::ys,h=>by rw[List.map_cons,hb x y h.1.1,x6 hb xs ys h.2]
 | [],_::_,h=>h.elim
 | _::_,[],h=>h.elim
def Fits {α β γ:Type} (mk:List Dyn->α×List Dyn) (rel:Ren->List (Nat×df)->α->Prop) (f:FS) (k:KF ρ) (r:ρ):Prop :=
 ∃ f' ds y,k f' ds=some r/\f.le f'/\(∀ es,mk (ds++es)=(y,es))/\∀ σ hps F,f'.le F->Bf σ hps F->rel σ hps y
theorem sY {σ:Ren} {s:St} {hps:List (Nat×df)}:∀ {a b c d:List aJ},kz σ s hps a b->kz σ s hps c d->kz σ s hps (a++c) (b++d)
 | [],[],_,_,_,h=>h
 | _::_,_::_,_,_,h,g=>⟨h.1,sY h.2 g⟩
 | [],_::_,_,_,h,_=>h.elim
 | _::_,[],_,_,h,_=>h.elim
theorem wk {σ:Ren} {s:St}:∀ {a c:List aJ} {b d:List PV},kJ σ s a b->kJ σ s c d->kJ σ s (a++c) (b++d)
 | [],_,[],_,_,h=>h
 | _::_,_,_::_,_,h,g=>⟨h.1,wk h.2 g⟩
 | [],_,_::_,_,h,_=>h.elim
 | _::_,_,[],_,h,_=>h.elim
theorem Bh {t:Ty} {l:TL} {f:FS} {k:t.den->FS->Option ρ} (h:AZ fx cur t l f k=some r):∃ x f',k x f'=some r/\f.le f'/\∀ σ hps F,f'.le F->Bf σ hps F->nu σ (un2 fx cur) hps l.un (TL.v t x).un/\∀ p,(TL.v t x).un = .p p->ky σ (un2 fx cur) l.un p:=by
 unfold AZ at h;split at h
 ·rename_i t' x;obtain⟨y,h,he⟩:=lg h;have hu:=pw he;refine⟨y,_,h,FS.le_refl f,fun σ hps F _ _=>⟨by rw[hu]; exact lN _ _ _,fun p hp=>?_⟩⟩;rw[hu] at hp;rw[show (TL.v t' x).un = .p p from hp];exact (rfl:p=p)
 ·obtain⟨y,h,he⟩:=sN h;have hu:(TL.v t y).un = .p (.sl []):=by
   show (match enc t y with | [p]=>aJ.p p | _=>.dead)=_;rw[he]
  refine⟨y,_,h,FS.le_refl f,fun σ hps F _ _=>⟨by rw[hu]; rfl,fun p hp=>?_⟩⟩;rw[hu] at hp;injection hp with hp
  subst hp;exact (rfl:([]:List (List PV))=[])
 ·rename_i o;split at h
  ·rename_i e t' l ho;obtain⟨y,h,he⟩:=lg h;have hu:(TL.v t y).un = .p (.sl (l.map (enc t'))):=pw he;refine⟨_,_,h,⟨fun _ h=>h,fun _ h=>h,fun _ h=>List.mem_cons_of_mem _ h⟩,fun σ hps F hF hf=>?_⟩;have h1:=hf.frz o (hF.frz o List.mem_cons_self);have h2:(match (un2 fx cur).hp o with | some (.arr _ _ l2)=>l2=l.map (enc t') | _=>False)/\o∉σ.m.map (·.1)/\σ.may o:=⟨by rw[dA ho]; rfl,h1.1,h1.2⟩;rw[hu];refine⟨⟨by rw[dA ho]; rfl,h1.1,h1.2⟩,fun p hp=>?_⟩;injection hp with hp
   subst hp;exact h2
  ·cases h
 ·rename_i o;split at h
  ·rename_i kd e t' m ho;obtain⟨et,h⟩:=gm h;subst et;refine⟨_,_,h,⟨fun _ h=>h,fun _ h=>h,fun _ h=>List.mem_cons_of_mem _ h⟩,fun σ hps F hF hf=>?_⟩;have h1:=hf.frz o (hF.frz o List.mem_cons_self);have h2:ky σ (un2 fx cur) (.mp o) (.mp kd (OS (List.map (enc t')) m)):=⟨by rw[dA ho]; exact⟨rfl,rfl⟩,h1.1,h1.2⟩;refine⟨h2,fun p hp=>?_⟩;injection hp with hp
   subst hp;exact h2
  ·cases h
 ·cases h
theorem Bi (t:Ty):uq t=ox t:=by cases t <;> rfl
theorem ED {te:Ty} (ht:ox te=true):∀ (cs:List TL) (f:FS) (k:List te.den->FS->Option ρ),KZ fx cur te cs f k=some r->∃ l f',k l f'=some r/\f.le f'/\∀ σ hps F,f'.le F->Bf σ hps F->vb σ (un2 fx cur) (cs.map TL.un) (l.map (enc te))
 | [],f,k,h=>⟨[],f,h,FS.le_refl f,fun _ _ _ _ _=>trivial⟩
 | x::cs,f,k,h=>by
  unfold KZ at h;obtain⟨y,f1,h1,l1,e1⟩:=Bh h;obtain⟨l,f2,h2,l2,e2⟩:=ED ht cs f1 _ h1;refine⟨y::l,f2,h2,FS.le_trans l1 l2,fun σ hps F hF hf=>⟨?_,e2 σ hps F hF hf⟩⟩;obtain⟨p,hp1,hp2⟩:=px ht y;show (match enc te y with | [p]=>ky σ (un2 fx cur) x.un p | _=>False);rw[hp1];exact (e1 σ hps F (FS.le_trans l2 hF) hf).2 p hp2
theorem lj {t:Ty} (ht:ox t=true) {l:TL} {ls:List TL} {f:FS} {k:t.den->FS->List TL->Option ρ} (h:AZ fx cur t l f (fun x f=>k x f ls)=some r):∃ x f' rest,k x f' rest=some r/\f.le f'/\∃ pre,l::ls=pre++rest/\∀ σ hps F,f'.le F->Bf σ hps F->kz σ (un2 fx cur) hps (pre.map TL.un) ((dR t x).map TL.un)/\kJ σ (un2 fx cur) (pre.map TL.un) (enc t x):=by
 obtain⟨x,f',h2,l2,e⟩:=Bh h;obtain⟨p,hp,hu⟩:=px ht x;have hl:(dR t x).map TL.un=[(TL.v t x).un]:=by
  cases t <;> first | (cases ht; done) | exact congrArg (fun a=>[a]) (pw (pQ _ _)) | rfl
 refine⟨x,f',ls,h2,l2,[l],rfl,fun σ hps F hF hf=>⟨?_,?_⟩⟩
 ·rw[hl]; exact⟨(e σ hps F hF hf).1,trivial⟩
 ·rw[hp]; exact⟨(e σ hps F hF hf).2 p hu,trivial⟩
theorem rL:∀ (t:Ty) (ls:List TL) (f:FS) (k:t.den->FS->List TL->Option ρ),xV fx cur t ls f k=some r->∃ x f' rest,k x f' rest=some r/\f.le f'/\∃ pre,ls=pre++rest/\∀ σ hps F,f'.le F->Bf σ hps F->kz σ (un2 fx cur) hps (pre.map TL.un) ((dR t x).map TL.un)/\kJ σ (un2 fx cur) (pre.map TL.un) (enc t x)
 | .pair a b,ls,f,k,h=>by
  unfold xV at h;obtain⟨x,f1,r1,h1,l1,p1,rfl,e1⟩:=rL a ls f _ h;obtain⟨y,f2,r2,h2,l2,p2,rfl,e2⟩:=rL b r1 f1 _ h1;refine⟨(x,y),f2,r2,h2,FS.le_trans l1 l2,p1++p2,by rw[List.append_assoc],fun σ hps F hF hf=>⟨?_,?_⟩⟩
  ·show kz σ _ hps ((p1++p2).map TL.un) ((dR a x++dR b y).map TL.un);rw[List.map_append,List.map_append];exact sY (e1 σ hps F (FS.le_trans l2 hF) hf).1 (e2 σ hps F hF hf).1
  ·show kJ σ _ ((p1++p2).map TL.un) (enc a x++enc b y);rw[List.map_append];exact wk (e1 σ hps F (FS.le_trans l2 hF) hf).2 (e2 σ hps F hF hf).2
 | .any,[],f,k,h=>by cases h
 | .int kd,[],f,k,h=>by cases h
 | .bool,[],f,k,h=>by cases h
 | .str,[],f,k,h=>by cases h
 | .sl e,[],f,k,h=>by cases h
 | .map kd e,[],f,k,h=>by cases h
 | .slu i,[],f,k,h=>by cases h
 | .any,l::ls,f,k,h=>lj (t := .any) rfl h
 | .int kd,l::ls,f,k,h=>lj (t := .int kd) rfl h
 | .bool,l::ls,f,k,h=>lj (t := .bool) rfl h
 | .str,l::ls,f,k,h=>lj (t := .str) rfl h
 | .sl e,l::ls,f,k,h=>lj (t := .sl e) rfl h
 | .map kd e,l::ls,f,k,h=>lj (t := .map kd e) rfl h
 | .slu i,l::ls,f,k,h=>lj (t := .slu i) rfl h
theorem MX {t:Ty} (x:t.den) (ds:List Dyn):mkL (.ip t) (⟨t,x⟩::ds)=(.ip t x 0,ds):=by
 have h:=zn (t:=t) rfl x ds;unfold mkL at h ⊢;dsimp only at h ⊢;cases hs:Ty.same t t with
 | none=>rw[hs] at h; simp at h
 | some g=>rfl
theorem EE {sh:LSh} {x:TL} {f:FS} {k:KF ρ} (h:K0 fx cur sh x f k=some r):Fits (β:=Unit) (γ:=Unit) (mkL sh) (fun σ hps y=>nu σ (un2 fx cur) hps x.un y.un/\(kc [sh] [x]=true->∀ ρ',Gk σ ρ'->ue ρ' y=x)) f k r:=by
 unfold K0 at h;split at h
 ·exact⟨f,[],.dead,h,FS.le_refl f,fun _=>rfl,fun _ _ _ _ _=>⟨by cases x <;> first | trivial | (show nu _ _ _ _ .dead; unfold nu; split <;> first | trivial | simp_all),fun he=>by cases he⟩⟩
 ·rename_i t;split at h
  ·rename_i t' x;obtain⟨e,h⟩:=gm h;subst e;exact⟨f,_,.v t' x,h,FS.le_refl f,fun es=>zn rfl x es,fun _ _ _ _ _=>⟨lN _ _ _,fun _ _ _=>rfl⟩⟩
  ·split at h
   ·rename_i e;exact⟨f,_,.v (.sl e) ([]:List e.den),h,FS.le_refl f,fun es=>zn (t := .sl e) rfl ([]:List e.den) es,fun _ _ _ _ _=>⟨rfl,fun he=>by cases he⟩⟩
   ·cases h
  ·rename_i t' l;obtain⟨et,h⟩:=gm h;subst et;exact⟨f,_,.v (.sl t') l,h,FS.le_refl f,fun es=>zn (t := .sl t') rfl l es,fun _ _ _ _ _=>⟨rfl,fun he=>by cases he⟩⟩
  ·rename_i o;split at h
   ·rename_i e t' l ho;obtain⟨et,h⟩:=gm h;subst et;refine⟨_,_,.v (.sl t') l,h,⟨fun _ h=>h,fun _ h=>h,fun _ h=>List.mem_cons_of_mem _ h⟩,fun es=>zn (t := .sl t') rfl l es,fun σ hps F hF hf=>⟨?_,fun he=>by cases he⟩⟩;have h1:=hf.frz o (hF.frz o List.mem_cons_self);refine⟨?_,h1.1,h1.2⟩;rw[dA ho]; rfl
   ·rename_i e cs ho;unfold ID at h;split at h
    ·rename_i te;obtain⟨hlf,h⟩:=aG h;rw[Bi] at hlf;obtain⟨l,f1,h1,l1,e1⟩:=ED hlf cs _ _ h;refine⟨_,_,.v (.sl te) l,h1,FS.le_trans l1 ⟨fun _ h=>h,fun _ h=>h,fun _ h=>List.mem_cons_of_mem _ h⟩,fun es=>zn (t := .sl te) rfl l es,fun σ hps F hF hf=>⟨?_,fun he=>by cases he⟩⟩;have h5:=hf.frz o (hF.frz o List.mem_cons_self);have hF1:f1.le F:=⟨hF.m,hF.lM,fun y hy=>hF.frz y (List.mem_cons_of_mem _ hy)⟩;refine⟨?_,h5.1,h5.2⟩;rw[dA ho];exact e1 σ hps F hF1 hf
    ·cases h
   ·cases h
  ·rename_i o a b z;split at h
   ·rename_i e t' l ho;obtain⟨hc,h⟩:=aG h;rw[Bool.and_eq_true,eU,il,decide_eq_true_eq,decide_eq_true_eq] at hc;obtain⟨m,hm,h⟩:=bind_some h;obtain⟨c1,c2,c3,c4,c5⟩:=nE hm;obtain⟨et,h⟩:=gm h;subst et;refine⟨_,_,.v (.sl t') m,h,⟨fun _ h=>h,fun _ h=>h,fun _ h=>List.mem_cons_of_mem _ h⟩,fun es=>zn (t := .sl t') rfl m es,fun σ hps F hF hf=>⟨?_,fun he=>by cases he⟩⟩;have h1:=hf.frz o (hF.frz o List.mem_cons_self);refine⟨by omega,?_,h1.1,h1.2⟩;rw[dA ho];exact⟨hc.1,by simpa using c5,by rw[← c1,List.map_drop,List.map_take]⟩
   ·cases h
  ·cases h
 ·split at h
  ·exact⟨f,[],.nil,h,FS.le_refl f,fun _=>rfl,fun _ _ _ _ _=>⟨trivial,fun _ _ _=>rfl⟩⟩
  ·cases h
 ·rename_i o2;split at h
  ·rename_i o;refine⟨_,[],.own o2,h,qT f o o2,fun _=>rfl,fun σ hps F hF hf=>?_⟩;have hm:=hf.m _ (hF.m _ (oy f o o2));exact⟨hm,fun _ ρ' hb=>by show TL.own (rnT ρ' o2)=_; rw[hb o o2 hm.1]⟩
  ·refine⟨_,[],.own o2,h,⟨fun _ h=>h,fun _ h=>List.mem_cons_of_mem _ h,fun _ h=>h⟩,fun _=>rfl,fun σ hps F hF hf=>⟨?_,fun he=>by cases he⟩⟩;exact hf.lM o2 (hF.lM o2 List.mem_cons_self)
  ·cases h
 ·rename_i o2 off2;split at h
  ·rename_i o off;obtain⟨hc,h⟩:=aG h;rw[eU,decide_eq_true_eq] at hc;refine⟨_,[],.loc o2 off2,h,qT f o o2,fun _=>rfl,fun σ hps F hF hf=>?_⟩;have hm:=hf.m _ (hF.m _ (oy f o o2));exact⟨⟨hm,hc⟩,fun _ ρ' hb=>by show TL.loc (rnT ρ' o2) off2=_; rw[hb o o2 hm.1,hc]⟩
  ·cases h
 ·rename_i o2;split at h
  ·rename_i o;refine⟨_,[],.mp o2,h,qT f o o2,fun _=>rfl,fun σ hps F hF hf=>?_⟩;have hm:=hf.m _ (hF.m _ (oy f o o2));exact⟨hm,fun _ ρ' hb=>by show TL.mp (rnT ρ' o2)=_; rw[hb o o2 hm.1]⟩
  ·cases h
 ·rename_i g2 caps2;split at h
  ·rename_i g caps;obtain⟨hc,h⟩:=aG h;rw[eU,decide_eq_true_eq] at hc;split at h
   ·rename_i f' hr;refine⟨f',[],.fn g2 caps2,h,(sX (σ:=⟨[],none,true⟩) (hps:=[]) _ _ _ _ hr).1,fun _=>rfl,fun σ hps F hF hf=>?_⟩;have hcs:=(sX _ _ _ _ hr).2 F hF hf;exact⟨⟨hc,hcs⟩,fun _ ρ' hb=>by show TL.fn g2 (caps2.map (rnT ρ'))=_; rw[x6 hb _ _ hcs,hc]⟩
   ·cases h
  ·cases h
 ·split at h
  ·exact⟨f,[],.oth (.pointer none),h,FS.le_refl f,fun _=>rfl,fun _ _ _ _ _=>⟨rfl,fun _ _ _=>rfl⟩⟩
  ·cases h
 ·split at h
  ·exact⟨f,[],.oth (.map none),h,FS.le_refl f,fun _=>rfl,fun _ _ _ _ _=>⟨rfl,fun _ _ _=>rfl⟩⟩
  ·cases h
 ·rename_i b;split at h
  ·rename_i c;obtain⟨hc,hk⟩:=aG h;have hb:c=b:=by cases b <;> cases c <;> first | rfl | cases hc
   subst hb;exact⟨f,[],.v .bool c,hk,FS.le_refl f,fun _=>rfl,fun _ _ _ _ _=>⟨lN _ _ _,fun he=>by cases he⟩⟩
  ·cases h
 ·rename_i t;split at h
  ·rename_i o off;obtain⟨hc,h⟩:=aG h;rw[eU,decide_eq_true_eq] at hc;split at h
   ·rename_i bt xs ho;obtain⟨x,f1,rest,h1,l1,pre,hp,e1⟩:=rL _ _ _ _ h;split at h1
    ·rw[List.append_nil] at hp;subst hp;refine⟨_,_,.ip t x 0,h1,FS.le_trans l1 ⟨fun _ h=>h,fun _ h=>h,fun _ h=>List.mem_cons_of_mem _ h⟩,fun es=>MX x es,fun σ hps F hF hf=>⟨?_,fun he=>by cases he⟩⟩;have h5:=hf.frz o (hF.frz o List.mem_cons_self);have hF1:f1.le F:=⟨hF.m,hF.lM,fun y hy=>hF.frz y (List.mem_cons_of_mem _ hy)⟩;refine⟨hc,?_,h5.1,h5.2⟩;rw[dA ho];exact (e1 σ hps F hF1 hf).2
    ·cases h1
   ·cases h
  ·rename_i t' x off;obtain⟨hc,h⟩:=aG h;rw[eU,decide_eq_true_eq] at hc;obtain⟨et,h⟩:=gm h;subst et;exact⟨f,_,.ip t' x 0,h,FS.le_refl f,fun es=>MX x es,fun _ _ _ _ _=>⟨⟨rfl,hc⟩,fun he=>by cases he⟩⟩
  ·cases h
 ·rename_i o2;split at h
  ·rename_i o n;obtain⟨hc,h⟩:=aG h;rw[fE,decide_eq_true_eq] at hc;subst hc;refine⟨_,[],.el o2 0 0 1,h,qT f o o2,fun _=>rfl,fun σ hps F hF hf=>?_⟩;have hm:=hf.m _ (hF.m _ (oy f o o2));exact⟨⟨hm,rfl,rfl,rfl⟩,fun _ ρ' hb=>by show TL.el (rnT ρ' o2) 0 0 1=_; rw[hb o o2 hm.1]⟩
  ·cases h
 ·split at h
  ·exact⟨f,[],.oth .nilIface,h,FS.le_refl f,fun _=>rfl,fun _ _ _ _ _=>⟨rfl,fun _ _ _=>rfl⟩⟩
  ·cases h
 ·rename_i o2;split at h
  ·rename_i o;refine⟨_,[],.ps o2,h,qT f o o2,fun _=>rfl,fun σ hps F hF hf=>?_⟩;have hm:=hf.m _ (hF.m _ (oy f o o2));exact⟨hm,fun _ ρ' hb=>by show TL.ps (rnT ρ' o2)=_; rw[hb o o2 hm.1]⟩
  ·rename_i o off;obtain⟨hc,h⟩:=aG h;rw[eU,decide_eq_true_eq] at hc;refine⟨_,[],.ps o2,h,qT f o o2,fun _=>rfl,fun σ hps F hF hf=>?_⟩;have hm:=hf.m _ (hF.m _ (oy f o o2));exact⟨⟨hm,hc⟩,fun he=>by cases he⟩
  ·obtain⟨hc,h⟩:=aG h;obtain⟨p,hp,he⟩:=List.mem_map.1 ((cG _ _).1 hc);refine⟨f,[],.ps o2,h,FS.le_refl f,fun _=>rfl,fun σ hps F hF hf=>?_⟩;have hm:=hf.m _ (hF.m p hp);exact⟨by rw[← he]; exact hm.2,fun he=>by cases he⟩
  ·cases h
theorem Bj {s:LSh} {x:TL} {ss:List LSh} {xs:List TL} (h:kc (s::ss) (x::xs)=true):kc [s] [x]=true/\kc ss xs=true:=by
 cases s <;> cases x <;> first | (cases h; done) | exact⟨rfl,h⟩
theorem wm:∀ {ss:List LSh} {xs:List TL} {f:FS} {k:KF ρ},A0 fx cur ss xs f k=some r->Fits (β:=Unit) (γ:=Unit) (qP ss) (fun σ hps ys=>kz σ (un2 fx cur) hps (xs.map TL.un) (ys.map TL.un)/\(kc ss xs=true->∀ ρ',Gk σ ρ'->ys.map (ue ρ')=xs)) f k r
 | [],[],f,k,h=>⟨f,[],[],h,FS.le_refl f,fun _=>rfl,fun _ _ _ _ _=>⟨trivial,fun _ _ _=>rfl⟩⟩
 | s::ss,x::xs,f,k,h=>by
  unfold A0 at h;obtain⟨f1,ds,y,h1,l1,m1,r1⟩:=EE h;obtain⟨f2,es,ys,h2,l2,m2,r2⟩:=wm h1;refine⟨f2,ds++es,y::ys,h2,FS.le_trans l1 l2,fun gs=>?_,fun σ hps F hF hf=>⟨⟨(r1 σ hps F (FS.le_trans l2 hF) hf).1,(r2 σ hps F hF hf).1⟩,fun he ρ' hb=>?_⟩⟩
  rotate_left
  ·obtain⟨e1,e2⟩:=Bj he;rw[List.map_cons,(r1 σ hps F (FS.le_trans l2 hF) hf).2 e1 ρ' hb,(r2 σ hps F hF hf).2 e2 ρ' hb]
  show (match mkL s (ds++es++gs) with | (y,ds)=>match qP ss ds with | (l,ds)=>(y::l,ds))=_;rw[List.append_assoc,m1];dsimp only;rw[m2]
 | [],_::_,f,k,h=>by cases h
 | _::_,[],f,k,h=>by cases h
theorem PN {t:Ty} (x:t.den) (ds:List Dyn):mkC (.a t) (⟨t,x⟩::ds)=(.g (dR t x),ds):=by
 have h:=zn (t:=t) rfl x ds;unfold mkL at h;unfold mkC;dsimp only at h ⊢;cases hs:Ty.same t t with
 | none=>rw[hs] at h; simp only[Prod.mk.injEq] at h; exact absurd h.1 (by simp)
 | some g=>rfl
theorem EF {s:CSh} {x:TC} {f:FS} {k:KF ρ} (h:K1 fx cur s x f k=some r):Fits (β:=Unit) (γ:=Unit) (mkC s) (fun σ hps y=>sF σ (un2 fx cur) hps x.un y.un) f k r:=by
 unfold K1 at h;split at h
 ·obtain⟨x,f1,rest,h1,l1,pre,hp,e1⟩:=rL _ _ _ _ h;split at h1
  ·rw[List.append_nil] at hp;subst hp;exact⟨f1,_,.g (dR _ x),h1,l1,fun es=>PN x es,fun σ hps F hF hf=>(e1 σ hps F hF hf).1⟩
  ·cases h1
 ·obtain⟨f1,ds,y,h1,l1,m1,r1⟩:=EE h;refine⟨f1,ds,.v y,h1,l1,fun es=>?_,fun σ hps F hF hf=>(r1 σ hps F hF hf).1⟩;show (match mkL _ (ds++es) with | (y,ds)=>(TC.v y,ds))=_;rw[m1]
 ·obtain⟨f1,ds,y,h1,l1,m1,r1⟩:=wm h;refine⟨f1,ds,.g y,h1,l1,fun es=>?_,fun σ hps F hF hf=>(r1 σ hps F hF hf).1⟩;show (match qP _ (ds++es) with | (y,ds)=>(TC.g y,ds))=_;rw[m1]
 ·cases h
theorem Bk:∀ {ss:List CSh} {xs:List TC} {f:FS} {k:KF ρ},Et fx cur ss xs f k=some r->Fits (β:=Unit) (γ:=Unit) (kW ss) (fun σ hps ys=>qv σ (un2 fx cur) hps (xs.map TC.un) (ys.map TC.un)) f k r
 | [],[],f,k,h=>⟨f,[],[],h,FS.le_refl f,fun _=>rfl,fun _ _ _ _ _=>trivial⟩
 | s::ss,x::xs,f,k,h=>by
  unfold Et at h;obtain⟨f1,ds,y,h1,l1,m1,r1⟩:=EF h;obtain⟨f2,es,ys,h2,l2,m2,r2⟩:=Bk h1;refine⟨f2,ds++es,y::ys,h2,FS.le_trans l1 l2,fun gs=>?_,fun σ hps F hF hf=>⟨r1 σ hps F (FS.le_trans l2 hF) hf,r2 σ hps F hF hf⟩⟩;show (match mkC s (ds++es++gs) with | (y,ds)=>match kW ss ds with | (l,ds)=>(y::l,ds))=_;rw[List.append_assoc,m1];dsimp only;rw[m2]
 | [],_::_,f,k,h=>by cases h
 | _::_,[],f,k,h=>by cases h
theorem pV {s:St} (x:Slot):o9 σ s hps x .dead:=by
 unfold o9; split <;> first | trivial | simp_all
theorem EG {s:SSh} {x:TSl} {f:FS} {k:KF ρ} (h:K2 fx cur s x f k=some r):Fits (β:=Unit) (γ:=Unit) (xi s) (fun σ hps y=>o9 σ (un2 fx cur) hps x.un y.un) f k r:=by
 unfold K2 at h;split at h
 ·exact⟨f,[],.dead,h,FS.le_refl f,fun _=>rfl,fun _ _ _ _ _=>pV _⟩
 ·split at h
  ·obtain⟨f1,ds,y,h1,l1,m1,r1⟩:=EF h;refine⟨f1,ds,.c y,h1,l1,fun es=>?_,fun σ hps F hF hf=>r1 σ hps F hF hf⟩;show (match mkC _ (ds++es) with | (y,ds)=>(TSl.c y,ds))=_;rw[m1]
  ·cases h
 ·split at h
  ·obtain⟨f1,ds,y,h1,l1,m1,r1⟩:=Bk h;refine⟨f1,ds,.t y,h1,l1,fun es=>?_,fun σ hps F hF hf=>r1 σ hps F hF hf⟩;show (match kW _ (ds++es) with | (y,ds)=>(TSl.t y,ds))=_;rw[m1]
  ·cases h
theorem Bl:∀ {ss:List (Nat×SSh)} {f:FS} {k:KF ρ},Eu fx cur ss f k=some r->Fits (β:=Unit) (γ:=Unit) (F9 ss) (fun σ hps l=>bh l=bh ss/\nj (fun p=>o9 σ (un2 fx cur) hps ((un2 fx cur).tm p.1) p.2) (nH l)) f k r
 | [],f,k,h=>⟨f,[],[],h,FS.le_refl f,fun _=>rfl,fun _ _ _ _ _=>⟨rfl,trivial⟩⟩
 | s::ss,f,k,h=>by
  unfold Eu at h;obtain⟨f1,ds,y,h1,l1,m1,r1⟩:=EG h;obtain⟨f2,es,ys,h2,l2,m2,r2⟩:=Bl h1;refine⟨f2,ds++es,(s.1,y)::ys,h2,FS.le_trans l1 l2,fun gs=>?_,fun σ hps F hF hf=>⟨?_,?_,(r2 σ hps F hF hf).2⟩⟩
  ·show (match xi s.2 (ds++es++gs) with | (y,ds)=>match F9 ss ds with | (l,ds)=>((s.1,y)::l,ds))=_;rw[List.append_assoc,m1];dsimp only;rw[m2]
  ·show s.1::bh ys=s.1::bh ss;rw[(r2 σ hps F hF hf).1]
  ·have:=r1 σ hps F (FS.le_trans l2 hF) hf;rw[pv] at this;dsimp only;rw[iG];exact this
theorem rM:∀ (m:List (Nat×Nat)) (b o:Nat),A1 m b=some o->(o,b)∈m
 | [],b,o,h=>by cases h
 | x::m,b,o,h=>by
  unfold A1 at h;rw[eU] at h;by_cases e:b=x.2
  ·simp only[e,decide_true,cond_true,Option.some.injEq] at h;subst h e;exact List.mem_cons_self
  ·simp only[e,decide_false,cond_false] at h;exact List.mem_cons_of_mem _ (rM m b o h)
theorem Ll {s:OSh} {o:Option cV} {f:FS} {k:KF ρ} (h:NL fx cur s o f k=some r):Fits (β:=Unit) (γ:=Unit) (mkO s) (fun σ hps y=>yL σ (un2 fx cur) hps (o.map cV.un) y.un/\(IG s o=true->∀ ρ',Gk σ ρ'->some (uf ρ' y)=o)) f k r:=by
 unfold NL at h;split at h
 ·split at h
  ·exact⟨f,[],.gone,h,FS.le_refl f,fun _=>rfl,fun _ _ _ _ _=>⟨by show yL _ _ _ _ .gone; unfold yL; split <;> first | trivial | simp_all,fun he=>by cases he⟩⟩
  ·cases h
 ·rename_i t ss;split at h
  ·rename_i t' xs;obtain⟨hc,h⟩:=aG h;rw[eU,decide_eq_true_eq] at hc;obtain⟨f1,ds,y,h1,l1,m1,r1⟩:=wm h;refine⟨f1,ds,.box t y,h1,l1,fun es=>?_,fun σ hps F hF hf=>⟨⟨hc.symm,(r1 σ hps F hF hf).1⟩,fun he ρ' hb=>by show some (cV.box t (y.map (ue ρ')))=_; rw[(r1 σ hps F hF hf).2 he ρ' hb,hc]⟩⟩;show (match qP _ (ds++es) with | (y,ds)=>(cV.box t y,ds))=_;rw[m1]
  ·cases h
 ·rename_i e t;split at h
  ·rename_i e' t' l;obtain⟨hc,h⟩:=aG h;rw[eU,decide_eq_true_eq] at hc;obtain⟨et,h⟩:=mr h;subst et;exact⟨f,_,.arr e t' l,h,FS.le_refl f,fun es=>by show (cV.arr e t' (jE t' ⟨.sl t',l⟩),es)=_; rw[mK],fun σ hps F hF hf=>⟨⟨hc.symm,rfl,rfl⟩,fun _ _ _=>by rw[← hc]; rfl⟩⟩
  ·cases h
 ·rename_i kd agg t;split at h
  ·rename_i kd' agg' t' m;obtain⟨hc,h⟩:=aG h;rw[beq_iff_eq] at hc;obtain⟨et,h⟩:=gm h;have e0:=zk et;injection e0 with e1 e2
   injection e1 with e1
   subst e1 e2;exact⟨f,_,.fO kd' agg t' m,h,FS.le_refl f,fun es=>congrArg (fun l:List (Int×t'.den)=>(cV.fO kd' agg t' l,es)) (mK (t := .pair (.int kd') t') m),fun σ hps F hF hf=>⟨⟨rfl,hc.symm,rfl⟩,fun _ _ _=>by rw[← hc]; rfl⟩⟩
  ·cases h
 ·rename_i agg t;split at h
  ·rename_i agg' t' m;obtain⟨hc,h⟩:=aG h;rw[beq_iff_eq] at hc;obtain⟨et,h⟩:=gm h;have e0:=zk et;injection e0 with e1 e2
   subst e2;exact⟨f,_,.fa agg t' m,h,FS.le_refl f,fun es=>congrArg (fun l:List (Bs×t'.den)=>(cV.fa agg t' l,es)) (mK (t := .pair .str t') m),fun σ hps F hF hf=>⟨⟨hc.symm,rfl⟩,fun _ _ _=>by rw[← hc]; rfl⟩⟩
  ·cases h
 ·rename_i kd e t;split at h
  ·rename_i kd' e' t' m;obtain⟨hc,h⟩:=aG h;rw[eU,decide_eq_true_eq] at hc;obtain⟨et,h⟩:=gm h;injection et with e1 e2
   subst e1 e2;refine⟨f,_,.kV kd' e t' m none,h,FS.le_refl f,fun es=>?_,fun σ hps F hF hf=>⟨⟨rfl,hc.symm,rfl,rfl,rfl⟩,fun _ _ _=>by rw[← hc]; rfl⟩⟩;exact congrArg (fun l:List (Int×List t'.den)=>(cV.kV kd' e t' l none,es)) (Lk m)
  ·cases h
 ·rename_i kd agg t;split at h
  ·rename_i kd' agg' t' m;obtain⟨hc,h⟩:=aG h;rw[beq_iff_eq] at hc;obtain⟨et,h⟩:=gm h;have e0:=zk et;injection e0 with e1 e2
   injection e1 with e1 e3
   injection e1 with e1
   subst e1 e2;exact⟨f,_,.fb kd' agg t' m,h,FS.le_refl f,fun es=>congrArg (fun l:List ((Int×Bs)×t'.den)=>(cV.fb kd' agg t' l,es)) (mK (t := .pair (.pair (.int kd') .str) t') m),fun σ hps F hF hf=>⟨⟨rfl,hc.symm,rfl⟩,fun _ _ _=>by rw[← hc]; rfl⟩⟩
  ·cases h
theorem lk (hσ:σ.nodup) {o o2:Nat} (h:(o,o2)∈σ.m):aq (σ.m.map fun x=>(x.2,x.1)) o2=some o:=(pa hσ h).2
theorem nI:∀ {ss:List (Nat×OSh)} {f:FS} {k:KF ρ},tM fx cur ss f k=some r->Fits (β:=Unit) (γ:=Unit) (mU ss) (fun σ hps l=>bh l=bh ss/\nj (HSub σ (un2 fx cur) hps) (dY l)/\∀ m',(∀ x∈σ.m,x∈m')->(∀ x∈m',x∈σ.m)->pT fx cur m' ss=true->∀ ρ',Gk σ ρ'->∀ x∈l,∃ o,(o,x.1)∈σ.m/\obT fx cur o=some (uf ρ' x.2)) f k r
 | [],f,k,h=>⟨f,[],[],h,FS.le_refl f,fun _=>rfl,fun _ _ _ _ _=>⟨rfl,trivial,fun _ _ _ _ _ _ x hx=>by cases hx⟩⟩
 | s::ss,f,k,h=>by
  unfold tM at h;split at h
  ·rename_i o ho;have hm:=rM _ _ _ ho;obtain⟨f1,ds,y,h1,l1,m1,r1⟩:=Ll h;obtain⟨f2,es,ys,h2,l2,m2,r2⟩:=nI h1;refine⟨f2,ds++es,(s.1,y)::ys,h2,FS.le_trans l1 l2,fun gs=>?_,fun σ hps F hF hf=>⟨?_,⟨?_,(r2 σ hps F hF hf).2.1⟩,fun m' hm1 hm2 he ρ' hb x hx=>?_⟩⟩
   rotate_left 3
   ·unfold pT at he;rw[Bool.and_eq_true] at he;rcases List.mem_cons.1 hx with rfl | hx
    ·refine⟨o,(hf.m _ (hF.m _ (l2.m _ (l1.m _ hm)))).1,?_⟩;have he1:=he.1;split at he1
     ·rename_i o' ho';have h3:=hm2 _ (rM _ _ _ ho');have h4:=(hf.m _ (hF.m _ (l2.m _ (l1.m _ hm)))).1;have h5:=lk hf.nd h3;rw[lk hf.nd h4] at h5;injection h5 with h5
      subst h5;exact ((r1 σ hps F (FS.le_trans l2 hF) hf).2 he1 ρ' hb).symm
     ·cases he1
    ·exact (r2 σ hps F hF hf).2.2 m' hm1 hm2 he.2 ρ' hb x hx
   ·show (match mkO s.2 (ds++es++gs) with | (y,ds)=>match mU ss ds with | (l,ds)=>((s.1,y)::l,ds))=_;rw[List.append_assoc,m1];dsimp only;rw[m2]
   ·show s.1::bh ys=s.1::bh ss;rw[(r2 σ hps F hF hf).1]
   ·show HSub σ (un2 fx cur) hps (s.1,y.un);unfold HSub;rw[lk hf.nd (hf.m _ (hF.m _ (l2.m _ (l1.m _ hm)))).1];have:=(r1 σ hps F (FS.le_trans l2 hF) hf).1;dsimp only;rw[gR]; exact this
  ·rename_i hn;split at h
   ·rename_i e t hs;obtain⟨f2,es,ys,h2,l2,m2,r2⟩:=nI h;refine⟨f2,⟨.sl t,([]:List t.den)⟩::es,(s.1,.arr e t [])::ys,h2,⟨fun x hx=>l2.m x hx,fun x hx=>l2.lM x (List.mem_cons_of_mem _ hx),fun x hx=>l2.frz x hx⟩,fun gs=>?_,fun σ hps F hF hf=>⟨?_,⟨?_,(r2 σ hps F hF hf).2.1⟩,fun m' hm1 hm2 he ρ' hb x hx=>?_⟩⟩
    rotate_left 3
    ·exfalso;unfold pT at he;rw[Bool.and_eq_true] at he;have he1:=he.1;have hnil:=hf.lM s.1 (hF.lM _ (l2.lM _ List.mem_cons_self));split at he1
     ·rename_i o' ho';exact hnil.1 (List.mem_map.2 ⟨_,hm2 _ (rM _ _ _ ho'),rfl⟩)
     ·cases he1
    ·show (match mkO s.2 (⟨.sl t,([]:List t.den)⟩::(es++gs)) with | (y,ds)=>match mU ss ds with | (l,ds)=>((s.1,y)::l,ds))=_;rw[hs];show (match mU ss (es++gs) with | (l,ds)=>((s.1,cV.arr e t (jE t ⟨.sl t,([]:List t.den)⟩))::l,ds))=_;rw[m2,mK]
    ·show s.1::bh ys=s.1::bh ss;rw[(r2 σ hps F hF hf).1]
    ·have hnil:=hf.lM s.1 (hF.lM _ (l2.lM _ List.mem_cons_self));show HSub σ (un2 fx cur) hps (s.1,df.arr e t.cells []);unfold HSub;rw[mA (by rw[List.map_map]; exact hnil.1)];exact .inl ⟨rfl,hnil.2.2⟩
   ·rename_i hs;obtain⟨f2,es,ys,h2,l2,m2,r2⟩:=nI h;refine⟨f2,es,(s.1,.gone)::ys,h2,l2,fun gs=>?_,fun σ hps F hF hf=>⟨?_,⟨?_,(r2 σ hps F hF hf).2.1⟩,fun m' hm1 hm2 he ρ' hb x hx=>?_⟩⟩
    rotate_left 3
    ·exfalso;unfold pT at he;rw[Bool.and_eq_true] at he;have he1:=he.1;rw[hs] at he1;split at he1
     ·rename_i o' _;cases h9:obT fx cur o' with
      | none=>rw[h9] at he1; cases he1
      | some y=>rw[h9] at he1; cases y <;> cases he1
     ·cases he1
    ·show (match mkO s.2 (es++gs) with | (y,ds)=>match mU ss ds with | (l,ds)=>((s.1,y)::l,ds))=_;rw[hs];show (match mU ss (es++gs) with | (l,ds)=>((s.1,cV.gone)::l,ds))=_;rw[m2]
    ·show s.1::bh ys=s.1::bh ss;rw[(r2 σ hps F hF hf).1]
    ·show HSub σ (un2 fx cur) hps (s.1,df.gone);unfold HSub;split
     ·rename_i o _;cases (un2 fx cur).hp o <;> trivial
     ·exact .inr rfl
   ·cases h
theorem wo:∀ {ps:List Ty} {ds:List Dyn} {k:Tup ps->Option ρ},AY ps ds k=some r->∃ x,k x=some r/\kR ps x=ds
 | [],[],k,h=>⟨(),h,rfl⟩
 | [t],[d],k,h=>by
  obtain⟨e,h⟩:=gm (show kP d.t t d.x k=some r from h);cases d with
  | mk t' x =>
   dsimp only at e;subst e;exact⟨_,h,rfl⟩
 | t::u::ps,d::ds,k,h=>by
  obtain⟨e,h⟩:=gm (show kP d.t t d.x (fun x=>AY (u::ps) ds fun y=>k (x,y))=some r from h);obtain⟨y,h,hy⟩:=wo h;cases d with
  | mk t' x =>
   dsimp only at e;subst e;refine⟨_,h,?_⟩;show (⟨t',x⟩:Dyn)::kR (u::ps) y=_;rw[hy]
 | [],_::_,k,h=>by cases h
 | [t],[],k,h=>by cases h
 | [t],_::_::_,k,h=>by cases h
 | _::_::_,[],k,h=>by cases h
end
end Go.Lad
