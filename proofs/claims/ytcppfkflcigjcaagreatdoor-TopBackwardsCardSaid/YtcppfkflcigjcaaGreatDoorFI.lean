import Derived.Test.YtcppfkflcigjcaaGreatDoorFH
set_option linter.unusedVariables false
set_option linter.unusedSimpArgs false
set_option linter.unusedSectionVars false
namespace Go.Lad
open Go.RowKit
structure FS.le (f g:FS):Prop where
 m:∀ x∈f.m,x∈g.m
 nV:∀ x∈f.nV,x∈g.nV
 frz:∀ x∈f.frz,x∈g.frz
theorem FS.le_refl (f:FS):f.le f:=⟨fun _ h=>h,fun _ h=>h,fun _ h=>h⟩
theorem FS.le_trans {f g h:FS} (a:f.le g) (b:g.le h):f.le h:=⟨fun x hx=>b.m x (a.m x hx),fun x hx=>b.nV x (a.nV x hx),fun x hx=>b.frz x (a.frz x hx)⟩
structure Dh (σ:Ren) (hps:List (Nat×cu)) (F:FS):Prop where
 nd:σ.nodup
 m:∀ x∈F.m,x∈σ.m/\ae hps x.2≠none
 frz:∀ o∈F.frz,o∉σ.m.map (·.1)/\σ.may o
 nV:∀ o∈F.nV,o∉σ.m.map (·.2)/\ae hps o≠none/\σ.low o
theorem Di:∀ (l:List (Nat×Nat)) (a b:Nat),Fb l a b=true↔(a,b)∈l
 | [],a,b=>by simp [Fb]
 | x::l,a,b=>by
  unfold Fb;rw[eE,eE];by_cases h:a=x.1/\b=x.2
  ·have:(decide (a=x.1) && decide (b=x.2))=true:=by simp [h]
   rw[this];simp only[cond_true,true_iff];exact List.mem_cons.2 (.inl (by cases x; simp_all))
  ·have:(decide (a=x.1) && decide (b=x.2))=false:=by rw[Bool.eq_false_iff]; simpa using h
   rw[this,cond_false,Di l a b,List.mem_cons];constructor
   ·exact .inr
   ·rintro (h2 | h2)
    ·exact absurd ⟨congrArg (·.1) h2,congrArg (·.2) h2⟩ h
    ·exact h2
theorem tB (f:FS) (o o2:Nat):f.le (f.ren o o2):=by
 unfold FS.ren;cases Fb f.m o o2 with
 | true=>exact FS.le_refl f
 | false=>exact⟨fun x hx=>List.mem_cons_of_mem _ hx,fun _ h=>h,fun _ h=>h⟩
theorem qN (f:FS) (o o2:Nat):(o,o2)∈(f.ren o o2).m:=by
 unfold FS.ren;cases h:Fb f.m o o2 with
 | true=>exact (Di _ _ _).1 h
 | false=>exact List.mem_cons_self
theorem bO:∀ (l:List Nat) (a:Nat),bu l a=true↔a∈l
 | [],a=>by simp [bu]
 | x::l,a=>by
  unfold bu;rw[eE,List.mem_cons];by_cases h:a=x
  ·simp [h]
  ·simp [h,bO l a]
theorem BD {t t':Ty} (e:t'=t) (x:t'.den) (ds:List Dyn):mkL (.d t) (⟨t',x⟩::ds)=(.v t (mZ e x),ds):=by
 subst e;have:∃ h,Ty.same t' t'=some h:=by
  have key:∀ t:Ty,∃ h,Ty.same t t=some h:=by
   intro t;induction t with
   | any=>exact⟨_,rfl⟩
   | int k=>unfold Ty.same IntKind.same; rw[dif_pos rfl]; exact⟨_,rfl⟩
   | bool=>exact⟨_,rfl⟩
   | str=>exact⟨_,rfl⟩
   | sl e ih=>obtain⟨h,ih⟩:=ih; unfold Ty.same; rw[ih]; exact⟨_,rfl⟩
   | pair a b iha ihb=>obtain⟨h,iha⟩:=iha; obtain⟨g,ihb⟩:=ihb; unfold Ty.same; rw[iha,ihb]; exact⟨_,rfl⟩
   | map k e ih=>obtain⟨h,ih⟩:=ih; unfold Ty.same IntKind.same; rw[dif_pos rfl,ih]; exact⟨_,rfl⟩
   | slu i=>unfold Ty.same; rw[dif_pos rfl]; exact⟨_,rfl⟩
  exact key t'
 obtain⟨h,hs⟩:=this;unfold mkL;simp only[hs]
theorem nW {t:Ty} (x:List t.den):kH t ⟨.sl t,x⟩=x:=by
 unfold kH;have:∃ h,Ty.same (.sl t) (.sl t)=some h:=by
  have key:∀ t:Ty,∃ h,Ty.same t t=some h:=by
   intro t;induction t with
   | any=>exact⟨_,rfl⟩
   | int k=>unfold Ty.same IntKind.same; rw[dif_pos rfl]; exact⟨_,rfl⟩
   | bool=>exact⟨_,rfl⟩
   | str=>exact⟨_,rfl⟩
   | sl e ih=>obtain⟨h,ih⟩:=ih; unfold Ty.same; rw[ih]; exact⟨_,rfl⟩
   | pair a b iha ihb=>obtain⟨h,iha⟩:=iha; obtain⟨g,ihb⟩:=ihb; unfold Ty.same; rw[iha,ihb]; exact⟨_,rfl⟩
   | map k e ih=>obtain⟨h,ih⟩:=ih; unfold Ty.same IntKind.same; rw[dif_pos rfl,ih]; exact⟨_,rfl⟩
   | slu i=>unfold Ty.same; rw[dif_pos rfl]; exact⟨_,rfl⟩
  exact key _
 obtain⟨h,hs⟩:=this;simp only[hs];rfl
theorem NB {k:IntKind} {t:Ty} (x:List (Int×List t.den)):Kz k t ⟨.map k t,x⟩=x:=by
 have h9:=BD (t := .map k t) rfl (show (Ty.map k t).den from x) [];unfold mkL at h9;unfold Kz;dsimp only at h9 ⊢;cases hs:Ty.same (.map k t) (.map k t) with
 | none=>rw[hs] at h9; simp at h9
 | some g=>rfl
section
variable {ρ:Type} {fx cur:TSt} {r:ρ} {σ:Ren} {hps:List (Nat×cu)}
theorem nX (t:Ty) (x:t.den) (s:St):pW σ s hps (TL.v t x).un (TL.v t x).un:=by
 cases t <;> first | rfl | (show pW σ s hps (match enc _ x with | [p]=>av.p p | _=>.dead) (match enc _ x with | [p]=>av.p p | _=>.dead); split <;> first | rfl | trivial)
theorem vt:∀ (xs ys:List Nat) (f g:FS),x8 xs ys f=some g->f.le g/\∀ F,g.le F->Dh σ hps F->sn σ hps xs ys
 | [],[],f,g,h=>by
  simp only[x8,Option.some.injEq] at h;subst h;exact⟨FS.le_refl f,fun _ _ _=>trivial⟩
 | x::xs,y::ys,f,g,h=>by
  unfold x8 at h;obtain⟨h1,h2⟩:=vt xs ys _ g h;refine⟨FS.le_trans (tB f x y) h1,fun F hF hf=>⟨?_,h2 F hF hf⟩⟩;have:=hf.m _ (hF.m _ (h1.m _ (qN f x y)));exact this
 | [],_::_,f,g,h=>by cases h
 | _::_,[],f,g,h=>by cases h
def It (σ:Ren) (ρ':List (Nat×Nat)):Prop := ∀ o o2,(o,o2)∈σ.m->rnT ρ' o2=o
theorem Af {ρ':List (Nat×Nat)} (hb:It σ ρ'):∀ (xs ys:List Nat),sn σ hps xs ys->ys.map (rnT ρ')=xs
 | [],[],_=>rfl
 | x::xs,y::ys,h=>by rw[List.map_cons,hb x y h.1.1,Af hb xs ys h.2]
 | [],_::_,h=>h.elim
 | _::_,[],h=>h.elim
def Fits {α β γ:Type} (mk:List Dyn->α×List Dyn) (rel:Ren->List (Nat×cu)->α->Prop) (f:FS) (k:KF ρ) (r:ρ):Prop :=
 ∃ f' ds y,k f' ds=some r/\f.le f'/\(∀ es,mk (ds++es)=(y,es))/\∀ σ hps F,f'.le F->Dh σ hps F->rel σ hps y
theorem vu {σ:Ren} {s:St} {hps:List (Nat×cu)}:∀ {a b c d:List av},lX σ s hps a b->lX σ s hps c d->lX σ s hps (a++c) (b++d)
 | [],[],_,_,_,h=>h
 | _::_,_::_,_,_,h,g=>⟨h.1,vu h.2 g⟩
 | [],_::_,_,_,h,_=>h.elim
 | _::_,[],_,_,h,_=>h.elim
theorem ym {σ:Ren} {s:St}:∀ {a c:List av} {b d:List PV},mi σ s a b->mi σ s c d->mi σ s (a++c) (b++d)
 | [],_,[],_,_,h=>h
 | _::_,_,_::_,_,h,g=>⟨h.1,ym h.2 g⟩
 | [],_,_::_,_,h,_=>h.elim
 | _::_,_,[],_,h,_=>h.elim
theorem Dj {t:Ty} {l:TL} {f:FS} {k:t.den->FS->Option ρ} (h:C1 fx cur t l f k=some r):∃ x f',k x f'=some r/\f.le f'/\∀ σ hps F,f'.le F->Dh σ hps F->pW σ (un2 fx cur) hps l.un (TL.v t x).un/\∀ p,(TL.v t x).un = .p p->lW σ (un2 fx cur) l.un p:=by
 unfold C1 at h;split at h
 ·rename_i t' x;obtain⟨y,h,he⟩:=nh h;have hu:=rT he;refine⟨y,_,h,FS.le_refl f,fun σ hps F _ _=>⟨by rw[hu]; exact nX _ _ _,fun p hp=>?_⟩⟩;rw[hu] at hp;rw[show (TL.v t' x).un = .p p from hp];exact (rfl:p=p)
 ·obtain⟨y,h,he⟩:=vh h;have hu:(TL.v t y).un = .p (.sl []):=by
   show (match enc t y with | [p]=>av.p p | _=>.dead)=_;rw[he]
  refine⟨y,_,h,FS.le_refl f,fun σ hps F _ _=>⟨by rw[hu]; rfl,fun p hp=>?_⟩⟩;rw[hu] at hp;injection hp with hp
  subst hp;exact (rfl:([]:List (List PV))=[])
 ·rename_i o;split at h
  ·rename_i e t' l ho;obtain⟨y,h,he⟩:=nh h;have hu:(TL.v t y).un = .p (.sl (l.map (enc t'))):=rT he;refine⟨_,_,h,⟨fun _ h=>h,fun _ h=>h,fun _ h=>List.mem_cons_of_mem _ h⟩,fun σ hps F hF hf=>?_⟩;have h1:=hf.frz o (hF.frz o List.mem_cons_self);have h2:(match (un2 fx cur).hp o with | some (.arr _ _ l2)=>l2=l.map (enc t') | _=>False)/\o∉σ.m.map (·.1)/\σ.may o:=⟨by rw[cL ho]; rfl,h1.1,h1.2⟩;rw[hu];refine⟨⟨by rw[cL ho]; rfl,h1.1,h1.2⟩,fun p hp=>?_⟩;injection hp with hp
   subst hp;exact h2
  ·cases h
 ·rename_i o;split at h
  ·rename_i kd e t' m ho;obtain⟨et,h⟩:=gj h;subst et;refine⟨_,_,h,⟨fun _ h=>h,fun _ h=>h,fun _ h=>List.mem_cons_of_mem _ h⟩,fun σ hps F hF hf=>?_⟩;have h1:=hf.frz o (hF.frz o List.mem_cons_self);have h2:lW σ (un2 fx cur) (.mp o) (.mp kd (wy (List.map (enc t')) m)):=⟨by rw[cL ho]; exact⟨rfl,rfl⟩,h1.1,h1.2⟩;refine⟨h2,fun p hp=>?_⟩;injection hp with hp
   subst hp;exact h2
  ·cases h
 ·cases h
theorem Dk (t:Ty):wF t=qL t:=by cases t <;> rfl
theorem Gy {te:Ty} (ht:qL te=true):∀ (cs:List TL) (f:FS) (k:List te.den->FS->Option ρ),Nb fx cur te cs f k=some r->∃ l f',k l f'=some r/\f.le f'/\∀ σ hps F,f'.le F->Dh σ hps F->xi σ (un2 fx cur) (cs.map TL.un) (l.map (enc te))
 | [],f,k,h=>⟨[],f,h,FS.le_refl f,fun _ _ _ _ _=>trivial⟩
 | x::cs,f,k,h=>by
  unfold Nb at h;obtain⟨y,f1,h1,l1,e1⟩:=Dj h;obtain⟨l,f2,h2,l2,e2⟩:=Gy ht cs f1 _ h1;refine⟨y::l,f2,h2,FS.le_trans l1 l2,fun σ hps F hF hf=>⟨?_,e2 σ hps F hF hf⟩⟩;obtain⟨p,hp1,hp2⟩:=rU ht y;show (match enc te y with | [p]=>lW σ (un2 fx cur) x.un p | _=>False);rw[hp1];exact (e1 σ hps F (FS.le_trans l2 hF) hf).2 p hp2
theorem nn {t:Ty} (ht:qL t=true) {l:TL} {ls:List TL} {f:FS} {k:t.den->FS->List TL->Option ρ} (h:C1 fx cur t l f (fun x f=>k x f ls)=some r):∃ x f' rest,k x f' rest=some r/\f.le f'/\∃ pre,l::ls=pre++rest/\∀ σ hps F,f'.le F->Dh σ hps F->lX σ (un2 fx cur) hps (pre.map TL.un) ((dF t x).map TL.un)/\mi σ (un2 fx cur) (pre.map TL.un) (enc t x):=by
 obtain⟨x,f',h2,l2,e⟩:=Dj h;obtain⟨p,hp,hu⟩:=rU ht x;have hl:(dF t x).map TL.un=[(TL.v t x).un]:=by
  cases t <;> first | (cases ht; done) | exact congrArg (fun a=>[a]) (rT (sB _ _)) | rfl
 refine⟨x,f',ls,h2,l2,[l],rfl,fun σ hps F hF hf=>⟨?_,?_⟩⟩
 ·rw[hl]; exact⟨(e σ hps F hF hf).1,trivial⟩
 ·rw[hp]; exact⟨(e σ hps F hF hf).2 p hu,trivial⟩
theorem uu:∀ (t:Ty) (ls:List TL) (f:FS) (k:t.den->FS->List TL->Option ρ),Aa fx cur t ls f k=some r->∃ x f' rest,k x f' rest=some r/\f.le f'/\∃ pre,ls=pre++rest/\∀ σ hps F,f'.le F->Dh σ hps F->lX σ (un2 fx cur) hps (pre.map TL.un) ((dF t x).map TL.un)/\mi σ (un2 fx cur) (pre.map TL.un) (enc t x)
 | .pair a b,ls,f,k,h=>by
  unfold Aa at h;obtain⟨x,f1,r1,h1,l1,p1,rfl,e1⟩:=uu a ls f _ h;obtain⟨y,f2,r2,h2,l2,p2,rfl,e2⟩:=uu b r1 f1 _ h1;refine⟨(x,y),f2,r2,h2,FS.le_trans l1 l2,p1++p2,by rw[List.append_assoc],fun σ hps F hF hf=>⟨?_,?_⟩⟩
  ·show lX σ _ hps ((p1++p2).map TL.un) ((dF a x++dF b y).map TL.un);rw[List.map_append,List.map_append];exact vu (e1 σ hps F (FS.le_trans l2 hF) hf).1 (e2 σ hps F hF hf).1
  ·show mi σ _ ((p1++p2).map TL.un) (enc a x++enc b y);rw[List.map_append];exact ym (e1 σ hps F (FS.le_trans l2 hF) hf).2 (e2 σ hps F hF hf).2
 | .any,[],f,k,h=>by cases h
 | .int kd,[],f,k,h=>by cases h
 | .bool,[],f,k,h=>by cases h
 | .str,[],f,k,h=>by cases h
 | .sl e,[],f,k,h=>by cases h
 | .map kd e,[],f,k,h=>by cases h
 | .slu i,[],f,k,h=>by cases h
 | .any,l::ls,f,k,h=>nn (t := .any) rfl h
 | .int kd,l::ls,f,k,h=>nn (t := .int kd) rfl h
 | .bool,l::ls,f,k,h=>nn (t := .bool) rfl h
 | .str,l::ls,f,k,h=>nn (t := .str) rfl h
 | .sl e,l::ls,f,k,h=>nn (t := .sl e) rfl h
 | .map kd e,l::ls,f,k,h=>nn (t := .map kd e) rfl h
 | .slu i,l::ls,f,k,h=>nn (t := .slu i) rfl h
theorem OY {t:Ty} (x:t.den) (ds:List Dyn):mkL (.ip t) (⟨t,x⟩::ds)=(.ip t x 0,ds):=by
 have h:=BD (t:=t) rfl x ds;unfold mkL at h ⊢;dsimp only at h ⊢;cases hs:Ty.same t t with
 | none=>rw[hs] at h; simp at h
 | some g=>rfl
theorem Gz {sh:LSh} {x:TL} {f:FS} {k:KF ρ} (h:Nc fx cur sh x f k=some r):Fits (β:=Unit) (γ:=Unit) (mkL sh) (fun σ hps y=>pW σ (un2 fx cur) hps x.un y.un/\(ly [sh] [x]=true->∀ ρ',It σ ρ'->wz ρ' y=x)) f k r:=by
 unfold Nc at h;split at h
 ·exact⟨f,[],.dead,h,FS.le_refl f,fun _=>rfl,fun _ _ _ _ _=>⟨by cases x <;> first | trivial | (show pW _ _ _ _ .dead; unfold pW; split <;> first | trivial | simp_all),fun he=>by cases he⟩⟩
 ·rename_i t;split at h
  ·rename_i t' x;obtain⟨e,h⟩:=gj h;subst e;exact⟨f,_,.v t' x,h,FS.le_refl f,fun es=>BD rfl x es,fun _ _ _ _ _=>⟨nX _ _ _,fun _ _ _=>rfl⟩⟩
  ·split at h
   ·rename_i e;exact⟨f,_,.v (.sl e) ([]:List e.den),h,FS.le_refl f,fun es=>BD (t := .sl e) rfl ([]:List e.den) es,fun _ _ _ _ _=>⟨rfl,fun he=>by cases he⟩⟩
   ·cases h
  ·rename_i t' l;obtain⟨et,h⟩:=gj h;subst et;exact⟨f,_,.v (.sl t') l,h,FS.le_refl f,fun es=>BD (t := .sl t') rfl l es,fun _ _ _ _ _=>⟨rfl,fun he=>by cases he⟩⟩
  ·rename_i o;split at h
   ·rename_i e t' l ho;obtain⟨et,h⟩:=gj h;subst et;refine⟨_,_,.v (.sl t') l,h,⟨fun _ h=>h,fun _ h=>h,fun _ h=>List.mem_cons_of_mem _ h⟩,fun es=>BD (t := .sl t') rfl l es,fun σ hps F hF hf=>⟨?_,fun he=>by cases he⟩⟩;have h1:=hf.frz o (hF.frz o List.mem_cons_self);refine⟨?_,h1.1,h1.2⟩;rw[cL ho]; rfl
   ·rename_i e cs ho;unfold KA at h;split at h
    ·rename_i te;obtain⟨hlf,h⟩:=aq h;rw[Dk] at hlf;obtain⟨l,f1,h1,l1,e1⟩:=Gy hlf cs _ _ h;refine⟨_,_,.v (.sl te) l,h1,FS.le_trans l1 ⟨fun _ h=>h,fun _ h=>h,fun _ h=>List.mem_cons_of_mem _ h⟩,fun es=>BD (t := .sl te) rfl l es,fun σ hps F hF hf=>⟨?_,fun he=>by cases he⟩⟩;have h5:=hf.frz o (hF.frz o List.mem_cons_self);have hF1:f1.le F:=⟨hF.m,hF.nV,fun y hy=>hF.frz y (List.mem_cons_of_mem _ hy)⟩;refine⟨?_,h5.1,h5.2⟩;rw[cL ho];exact e1 σ hps F hF1 hf
    ·cases h
   ·cases h
  ·rename_i o a b z;split at h
   ·rename_i e t' l ho;obtain⟨hc,h⟩:=aq h;rw[Bool.and_eq_true,eE,jR,decide_eq_true_eq,decide_eq_true_eq] at hc;obtain⟨m,hm,h⟩:=bind_some h;obtain⟨c1,c2,c3,c4,c5⟩:=p7 hm;obtain⟨et,h⟩:=gj h;subst et;refine⟨_,_,.v (.sl t') m,h,⟨fun _ h=>h,fun _ h=>h,fun _ h=>List.mem_cons_of_mem _ h⟩,fun es=>BD (t := .sl t') rfl m es,fun σ hps F hF hf=>⟨?_,fun he=>by cases he⟩⟩;have h1:=hf.frz o (hF.frz o List.mem_cons_self);refine⟨by omega,?_,h1.1,h1.2⟩;rw[cL ho];exact⟨hc.1,by simpa using c5,by rw[← c1,List.map_drop,List.map_take]⟩
   ·cases h
  ·cases h
 ·split at h
  ·exact⟨f,[],.nil,h,FS.le_refl f,fun _=>rfl,fun _ _ _ _ _=>⟨trivial,fun _ _ _=>rfl⟩⟩
  ·cases h
 ·rename_i o2;split at h
  ·rename_i o;refine⟨_,[],.own o2,h,tB f o o2,fun _=>rfl,fun σ hps F hF hf=>?_⟩;have hm:=hf.m _ (hF.m _ (qN f o o2));exact⟨hm,fun _ ρ' hb=>by show TL.own (rnT ρ' o2)=_; rw[hb o o2 hm.1]⟩
  ·refine⟨_,[],.own o2,h,⟨fun _ h=>h,fun _ h=>List.mem_cons_of_mem _ h,fun _ h=>h⟩,fun _=>rfl,fun σ hps F hF hf=>⟨?_,fun he=>by cases he⟩⟩;exact hf.nV o2 (hF.nV o2 List.mem_cons_self)
  ·cases h
 ·rename_i o2 off2;split at h
  ·rename_i o off;obtain⟨hc,h⟩:=aq h;rw[eE,decide_eq_true_eq] at hc;refine⟨_,[],.loc o2 off2,h,tB f o o2,fun _=>rfl,fun σ hps F hF hf=>?_⟩;have hm:=hf.m _ (hF.m _ (qN f o o2));exact⟨⟨hm,hc⟩,fun _ ρ' hb=>by show TL.loc (rnT ρ' o2) off2=_; rw[hb o o2 hm.1,hc]⟩
  ·cases h
 ·rename_i o2;split at h
  ·rename_i o;refine⟨_,[],.mp o2,h,tB f o o2,fun _=>rfl,fun σ hps F hF hf=>?_⟩;have hm:=hf.m _ (hF.m _ (qN f o o2));exact⟨hm,fun _ ρ' hb=>by show TL.mp (rnT ρ' o2)=_; rw[hb o o2 hm.1]⟩
  ·cases h
 ·rename_i g2 caps2;split at h
  ·rename_i g caps;obtain⟨hc,h⟩:=aq h;rw[eE,decide_eq_true_eq] at hc;split at h
   ·rename_i f' hr;refine⟨f',[],.fn g2 caps2,h,(vt (σ:=⟨[],none,true⟩) (hps:=[]) _ _ _ _ hr).1,fun _=>rfl,fun σ hps F hF hf=>?_⟩;have hcs:=(vt _ _ _ _ hr).2 F hF hf;exact⟨⟨hc,hcs⟩,fun _ ρ' hb=>by show TL.fn g2 (caps2.map (rnT ρ'))=_; rw[Af hb _ _ hcs,hc]⟩
   ·cases h
  ·cases h
 ·split at h
  ·exact⟨f,[],.oth (.pointer none),h,FS.le_refl f,fun _=>rfl,fun _ _ _ _ _=>⟨rfl,fun _ _ _=>rfl⟩⟩
  ·cases h
 ·split at h
  ·exact⟨f,[],.oth (.map none),h,FS.le_refl f,fun _=>rfl,fun _ _ _ _ _=>⟨rfl,fun _ _ _=>rfl⟩⟩
  ·cases h
 ·rename_i b;split at h
  ·rename_i c;obtain⟨hc,hk⟩:=aq h;have hb:c=b:=by cases b <;> cases c <;> first | rfl | cases hc
   subst hb;exact⟨f,[],.v .bool c,hk,FS.le_refl f,fun _=>rfl,fun _ _ _ _ _=>⟨nX _ _ _,fun he=>by cases he⟩⟩
  ·cases h
 ·rename_i t;split at h
  ·rename_i o off;obtain⟨hc,h⟩:=aq h;rw[eE,decide_eq_true_eq] at hc;split at h
   ·rename_i bt xs ho;obtain⟨x,f1,rest,h1,l1,pre,hp,e1⟩:=uu _ _ _ _ h;split at h1
    ·rw[List.append_nil] at hp;subst hp;refine⟨_,_,.ip t x 0,h1,FS.le_trans l1 ⟨fun _ h=>h,fun _ h=>h,fun _ h=>List.mem_cons_of_mem _ h⟩,fun es=>OY x es,fun σ hps F hF hf=>⟨?_,fun he=>by cases he⟩⟩;have h5:=hf.frz o (hF.frz o List.mem_cons_self);have hF1:f1.le F:=⟨hF.m,hF.nV,fun y hy=>hF.frz y (List.mem_cons_of_mem _ hy)⟩;refine⟨hc,?_,h5.1,h5.2⟩;rw[cL ho];exact (e1 σ hps F hF1 hf).2
    ·cases h1
   ·cases h
  ·rename_i t' x off;obtain⟨hc,h⟩:=aq h;rw[eE,decide_eq_true_eq] at hc;obtain⟨et,h⟩:=gj h;subst et;exact⟨f,_,.ip t' x 0,h,FS.le_refl f,fun es=>OY x es,fun _ _ _ _ _=>⟨⟨rfl,hc⟩,fun he=>by cases he⟩⟩
  ·cases h
 ·rename_i o2;split at h
  ·rename_i o n;obtain⟨hc,h⟩:=aq h;rw[km,decide_eq_true_eq] at hc;subst hc;refine⟨_,[],.el o2 0 0 1,h,tB f o o2,fun _=>rfl,fun σ hps F hF hf=>?_⟩;have hm:=hf.m _ (hF.m _ (qN f o o2));exact⟨⟨hm,rfl,rfl,rfl⟩,fun _ ρ' hb=>by show TL.el (rnT ρ' o2) 0 0 1=_; rw[hb o o2 hm.1]⟩
  ·cases h
 ·split at h
  ·exact⟨f,[],.oth .nilIface,h,FS.le_refl f,fun _=>rfl,fun _ _ _ _ _=>⟨rfl,fun _ _ _=>rfl⟩⟩
  ·cases h
 ·rename_i o2;split at h
  ·rename_i o;refine⟨_,[],.ps o2,h,tB f o o2,fun _=>rfl,fun σ hps F hF hf=>?_⟩;have hm:=hf.m _ (hF.m _ (qN f o o2));exact⟨hm,fun _ ρ' hb=>by show TL.ps (rnT ρ' o2)=_; rw[hb o o2 hm.1]⟩
  ·rename_i o off;obtain⟨hc,h⟩:=aq h;rw[eE,decide_eq_true_eq] at hc;refine⟨_,[],.ps o2,h,tB f o o2,fun _=>rfl,fun σ hps F hF hf=>?_⟩;have hm:=hf.m _ (hF.m _ (qN f o o2));exact⟨⟨hm,hc⟩,fun he=>by cases he⟩
  ·obtain⟨hc,h⟩:=aq h;obtain⟨p,hp,he⟩:=List.mem_map.1 ((bO _ _).1 hc);refine⟨f,[],.ps o2,h,FS.le_refl f,fun _=>rfl,fun σ hps F hF hf=>?_⟩;have hm:=hf.m _ (hF.m p hp);exact⟨by rw[← he]; exact hm.2,fun he=>by cases he⟩
  ·cases h
theorem Dl {s:LSh} {x:TL} {ss:List LSh} {xs:List TL} (h:ly (s::ss) (x::xs)=true):ly [s] [x]=true/\ly ss xs=true:=by
 cases s <;> cases x <;> first | (cases h; done) | exact⟨rfl,h⟩
theorem yn:∀ {ss:List LSh} {xs:List TL} {f:FS} {k:KF ρ},C2 fx cur ss xs f k=some r->Fits (β:=Unit) (γ:=Unit) (tz ss) (fun σ hps ys=>lX σ (un2 fx cur) hps (xs.map TL.un) (ys.map TL.un)/\(ly ss xs=true->∀ ρ',It σ ρ'->ys.map (wz ρ')=xs)) f k r
 | [],[],f,k,h=>⟨f,[],[],h,FS.le_refl f,fun _=>rfl,fun _ _ _ _ _=>⟨trivial,fun _ _ _=>rfl⟩⟩
 | s::ss,x::xs,f,k,h=>by
  unfold C2 at h;obtain⟨f1,ds,y,h1,l1,m1,r1⟩:=Gz h;obtain⟨f2,es,ys,h2,l2,m2,r2⟩:=yn h1;refine⟨f2,ds++es,y::ys,h2,FS.le_trans l1 l2,fun gs=>?_,fun σ hps F hF hf=>⟨⟨(r1 σ hps F (FS.le_trans l2 hF) hf).1,(r2 σ hps F hF hf).1⟩,fun he ρ' hb=>?_⟩⟩
  rotate_left
  ·obtain⟨e1,e2⟩:=Dl he;rw[List.map_cons,(r1 σ hps F (FS.le_trans l2 hF) hf).2 e1 ρ' hb,(r2 σ hps F hF hf).2 e2 ρ' hb]
  show (match mkL s (ds++es++gs) with | (y,ds)=>match tz ss ds with | (l,ds)=>(y::l,ds))=_;rw[List.append_assoc,m1];dsimp only;rw[m2]
 | [],_::_,f,k,h=>by cases h
 | _::_,[],f,k,h=>by cases h
theorem Rs {t:Ty} (x:t.den) (ds:List Dyn):mkC (.a t) (⟨t,x⟩::ds)=(.g (dF t x),ds):=by
 have h:=BD (t:=t) rfl x ds;unfold mkL at h;unfold mkC;dsimp only at h ⊢;cases hs:Ty.same t t with
 | none=>rw[hs] at h; simp only[Prod.mk.injEq] at h; exact absurd h.1 (by simp)
 | some g=>rfl
theorem GA {s:CSh} {x:TC} {f:FS} {k:KF ρ} (h:Nd fx cur s x f k=some r):Fits (β:=Unit) (γ:=Unit) (mkC s) (fun σ hps y=>uW σ (un2 fx cur) hps x.un y.un) f k r:=by
 unfold Nd at h;split at h
 ·obtain⟨x,f1,rest,h1,l1,pre,hp,e1⟩:=uu _ _ _ _ h;split at h1
  ·rw[List.append_nil] at hp;subst hp;exact⟨f1,_,.g (dF _ x),h1,l1,fun es=>Rs x es,fun σ hps F hF hf=>(e1 σ hps F hF hf).1⟩
  ·cases h1
 ·obtain⟨f1,ds,y,h1,l1,m1,r1⟩:=Gz h;refine⟨f1,ds,.v y,h1,l1,fun es=>?_,fun σ hps F hF hf=>(r1 σ hps F hF hf).1⟩;show (match mkL _ (ds++es) with | (y,ds)=>(TC.v y,ds))=_;rw[m1]
 ·obtain⟨f1,ds,y,h1,l1,m1,r1⟩:=yn h;refine⟨f1,ds,.g y,h1,l1,fun es=>?_,fun σ hps F hF hf=>(r1 σ hps F hF hf).1⟩;show (match tz _ (ds++es) with | (y,ds)=>(TC.g y,ds))=_;rw[m1]
 ·cases h
theorem Dm:∀ {ss:List CSh} {xs:List TC} {f:FS} {k:KF ρ},Gl fx cur ss xs f k=some r->Fits (β:=Unit) (γ:=Unit) (mQ ss) (fun σ hps ys=>s7 σ (un2 fx cur) hps (xs.map TC.un) (ys.map TC.un)) f k r
 | [],[],f,k,h=>⟨f,[],[],h,FS.le_refl f,fun _=>rfl,fun _ _ _ _ _=>trivial⟩
 | s::ss,x::xs,f,k,h=>by
  unfold Gl at h;obtain⟨f1,ds,y,h1,l1,m1,r1⟩:=GA h;obtain⟨f2,es,ys,h2,l2,m2,r2⟩:=Dm h1;refine⟨f2,ds++es,y::ys,h2,FS.le_trans l1 l2,fun gs=>?_,fun σ hps F hF hf=>⟨r1 σ hps F (FS.le_trans l2 hF) hf,r2 σ hps F hF hf⟩⟩;show (match mkC s (ds++es++gs) with | (y,ds)=>match mQ ss ds with | (l,ds)=>(y::l,ds))=_;rw[List.append_assoc,m1];dsimp only;rw[m2]
 | [],_::_,f,k,h=>by cases h
 | _::_,[],f,k,h=>by cases h
theorem sH {s:St} (x:Slot):rC σ s hps x .dead:=by
 unfold rC; split <;> first | trivial | simp_all
theorem GB {s:SSh} {x:TSl} {f:FS} {k:KF ρ} (h:Nf fx cur s x f k=some r):Fits (β:=Unit) (γ:=Unit) (x7 s) (fun σ hps y=>rC σ (un2 fx cur) hps x.un y.un) f k r:=by
 unfold Nf at h;split at h
 ·exact⟨f,[],.dead,h,FS.le_refl f,fun _=>rfl,fun _ _ _ _ _=>sH _⟩
 ·split at h
  ·obtain⟨f1,ds,y,h1,l1,m1,r1⟩:=GA h;refine⟨f1,ds,.c y,h1,l1,fun es=>?_,fun σ hps F hF hf=>r1 σ hps F hF hf⟩;show (match mkC _ (ds++es) with | (y,ds)=>(TSl.c y,ds))=_;rw[m1]
  ·cases h
 ·split at h
  ·obtain⟨f1,ds,y,h1,l1,m1,r1⟩:=Dm h;refine⟨f1,ds,.t y,h1,l1,fun es=>?_,fun σ hps F hF hf=>r1 σ hps F hF hf⟩;show (match mQ _ (ds++es) with | (y,ds)=>(TSl.t y,ds))=_;rw[m1]
  ·cases h
theorem Dn:∀ {ss:List (Nat×SSh)} {f:FS} {k:KF ρ},Gm fx cur ss f k=some r->Fits (β:=Unit) (γ:=Unit) (C0 ss) (fun σ hps l=>aG l=aG ss/\pK (fun p=>rC σ (un2 fx cur) hps ((un2 fx cur).tm p.1) p.2) (nU l)) f k r
 | [],f,k,h=>⟨f,[],[],h,FS.le_refl f,fun _=>rfl,fun _ _ _ _ _=>⟨rfl,trivial⟩⟩
 | s::ss,f,k,h=>by
  unfold Gm at h;obtain⟨f1,ds,y,h1,l1,m1,r1⟩:=GB h;obtain⟨f2,es,ys,h2,l2,m2,r2⟩:=Dn h1;refine⟨f2,ds++es,(s.1,y)::ys,h2,FS.le_trans l1 l2,fun gs=>?_,fun σ hps F hF hf=>⟨?_,?_,(r2 σ hps F hF hf).2⟩⟩
  ·show (match x7 s.2 (ds++es++gs) with | (y,ds)=>match C0 ss ds with | (l,ds)=>((s.1,y)::l,ds))=_;rw[List.append_assoc,m1];dsimp only;rw[m2]
  ·show s.1::aG ys=s.1::aG ss;rw[(r2 σ hps F hF hf).1]
  ·have:=r1 σ hps F (FS.le_trans l2 hF) hf;rw[rS] at this;dsimp only;rw[iL];exact this
theorem uv:∀ (m:List (Nat×Nat)) (b o:Nat),C3 m b=some o->(o,b)∈m
 | [],b,o,h=>by cases h
 | x::m,b,o,h=>by
  unfold C3 at h;rw[eE] at h;by_cases e:b=x.2
  ·simp only[e,decide_true,cond_true,Option.some.injEq] at h;subst h e;exact List.mem_cons_self
  ·simp only[e,decide_false,cond_false] at h;exact List.mem_cons_of_mem _ (uv m b o h)
theorem NC {s:OSh} {o:Option bI} {f:FS} {k:KF ρ} (h:PO fx cur s o f k=some r):Fits (β:=Unit) (γ:=Unit) (mkO s) (fun σ hps y=>AZ σ (un2 fx cur) hps (o.map bI.un) y.un/\(KC s o=true->∀ ρ',It σ ρ'->some (wA ρ' y)=o)) f k r:=by
 unfold PO at h;split at h
 ·split at h
  ·exact⟨f,[],.gone,h,FS.le_refl f,fun _=>rfl,fun _ _ _ _ _=>⟨by show AZ _ _ _ _ .gone; unfold AZ; split <;> first | trivial | simp_all,fun he=>by cases he⟩⟩
  ·cases h
 ·rename_i t ss;split at h
  ·rename_i t' xs;obtain⟨hc,h⟩:=aq h;rw[eE,decide_eq_true_eq] at hc;obtain⟨f1,ds,y,h1,l1,m1,r1⟩:=yn h;refine⟨f1,ds,.box t y,h1,l1,fun es=>?_,fun σ hps F hF hf=>⟨⟨hc.symm,(r1 σ hps F hF hf).1⟩,fun he ρ' hb=>by show some (bI.box t (y.map (wz ρ')))=_; rw[(r1 σ hps F hF hf).2 he ρ' hb,hc]⟩⟩;show (match tz _ (ds++es) with | (y,ds)=>(bI.box t y,ds))=_;rw[m1]
  ·cases h
 ·rename_i e t;split at h
  ·rename_i e' t' l;obtain⟨hc,h⟩:=aq h;rw[eE,decide_eq_true_eq] at hc;obtain⟨et,h⟩:=nj h;subst et;exact⟨f,_,.arr e t' l,h,FS.le_refl f,fun es=>by show (bI.arr e t' (kH t' ⟨.sl t',l⟩),es)=_; rw[nW],fun σ hps F hF hf=>⟨⟨hc.symm,rfl,rfl⟩,fun _ _ _=>by rw[← hc]; rfl⟩⟩
  ·cases h
 ·rename_i kd agg t;split at h
  ·rename_i kd' agg' t' m;obtain⟨hc,h⟩:=aq h;rw[beq_iff_eq] at hc;obtain⟨et,h⟩:=gj h;have e0:=BA et;injection e0 with e1 e2
   injection e1 with e1
   subst e1 e2;exact⟨f,_,.kx kd' agg t' m,h,FS.le_refl f,fun es=>congrArg (fun l:List (Int×t'.den)=>(bI.kx kd' agg t' l,es)) (nW (t := .pair (.int kd') t') m),fun σ hps F hF hf=>⟨⟨rfl,hc.symm,rfl⟩,fun _ _ _=>by rw[← hc]; rfl⟩⟩
  ·cases h
 ·rename_i agg t;split at h
  ·rename_i agg' t' m;obtain⟨hc,h⟩:=aq h;rw[beq_iff_eq] at hc;obtain⟨et,h⟩:=gj h;have e0:=BA et;injection e0 with e1 e2
   subst e2;exact⟨f,_,.iJ agg t' m,h,FS.le_refl f,fun es=>congrArg (fun l:List (Bs×t'.den)=>(bI.iJ agg t' l,es)) (nW (t := .pair .str t') m),fun σ hps F hF hf=>⟨⟨hc.symm,rfl⟩,fun _ _ _=>by rw[← hc]; rfl⟩⟩
  ·cases h
 ·rename_i kd e t;split at h
  ·rename_i kd' e' t' m;obtain⟨hc,h⟩:=aq h;rw[eE,decide_eq_true_eq] at hc;obtain⟨et,h⟩:=gj h;injection et with e1 e2
   subst e1 e2;refine⟨f,_,.gI kd' e t' m none,h,FS.le_refl f,fun es=>?_,fun σ hps F hF hf=>⟨⟨rfl,hc.symm,rfl,rfl,rfl⟩,fun _ _ _=>by rw[← hc]; rfl⟩⟩;exact congrArg (fun l:List (Int×List t'.den)=>(bI.gI kd' e t' l none,es)) (NB m)
  ·cases h
 ·rename_i kd agg t;split at h
  ·rename_i kd' agg' t' m;obtain⟨hc,h⟩:=aq h;rw[beq_iff_eq] at hc;obtain⟨et,h⟩:=gj h;have e0:=BA et;injection e0 with e1 e2
   injection e1 with e1 e3
   injection e3 with e3 e4
   injection e3 with e3
   subst e3 e2;exact⟨f,_,.fM kd' agg t' m,h,FS.le_refl f,fun es=>congrArg (fun l:List ((Bs×Int×Int×Int×Bs)×t'.den)=>(bI.fM kd' agg t' l,es)) (nW (t := .pair (.pair .str (.pair (.int kd') (.pair (.int kd') (.pair (.int kd') .str)))) t') m),fun σ hps F hF hf=>⟨⟨rfl,hc.symm,rfl⟩,fun _ _ _=>by rw[← hc]; rfl⟩⟩
  ·cases h
theorem np (hσ:σ.nodup) {o o2:Nat} (h:(o,o2)∈σ.m):ae (σ.m.map fun x=>(x.2,x.1)) o2=some o:=(rD hσ h).2
theorem qa:∀ {ss:List (Nat×OSh)} {f:FS} {k:KF ρ},v8 fx cur ss f k=some r->Fits (β:=Unit) (γ:=Unit) (pj ss) (fun σ hps l=>aG l=aG ss/\pK (HSub σ (un2 fx cur) hps) (du l)/\∀ m',(∀ x∈σ.m,x∈m')->(∀ x∈m',x∈σ.m)->sE fx cur m' ss=true->∀ ρ',It σ ρ'->∀ x∈l,∃ o,(o,x.1)∈σ.m/\obT fx cur o=some (wA ρ' x.2)) f k r
 | [],f,k,h=>⟨f,[],[],h,FS.le_refl f,fun _=>rfl,fun _ _ _ _ _=>⟨rfl,trivial,fun _ _ _ _ _ _ x hx=>by cases hx⟩⟩
 | s::ss,f,k,h=>by
  unfold v8 at h;split at h
  ·rename_i o ho;have hm:=uv _ _ _ ho;obtain⟨f1,ds,y,h1,l1,m1,r1⟩:=NC h;obtain⟨f2,es,ys,h2,l2,m2,r2⟩:=qa h1;refine⟨f2,ds++es,(s.1,y)::ys,h2,FS.le_trans l1 l2,fun gs=>?_,fun σ hps F hF hf=>⟨?_,⟨?_,(r2 σ hps F hF hf).2.1⟩,fun m' hm1 hm2 he ρ' hb x hx=>?_⟩⟩
   rotate_left 3
   ·unfold sE at he;rw[Bool.and_eq_true] at he;rcases List.mem_cons.1 hx with rfl | hx
    ·refine⟨o,(hf.m _ (hF.m _ (l2.m _ (l1.m _ hm)))).1,?_⟩;have he1:=he.1;split at he1
     ·rename_i o' ho';have h3:=hm2 _ (uv _ _ _ ho');have h4:=(hf.m _ (hF.m _ (l2.m _ (l1.m _ hm)))).1;have h5:=np hf.nd h3;rw[np hf.nd h4] at h5;injection h5 with h5
      subst h5;exact ((r1 σ hps F (FS.le_trans l2 hF) hf).2 he1 ρ' hb).symm
     ·cases he1
    ·exact (r2 σ hps F hF hf).2.2 m' hm1 hm2 he.2 ρ' hb x hx
   ·show (match mkO s.2 (ds++es++gs) with | (y,ds)=>match pj ss ds with | (l,ds)=>((s.1,y)::l,ds))=_;rw[List.append_assoc,m1];dsimp only;rw[m2]
   ·show s.1::aG ys=s.1::aG ss;rw[(r2 σ hps F hF hf).1]
   ·show HSub σ (un2 fx cur) hps (s.1,y.un);unfold HSub;rw[np hf.nd (hf.m _ (hF.m _ (l2.m _ (l1.m _ hm)))).1];have:=(r1 σ hps F (FS.le_trans l2 hF) hf).1;dsimp only;rw[gT]; exact this
  ·rename_i hn;split at h
   ·rename_i e t hs;obtain⟨f2,es,ys,h2,l2,m2,r2⟩:=qa h;refine⟨f2,⟨.sl t,([]:List t.den)⟩::es,(s.1,.arr e t [])::ys,h2,⟨fun x hx=>l2.m x hx,fun x hx=>l2.nV x (List.mem_cons_of_mem _ hx),fun x hx=>l2.frz x hx⟩,fun gs=>?_,fun σ hps F hF hf=>⟨?_,⟨?_,(r2 σ hps F hF hf).2.1⟩,fun m' hm1 hm2 he ρ' hb x hx=>?_⟩⟩
    rotate_left 3
    ·exfalso;unfold sE at he;rw[Bool.and_eq_true] at he;have he1:=he.1;have hnil:=hf.nV s.1 (hF.nV _ (l2.nV _ List.mem_cons_self));split at he1
     ·rename_i o' ho';exact hnil.1 (List.mem_map.2 ⟨_,hm2 _ (uv _ _ _ ho'),rfl⟩)
     ·cases he1
    ·show (match mkO s.2 (⟨.sl t,([]:List t.den)⟩::(es++gs)) with | (y,ds)=>match pj ss ds with | (l,ds)=>((s.1,y)::l,ds))=_;rw[hs];show (match pj ss (es++gs) with | (l,ds)=>((s.1,bI.arr e t (kH t ⟨.sl t,([]:List t.den)⟩))::l,ds))=_;rw[m2,nW]
    ·show s.1::aG ys=s.1::aG ss;rw[(r2 σ hps F hF hf).1]
    ·have hnil:=hf.nV s.1 (hF.nV _ (l2.nV _ List.mem_cons_self));show HSub σ (un2 fx cur) hps (s.1,cu.arr e t.cells []);unfold HSub;rw[oS (by rw[List.map_map]; exact hnil.1)];exact .inl ⟨rfl,hnil.2.2⟩
   ·rename_i hs;obtain⟨f2,es,ys,h2,l2,m2,r2⟩:=qa h;refine⟨f2,es,(s.1,.gone)::ys,h2,l2,fun gs=>?_,fun σ hps F hF hf=>⟨?_,⟨?_,(r2 σ hps F hF hf).2.1⟩,fun m' hm1 hm2 he ρ' hb x hx=>?_⟩⟩
    rotate_left 3
    ·exfalso;unfold sE at he;rw[Bool.and_eq_true] at he;have he1:=he.1;rw[hs] at he1;split at he1
     ·rename_i o' _;cases h9:obT fx cur o' with
      | none=>rw[h9] at he1; cases he1
      | some y=>rw[h9] at he1; cases y <;> cases he1
     ·cases he1
    ·show (match mkO s.2 (es++gs) with | (y,ds)=>match pj ss ds with | (l,ds)=>((s.1,y)::l,ds))=_;rw[hs];show (match pj ss (es++gs) with | (l,ds)=>((s.1,bI.gone)::l,ds))=_;rw[m2]
    ·show s.1::aG ys=s.1::aG ss;rw[(r2 σ hps F hF hf).1]
    ·show HSub σ (un2 fx cur) hps (s.1,cu.gone);unfold HSub;split
     ·rename_i o _;cases (un2 fx cur).hp o <;> trivial
     ·exact .inr rfl
   ·cases h
theorem yo:∀ {ps:List Ty} {ds:List Dyn} {k:Tup ps->Option ρ},CY ps ds k=some r->∃ x,k x=some r/\lG ps x=ds
 | [],[],k,h=>⟨(),h,rfl⟩
 | [t],[d],k,h=>by
  obtain⟨e,h⟩:=gj (show lT d.t t d.x k=some r from h);cases d with
  | mk t' x =>
   dsimp only at e;subst e;exact⟨_,h,rfl⟩
 | t::u::ps,d::ds,k,h=>by
  obtain⟨e,h⟩:=gj (show lT d.t t d.x (fun x=>CY (u::ps) ds fun y=>k (x,y))=some r from h);obtain⟨y,h,hy⟩:=yo h;cases d with
  | mk t' x =>
   dsimp only at e;subst e;refine⟨_,h,?_⟩;show (⟨t',x⟩:Dyn)::lG (u::ps) y=_;rw[hy]
 | [],_::_,k,h=>by cases h
 | [t],[],k,h=>by cases h
 | [t],_::_::_,k,h=>by cases h
 | _::_::_,[],k,h=>by cases h
end
end Go.Lad
namespace Go.Lad
open Go.RowKit
theorem fh {α:Type} (p:Nat->Bool):∀ (l:List (Nat×α)) (k:Nat),ae (l.filter fun x=>p x.1) k=if p k then ae l k else none
 | [],k=>by simp [ae]
 | x::l,k=>by
  have e:∀ l:List (Nat×α),ae (x::l) k=if k=x.1 then some x.2 else ae l k:=fun _=>rfl
  rw[List.filter_cons];by_cases hp:p x.1=true
  ·rw[if_pos hp,e,e,fh p l k];by_cases hk:k=x.1
   ·subst hk; simp [hp]
   ·simp [hk]
  ·rw[if_neg hp,fh p l k,e];by_cases hk:k=x.1
   ·subst hk; simp [hp]
   ·simp [hk]
theorem jK {α:Type}:∀ (l:List (Nat×α)) (k:Nat),ae l k=none↔k∉aG l
 | [],k=>by simp [ae,aG]
 | x::l,k=>by
  have e:ae (x::l) k=if k=x.1 then some x.2 else ae l k:=rfl
  rw[e];by_cases h:k=x.1
  ·simp [h,aG]
  ·rw[if_neg h,jK l k];simp [aG,h]
theorem yp {α:Type} {l:List (Nat×α)} {k:Nat} {v:α} (h:ae l k=some v):k∈aG l:=by
 apply Decidable.byContradiction;intro hn;rw[(jK l k).2 hn] at h;cases h
theorem gD {α:Type} (l:List (Nat×α)) (k:Nat):bu (aG l) k=false↔ae l k=none:=by
 rw[jK,← bO,Bool.not_eq_true]
theorem ik {α:Type}:∀ (l:List (Nat×α)) (seen:List Nat) (k:Nat),ae (gA seen l) k=if bu seen k then none else ae l k
 | [],seen,k=>by simp [gA,ae]
 | x::l,seen,k=>by
  have e:∀ l:List (Nat×α),ae (x::l) k=if k=x.1 then some x.2 else ae l k:=fun _=>rfl
  unfold gA;cases hs:bu seen x.1 with
  | true =>
   rw[cond_true,ik l seen k,e];by_cases hk:k=x.1
   ·subst hk; simp [hs]
   ·simp [hk]
  | false =>
   rw[cond_false,e,e,ik l _ k];by_cases hk:k=x.1
   ·subst hk; simp [hs]
   ·have:bu (x.1::seen) k=bu seen k:=by
     show (bif Nat.beq k x.1 then true else bu seen k)=_;rw[eE]; simp [hk]
    simp [hk,this]
theorem k9 {α:Type}:∀ (l:List (Nat×α)) (seen:List Nat) (x:Nat×α),x∈gA seen l->bu seen x.1=false/\ae l x.1=some x.2
 | [],seen,x,h=>by cases h
 | y::l,seen,x,h=>by
  have e:∀ k,ae (y::l) k=if k=y.1 then some y.2 else ae l k:=fun _=>rfl
  unfold gA at h;cases hs:bu seen y.1 with
  | true =>
   rw[hs,cond_true] at h;obtain⟨h1,h2⟩:=k9 l seen x h;refine⟨h1,?_⟩;rw[e,if_neg (fun he=>by rw[he,hs] at h1; cases h1)];exact h2
  | false =>
   rw[hs,cond_false] at h;rcases List.mem_cons.1 h with rfl | h
   ·exact⟨hs,by rw[e,if_pos rfl]⟩
   ·obtain⟨h1,h2⟩:=k9 l _ x h;have h3:(bif Nat.beq x.1 y.1 then true else bu seen x.1)=false:=h1;rw[eE] at h3;by_cases hk:x.1=y.1
    ·simp [hk] at h3
    ·simp only[hk,decide_false,cond_false] at h3;exact⟨h3,by rw[e,if_neg hk]; exact h2⟩
theorem oM:∀ (ss:List (Nat×OSh)) (ds:List Dyn),aG (pj ss ds).1=aG ss
 | [],_=>rfl
 | s::ss,ds=>by
  show s.1::aG (pj ss (mkO s.2 ds).2).1=s.1::aG ss;rw[oM ss]
section
variable {ρ:Type} {fx cur:TSt} {r:ρ} {σ:Ren} {hps:List (Nat×cu)} {s:St}
def qO (σ:Ren) (hps:List (Nat×cu)) (i:Nat):Prop:=(i,i)∈σ.m/\ae hps i≠none
theorem uw:∀ (l:List Nat),(∀ i∈l,qO σ hps i)->sn σ hps l l
 | [],_=>trivial
 | x::l,h=>⟨h x List.mem_cons_self,uw l fun i hi=>h i (List.mem_cons_of_mem _ hi)⟩
theorem fR (x:TL) (h:∀ i∈x.iK,qO σ hps i):pW σ s hps x.un x.un:=by
 cases x with
 | dead=>trivial
 | v t x=>exact nX t x s
 | nil=>trivial
 | loc o off=>exact⟨h o (by simp [TL.iK]),rfl⟩
 | own o=>exact h o (by simp [TL.iK])
 | el o n off z=>exact⟨h o (by simp [TL.iK]),rfl,rfl,rfl⟩
 | ip t x off=>exact⟨rfl,rfl⟩
 | mp o=>exact h o (by simp [TL.iK])
 | fn f caps=>exact⟨rfl,uw caps h⟩
 | sv o a b z=>exact⟨h o (by simp [TL.iK]),rfl,rfl,rfl⟩
 | ps o=>exact h o (by simp [TL.iK])
 | oth v=>rfl
 | nb pos t l=>exact⟨rfl,rfl⟩
 | tl t l=>rfl
theorem qP:∀ (xs:List TL),(∀ i∈xs.flatMap TL.iK,qO σ hps i)->lX σ s hps (xs.map TL.un) (xs.map TL.un)
 | [],_=>trivial
 | x::xs,h=>⟨fR x fun i hi=>h i (by simp [hi]),qP xs fun i hi=>h i (by rw[List.flatMap_cons]; exact List.mem_append_right _ hi)⟩
theorem Ag (c:TC) (h:∀ i∈c.leaves.flatMap TL.iK,qO σ hps i):uW σ s hps c.un c.un:=by
 cases c with
 | v x=>exact fR x fun i hi=>h i (by simpa [TC.leaves] using hi)
 | g xs=>exact qP xs h
theorem yq:∀ (l:List TC),(∀ i∈l.flatMap (fun c=>c.leaves.flatMap TL.iK),qO σ hps i)->s7 σ s hps (l.map TC.un) (l.map TC.un)
 | [],_=>trivial
 | c::l,h=>⟨Ag c fun i hi=>h i (by rw[List.flatMap_cons]; exact List.mem_append_left _ hi),yq l fun i hi=>h i (by rw[List.flatMap_cons]; exact List.mem_append_right _ hi)⟩
theorem sI (x:TSl) (h:∀ i∈x.iK,qO σ hps i):rC σ s hps x.un x.un:=by
 cases x with
 | dead=>trivial
 | c c=>exact Ag c h
 | t l=>exact yq l h
theorem vx (x:bI) (h:∀ i∈x.iK,qO σ hps i):AZ σ s hps (some x.un) x.un:=by
 cases x with
 | gone=>trivial
 | box t cs=>exact⟨rfl,qP cs h⟩
 | arr e t l=>exact⟨rfl,rfl,rfl⟩
 | kx k agg t m=>exact⟨rfl,rfl,rfl⟩
 | iJ agg t m=>exact⟨rfl,rfl⟩
 | fM k agg t m=>exact⟨rfl,rfl,rfl⟩
 | sU k agg t m key d=>exact⟨rfl,rfl,rfl,rfl,h d (by simp [bI.iK])⟩
 | gI k e t m h=>exact⟨rfl,rfl,rfl,rfl,rfl⟩
 | lit t cs=>exact⟨rfl,qP cs h⟩
theorem ux {α:Type} {p:α->Prop}:∀ {l m:List α},pK p l->pK p m->pK p (l++m)
 | [],_,_,h=>h
 | _::_,_,h,g=>⟨h.1,ux h.2 g⟩
theorem la {α:Type} {p:α->Prop}:∀ {l:List α},(∀ x∈l,p x)->pK p l
 | [],_=>trivial
 | x::l,h=>⟨h x List.mem_cons_self,la fun y hy=>h y (List.mem_cons_of_mem _ hy)⟩
structure Kept (fx cur fx2:TSt):Prop where
 tm:∀ x∈fx2.tm,x.2.vm=true\/lH fx cur x.1=x.2
 hp:∀ x∈fx2.hp,obT fx cur x.1=some x.2
 closed:iI fx2=true
theorem vy {x:TSl} (h:x.vm=true):x = .dead:=by cases x <;> first | rfl | cases h
theorem kn:∀ (l:List Nat),rP l=true->l.Nodup
 | [],_=>List.nodup_nil
 | x::l,h=>by
  unfold rP at h;rw[Bool.and_eq_true,Bool.not_eq_true'] at h;refine List.nodup_cons.2 ⟨fun hx=>?_,kn l h.2⟩;rw[(bO l x).2 hx] at h;exact absurd h.1 (by simp)
theorem yr (l:List (Nat×bI)):(du l).map (·.1)=aG l:=by unfold du aG; rw[List.map_map]; rfl
theorem qb {α:Type} (l m:List (Nat×α)):aG (l++m)=aG l++aG m:=by unfold aG; rw[List.map_append]
theorem nq {l:List (Nat×bI)} {o:Nat} (h:o∈aG l):ae (du l) o≠none:=by
 intro hn;have:=(jK _ _).1 hn;unfold aG at this;exact this (by rw[yr]; exact h)
theorem ND {f:FS} {hk:List Nat} {pin:Bool} {l:List (Nat×bI)} (h:f.ok hk pin=true) (hl:∀ o∈hk,o∈aG l):Dh ⟨f.m,none,pin⟩ (du l) f/\(pin=true->pK (fun x=>1000000<=x.2->x.1=x.2) f.m):=by
 unfold FS.ok at h;simp only[Bool.and_eq_true,List.all_eq_true,Bool.or_eq_true,Bool.not_eq_true',eE,jR,decide_eq_true_eq] at h;obtain⟨⟨⟨⟨h1,h2⟩,h3⟩,h4⟩,h5⟩:=h;refine⟨⟨⟨kn _ h1,kn _ h2⟩,fun x hx=>⟨hx,nq (hl _ ((bO _ _).1 (h3 x hx).1))⟩,fun o ho=>⟨fun hm=>?_,trivial⟩,fun o ho=>⟨fun hm=>?_,nq (hl _ ((bO _ _).1 (h5 o ho).1.2)),fun _=>by have:=(h5 o ho).2; omega⟩⟩,fun hp=>la fun x hx hge=>?_⟩
 ·have h6:=h4 o ho;rw[show bu (Na f.m) o=true from (bO _ _).2 hm] at h6; cases h6
 ·have h6:=(h5 o ho).1.1;rw[show bu (vl f.m) o=true from (bO _ _).2 hm] at h6; cases h6
 ·rcases (h3 x hx).2 with (h | h) | h
  ·rw[hp] at h; cases h
  ·omega
  ·exact h
theorem nr {σs:Shp} {fx2:TSt} {k:Tup σs.ps->Option ρ} (h:fitAll fx cur σs fx2 k=some r):∃ x,k x=some r/\(Kept fx cur fx2->∃ σ,Sub σ (un2 fx cur) (nU ((σs.at x).tm++fx2.tm)) (du ((σs.at x).hp++fx2.hp))):=by
 unfold fitAll at h;obtain⟨f1,ds,tm,h1,l1,m1,r1⟩:=Dn h;obtain⟨f2,es,hp,h2,l2,m2,r2⟩:=qa h1;obtain⟨hok,h3⟩:=aq h2;obtain⟨x,h4,hx⟩:=yo h3;refine⟨x,h4,fun kp=>?_⟩;have hat:σs.at x=⟨tm,hp⟩:=by
  unfold Shp.at Shp.mk';rw[hx,m1];dsimp only;have:=m2 [];rw[List.append_nil] at this;rw[this]
 rw[hat];have hkeys:aG hp=aG σs.hp:=by
  have:=oM σs.hp (es++[]);rw[m2] at this;exact this
 let hps:=du (hp++fx2.hp)
 obtain⟨hfine,hpin⟩:=ND (l:=hp++fx2.hp) hok fun o ho=>by rw[qb,hkeys]; exact ho
 have hpin:=hpin rfl
 let σ:Ren:=⟨f2.m,none,true⟩
 have hsame:∀ i∈aG fx2.hp,qO σ hps i:=fun i hi=>by
  have hm:(i,i)∈(fx2.hp.map fun x=>(x.1,x.1))++C4 σs.hp:=by
   obtain⟨y,hy,rfl⟩:=List.mem_map.1 hi;exact List.mem_append_left _ (List.mem_map.2 ⟨y,hy,rfl⟩)
  exact hfine.m _ (l2.m _ (l1.m _ hm))
 have hcl:=kp.closed;unfold iI at hcl;simp only[Bool.and_eq_true,List.all_eq_true] at hcl;refine⟨σ,⟨hfine.nd,rfl,rfl,hpin⟩,?_,?_⟩
 ·unfold nU;rw[List.map_append];refine ux (r1 σ hps f2 l2 hfine).2 (la fun q hq=>?_);obtain⟨y,hy,rfl⟩:=List.mem_map.1 hq;dsimp only;rw[iL];rcases kp.tm y hy with hd | he
  ·rw[vy hd]; exact sH _
  ·rw[he];exact sI _ fun i hi=>hsame i ((bO _ _).1 (hcl.1 y hy i hi))
 ·have e2:du hp++du fx2.hp=du (hp++fx2.hp):=List.map_append.symm;suffices key:pK (HSub σ (un2 fx cur) hps) (du hp++du fx2.hp) by
   rw[e2] at key; exact key
  refine ux (r2 σ hps f2 (FS.le_refl _) hfine).2.1 (la fun q hq=>?_);obtain⟨y,hy,rfl⟩:=List.mem_map.1 hq;show HSub σ (un2 fx cur) hps (y.1,y.2.un);unfold HSub;have hk:y.1∈aG fx2.hp:=List.mem_map.2 ⟨y,hy,rfl⟩;rw[np hfine.nd (hsame _ hk).1];dsimp only;rw[gT,kp.hp y hy];exact vx _ fun i hi=>hsame i ((bO _ _).1 (hcl.2 y hy i hi))
variable {σs:Shp} {kt kh:List Nat}
theorem oC (k:Nat):ae (aT cur σs kt kh).tm k=if bu (aG σs.tm) k then some .dead else (ae cur.tm k).map fun v=>cond (bu kt k) v .dead:=by
 have e1:∀ (l:List (Nat×TSl)),ae (l.map fun x=>(x.1,cond (bu kt x.1) x.2 TSl.dead)) k=(ae l k).map fun v=>cond (bu kt k) v .dead:=by
  intro l;induction l with
  | nil=>rfl
  | cons x l ih =>
   rw[List.map_cons];have e:∀ (x:Nat×TSl) (l:List (Nat×TSl)),ae (x::l) k=if k=x.1 then some x.2 else ae l k:=fun _ _=>rfl
   rw[e,e,ih];by_cases h:k=x.1
   ·subst h; simp
   ·simp [h]
 have e2:∀ l:List Nat,ae (l.map fun k=>(k,TSl.dead)) k=if bu l k then some .dead else none:=by
  intro l;induction l with
  | nil=>simp [bu,ae]
  | cons x l ih =>
   rw[List.map_cons];have e:∀ (x:Nat×TSl) (l:List (Nat×TSl)),ae (x::l) k=if k=x.1 then some x.2 else ae l k:=fun _ _=>rfl
   rw[e,ih];show _=if (bif Nat.beq k x then true else bu l k) then _ else _
   rw[eE];by_cases h:k=x <;> simp [h]
 unfold aT;dsimp only;rw[bf,e1,fh (fun k=>!bu (aG σs.tm) k),e2];cases hs:bu (aG σs.tm) k with
 | true=>simp
 | false =>
  simp only[Bool.not_false,if_true,Bool.false_eq_true,if_false];cases ae cur.tm k <;> rfl
theorem iX (o:Nat):ae (aT cur σs kt kh).hp o=if !bu (aG σs.hp) o && bu kh o then ae cur.hp o else none:=by
 unfold aT;exact fh (fun k=>!bu (aG σs.hp) k && bu kh k) _ _
theorem qQ (k:Nat):ae (gZ fx cur (aT cur σs kt kh) σs).tm k=match ae (aT cur σs kt kh).tm k with | some x=>some x | none=>if !bu (aG cur.tm) k && !bu (aG σs.tm) k then ae fx.tm k else none:=by
 unfold gZ;dsimp only;rw[ik,bf,fh (fun k=>!bu (aG cur.tm) k && !bu (aG σs.tm) k),if_neg (by simp [bu])];cases ae (aT cur σs kt kh).tm k <;> rfl
theorem lV (o:Nat):ae (gZ fx cur (aT cur σs kt kh) σs).hp o=match ae (aT cur σs kt kh).hp o with | some x=>some x | none=>if !bu (aG cur.hp) o && !bu (aG σs.hp) o then ae fx.hp o else none:=by
 unfold gZ;dsimp only;rw[ik,bf,fh (fun k=>!bu (aG cur.hp) k && !bu (aG σs.hp) k),if_neg (by simp [bu])];cases ae (aT cur σs kt kh).hp o <;> rfl
theorem Dp {x:Nat×TSl} (h:x∈(gZ fx cur (aT cur σs kt kh) σs).tm):ae (gZ fx cur (aT cur σs kt kh) σs).tm x.1=some x.2:=by
 have h1:=(k9 _ _ _ h).2;unfold gZ;dsimp only;rw[ik,if_neg (by simp [bu])];exact h1
theorem vA {x:Nat×bI} (h:x∈(gZ fx cur (aT cur σs kt kh) σs).hp):ae (gZ fx cur (aT cur σs kt kh) σs).hp x.1=some x.2:=by
 have h1:=(k9 _ _ _ h).2;unfold gZ;dsimp only;rw[ik,if_neg (by simp [bu])];exact h1
theorem GC (hc:iI (gZ fx cur (aT cur σs kt kh) σs)=true):Kept fx cur (gZ fx cur (aT cur σs kt kh) σs):=by
 refine⟨fun x hx=>?_,fun x hx=>?_,hc⟩
 ·have h:=Dp hx;rw[qQ,oC] at h;cases hs:bu (aG σs.tm) x.1 with
  | true =>
   rw[hs] at h;simp only[if_true,Option.some.injEq] at h;rw[← h]; exact .inl rfl
  | false =>
   rw[hs] at h;simp only[Bool.false_eq_true,if_false] at h;cases hcur:ae cur.tm x.1 with
   | some v =>
    rw[hcur] at h;simp only[Option.map_some,Option.some.injEq] at h;cases hk:bu kt x.1 with
    | true =>
     rw[hk,cond_true] at h;refine .inr ?_;unfold lH;rw[bf,hcur]; exact h
    | false=>rw[hk,cond_false] at h; rw[← h]; exact .inl rfl
   | none =>
    rw[hcur] at h;simp only[Option.map_none] at h;split at h
    ·refine .inr ?_;unfold lH;rw[bf,hcur];dsimp only;rw[h]; rfl
    ·cases h
 ·have h:=vA hx;rw[lV,iX] at h;rw[kR,bf];split at h
  ·rename_i y hy;split at hy
   ·rw[hy]; exact h
   ·cases hy
  ·rename_i hy;split at h
   ·rename_i hcc;rw[Bool.and_eq_true,Bool.not_eq_true',gD] at hcc;rw[hcc.1]; exact h
   ·cases h
theorem uy {c:TSt} (hc:iI (gZ fx cur (aT cur σs kt kh) σs)=true) (hk:rQ (gZ fx cur (aT cur σs kt kh) σs) c σs=true):Kept (gZ fx cur (aT cur σs kt kh) σs) c (gZ fx cur (aT cur σs kt kh) σs):=by
 unfold rQ at hk;simp only[Bool.and_eq_true,List.all_eq_true,Bool.or_eq_true] at hk;refine⟨fun x hx=>?_,fun x hx=>?_,hc⟩
 ·have h:=Dp hx;cases hcl:ae c.tm x.1 with
  | none =>
   refine .inr ?_;unfold lH;rw[bf,hcl];dsimp only;rw[h]; rfl
  | some v =>
   refine .inl ?_;rcases hk.1 _ (cx hcl) with h1 | h1
   ·dsimp only at h1;rw[qQ,oC,h1] at h;simp only[if_true,Option.some.injEq] at h;rw[← h]; rfl
   ·dsimp only at h1;rw[look_eq,h] at h1;exact h1
 ·have h:=vA hx;rw[kR,bf];cases hcl:ae c.hp x.1 with
  | none=>exact h
  | some v =>
   exfalso;rcases hk.2 _ (cx hcl) with h1 | h1
   ·dsimp only at h1;rw[lV,iX,h1] at h;simp at h
   ·dsimp only at h1;rw[look_eq,h] at h1;cases h1
theorem rX {c:TSt} (hd:n9 fx cur (aT cur σs kt kh) σs=true):un2 fx ⟨c.tm++(aT cur σs kt kh).tm,c.hp++(aT cur σs kt kh).hp⟩=un2 (gZ fx cur (aT cur σs kt kh) σs) c:=by
 unfold n9 at hd;simp only[Bool.and_eq_true,List.all_eq_true,Bool.or_eq_true] at hd;refine St.ext' (fun k=>?_) (fun o=>?_)
 ·rw[iL,iL];unfold lH;congr 2;dsimp only;rw[List.append_assoc,bf,bf c.tm,bf,qQ];cases ae c.tm k with
  | some v=>rfl
  | none =>
   dsimp only;cases hkt:ae (aT cur σs kt kh).tm k with
   | some v=>rfl
   | none =>
    dsimp only;rw[oC] at hkt;cases hs:bu (aG σs.tm) k with
    | true=>rw[hs] at hkt; cases hkt
    | false =>
     rw[hs] at hkt;simp only[Bool.false_eq_true,if_false,Option.map_eq_none_iff] at hkt;rw[(gD _ _).2 hkt]; rfl
 ·rw[gT,gT,kR,kR];congr 1;dsimp only;rw[List.append_assoc,bf,bf c.hp,bf,lV];cases ae c.hp o with
  | some v=>rfl
  | none =>
   dsimp only;cases hkt:ae (aT cur σs kt kh).hp o with
   | some v=>rfl
   | none =>
    dsimp only;cases hs:bu (aG σs.hp) o with
    | true =>
     rw[Bool.not_true,Bool.and_false];obtain⟨y,hy,rfl⟩:=List.mem_map.1 ((bO _ _).1 hs);have:=hd.2 y hy;rw[look_eq] at this;cases hl:ae fx.hp y.1 with
     | none=>rfl
     | some v=>rw[hl] at this; cases this
    | false =>
     cases hcu:ae cur.hp o with
     | none=>rw[(gD _ _).2 hcu]; rfl
     | some v =>
      have hk:=(bO _ _).2 (yp hcu);rw[hk];have:=hd.1 _ (cx hcu);dsimp only at this;rcases this with (h1 | h1) | h1
      ·rw[hs] at h1; cases h1
      ·have:=(gD (aT cur σs kt kh).hp o).2 hkt;rw[this] at h1; cases h1
      ·rw[look_eq] at h1;cases hl:ae fx.hp o with
       | none=>rfl
       | some v=>rw[hl] at h1; cases h1
theorem GD (hd:n9 fx cur (aT cur σs kt kh) σs=true):un2 (gZ fx cur (aT cur σs kt kh) σs) (x9 fx cur σs kt kh)=un2 fx cur:=by
 unfold n9 at hd;simp only[Bool.and_eq_true,List.all_eq_true,Bool.or_eq_true] at hd;refine St.ext' (fun k=>?_) (fun o=>?_)
 ·rw[iL,iL];congr 1;unfold lH;have hown:ae (x9 fx cur σs kt kh).tm k=match (if bu (aG σs.tm) k || !bu kt k then ae cur.tm k else none) with | some x=>some x | none=>if bu (aG σs.tm) k && !bu (aG cur.tm) k then ae fx.tm k else none:=by
   unfold x9;dsimp only;rw[bf,fh (fun k=>bu (aG σs.tm) k || !bu kt k),fh (fun k=>bu (aG σs.tm) k && !bu (aG cur.tm) k)];generalize (if (bu (aG σs.tm) k || !bu kt k)=true then ae cur.tm k else none)=q;cases q <;> rfl
  rw[bf,bf,hown,qQ,oC];cases hs:bu (aG σs.tm) k with
  | true =>
   simp only[Bool.true_or,if_true,Bool.true_and];cases hcu:ae cur.tm k with
   | some v=>rfl
   | none =>
    rw[(gD _ _).2 hcu];simp only[Bool.not_false,if_true];cases ae fx.tm k <;> rfl
  | false =>
   simp only[Bool.false_or,Bool.false_eq_true,if_false,Bool.false_and,Bool.not_false,Bool.and_true];cases hcu:ae cur.tm k with
   | some v =>
    cases hk:bu kt k with
    | true=>simp
    | false=>simp
   | none =>
    rw[(gD _ _).2 hcu];simp
 ·rw[gT,gT,kR,kR];congr 1;have hown:ae (x9 fx cur σs kt kh).hp o=if bu (aG σs.hp) o || !bu kh o then ae cur.hp o else none:=by
   unfold x9;exact fh (fun k=>bu (aG σs.hp) k || !bu kh k) _ _
  rw[bf,bf,hown,lV,iX];cases hs:bu (aG σs.hp) o with
  | true =>
   simp only[Bool.true_or,if_true,Bool.not_true,Bool.false_and,Bool.false_eq_true,if_false,Bool.and_false];cases hcu:ae cur.hp o with
   | some v=>rfl
   | none =>
    dsimp only;obtain⟨y,hy,rfl⟩:=List.mem_map.1 ((bO _ _).1 hs);have:=hd.2 y hy;rw[look_eq] at this;cases hl:ae fx.hp y.1 with
    | none=>rfl
    | some v=>rw[hl] at this; cases this
  | false =>
   simp only[Bool.false_or,Bool.not_false,Bool.true_and,Bool.and_true];cases hcu:ae cur.hp o with
   | some v =>
    cases hk:bu kh o with
    | true=>simp
    | false=>simp
   | none =>
    rw[(gD _ _).2 hcu];simp
end
end Go.Lad
namespace Go.Lad
open Go.RowKit
section
variable {fx cur:TSt}
theorem P9 (l m:List (Nat×bI)) (o:Nat) (x:bI):Lad.upd (fun j=>(ae (l++m) j).map bI.un) o (some x.un)=fun j=>(ae (sX l o x++m) j).map bI.un:=by
 funext j
 show (if j=o then some x.un else (ae (l++m) j).map bI.un)=_;rw[bf,bf,qK];by_cases h:j=o
 ·simp [h]
 ·simp [h]
theorem GF:∀ (wr l m:List (Nat×bI)),eJ (fun j=>(ae (l++m) j).map bI.un) (du wr)=fun j=>(ae (PS l wr++m) j).map bI.un
 | [],l,m=>rfl
 | x::wr,l,m=>by
  show eJ (Lad.upd (fun j=>(ae (l++m) j).map bI.un) x.1 (some x.2.un)) (du wr)=_;rw[P9,GF wr];rfl
theorem Fq:(un2 fx cur).hp=fun j=>(ae (cur.hp++fx.hp) j).map bI.un:=by
 funext j; rw[gT,kR]
theorem Fs (d:Option Nat) (x:TSl) (wr:List (Nat×bI)) (c:Prop):(un2 fx cur).app d ⟨c,x.un,du wr⟩=un2 fx (sY cur d x wr):=by
 refine St.ext' (fun k=>?_) (fun o=>?_)
 ·rw[iL];cases d with
  | none=>exact iL fx cur k
  | some d =>
   show (if k=d then x.un else (un2 fx cur).tm k)=_;rw[iL];unfold lH sY;dsimp only;rw[bf,bf,qK];by_cases h:k=d
   ·simp [h]
   ·simp [h]
 ·rw[gT,kR];show eJ (un2 fx cur).hp (du wr) o=_;rw[Fq,GF];rfl
end
def Con.argsAt (c:Con) (x:Tup c.ps):List TSl×List (Nat×bI)×List (Nat×bI) :=
 match wB c.ain (lG c.ps x) with
 | (as,ds)=>match pj c.kin ds with
  | (ks,ds)=>match pj c.hin ds with
   | (hs,_)=>(as,ks,hs)
def Con.oq (c:Con) (r:Tup c.qs):List TC×List (Nat×bI) :=
 match mQ c.out.eF (lG c.qs r) with
 | (cs,ds)=>match pj c.ig ds with
  | (hs,_)=>(cs,hs)
def BE (o:RSh) (cs:List TC):Rz :=
 match o,cs with
 | .one _,[c]=>.one c.un
 | _,cs=>.tup (cs.map TC.un)
def Con.spec (c:Con) (x:Tup c.ps) (r:Tup c.qs):ra :=
 ⟨(c.argsAt x).1.map TSl.un,du ((c.argsAt x).2.2++(c.argsAt x).2.1),BE c.out (c.oq r).1,du ((c.oq r).2++(c.argsAt x).2.1)⟩
def de (P:Program) (c:Con):Prop:=mj P c.f=true/\∀ x r,c.fn x=some r->gS P c.f (c.spec x r)
theorem oe (ρ:List (Nat×Nat)) (o:Nat):rnT ρ o=rnN ρ o:=by
 unfold rnT rnN;rw[look_eq];cases ae ρ o <;> rfl
theorem wM (ρ:List (Nat×Nat)) (x:TL):(wz ρ x).un=rnL ρ x.un:=by
 cases x with
 | v t x =>
  show (TL.v t x).un=rnL ρ (TL.v t x).un;cases t <;> first | rfl | (show (match enc _ x with | [p]=>av.p p | _=>.dead)=rnL ρ (match enc _ x with | [p]=>av.p p | _=>.dead); split <;> rfl)
 | fn f caps=>show av.fn f (caps.map (rnT ρ)) = .fn f (caps.map (rnN ρ)); rw[List.map_congr_left fun o _=>oe ρ o]
 | loc o f=>show av.loc (rnT ρ o) f = .loc (rnN ρ o) f; rw[oe]
 | own o=>show av.own (rnT ρ o) = .own (rnN ρ o); rw[oe]
 | el o i f z=>show av.el (rnT ρ o) _ _ _ = .el (rnN ρ o) _ _ _; rw[oe]
 | mp o=>show av.mp (rnT ρ o) = .mp (rnN ρ o); rw[oe]
 | sv o a b z=>show av.sv (rnT ρ o) _ _ _ = .sv (rnN ρ o) _ _ _; rw[oe]
 | ps o=>show av.ps (rnT ρ o) = .ps (rnN ρ o); rw[oe]
 | dead=>rfl
 | nil=>rfl
 | ip t x off=>rfl
 | oth v=>rfl
 | nb p t l=>rfl
 | tl t l=>rfl
theorem GG (ρ:List (Nat×Nat)) (c:TC):(KB ρ c).un=rnC ρ c.un:=by
 cases c with
 | v x=>show Cmp.v (wz ρ x).un = .v (rnL ρ x.un); rw[wM]
 | g xs =>
  show Cmp.g ((xs.map (wz ρ)).map TL.un) = .g ((xs.map TL.un).map (rnL ρ));rw[List.map_map,List.map_map];congr 1;exact List.map_congr_left fun x _=>wM ρ x
theorem GH (ρ:List (Nat×Nat)) (x:bI):(wA ρ x).un=rnH ρ x.un:=by
 cases x with
 | box t cs =>
  show cu.box t ((cs.map (wz ρ)).map TL.un) = .box t ((cs.map TL.un).map (rnL ρ));rw[List.map_map,List.map_map];congr 1;exact List.map_congr_left fun x _=>wM ρ x
 | gone=>rfl
 | arr e t l=>rfl
 | kx k agg t m=>rfl
 | iJ agg t m=>rfl
 | fM k agg t m=>rfl
 | sU k agg t m key d=>rfl
 | gI k e t m h=>rfl
 | lit t cs =>
  show cu.lit t ((cs.map (wz ρ)).map TL.un) = .lit t ((cs.map TL.un).map (rnL ρ));rw[List.map_map,List.map_map];congr 1;exact List.map_congr_left fun x _=>wM ρ x
theorem Ft (o:RSh) (ρ:List (Nat×Nat)) (cs:List TC):(wJ o ρ cs).un=rnZ ρ (BE o cs):=by
 unfold wJ BE;split
 ·show Slot.c (KB ρ _).un=_;rw[GG]; rfl
 ·rename_i hno;split
  ·rename_i c; exact absurd rfl (hno _ c rfl)
  ·show Slot.t ((cs.map (KB ρ)).map TC.un) = .t ((cs.map TC.un).map (rnC ρ));rw[List.map_map,List.map_map];congr 1;exact List.map_congr_left fun x _=>GG ρ x
theorem GI (ρ:List (Nat×Nat)) (l:List (Nat×bI)):du (l.map fun x=>(rnT ρ x.1,wA ρ x.2))=(du l).map fun x=>(rnN ρ x.1,rnH ρ x.2):=by
 unfold du;rw[List.map_map,List.map_map];exact List.map_congr_left fun x _=>by show (rnT ρ x.1,(wA ρ x.2).un)=(rnN ρ x.1,rnH ρ x.2.un); rw[oe,GH]
theorem NF (t:Ty) (x:t.den):(TL.v t x).un.rF=false:=by
 show (match enc t x with | [p]=>av.p p | _=>.dead).rF=false;split <;> rfl
theorem Dq (t:Ty) (x:t.den):∀ y∈(dF t x).map TL.un,y.rF=false:=by
 rw[jJ];intro y hy;obtain⟨p,hp,rfl⟩:=List.mem_map.1 hy;rfl
theorem Dr {s:LSh} {ds:List Dyn} (h:s.ya=true):(mkL s ds).1.un.rF=false:=by
 cases s with
 | d t =>
  cases ds with
  | nil=>rfl
  | cons d ds =>
   unfold mkL;dsimp only;split
   ·exact NF _ _
   ·rfl
 | ip t=>cases h
 | _=>rfl
theorem Ah:∀ (ss:List LSh) (ds:List Dyn),ss.all LSh.ya=true->∀ x∈(tz ss ds).1,x.un.rF=false
 | [],_,_,x,hx=>by cases hx
 | s::ss,ds,h,x,hx=>by
  rw[List.all_cons,Bool.and_eq_true] at h;have e:(tz (s::ss) ds).1=(mkL s ds).1::(tz ss (mkL s ds).2).1:=rfl;rw[e] at hx;rcases List.mem_cons.1 hx with rfl | hx
  ·exact Dr h.1
  ·exact Ah ss _ h.2 x hx
theorem Ds {s:CSh} {ds:List Dyn} (h:s.leaves.all LSh.ya=true):∀ x∈(mkC s ds).1.un.leaves,x.rF=false:=by
 cases s with
 | v s =>
  intro x hx;have e:(mkC (.v s) ds).1 = .v (mkL s ds).1:=rfl;rw[e] at hx;simp only[TC.un,Cmp.leaves,List.mem_singleton] at hx;subst hx;exact Dr (by simpa [CSh.leaves] using h)
 | g ss =>
  intro x hx;have e:(mkC (.g ss) ds).1 = .g (tz ss ds).1:=rfl;rw[e] at hx;simp only[TC.un,Cmp.leaves] at hx;obtain⟨y,hy,rfl⟩:=List.mem_map.1 hx;exact Ah ss ds h y hy
 | a t =>
  cases ds with
  | nil=>intro x hx; cases hx
  | cons d ds =>
   intro x hx;unfold mkC at hx;dsimp only at hx;split at hx
   ·exact Dq _ _ x hx
   ·cases hx
theorem Ai:∀ (ss:List CSh) (ds:List Dyn),ss.all (fun c=>c.leaves.all LSh.ya)=true->∀ c∈(mQ ss ds).1,∀ x∈c.un.leaves,x.rF=false
 | [],_,_,c,hc=>by cases hc
 | s::ss,ds,h,c,hc=>by
  rw[List.all_cons,Bool.and_eq_true] at h;have e:(mQ (s::ss) ds).1=(mkC s ds).1::(mQ ss (mkC s ds).2).1:=rfl;rw[e] at hc;rcases List.mem_cons.1 hc with rfl | hc
  ·exact Ds h.1
  ·exact Ai ss _ h.2 c hc
theorem Iu {s:SSh} {ds:List Dyn} (h:s.ya=true):∀ l∈(x7 s ds).1.un.lvs,l.rF=false:=by
 cases s with
 | dead=>intro l hl; cases hl
 | c x=>exact Ds h
 | t l =>
  intro y hy;obtain⟨c,hc,hy⟩:=List.mem_flatMap.1 hy;have e:(x7 (.t l) ds).1 = .t (mQ l ds).1:=rfl;obtain⟨c0,hc0,rfl⟩:=List.mem_map.1 hc;exact Ai l ds h c0 hc0 y hy
theorem Aj:∀ (ss:List SSh) (ds:List Dyn),ss.all SSh.ya=true->∀ y∈(wB ss ds).1.map TSl.un,∀ l∈y.lvs,l.rF=false
 | [],_,_,y,hy=>by cases hy
 | s::ss,ds,h,y,hy=>by
  rw[List.all_cons,Bool.and_eq_true] at h;have e:(wB (s::ss) ds).1=(x7 s ds).1::(wB ss (x7 s ds).2).1:=rfl;rw[e,List.map_cons] at hy;rcases List.mem_cons.1 hy with rfl | hy
  ·exact Iu h.1
  ·exact Aj ss _ h.2 y hy
theorem Dt {s:LSh} {ds:List Dyn} (h:s.gw=true):flL (mkL s ds).1.un:=by
 cases s with
 | d t =>
  cases ds with
  | nil=>trivial
  | cons d ds =>
   unfold mkL;dsimp only;split
   ·rename_i g _;show flL (TL.v t (mZ g.down d.x)).un;generalize mZ g.down d.x=x;cases t with
    | sl e=>cases h
    | map kd e=>cases h
    | slu i=>cases h
    | pair a b =>
     show flL (match enc (.pair a b) x with | [p]=>av.p p | _=>.dead);split
     ·rename_i p hp;exact lI (.pair a b) x h p (by rw[hp]; simp)
     ·trivial
    | any=>rfl
    | int k=>rfl
    | bool=>rfl
    | str=>rfl
   ·trivial
 | dead=>trivial
 | pn=>rfl
 | mn=>rfl
 | ni=>rfl
 | bc b=>rfl
 | nil=>trivial
 | own o=>trivial
 | loc o f=>trivial
 | mp o=>trivial
 | fn f c=>trivial
 | ip t=>cases h
 | vp o=>trivial
 | ps o=>trivial
theorem vB:∀ (ss:List LSh) (ds:List Dyn),ss.all LSh.gw=true->∀ x∈(tz ss ds).1,flL x.un
 | [],_,_,x,hx=>by cases hx
 | s::ss,ds,h,x,hx=>by
  rw[List.all_cons,Bool.and_eq_true] at h;have e:(tz (s::ss) ds).1=(mkL s ds).1::(tz ss (mkL s ds).2).1:=rfl;rw[e] at hx;rcases List.mem_cons.1 hx with rfl | hx
  ·exact Dt h.1
  ·exact vB ss _ h.2 x hx
theorem BF {t:Ty} (h:t.gw=true) (x:t.den):∀ y∈(dF t x).map TL.un,flL y:=by
 rw[jJ];intro y hy;obtain⟨p,hp,rfl⟩:=List.mem_map.1 hy;exact lI t x h p hp
theorem KV {s:CSh} {ds:List Dyn} (h:s.leaves.all LSh.gw=true):∀ x∈(mkC s ds).1.un.leaves,flL x:=by
 cases s with
 | v s =>
  intro x hx;have e:(mkC (.v s) ds).1 = .v (mkL s ds).1:=rfl;rw[e] at hx;simp only[TC.un,Cmp.leaves,List.mem_singleton] at hx;subst hx;exact Dt (by simpa [CSh.leaves] using h)
 | g ss =>
  intro x hx;have e:(mkC (.g ss) ds).1 = .g (tz ss ds).1:=rfl;rw[e] at hx;simp only[TC.un,Cmp.leaves] at hx;obtain⟨y,hy,rfl⟩:=List.mem_map.1 hx;exact vB ss ds h y hy
 | a t =>
  have hf:t.gw=true:=by simpa [CSh.leaves,LSh.gw] using h
  cases ds with
  | nil=>intro x hx; cases hx
  | cons d ds =>
   intro x hx;unfold mkC at hx;dsimp only at hx;split at hx
   ·exact BF hf _ x hx
   ·cases hx
theorem Ak:∀ (ss:List CSh) (ds:List Dyn),ss.all (fun x=>x.leaves.all LSh.gw)=true->∀ c∈(mQ ss ds).1,∀ x∈c.un.leaves,flL x
 | [],_,_,x,hx=>by cases hx
 | s::ss,ds,h,c,hc=>by
  rw[List.all_cons,Bool.and_eq_true] at h;have e:(mQ (s::ss) ds).1=(mkC s ds).1::(mQ ss (mkC s ds).2).1:=rfl;rw[e] at hc;rcases List.mem_cons.1 hc with rfl | hc
  ·exact KV h.1
  ·exact Ak ss _ h.2 c hc
theorem KW {s:OSh} {ds:List Dyn} (h:s.gw=true):flH (mkO s ds).1.un:=by
 cases s with
 | gone=>trivial
 | box t xs =>
  intro x hx;obtain⟨y,hy,rfl⟩:=List.mem_map.1 hx;exact vB xs ds h y hy
 | arr e t =>
  cases ds with
  | nil=>trivial
  | cons d ds =>
   intro row hr p hp;obtain⟨y,_,rfl⟩:=List.mem_map.1 hr;exact lI t y h p hp
 | kx k agg t=>cases ds <;> trivial
 | iJ agg t =>
  cases ds with
  | nil=>trivial
  | cons d ds =>
   intro y hy p hp;obtain⟨q,_,rfl⟩:=List.mem_map.1 hy;exact lI t _ h p hp
 | fM k agg t=>cases ds <;> trivial
 | gI kd e t =>
  cases ds with
  | nil=>trivial
  | cons d ds =>
   intro y hy row hr p hp;obtain⟨q,_,rfl⟩:=List.mem_map.1 hy;obtain⟨z,_,rfl⟩:=List.mem_map.1 hr;exact lI t z h p hp
theorem vC:∀ (ss:List (Nat×OSh)) (ds:List Dyn),ss.all (fun x=>x.2.gw)=true->∀ x∈du (pj ss ds).1,flH x.2
 | [],_,_,x,hx=>by cases hx
 | s::ss,ds,h,x,hx=>by
  rw[List.all_cons,Bool.and_eq_true] at h;have e:(pj (s::ss) ds).1=(s.1,(mkO s.2 ds).1)::(pj ss (mkO s.2 ds).2).1:=rfl;rw[e] at hx;rcases List.mem_cons.1 hx with rfl | hx
  ·exact KW h.1
  ·exact vC ss _ h.2 x hx
section
variable {ρ:Type} {fx cur:TSt} {r:ρ}
theorem yt:∀ {ss:List SSh} {xs:List TSl} {f:FS} {k:KF ρ},wI fx cur ss xs f k=some r->Fits (β:=Unit) (γ:=Unit) (wB ss) (fun σ hps ys=>vT σ (un2 fx cur) hps (xs.map TSl.un) (ys.map TSl.un)) f k r
 | [],[],f,k,h=>⟨f,[],[],h,FS.le_refl f,fun _=>rfl,fun _ _ _ _ _=>trivial⟩
 | s::ss,x::xs,f,k,h=>by
  unfold wI at h;obtain⟨f1,ds,y,h1,l1,m1,r1⟩:=GB h;obtain⟨f2,es,ys,h2,l2,m2,r2⟩:=yt h1;refine⟨f2,ds++es,y::ys,h2,FS.le_trans l1 l2,fun gs=>?_,fun σ hps F hF hf=>⟨r1 σ hps F (FS.le_trans l2 hF) hf,r2 σ hps F hF hf⟩⟩;show (match x7 s (ds++es++gs) with | (y,ds)=>match wB ss ds with | (l,ds)=>(y::l,ds))=_;rw[List.append_assoc,m1];dsimp only;rw[m2]
 | [],_::_,f,k,h=>by cases h
 | _::_,[],f,k,h=>by cases h
end
end Go.Lad
namespace Go.Lad
open Go.RowKit
section
variable {ρ:Type} {fx cur:TSt} {r:ρ}
theorem nu (d:Nat) (m:List (Nat×Nat)):∀ (l:List (Nat×OSh)),∀ x∈od d m l,x.1∈aG l/\x.1∉vl m/\x.2=d+10000 * x.1
 | [],x,h=>by cases h
 | y::l,x,h=>by
  unfold od at h;cases hs:bu (vl m) y.1 with
  | true =>
   rw[hs,cond_true] at h;obtain⟨h1,h2⟩:=nu d m l x h;exact⟨List.mem_cons_of_mem _ h1,h2⟩
  | false =>
   rw[hs,cond_false] at h;rcases List.mem_cons.1 h with rfl | h
   ·exact⟨List.mem_cons_self,(fun hm=>absurd ((bO _ _).2 hm) (by rw[hs]; simp)),rfl⟩
   ·obtain⟨h1,h2⟩:=nu d m l x h;exact⟨List.mem_cons_of_mem _ h1,h2⟩
theorem uz (d:Nat) (m:List (Nat×Nat)):∀ (l:List (Nat×OSh)),∀ k∈aG l,k∉vl m->∃ v,(k,v)∈od d m l
 | [],k,h,_=>by cases h
 | y::l,k,h,hn=>by
  unfold od;cases hs:bu (vl m) y.1 with
  | true =>
   rw[cond_true];rcases List.mem_cons.1 (show k∈y.1::aG l from h) with rfl | h
   ·exact absurd ((bO _ _).1 hs) hn
   ·exact uz d m l k h hn
  | false =>
   rw[cond_false];rcases List.mem_cons.1 (show k∈y.1::aG l from h) with rfl | h
   ·exact⟨_,List.mem_cons_self⟩
   ·obtain⟨v,hv⟩:=uz d m l k h hn;exact⟨v,List.mem_cons_of_mem _ hv⟩
theorem qR (d:Nat) (m:List (Nat×Nat)):∀ (l:List (Nat×OSh)),(aG l).Nodup->((od d m l).map (·.1)).Nodup
 | [],_=>List.nodup_nil
 | y::l,h=>by
  have h:(y.1::aG l).Nodup:=h;rw[List.nodup_cons] at h;unfold od;cases hs:bu (vl m) y.1 with
  | true=>rw[cond_true]; exact qR d m l h.2
  | false =>
   rw[cond_false,List.map_cons,List.nodup_cons];refine⟨fun hm=>?_,qR d m l h.2⟩;obtain⟨x,hx,he⟩:=List.mem_map.1 hm;exact h.1 (he ▸ (nu d m l x hx).1)
theorem Al {α:Type} {l m:List α} (h1:l.Nodup) (h2:m.Nodup) (h:∀ x∈l,x∉m):(l++m).Nodup:=List.nodup_append.2 ⟨h1,h2,fun a ha b hb e=>h a ha (e ▸ hb)⟩
theorem Du (hp:Hp):∀ (a b:List (Nat×cu)),eJ hp (a++b)=eJ (eJ hp a) b
 | [],b=>rfl
 | x::a,b=>Du (Lad.upd hp x.1 (some x.2)) a b
theorem Am (hp:Hp):∀ (l:List (Nat×cu)) (o:Nat),o∉l.map (·.1)->eJ hp l o=hp o
 | [],o,_=>rfl
 | x::l,o,h=>by
  rw[List.map_cons,List.mem_cons,not_or] at h;show eJ (Lad.upd hp x.1 (some x.2)) l o=_;rw[Am _ l o h.2];exact if_neg h.1
theorem Ao (hp:Hp):∀ (l:List (Nat×cu)),(∀ x∈l,hp x.1=some x.2)->eJ hp l=hp
 | [],_=>rfl
 | x::l,h=>by
  have:Lad.upd hp x.1 (some x.2)=hp:=by
   funext j
   show (if j=x.1 then some x.2 else hp j)=hp j;split
   ·rename_i e; rw[e]; exact (h x List.mem_cons_self).symm
   ·rfl
  show eJ (Lad.upd hp x.1 (some x.2)) l=hp;rw[this];exact Ao hp l fun y hy=>h y (List.mem_cons_of_mem _ hy)
theorem mem_keys {α:Type} {l:List (Nat×α)} {x:Nat×α} (h:x∈l):x.1∈aG l:=List.mem_map.2 ⟨x,h,rfl⟩
theorem KX {P:Program} {Γ:Opt} {con:Con} {d:Nat} {args:List TSl} {k:KE ρ} {o:Oper} {c:Call} {fo:Operand} {fc:Nat} {caps:List Nat} (hcon:de P con) (hd:o.dst=some d) (hop:o.op = .call c) (hcal:c.callee = .value fo) (hfo:(un2 fx cur).ev fo = .c (.v (.fn fc caps))) (hfc:fc / 2=con.f)
  (hargs:gJ (un2 fx cur) c fc caps=args.map TSl.un) (hpure:oT Γ o=true->con.kin=[]/\con.hin=[]/\con.ain.all SSh.ya=true) (hlits:oT Γ o=true->∀ x∈args,∀ i∈x.un.ids,(un2 fx cur).hp i≠none/\∀ e cs,(un2 fx cur).hp i≠some (.lit e cs)) (hkept:qp Γ o=true->con.hin=[]) (hsp:∀ y wr,k y wr=some r->∀ x∈wr,nE Γ o x.1=false) (h:yb fx cur con d args k=some r) :
  ∃ y wr,k y wr=some r/\∃ e,kz P Γ (un2 fx cur) o e/\e.cond/\(un2 fx cur).app o.dst e=un2 fx (sY cur o.dst y wr):=by
 unfold yb at h;obtain⟨f1,ds,as,h1,l1,m1,r1⟩:=yt h;obtain⟨f2,es,ks,h2,l2,m2,r2⟩:=qa h1;obtain⟨f3,gs,hs,h3,l3,m3,r3⟩:=qa h2;obtain⟨hc,h4⟩:=aq h3;obtain⟨x,h5,hx⟩:=yo h4;obtain⟨res,hres,h6⟩:=bind_some h5;simp only[Bool.and_eq_true] at hc;obtain⟨⟨⟨⟨⟨⟨hok,hnil⟩,hm⟩,hfl⟩,hnd⟩,hfr⟩,hex⟩:=hc;have hnil:f3.nV=[]:=by cases hq:f3.nV with | nil=>rfl | cons _ _=>rw[hq] at hnil; cases hnil
 unfold FS.ok at hok;simp only[Bool.and_eq_true,List.all_eq_true,Bool.or_eq_true,Bool.not_eq_true',eE,jR,decide_eq_true_eq] at hok;obtain⟨⟨⟨⟨o1,o2⟩,o3⟩,o4⟩,o5⟩:=hok;simp only[List.all_eq_true,Bool.and_eq_true,jR,decide_eq_true_eq] at hm;simp only[List.all_eq_true,Bool.or_eq_true,Bool.and_eq_true,jR,decide_eq_true_eq] at hfr;have hnd:=kn _ hnd;have hat:con.argsAt x=(as,ks,hs):=by
  unfold Con.argsAt;rw[hx,m1];dsimp only;rw[m2];dsimp only;have:=m3 [];rw[List.append_nil] at this;rw[this]
 have kks:aG ks=aG con.kin:=by have:=oM con.kin (es++[]); rw[m2] at this; exact this
 have khs:aG hs=aG con.hin:=by have:=oM con.hin (gs++[]); rw[m3] at this; exact this
 let S:=con.spec x res
 have hS:S=⟨as.map TSl.un,du (hs++ks),BE con.out (con.oq res).1,du ((con.oq res).2++ks)⟩:=by
  show con.spec x res=_;unfold Con.spec;rw[hat]
 have kho:aG (con.oq res).2=aG con.ig:=by
  have:=oM con.ig (mQ con.out.eF (lG con.qs res)).2;exact this
 let σ:Ren:=⟨f3.m,some f3.frz,false⟩
 have hσ:σ.nodup:=⟨kn _ o1,kn _ o2⟩;have hfine:Dh σ (du (hs++ks)) f3:=⟨hσ,fun q hq=>⟨hq,nq (by
   have:=(bO _ _).1 (o3 q hq).1;rw[qb,khs,kks];rcases List.mem_append.1 this with h | h
   ·exact List.mem_append_right _ h
   ·exact List.mem_append_left _ h)⟩,fun q hq=>⟨(fun hmm=>by
   have:=o4 q hq;rw[show bu (Na f3.m) q=true from (bO _ _).2 hmm] at this; cases this),hq⟩,(fun q hq=>by rw[hnil] at hq; cases hq)⟩
 let news:=od d f3.m con.ig
 let ρ':=f3.m.map (fun x=>(x.2,x.1))++news
 have hrn1:(ρ'.map (·.1)).Nodup:=by
  show ((f3.m.map (fun x=>(x.2,x.1))++news).map (·.1)).Nodup;rw[List.map_append,List.map_map];have hnd1:(aG con.ig).Nodup:=(List.nodup_append.1 hnd).1;refine Al hσ.2 (qR d f3.m con.ig hnd1) fun q hq hq2=>?_;obtain⟨y,hy,rfl⟩:=List.mem_map.1 hq2;exact (nu d f3.m con.ig y hy).2.1 hq
 have hback:It σ ρ':=fun a b hab=>by
  rw[oe];unfold rnN;rw[dh hrn1 (v:=a) (List.mem_append_left _ (List.mem_map.2 ⟨(a,b),hab,rfl⟩))];rfl
 have hsrc:∀ q∈f3.m,(un2 fx cur).hp q.1≠none:=fun q hq=>by
  have:=(hm q hq).2;rw[gT];cases ho:obT fx cur q.1 with
  | none=>rw[ho] at this; cases this
  | some v=>simp
 have hnew:∀ q∈news,(un2 fx cur).hp q.2=none/\q.2<1000000:=fun q hq=>by
  obtain⟨n1,n2,n3⟩:=nu d f3.m con.ig q hq;obtain⟨y,hy,he⟩:=List.mem_map.1 n1;rcases hfr y hy with h | h
  ·exact absurd (he ▸ (bO _ _).1 h) n2
  ·have hfree:=ga h.2;unfold aF at hfree;rw[Bool.and_eq_true,decide_eq_true_eq] at hfree;rw[n3,← he];exact⟨by have:=hfree.1; revert this; cases (un2 fx cur).hp (d+10000 * y.1) <;> simp,hfree.2⟩
 have hrn2:(ρ'.map (·.2)).Nodup:=by
  show ((f3.m.map (fun x=>(x.2,x.1))++news).map (·.2)).Nodup;rw[List.map_append,List.map_map];have hnd1:(aG con.ig).Nodup:=(List.nodup_append.1 hnd).1;refine Al hσ.1 ?_ fun q hq hq2=>?_
  ·have hk:=qR d f3.m con.ig hnd1;have e:news.map (·.2)=(news.map (·.1)).map fun n=>d+10000 * n:=by
    rw[List.map_map];exact List.map_congr_left fun y hy=>(nu d f3.m con.ig y hy).2.2
   rw[e];exact List.Pairwise.map _ (fun a b hab he=>hab (by omega)) hk
  ·obtain⟨y,hy,rfl⟩:=List.mem_map.1 hq2;obtain⟨z,hz,hze⟩:=List.mem_map.1 hq;have:=hsrc z hz;have h0:=(hnew y hy).1;rw[← hze] at h0;exact this h0
 have hkin:∀ q∈ks,∃ o,(o,q.1)∈f3.m/\obT fx cur o=some (wA ρ' q.2):=fun q hq=>(r2 σ (du (hs++ks)) f3 l3 hfine).2.2 f3.m (fun _ h=>h) (fun _ h=>h) hex ρ' hback q hq;have hkout:∀ q∈aG con.ig,ae ρ' q≠none:=fun q hq=>by
  by_cases hin:q∈vl f3.m
  ·obtain⟨z,hz,rfl⟩:=List.mem_map.1 hin;rw[dh hrn1 (v:=z.1) (List.mem_append_left _ (List.mem_map.2 ⟨z,hz,rfl⟩))]; simp
  ·obtain⟨v,hv⟩:=uz d f3.m con.ig q hq hin;rw[dh hrn1 (v:=v) (List.mem_append_right _ hv)]; simp
 have hcall:Ju Γ (un2 fx cur) o (gJ (un2 fx cur) c fc caps) S f3.m f3.frz news:=by
  rw[hS];refine⟨fun hp x hx=>?_,?_,?_,hσ,hrn1,hrn2,?_,?_,?_,?_,?_,?_⟩
  ·rw[hargs] at hx;obtain⟨y,hy,rfl⟩:=List.mem_map.1 hx;exact hlits hp y hy
  ·rw[hargs];exact r1 σ _ f3 (FS.le_trans l2 l3) hfine
  ·show pK _ (du (hs++ks));have e:du (hs++ks)=du hs++du ks:=List.map_append;suffices key:pK (HSub σ (un2 fx cur) (du (hs++ks))) (du hs++du ks) by
    rw[← e] at key; exact key
   exact ux (r3 σ _ f3 (FS.le_refl _) hfine).2.1 (r2 σ _ f3 l3 hfine).2.1
  ·show ((du ((con.oq res).2++ks)).map (·.1)).Nodup;rw[yr,qb,kho,kks];exact hnd
  ·refine la fun q hq=>⟨(hm q hq).1.1,hsrc q hq,nq ?_⟩;rw[qb,kho,kks];exact (bO _ _).1 (hm q hq).1.2
  ·refine la fun q hq=>?_;have hqk:q.1∈aG ((con.oq res).2++ks):=by
    rw[← yr]; exact List.mem_map.2 ⟨q,hq,rfl⟩
   rw[qb,kho] at hqk;rcases List.mem_append.1 hqk with h | h
   ·exact hkout _ h
   ·obtain⟨y,hy,he⟩:=List.mem_map.1 h;obtain⟨a,ha,_⟩:=hkin y hy;rw[← he,dh hrn1 (v:=a) (List.mem_append_left _ (List.mem_map.2 ⟨_,ha,rfl⟩))]; simp
  ·refine la fun q hq=>⟨(hnew q hq).1,(hnew q hq).2,d,q.1,hd,(nu d f3.m con.ig q hq).2.2⟩
  ·cases hz:f3.frz with
   | nil=>exact .inl rfl
   | cons a l =>
    refine .inr ?_;rw[hz] at hfl;have hfl:con.gw=true:=hfl;unfold Con.gw at hfl;rw[Bool.and_eq_true,Bool.and_eq_true] at hfl;obtain⟨⟨b1,b2⟩,b3⟩:=hfl;refine⟨fun cc hcc=>?_,fun q hq=>?_⟩
    ·have hcs:∃ y∈(con.oq res).1,cc=y.un:=by
      have hcc:cc∈(BE con.out (con.oq res).1).eF:=hcc
      revert hcc
      unfold BE;split
      ·rename_i c0 _ heq;intro hcc;simp only[Rz.eF,List.mem_singleton] at hcc;exact⟨_,by rw[heq]; exact List.mem_singleton.2 rfl,hcc⟩
      ·intro hcc;obtain⟨y,hy,rfl⟩:=List.mem_map.1 hcc;exact⟨y,hy,rfl⟩
     obtain⟨y,hy,rfl⟩:=hcs;exact Ak con.out.eF (lG con.qs res) b1 y hy
    ·have hq:q∈du ((con.oq res).2++ks):=hq;unfold du at hq;rw[List.map_append] at hq;rcases List.mem_append.1 hq with hq | hq
     ·exact vC con.ig (mQ con.out.eF (lG con.qs res)).2 b2 q hq
     ·have e:ks=(pj con.kin (es++[])).1:=by rw[m2]
      rw[e] at hq;exact vC con.kin _ b3 q hq
  ·intro hp;obtain⟨e1,e2,e3⟩:=hpure hp;refine⟨?_,?_⟩
   ·cases hz:f3.m with
    | nil=>rfl
    | cons q l =>
     have:=(o3 q (by rw[hz]; exact List.mem_cons_self)).1;rw[e1,e2] at this;cases this
   ·have ea:as=(wB con.ain (ds++[])).1:=by rw[m1]
    show ∀ y∈as.map TSl.un,∀ l∈y.lvs,l.rF=false;rw[ea];exact Aj con.ain _ e3
 refine⟨_,_,h6,wE o S ρ',⟨c,fo,fc,caps,S,f3.m,f3.frz,news,hop,hcal,hfo,by rw[hfc]; exact hcon.1,by rw[hfc]; exact hcon.2 x res hres,hcall,fun q hq hkq=>?_,rfl⟩,trivial,?_⟩
 ·have hq:q∈S.jQ.map fun x=>(rnN ρ' x.1,rnH ρ' x.2):=hq;obtain⟨y,hy,rfl⟩:=List.mem_map.1 hq;rw[hS] at hy;have hy:y∈du ((con.oq res).2++ks):=hy;unfold du at hy;rw[List.map_append] at hy;dsimp only;rcases List.mem_append.1 hy with hy | hy
  ·obtain⟨z,hz,rfl⟩:=List.mem_map.1 hy;have hzk:z.1∈aG con.ig:=by rw[← kho]; exact mem_keys hz
   have hk0:con.hin=[]:=by
    refine hkept ?_;have h7:nE Γ o (rnT ρ' z.1)=false:=hsp _ _ h6 (rnT ρ' z.1,wA ρ' z.2) (List.mem_map.2 ⟨z,hz,rfl⟩);rw[oe] at h7;have hkq:(qp Γ o || nE Γ o (rnN ρ' z.1))=true:=hkq;rw[h7,Bool.or_false] at hkq;exact hkq
   have hnot:z.1∉vl f3.m:=fun hm2=>by
    obtain⟨u,hu,he⟩:=List.mem_map.1 hm2;have h8:=(bO _ _).1 (o3 u hu).1;rw[hk0,show aG ([]:List (Nat×OSh))=[] from rfl,List.append_nil,he] at h8;exact (List.nodup_append.1 hnd).2.2 z.1 hzk z.1 h8 rfl
   obtain⟨v,hv⟩:=uz d f3.m con.ig z.1 hzk hnot;have hl:ae ρ' z.1=some v:=dh hrn1 (List.mem_append_right _ hv);left;have hn:=(hnew _ hv).1;unfold rnN;rw[hl];exact hn
  ·obtain⟨z,hz,rfl⟩:=List.mem_map.1 hy;obtain⟨a,ha,hob⟩:=hkin z hz;right;have hra:rnT ρ' z.1=a:=hback a z.1 ha;rw[oe] at hra;rw[hra,gT,hob];show some (wA ρ' z.2).un=some (rnH ρ' z.2.un);rw[GH]
 rw[hS];unfold wE;rw[hd];dsimp only;have e1:(du ((con.oq res).2++ks)).map (fun x=>(rnN ρ' x.1,rnH ρ' x.2))=du ((con.oq res).2.map fun x=>(rnT ρ' x.1,wA ρ' x.2))++du (ks.map fun x=>(rnT ρ' x.1,wA ρ' x.2)):=by
  rw[GI,GI,← List.map_append];congr 1;exact List.map_append
 rw[e1,← Ft];have key:∀ (x:TSl) (a b:List (Nat×cu)) (cc:Prop),(∀ q∈b,(un2 fx cur).hp q.1=some q.2/\q.1∉a.map (·.1))->(un2 fx cur).app (some d) ⟨cc,x.un,a++b⟩=(un2 fx cur).app (some d) ⟨cc,x.un,a⟩:=by
  intro x a b cc hb;unfold St.app;congr 1;show eJ (un2 fx cur).hp (a++b)=eJ (un2 fx cur).hp a;rw[Du];exact Ao _ b fun q hq=>by rw[Am _ a q.1 (hb q hq).2]; exact (hb q hq).1
 rw[key]
 ·exact Fs (some d) (wJ con.out ρ' (con.oq res).1) ((con.oq res).2.map fun x=>(rnT ρ' x.1,wA ρ' x.2)) True
 ·intro q hq;obtain⟨y,hy,rfl⟩:=List.mem_map.1 hq;obtain⟨z,hz,rfl⟩:=List.mem_map.1 hy;obtain⟨a,ha,hob⟩:=hkin z hz;dsimp only;have hra:rnT ρ' z.1=a:=hback a z.1 ha;refine⟨by rw[hra,gT,hob]; rfl,fun hmem=>?_⟩;obtain⟨w,hw,hwe⟩:=List.mem_map.1 hmem;obtain⟨v,hv,rfl⟩:=List.mem_map.1 hw;obtain⟨u,hu,rfl⟩:=List.mem_map.1 hv;dsimp only at hwe;rw[hra] at hwe;have huk:u.1∈aG con.ig:=by rw[← kho]; exact mem_keys hu
  have hl:=hkout u.1 huk;have hul:ae ρ' u.1=some a:=by
   rw[oe] at hwe;unfold rnN at hwe;cases hlk:ae ρ' u.1 with
   | none=>exact absurd hlk hl
   | some v=>rw[hlk] at hwe; exact congrArg some hwe
  have hmem1:(u.1,a)∈ρ':=cx hul;have hmem2:(z.1,a)∈ρ':=List.mem_append_left _ (List.mem_map.2 ⟨(a,z.1),ha,rfl⟩);have hzk:z.1∈aG con.kin:=by rw[← kks]; exact mem_keys hz
  have hne:u.1≠z.1:=fun e=>by
   have:=(List.nodup_append.1 hnd).2.2 u.1 huk z.1 hzk;exact this e
  have e2:=dh (l:=ρ'.map fun x=>(x.2,x.1)) (by rw[List.map_map]; exact hrn2) (List.mem_map.2 ⟨_,hmem1,rfl⟩);have e3:=dh (l:=ρ'.map fun x=>(x.2,x.1)) (by rw[List.map_map]; exact hrn2) (List.mem_map.2 ⟨_,hmem2,rfl⟩);dsimp only at e2 e3;rw[e2] at e3;injection e3 with e3
  exact hne e3
end
end Go.Lad
