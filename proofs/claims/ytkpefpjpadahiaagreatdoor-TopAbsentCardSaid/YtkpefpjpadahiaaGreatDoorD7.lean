import Derived.Test.YtkpefpjpadahiaaGreatDoorD6
namespace Go.Lad
set_option linter.unusedVariables false
set_option linter.unusedSimpArgs false
open Go.RowKit
theorem fi {α:Type} (p:Nat->Bool):∀ (l:List (Nat×α)) (k:Nat),aq (l.filter fun x=>p x.1) k=if p k then aq l k else none
 | [],k=>by simp [aq]
 | x::l,k=>by
  have e:∀ l:List (Nat×α),aq (x::l) k=if k=x.1 then some x.2 else aq l k:=fun _=>rfl
  rw[List.filter_cons];by_cases hp:p x.1=true
  ·rw[if_pos hp,e,e,fi p l k];by_cases hk:k=x.1
   ·subst hk; simp [hp]
   ·simp [hk]
  ·rw[if_neg hp,fi p l k,e];by_cases hk:k=x.1
   ·subst hk; simp [hp]
   ·simp [hk]
theorem iH {α:Type}:∀ (l:List (Nat×α)) (k:Nat),aq l k=none↔k∉bh l
 | [],k=>by simp [aq,bh]
 | x::l,k=>by
  have e:aq (x::l) k=if k=x.1 then some x.2 else aq l k:=rfl
  rw[e];by_cases h:k=x.1
  ·simp [h,bh]
  ·rw[if_neg h,iH l k];simp [bh,h]
theorem wq {α:Type} {l:List (Nat×α)} {k:Nat} {v:α} (h:aq l k=some v):k∈bh l:=by
 apply Decidable.byContradiction;intro hn;rw[(iH l k).2 hn] at h;cases h
theorem ll {α:Type} (l:List (Nat×α)) (k:Nat):cr (bh l) k=false↔aq l k=none:=by
 rw[iH,← cG,Bool.not_eq_true]
theorem gD {α:Type}:∀ (l:List (Nat×α)) (seen:List Nat) (k:Nat),aq (fS seen l) k=if cr seen k then none else aq l k
 | [],seen,k=>by simp [fS,aq]
 | x::l,seen,k=>by
  have e:∀ l:List (Nat×α),aq (x::l) k=if k=x.1 then some x.2 else aq l k:=fun _=>rfl
  unfold fS;cases hs:cr seen x.1 with
  | true =>
   rw[cond_true,gD l seen k,e];by_cases hk:k=x.1
   ·subst hk; simp [hs]
   ·simp [hk]
  | false =>
   rw[cond_false,e,e,gD l _ k];by_cases hk:k=x.1
   ·subst hk; simp [hs]
   ·have:cr (x.1::seen) k=cr seen k:=by
     show (bif Nat.beq k x.1 then true else cr seen k)=_;rw[eU]; simp [hk]
    simp [hk,this]
theorem jU {α:Type}:∀ (l:List (Nat×α)) (seen:List Nat) (x:Nat×α),x∈fS seen l->cr seen x.1=false/\aq l x.1=some x.2
 | [],seen,x,h=>by cases h
 | y::l,seen,x,h=>by
  have e:∀ k,aq (y::l) k=if k=y.1 then some y.2 else aq l k:=fun _=>rfl
  unfold fS at h;cases hs:cr seen y.1 with
  | true =>
   rw[hs,cond_true] at h;obtain⟨h1,h2⟩:=jU l seen x h;refine⟨h1,?_⟩;rw[e,if_neg (fun he=>by rw[he,hs] at h1; cases h1)];exact h2
  | false =>
   rw[hs,cond_false] at h;rcases List.mem_cons.1 h with rfl | h
   ·exact⟨hs,by rw[e,if_pos rfl]⟩
   ·obtain⟨h1,h2⟩:=jU l _ x h;have h3:(bif Nat.beq x.1 y.1 then true else cr seen x.1)=false:=h1;rw[eU] at h3;by_cases hk:x.1=y.1
    ·simp [hk] at h3
    ·simp only[hk,decide_false,cond_false] at h3;exact⟨h3,by rw[e,if_neg hk]; exact h2⟩
theorem nJ:∀ (ss:List (Nat×OSh)) (ds:List Dyn),bh (mU ss ds).1=bh ss
 | [],_=>rfl
 | s::ss,ds=>by
  show s.1::bh (mU ss (mkO s.2 ds).2).1=s.1::bh ss;rw[nJ ss]
section
variable {ρ:Type} {fx cur:TSt} {r:ρ} {σ:Ren} {hps:List (Nat×df)} {s:St}
def oz (σ:Ren) (hps:List (Nat×df)) (i:Nat):Prop:=(i,i)∈σ.m/\aq hps i≠none
theorem rN:∀ (l:List Nat),(∀ i∈l,oz σ hps i)->pM σ hps l l
 | [],_=>trivial
 | x::l,h=>⟨h x List.mem_cons_self,rN l fun i hi=>h i (List.mem_cons_of_mem _ hi)⟩
theorem fy (x:TL) (h:∀ i∈x.ik,oz σ hps i):nu σ s hps x.un x.un:=by
 cases x with
 | dead=>trivial
 | v t x=>exact lN t x s
 | nil=>trivial
 | loc o off=>exact⟨h o (by simp [TL.ik]),rfl⟩
 | own o=>exact h o (by simp [TL.ik])
 | el o n off z=>exact⟨h o (by simp [TL.ik]),rfl,rfl,rfl⟩
 | ip t x off=>exact⟨rfl,rfl⟩
 | mp o=>exact h o (by simp [TL.ik])
 | fn f caps=>exact⟨rfl,rN caps h⟩
 | sv o a b z=>exact⟨h o (by simp [TL.ik]),rfl,rfl,rfl⟩
 | ps o=>exact h o (by simp [TL.ik])
 | oth v=>rfl
 | nb pos t l=>exact⟨rfl,rfl⟩
 | tl t l=>rfl
theorem oA:∀ (xs:List TL),(∀ i∈xs.flatMap TL.ik,oz σ hps i)->kz σ s hps (xs.map TL.un) (xs.map TL.un)
 | [],_=>trivial
 | x::xs,h=>⟨fy x fun i hi=>h i (by simp [hi]),oA xs fun i hi=>h i (by rw[List.flatMap_cons]; exact List.mem_append_right _ hi)⟩
theorem x7 (c:TC) (h:∀ i∈c.leaves.flatMap TL.ik,oz σ hps i):sF σ s hps c.un c.un:=by
 cases c with
 | v x=>exact fy x fun i hi=>h i (by simpa [TC.leaves] using hi)
 | g xs=>exact oA xs h
theorem wu:∀ (l:List TC),(∀ i∈l.flatMap (fun c=>c.leaves.flatMap TL.ik),oz σ hps i)->qv σ s hps (l.map TC.un) (l.map TC.un)
 | [],_=>trivial
 | c::l,h=>⟨x7 c fun i hi=>h i (by rw[List.flatMap_cons]; exact List.mem_append_left _ hi),wu l fun i hi=>h i (by rw[List.flatMap_cons]; exact List.mem_append_right _ hi)⟩
theorem pW (x:TSl) (h:∀ i∈x.ik,oz σ hps i):o9 σ s hps x.un x.un:=by
 cases x with
 | dead=>trivial
 | c c=>exact x7 c h
 | t l=>exact wu l h
theorem sZ (x:cV) (h:∀ i∈x.ik,oz σ hps i):yL σ s hps (some x.un) x.un:=by
 cases x with
 | gone=>trivial
 | box t cs=>exact⟨rfl,oA cs h⟩
 | arr e t l=>exact⟨rfl,rfl,rfl⟩
 | fO k agg t m=>exact⟨rfl,rfl,rfl⟩
 | fa agg t m=>exact⟨rfl,rfl⟩
 | fb k agg t m=>exact⟨rfl,rfl,rfl⟩
 | ql k agg t m key d=>exact⟨rfl,rfl,rfl,rfl,h d (by simp [cV.ik])⟩
 | kV k e t m h=>exact⟨rfl,rfl,rfl,rfl,rfl⟩
 | lit t cs=>exact⟨rfl,oA cs h⟩
theorem rO {α:Type} {p:α->Prop}:∀ {l m:List α},nj p l->nj p m->nj p (l++m)
 | [],_,_,h=>h
 | _::_,_,h,g=>⟨h.1,rO h.2 g⟩
theorem jV {α:Type} {p:α->Prop}:∀ {l:List α},(∀ x∈l,p x)->nj p l
 | [],_=>trivial
 | x::l,h=>⟨h x List.mem_cons_self,jV fun y hy=>h y (List.mem_cons_of_mem _ hy)⟩
structure Kept (fx cur fx2:TSt):Prop where
 tm:∀ x∈fx2.tm,x.2.Dk=true\/kr fx cur x.1=x.2
 hp:∀ x∈fx2.hp,obT fx cur x.1=some x.2
 closed:jd fx2=true
theorem Gl {x:TSl} (h:x.Dk=true):x = .dead:=by cases x <;> first | rfl | cases h
theorem jL:∀ (l:List Nat),qQ l=true->l.Nodup
 | [],_=>List.nodup_nil
 | x::l,h=>by
  unfold qQ at h;rw[Bool.and_eq_true,Bool.not_eq_true'] at h;refine List.nodup_cons.2 ⟨fun hx=>?_,jL l h.2⟩;rw[(cG l x).2 hx] at h;exact absurd h.1 (by simp)
theorem wv (l:List (Nat×cV)):(dY l).map (·.1)=bh l:=by unfold dY bh; rw[List.map_map]; rfl
theorem nK {α:Type} (l m:List (Nat×α)):bh (l++m)=bh l++bh m:=by unfold bh; rw[List.map_append]
theorem ln {l:List (Nat×cV)} {o:Nat} (h:o∈bh l):aq (dY l) o≠none:=by
 intro hn;have:=(iH _ _).1 hn;unfold bh at this;exact this (by rw[wv]; exact h)
theorem Lm {f:FS} {hk:List Nat} {pin:Bool} {l:List (Nat×cV)} (h:f.ok hk pin=true) (hl:∀ o∈hk,o∈bh l):Bf ⟨f.m,none,pin⟩ (dY l) f/\(pin=true->nj (fun x=>1000000<=x.2->x.1=x.2) f.m):=by
 unfold FS.ok at h;simp only[Bool.and_eq_true,List.all_eq_true,Bool.or_eq_true,Bool.not_eq_true',eU,il,decide_eq_true_eq] at h;obtain⟨⟨⟨⟨h1,h2⟩,h3⟩,h4⟩,h5⟩:=h;refine⟨⟨⟨jL _ h1,jL _ h2⟩,fun x hx=>⟨hx,ln (hl _ ((cG _ _).1 (h3 x hx).1))⟩,fun o ho=>⟨fun hm=>?_,trivial⟩,fun o ho=>⟨fun hm=>?_,ln (hl _ ((cG _ _).1 (h5 o ho).1.2)),fun _=>by have:=(h5 o ho).2; omega⟩⟩,fun hp=>jV fun x hx hge=>?_⟩
 ·have h6:=h4 o ho;rw[show cr (KY f.m) o=true from (cG _ _).2 hm] at h6; cases h6
 ·have h6:=(h5 o ho).1.1;rw[show cr (sS f.m) o=true from (cG _ _).2 hm] at h6; cases h6
 ·rcases (h3 x hx).2 with (h | h) | h
  ·rw[hp] at h; cases h
  ·omega
  ·exact h
theorem nL {σs:Shp} {fx2:TSt} {k:Tup σs.ps->Option ρ} (h:fitAll fx cur σs fx2 k=some r):∃ x,k x=some r/\(Kept fx cur fx2->∃ σ,Sub σ (un2 fx cur) (nH ((σs.at x).tm++fx2.tm)) (dY ((σs.at x).hp++fx2.hp))):=by
 unfold fitAll at h;obtain⟨f1,ds,tm,h1,l1,m1,r1⟩:=Bl h;obtain⟨f2,es,hp,h2,l2,m2,r2⟩:=nI h1;obtain⟨hok,h3⟩:=aG h2;obtain⟨x,h4,hx⟩:=wo h3;refine⟨x,h4,fun kp=>?_⟩;have hat:σs.at x=⟨tm,hp⟩:=by
  unfold Shp.at Shp.mk';rw[hx,m1];dsimp only;have:=m2 [];rw[List.append_nil] at this;rw[this]
 rw[hat];have hkeys:bh hp=bh σs.hp:=by
  have:=nJ σs.hp (es++[]);rw[m2] at this;exact this
 let hps:=dY (hp++fx2.hp)
 obtain⟨hfine,hpin⟩:=Lm (l:=hp++fx2.hp) hok fun o ho=>by rw[nK,hkeys]; exact ho
 have hpin:=hpin rfl
 let σ:Ren:=⟨f2.m,none,true⟩
 have hsame:∀ i∈bh fx2.hp,oz σ hps i:=fun i hi=>by
  have hm:(i,i)∈(fx2.hp.map fun x=>(x.1,x.1))++A3 σs.hp:=by
   obtain⟨y,hy,rfl⟩:=List.mem_map.1 hi;exact List.mem_append_left _ (List.mem_map.2 ⟨y,hy,rfl⟩)
  exact hfine.m _ (l2.m _ (l1.m _ hm))
 have hcl:=kp.closed;unfold jd at hcl;simp only[Bool.and_eq_true,List.all_eq_true] at hcl;refine⟨σ,⟨hfine.nd,rfl,rfl,hpin⟩,?_,?_⟩
 ·unfold nH;rw[List.map_append];refine rO (r1 σ hps f2 l2 hfine).2 (jV fun q hq=>?_);obtain⟨y,hy,rfl⟩:=List.mem_map.1 hq;dsimp only;rw[iG];rcases kp.tm y hy with hd | he
  ·rw[Gl hd]; exact pV _
  ·rw[he];exact pW _ fun i hi=>hsame i ((cG _ _).1 (hcl.1 y hy i hi))
 ·have e2:dY hp++dY fx2.hp=dY (hp++fx2.hp):=List.map_append.symm;suffices key:nj (HSub σ (un2 fx cur) hps) (dY hp++dY fx2.hp) by
   rw[e2] at key; exact key
  refine rO (r2 σ hps f2 (FS.le_refl _) hfine).2.1 (jV fun q hq=>?_);obtain⟨y,hy,rfl⟩:=List.mem_map.1 hq;show HSub σ (un2 fx cur) hps (y.1,y.2.un);unfold HSub;have hk:y.1∈bh fx2.hp:=List.mem_map.2 ⟨y,hy,rfl⟩;rw[lk hfine.nd (hsame _ hk).1];dsimp only;rw[gR,kp.hp y hy];exact sZ _ fun i hi=>hsame i ((cG _ _).1 (hcl.2 y hy i hi))
variable {σs:Shp} {kt kh:List Nat}
theorem mf (k:Nat):aq (cu cur σs kt kh).tm k=if cr (bh σs.tm) k then some .dead else (aq cur.tm k).map fun v=>cond (cr kt k) v .dead:=by
 have e1:∀ (l:List (Nat×TSl)),aq (l.map fun x=>(x.1,cond (cr kt x.1) x.2 TSl.dead)) k=(aq l k).map fun v=>cond (cr kt k) v .dead:=by
  intro l;induction l with
  | nil=>rfl
  | cons x l ih =>
   rw[List.map_cons];have e:∀ (x:Nat×TSl) (l:List (Nat×TSl)),aq (x::l) k=if k=x.1 then some x.2 else aq l k:=fun _ _=>rfl
   rw[e,e,ih];by_cases h:k=x.1
   ·subst h; simp
   ·simp [h]
 have e2:∀ l:List Nat,aq (l.map fun k=>(k,TSl.dead)) k=if cr l k then some .dead else none:=by
  intro l;induction l with
  | nil=>simp [cr,aq]
  | cons x l ih =>
   rw[List.map_cons];have e:∀ (x:Nat×TSl) (l:List (Nat×TSl)),aq (x::l) k=if k=x.1 then some x.2 else aq l k:=fun _ _=>rfl
   rw[e,ih];show _=if (bif Nat.beq k x then true else cr l k) then _ else _
   rw[eU];by_cases h:k=x <;> simp [h]
 unfold cu;dsimp only;rw[bW,e1,fi (fun k=>!cr (bh σs.tm) k),e2];cases hs:cr (bh σs.tm) k with
 | true=>simp
 | false =>
  simp only[Bool.not_false,if_true,Bool.false_eq_true,if_false];cases aq cur.tm k <;> rfl
theorem oC (o:Nat):aq (cu cur σs kt kh).hp o=if !cr (bh σs.hp) o && cr kh o then aq cur.hp o else none:=by
 unfold cu;exact fi (fun k=>!cr (bh σs.hp) k && cr kh k) _ _
theorem oD (k:Nat):aq (jm fx cur (cu cur σs kt kh) σs).tm k=match aq (cu cur σs kt kh).tm k with | some x=>some x | none=>if !cr (bh cur.tm) k && !cr (bh σs.tm) k then aq fx.tm k else none:=by
 unfold jm;dsimp only;rw[gD,bW,fi (fun k=>!cr (bh cur.tm) k && !cr (bh σs.tm) k),if_neg (by simp [cr])];cases aq (cu cur σs kt kh).tm k <;> rfl
theorem oE (o:Nat):aq (jm fx cur (cu cur σs kt kh) σs).hp o=match aq (cu cur σs kt kh).hp o with | some x=>some x | none=>if !cr (bh cur.hp) o && !cr (bh σs.hp) o then aq fx.hp o else none:=by
 unfold jm;dsimp only;rw[gD,bW,fi (fun k=>!cr (bh cur.hp) k && !cr (bh σs.hp) k),if_neg (by simp [cr])];cases aq (cu cur σs kt kh).hp o <;> rfl
theorem Bm {x:Nat×TSl} (h:x∈(jm fx cur (cu cur σs kt kh) σs).tm):aq (jm fx cur (cu cur σs kt kh) σs).tm x.1=some x.2:=by
 have h1:=(jU _ _ _ h).2;unfold jm;dsimp only;rw[gD,if_neg (by simp [cr])];exact h1
theorem x8 {x:Nat×cV} (h:x∈(jm fx cur (cu cur σs kt kh) σs).hp):aq (jm fx cur (cu cur σs kt kh) σs).hp x.1=some x.2:=by
 have h1:=(jU _ _ _ h).2;unfold jm;dsimp only;rw[gD,if_neg (by simp [cr])];exact h1
theorem Ln (hc:jd (jm fx cur (cu cur σs kt kh) σs)=true):Kept fx cur (jm fx cur (cu cur σs kt kh) σs):=by
 refine⟨fun x hx=>?_,fun x hx=>?_,hc⟩
 ·have h:=Bm hx;rw[oD,mf] at h;cases hs:cr (bh σs.tm) x.1 with
  | true =>
   rw[hs] at h;simp only[if_true,Option.some.injEq] at h;rw[← h]; exact .inl rfl
  | false =>
   rw[hs] at h;simp only[Bool.false_eq_true,if_false] at h;cases hcur:aq cur.tm x.1 with
   | some v =>
    rw[hcur] at h;simp only[Option.map_some,Option.some.injEq] at h;cases hk:cr kt x.1 with
    | true =>
     rw[hk,cond_true] at h;refine .inr ?_;unfold kr;rw[bW,hcur]; exact h
    | false=>rw[hk,cond_false] at h; rw[← h]; exact .inl rfl
   | none =>
    rw[hcur] at h;simp only[Option.map_none] at h;split at h
    ·refine .inr ?_;unfold kr;rw[bW,hcur];dsimp only;rw[h]; rfl
    ·cases h
 ·have h:=x8 hx;rw[oE,oC] at h;rw[ku,bW];split at h
  ·rename_i y hy;split at hy
   ·rw[hy]; exact h
   ·cases hy
  ·rename_i hy;split at h
   ·rename_i hcc;rw[Bool.and_eq_true,Bool.not_eq_true',ll] at hcc;rw[hcc.1]; exact h
   ·cases h
theorem wy {c:TSt} (hc:jd (jm fx cur (cu cur σs kt kh) σs)=true) (hk:qR (jm fx cur (cu cur σs kt kh) σs) c σs=true):Kept (jm fx cur (cu cur σs kt kh) σs) c (jm fx cur (cu cur σs kt kh) σs):=by
 unfold qR at hk;simp only[Bool.and_eq_true,List.all_eq_true,Bool.or_eq_true] at hk;refine⟨fun x hx=>?_,fun x hx=>?_,hc⟩
 ·have h:=Bm hx;cases hcl:aq c.tm x.1 with
  | none =>
   refine .inr ?_;unfold kr;rw[bW,hcl];dsimp only;rw[h]; rfl
  | some v =>
   refine .inl ?_;rcases hk.1 _ (dD hcl) with h1 | h1
   ·dsimp only at h1;rw[oD,mf,h1] at h;simp only[if_true,Option.some.injEq] at h;rw[← h]; rfl
   ·dsimp only at h1;rw[look_eq,h] at h1;exact h1
 ·have h:=x8 hx;rw[ku,bW];cases hcl:aq c.hp x.1 with
  | none=>exact h
  | some v =>
   exfalso;rcases hk.2 _ (dD hcl) with h1 | h1
   ·dsimp only at h1;rw[oE,oC,h1] at h;simp at h
   ·dsimp only at h1;rw[look_eq,h] at h1;cases h1
theorem rP {c:TSt} (hd:qS fx cur (cu cur σs kt kh) σs=true):un2 fx ⟨c.tm++(cu cur σs kt kh).tm,c.hp++(cu cur σs kt kh).hp⟩=un2 (jm fx cur (cu cur σs kt kh) σs) c:=by
 unfold qS at hd;simp only[Bool.and_eq_true,List.all_eq_true,Bool.or_eq_true] at hd;refine St.ext' (fun k=>?_) (fun o=>?_)
 ·rw[iG,iG];unfold kr;congr 2;dsimp only;rw[List.append_assoc,bW,bW c.tm,bW,oD];cases aq c.tm k with
  | some v=>rfl
  | none =>
   dsimp only;cases hkt:aq (cu cur σs kt kh).tm k with
   | some v=>rfl
   | none =>
    dsimp only;rw[mf] at hkt;cases hs:cr (bh σs.tm) k with
    | true=>rw[hs] at hkt; cases hkt
    | false =>
     rw[hs] at hkt;simp only[Bool.false_eq_true,if_false,Option.map_eq_none_iff] at hkt;rw[(ll _ _).2 hkt]; rfl
 ·rw[gR,gR,ku,ku];congr 1;dsimp only;rw[List.append_assoc,bW,bW c.hp,bW,oE];cases aq c.hp o with
  | some v=>rfl
  | none =>
   dsimp only;cases hkt:aq (cu cur σs kt kh).hp o with
   | some v=>rfl
   | none =>
    dsimp only;cases hs:cr (bh σs.hp) o with
    | true =>
     rw[Bool.not_true,Bool.and_false];obtain⟨y,hy,rfl⟩:=List.mem_map.1 ((cG _ _).1 hs);have:=hd.2 y hy;rw[look_eq] at this;cases hl:aq fx.hp y.1 with
     | none=>rfl
     | some v=>rw[hl] at this; cases this
    | false =>
     cases hcu:aq cur.hp o with
     | none=>rw[(ll _ _).2 hcu]; rfl
     | some v =>
      have hk:=(cG _ _).2 (wq hcu);rw[hk];have:=hd.1 _ (dD hcu);dsimp only at this;rcases this with (h1 | h1) | h1
      ·rw[hs] at h1; cases h1
      ·have:=(ll (cu cur σs kt kh).hp o).2 hkt;rw[this] at h1; cases h1
      ·rw[look_eq] at h1;cases hl:aq fx.hp o with
       | none=>rfl
       | some v=>rw[hl] at h1; cases h1
theorem EH (hd:qS fx cur (cu cur σs kt kh) σs=true):un2 (jm fx cur (cu cur σs kt kh) σs) (vW fx cur σs kt kh)=un2 fx cur:=by
 unfold qS at hd;simp only[Bool.and_eq_true,List.all_eq_true,Bool.or_eq_true] at hd;refine St.ext' (fun k=>?_) (fun o=>?_)
 ·rw[iG,iG];congr 1;unfold kr;have hown:aq (vW fx cur σs kt kh).tm k=match (if cr (bh σs.tm) k || !cr kt k then aq cur.tm k else none) with | some x=>some x | none=>if cr (bh σs.tm) k && !cr (bh cur.tm) k then aq fx.tm k else none:=by
   unfold vW;dsimp only;rw[bW,fi (fun k=>cr (bh σs.tm) k || !cr kt k),fi (fun k=>cr (bh σs.tm) k && !cr (bh cur.tm) k)];generalize (if (cr (bh σs.tm) k || !cr kt k)=true then aq cur.tm k else none)=q;cases q <;> rfl
  rw[bW,bW,hown,oD,mf];cases hs:cr (bh σs.tm) k with
  | true =>
   simp only[Bool.true_or,if_true,Bool.true_and];cases hcu:aq cur.tm k with
   | some v=>rfl
   | none =>
    rw[(ll _ _).2 hcu];simp only[Bool.not_false,if_true];cases aq fx.tm k <;> rfl
  | false =>
   simp only[Bool.false_or,Bool.false_eq_true,if_false,Bool.false_and,Bool.not_false,Bool.and_true];cases hcu:aq cur.tm k with
   | some v =>
    cases hk:cr kt k with
    | true=>simp
    | false=>simp
   | none =>
    rw[(ll _ _).2 hcu];simp
 ·rw[gR,gR,ku,ku];congr 1;have hown:aq (vW fx cur σs kt kh).hp o=if cr (bh σs.hp) o || !cr kh o then aq cur.hp o else none:=by
   unfold vW;exact fi (fun k=>cr (bh σs.hp) k || !cr kh k) _ _
  rw[bW,bW,hown,oE,oC];cases hs:cr (bh σs.hp) o with
  | true =>
   simp only[Bool.true_or,if_true,Bool.not_true,Bool.false_and,Bool.false_eq_true,if_false,Bool.and_false];cases hcu:aq cur.hp o with
   | some v=>rfl
   | none =>
    dsimp only;obtain⟨y,hy,rfl⟩:=List.mem_map.1 ((cG _ _).1 hs);have:=hd.2 y hy;rw[look_eq] at this;cases hl:aq fx.hp y.1 with
    | none=>rfl
    | some v=>rw[hl] at this; cases this
  | false =>
   simp only[Bool.false_or,Bool.not_false,Bool.true_and,Bool.and_true];cases hcu:aq cur.hp o with
   | some v =>
    cases hk:cr kh o with
    | true=>simp
    | false=>simp
   | none =>
    rw[(ll _ _).2 hcu];simp
end
end Go.Lad
