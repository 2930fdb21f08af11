import Derived.Test.YtaocfjifacnokaaGreatD6
namespace Go.Lad
set_option linter.unusedVariables false
set_option linter.unusedSimpArgs false
open Go.RowKit
theorem eu {α:Type} (p:Nat → Bool):∀ (l:List (Nat × α)) (k:Nat),ae (l.filter fun x=>p x.1) k = if p k then ae l k else none
 | [],k=>by simp [ae]
 | x :: l,k=>by
  have e:∀ l:List (Nat × α),ae (x :: l) k = if k = x.1 then some x.2 else ae l k:=fun _=>rfl
  rw[List.filter_cons]
  by_cases hp:p x.1 = true
  ·rw[if_pos hp,e,e,eu p l k]
   by_cases hk:k = x.1
   ·subst hk; simp [hp]
   ·simp [hk]
  ·rw[if_neg hp,eu p l k,e]
   by_cases hk:k = x.1
   ·subst hk; simp [hp]
   ·simp [hk]
theorem gP {α:Type}:∀ (l:List (Nat × α)) (k:Nat),ae l k = none ↔ k ∉ aW l
 | [],k=>by simp [ae,aW]
 | x :: l,k=>by
  have e:ae (x :: l) k = if k = x.1 then some x.2 else ae l k:=rfl
  rw[e]
  by_cases h:k = x.1
  ·simp [h,aW]
  ·rw[if_neg h,gP l k]
   simp [aW,h]
theorem vx {α:Type} {l:List (Nat × α)} {k:Nat} {v:α} (h:ae l k = some v):k ∈ aW l:=by
 apply Decidable.byContradiction
 intro hn
 rw[(gP l k).2 hn] at h
 cases h
theorem fm {α:Type} (l:List (Nat × α)) (k:Nat):cm (aW l) k = false ↔ ae l k = none:=by
 rw[gP,← cP,Bool.not_eq_true]
theorem fV {α:Type}:∀ (l:List (Nat × α)) (seen:List Nat) (k:Nat),ae (fk seen l) k = if cm seen k then none else ae l k
 | [],seen,k=>by simp [fk,ae]
 | x :: l,seen,k=>by
  have e:∀ l:List (Nat × α),ae (x :: l) k = if k = x.1 then some x.2 else ae l k:=fun _=>rfl
  unfold fk
  cases hs:cm seen x.1 with
  | true =>
   rw[cond_true,fV l seen k,e]
   by_cases hk:k = x.1
   ·subst hk; simp [hs]
   ·simp [hk]
  | false =>
   rw[cond_false,e,e,fV l _ k]
   by_cases hk:k = x.1
   ·subst hk; simp [hs]
   ·have:cm (x.1 :: seen) k = cm seen k:=by
     show (bif Nat.beq k x.1 then true else cm seen k) = _
     rw[eB]; simp [hk]
    simp [hk,this]
theorem iQ {α:Type}:∀ (l:List (Nat × α)) (seen:List Nat) (x:Nat × α),x ∈ fk seen l → cm seen x.1 = false ∧ ae l x.1 = some x.2
 | [],seen,x,h=>by cases h
 | y :: l,seen,x,h=>by
  have e:∀ k,ae (y :: l) k = if k = y.1 then some y.2 else ae l k:=fun _=>rfl
  unfold fk at h
  cases hs:cm seen y.1 with
  | true =>
   rw[hs,cond_true] at h
   obtain⟨h1,h2⟩:=iQ l seen x h
   refine⟨h1,?_⟩
   rw[e,if_neg (fun he=>by rw[he,hs] at h1; cases h1)]
   exact h2
  | false =>
   rw[hs,cond_false] at h
   rcases List.mem_cons.1 h with rfl | h
   ·exact⟨hs,by rw[e,if_pos rfl]⟩
   ·obtain⟨h1,h2⟩:=iQ l _ x h
    have h3:(bif Nat.beq x.1 y.1 then true else cm seen x.1) = false:=h1
    rw[eB] at h3
    by_cases hk:x.1 = y.1
    ·simp [hk] at h3
    ·simp only[hk,decide_false,cond_false] at h3
     exact⟨h3,by rw[e,if_neg hk]; exact h2⟩
theorem ll:∀ (ss:List (Nat × OSh)) (ds:List Dyn),aW (lT ss ds).1 = aW ss
 | [],_=>rfl
 | s :: ss,ds=>by
  show s.1 :: aW (lT ss (mkO s.2 ds).2).1 = s.1 :: aW ss
  rw[ll ss]
section
variable {ρ:Type} {fx cur:TSt} {r:ρ} {σ:Ren} {hps:List (Nat × dv)} {s:St}
def nD (σ:Ren) (hps:List (Nat × dv)) (i:Nat):Prop:=(i,i) ∈ σ.m ∧ ae hps i ≠ none
theorem qR:∀ (l:List Nat),(∀ i ∈ l,nD σ hps i) → pd σ hps l l
 | [],_=>trivial
 | x :: l,h=>⟨h x List.mem_cons_self,qR l fun i hi=>h i (List.mem_cons_of_mem _ hi)⟩
theorem eY (x:TL) (h:∀ i ∈ x.gw,nD σ hps i):mu σ s hps x.un x.un:=by
 cases x with
 | dead=>trivial
 | v t x=>exact kD t x s
 | nil=>trivial
 | loc o off=>exact⟨h o (by simp [TL.gw]),rfl⟩
 | own o=>exact h o (by simp [TL.gw])
 | el o n off z=>exact⟨h o (by simp [TL.gw]),rfl,rfl,rfl⟩
 | ip t x off=>exact⟨rfl,rfl⟩
 | mp o=>exact h o (by simp [TL.gw])
 | fn f caps=>exact⟨rfl,qR caps h⟩
 | sv o a b z=>exact⟨h o (by simp [TL.gw]),rfl,rfl,rfl⟩
 | oth v=>rfl
 | nb pos t l=>exact⟨rfl,rfl⟩
 | tl t l=>rfl
theorem nE:∀ (xs:List TL),(∀ i ∈ xs.flatMap TL.gw,nD σ hps i) → ju σ s hps (xs.map TL.un) (xs.map TL.un)
 | [],_=>trivial
 | x :: xs,h=>⟨eY x fun i hi=>h i (by simp [hi]),nE xs fun i hi=>h i (by rw[List.flatMap_cons]; exact List.mem_append_right _ hi)⟩
theorem xx (c:TC) (h:∀ i ∈ c.leaves.flatMap TL.gw,nD σ hps i):rK σ s hps c.un c.un:=by
 cases c with
 | v x=>exact eY x fun i hi=>h i (by simpa [TC.leaves] using hi)
 | g xs=>exact nE xs h
theorem vy:∀ (l:List TC),(∀ i ∈ l.flatMap (fun c=>c.leaves.flatMap TL.gw),nD σ hps i) → pE σ s hps (l.map TC.un) (l.map TC.un)
 | [],_=>trivial
 | c :: l,h=>⟨xx c fun i hi=>h i (by rw[List.flatMap_cons]; exact List.mem_append_left _ hi),vy l fun i hi=>h i (by rw[List.flatMap_cons]; exact List.mem_append_right _ hi)⟩
theorem pq (x:TSl) (h:∀ i ∈ x.gw,nD σ hps i):oe σ s hps x.un x.un:=by
 cases x with
 | dead=>trivial
 | c c=>exact xx c h
 | t l=>exact vy l h
theorem sf (x:cY) (h:∀ i ∈ x.gw,nD σ hps i):yk σ s hps (some x.un) x.un:=by
 cases x with
 | gone=>trivial
 | box t cs=>exact⟨rfl,nE cs h⟩
 | arr e t l=>exact⟨rfl,rfl,rfl⟩
 | ix k agg t m=>exact⟨rfl,rfl,rfl⟩
 | fi agg t m=>exact⟨rfl,rfl⟩
 | iy k agg t m=>exact⟨rfl,rfl,rfl⟩
 | py k agg t m key d=>exact⟨rfl,rfl,rfl,rfl,h d (by simp [cY.gw])⟩
 | jN k e t m h=>exact⟨rfl,rfl,rfl,rfl,rfl⟩
 | lit t cs=>exact⟨rfl,nE cs h⟩
theorem qS {α:Type} {p:α → Prop}:∀ {l m:List α},mh p l → mh p m → mh p (l ++ m)
 | [],_,_,h=>h
 | _ :: _,_,h,g=>⟨h.1,qS h.2 g⟩
theorem iR {α:Type} {p:α → Prop}:∀ {l:List α},(∀ x ∈ l,p x) → mh p l
 | [],_=>trivial
 | x :: l,h=>⟨h x List.mem_cons_self,iR fun y hy=>h y (List.mem_cons_of_mem _ hy)⟩
structure Kept (fx cur fx2:TSt):Prop where
 tm:∀ x ∈ fx2.tm,x.2.rX = true ∨ je fx cur x.1 = x.2
 hp:∀ x ∈ fx2.hp,obT fx cur x.1 = some x.2
 closed:gj fx2 = true
theorem sg {x:TSl} (h:x.rX = true):x = .dead:=by cases x <;> first | rfl | cases h
theorem gZ:∀ (l:List Nat),oD l = true → l.Nodup
 | [],_=>List.nodup_nil
 | x :: l,h=>by
  unfold oD at h
  rw[Bool.and_eq_true,Bool.not_eq_true'] at h
  refine List.nodup_cons.2 ⟨fun hx=>?_,gZ l h.2⟩
  rw[(cP l x).2 hx] at h
  exact absurd h.1 (by simp)
theorem vA (l:List (Nat × cY)):(dN l).map (·.1) = aW l:=by unfold dN aW; rw[List.map_map]; rfl
theorem mF {α:Type} (l m:List (Nat × α)):aW (l ++ m) = aW l ++ aW m:=by unfold aW; rw[List.map_append]
theorem jY {l:List (Nat × cY)} {o:Nat} (h:o ∈ aW l):ae (dN l) o ≠ none:=by
 intro hn
 have:=(gP _ _).1 hn
 unfold aW at this
 exact this (by rw[vA]; exact h)
theorem Jk {f:FS} {hk:List Nat} {pin:Bool} {l:List (Nat × cY)} (h:f.ok hk pin = true) (hl:∀ o ∈ hk,o ∈ aW l):AI ⟨f.m,none,pin⟩ (dN l) f ∧ (pin = true → mh (fun x=>1000000 ≤ x.2 → x.1 = x.2) f.m):=by
 unfold FS.ok at h
 simp only[Bool.and_eq_true,List.all_eq_true,Bool.or_eq_true,Bool.not_eq_true',eB,lX,decide_eq_true_eq] at h
 obtain⟨⟨⟨⟨h1,h2⟩,h3⟩,h4⟩,h5⟩:=h
 refine⟨⟨⟨gZ _ h1,gZ _ h2⟩,fun x hx=>⟨hx,jY (hl _ ((cP _ _).1 (h3 x hx).1))⟩,fun o ho=>⟨fun hm=>?_,trivial⟩,fun o ho=>⟨fun hm=>?_,jY (hl _ ((cP _ _).1 (h5 o ho).1.2)),fun _=>by have:=(h5 o ho).2; omega⟩⟩,fun hp=>iR fun x hx hge=>?_⟩
 ·have h6:=h4 o ho
  rw[show cm (I4 f.m) o = true from (cP _ _).2 hm] at h6; cases h6
 ·have h6:=(h5 o ho).1.1
  rw[show cm (tf f.m) o = true from (cP _ _).2 hm] at h6; cases h6
 ·rcases (h3 x hx).2 with (h | h) | h
  ·rw[hp] at h; cases h
  ·omega
  ·exact h
theorem jZ {σs:Shp} {fx2:TSt} {k:Tup σs.ps → Option ρ} (h:fitAll fx cur σs fx2 k = some r):∃ x,k x = some r ∧ (Kept fx cur fx2 → ∃ σ,Sub σ (un2 fx cur) (kz ((σs.at x).tm ++ fx2.tm)) (dN ((σs.at x).hp ++ fx2.hp))):=by
 unfold fitAll at h
 obtain⟨f1,ds,tm,h1,l1,m1,r1⟩:=AO h
 obtain⟨f2,es,hp,h2,l2,m2,r2⟩:=mE h1
 obtain⟨hok,h3⟩:=a7 h2
 obtain⟨x,h4,hx⟩:=vv h3
 refine⟨x,h4,fun kp=>?_⟩
 have hat:σs.at x = ⟨tm,hp⟩:=by
  unfold Shp.at Shp.mk'
  rw[hx,m1]
  dsimp only
  have:=m2 []
  rw[List.append_nil] at this
  rw[this]
 rw[hat]
 have hkeys:aW hp = aW σs.hp:=by
  have:=ll σs.hp (es ++ [])
  rw[m2] at this
  exact this
 let hps:=dN (hp ++ fx2.hp)
 obtain⟨hfine,hpin⟩:=Jk (l:=hp ++ fx2.hp) hok fun o ho=>by rw[mF,hkeys]; exact ho
 have hpin:=hpin rfl
 let σ:Ren:=⟨f2.m,none,true⟩
 have hsame:∀ i ∈ aW fx2.hp,nD σ hps i:=fun i hi=>by
  have hm:(i,i) ∈ (fx2.hp.map fun x=>(x.1,x.1)) ++ Av σs.hp:=by
   obtain⟨y,hy,rfl⟩:=List.mem_map.1 hi
   exact List.mem_append_left _ (List.mem_map.2 ⟨y,hy,rfl⟩)
  exact hfine.m _ (l2.m _ (l1.m _ hm))
 have hcl:=kp.closed
 unfold gj at hcl
 simp only[Bool.and_eq_true,List.all_eq_true] at hcl
 refine⟨σ,⟨hfine.nd,rfl,rfl,hpin⟩,?_,?_⟩
 ·unfold kz
  rw[List.map_append]
  refine qS (r1 σ hps f2 l2 hfine).2 (iR fun q hq=>?_)
  obtain⟨y,hy,rfl⟩:=List.mem_map.1 hq
  dsimp only
  rw[gq]
  rcases kp.tm y hy with hd | he
  ·rw[sg hd]; exact po _
  ·rw[he]
   exact pq _ fun i hi=>hsame i ((cP _ _).1 (hcl.1 y hy i hi))
 ·have e2:dN hp ++ dN fx2.hp = dN (hp ++ fx2.hp):=List.map_append.symm
  suffices key:mh (HSub σ (un2 fx cur) hps) (dN hp ++ dN fx2.hp) by
   rw[e2] at key; exact key
  refine qS (r2 σ hps f2 (FS.le_refl _) hfine).2.1 (iR fun q hq=>?_)
  obtain⟨y,hy,rfl⟩:=List.mem_map.1 hq
  show HSub σ (un2 fx cur) hps (y.1,y.2.un)
  unfold HSub
  have hk:y.1 ∈ aW fx2.hp:=List.mem_map.2 ⟨y,hy,rfl⟩
  rw[jX hfine.nd (hsame _ hk).1]
  dsimp only
  rw[fO,kp.hp y hy]
  exact sf _ fun i hi=>hsame i ((cP _ _).1 (hcl.2 y hy i hi))
variable {σs:Shp} {kt kh:List Nat}
theorem kY (k:Nat):ae (bE cur σs kt kh).tm k = if cm (aW σs.tm) k then some .dead else (ae cur.tm k).map fun v=>cond (cm kt k) v .dead:=by
 have e1:∀ (l:List (Nat × TSl)),ae (l.map fun x=>(x.1,cond (cm kt x.1) x.2 TSl.dead)) k = (ae l k).map fun v=>cond (cm kt k) v .dead:=by
  intro l
  induction l with
  | nil=>rfl
  | cons x l ih =>
   rw[List.map_cons]
   have e:∀ (x:Nat × TSl) (l:List (Nat × TSl)),ae (x :: l) k = if k = x.1 then some x.2 else ae l k:=fun _ _=>rfl
   rw[e,e,ih]
   by_cases h:k = x.1
   ·subst h; simp
   ·simp [h]
 have e2:∀ l:List Nat,ae (l.map fun k=>(k,TSl.dead)) k = if cm l k then some .dead else none:=by
  intro l
  induction l with
  | nil=>simp [cm,ae]
  | cons x l ih =>
   rw[List.map_cons]
   have e:∀ (x:Nat × TSl) (l:List (Nat × TSl)),ae (x :: l) k = if k = x.1 then some x.2 else ae l k:=fun _ _=>rfl
   rw[e,ih]
   show _ = if (bif Nat.beq k x then true else cm l k) then _ else _
   rw[eB]
   by_cases h:k = x <;> simp [h]
 unfold bE
 dsimp only
 rw[bT,e1,eu (fun k=>!cm (aW σs.tm) k),e2]
 cases hs:cm (aW σs.tm) k with
 | true=>simp
 | false =>
  simp only[Bool.not_false,if_true,Bool.false_eq_true,if_false]
  cases ae cur.tm k <;> rfl
theorem gx (o:Nat):ae (bE cur σs kt kh).hp o = if !cm (aW σs.hp) o && cm kh o then ae cur.hp o else none:=by
 unfold bE
 exact eu (fun k=>!cm (aW σs.hp) k && cm kh k) _ _
theorem nF (k:Nat):ae (fR fx cur (bE cur σs kt kh) σs).tm k = match ae (bE cur σs kt kh).tm k with | some x=>some x | none=>if !cm (aW cur.tm) k && !cm (aW σs.tm) k then ae fx.tm k else none:=by
 unfold fR
 dsimp only
 rw[fV,bT,eu (fun k=>!cm (aW cur.tm) k && !cm (aW σs.tm) k),if_neg (by simp [cm])]
 cases ae (bE cur σs kt kh).tm k <;> rfl
theorem jr (o:Nat):ae (fR fx cur (bE cur σs kt kh) σs).hp o = match ae (bE cur σs kt kh).hp o with | some x=>some x | none=>if !cm (aW cur.hp) o && !cm (aW σs.hp) o then ae fx.hp o else none:=by
 unfold fR
 dsimp only
 rw[fV,bT,eu (fun k=>!cm (aW cur.hp) k && !cm (aW σs.hp) k),if_neg (by simp [cm])]
 cases ae (bE cur σs kt kh).hp o <;> rfl
theorem AP {x:Nat × TSl} (h:x ∈ (fR fx cur (bE cur σs kt kh) σs).tm):ae (fR fx cur (bE cur σs kt kh) σs).tm x.1 = some x.2:=by
 have h1:=(iQ _ _ _ h).2
 unfold fR
 dsimp only
 rw[fV,if_neg (by simp [cm])]
 exact h1
theorem si {x:Nat × cY} (h:x ∈ (fR fx cur (bE cur σs kt kh) σs).hp):ae (fR fx cur (bE cur σs kt kh) σs).hp x.1 = some x.2:=by
 have h1:=(iQ _ _ _ h).2
 unfold fR
 dsimp only
 rw[fV,if_neg (by simp [cm])]
 exact h1
theorem DN (hc:gj (fR fx cur (bE cur σs kt kh) σs) = true):Kept fx cur (fR fx cur (bE cur σs kt kh) σs):=by
 refine⟨fun x hx=>?_,fun x hx=>?_,hc⟩
 ·have h:=AP hx
  rw[nF,kY] at h
  cases hs:cm (aW σs.tm) x.1 with
  | true =>
   rw[hs] at h
   simp only[if_true,Option.some.injEq] at h
   rw[← h]; exact .inl rfl
  | false =>
   rw[hs] at h
   simp only[Bool.false_eq_true,if_false] at h
   cases hcur:ae cur.tm x.1 with
   | some v =>
    rw[hcur] at h
    simp only[Option.map_some,Option.some.injEq] at h
    cases hk:cm kt x.1 with
    | true =>
     rw[hk,cond_true] at h
     refine .inr ?_
     unfold je
     rw[bT,hcur]; exact h
    | false=>rw[hk,cond_false] at h; rw[← h]; exact .inl rfl
   | none =>
    rw[hcur] at h
    simp only[Option.map_none] at h
    split at h
    ·refine .inr ?_
     unfold je
     rw[bT,hcur]
     dsimp only
     rw[h]; rfl
    ·cases h
 ·have h:=si hx
  rw[jr,gx] at h
  rw[iE,bT]
  split at h
  ·rename_i y hy
   split at hy
   ·rw[hy]; exact h
   ·cases hy
  ·rename_i hy
   split at h
   ·rename_i hcc
    rw[Bool.and_eq_true,Bool.not_eq_true',fm] at hcc
    rw[hcc.1]; exact h
   ·cases h
theorem qT {c:TSt} (hc:gj (fR fx cur (bE cur σs kt kh) σs) = true) (hk:oE (fR fx cur (bE cur σs kt kh) σs) c σs = true):Kept (fR fx cur (bE cur σs kt kh) σs) c (fR fx cur (bE cur σs kt kh) σs):=by
 unfold oE at hk
 simp only[Bool.and_eq_true,List.all_eq_true,Bool.or_eq_true] at hk
 refine⟨fun x hx=>?_,fun x hx=>?_,hc⟩
 ·have h:=AP hx
  cases hcl:ae c.tm x.1 with
  | none =>
   refine .inr ?_
   unfold je
   rw[bT,hcl]
   dsimp only
   rw[h]; rfl
  | some v =>
   refine .inl ?_
   rcases hk.1 _ (dg hcl) with h1 | h1
   ·dsimp only at h1
    rw[nF,kY,h1] at h
    simp only[if_true,Option.some.injEq] at h
    rw[← h]; rfl
   ·dsimp only at h1
    rw[look_eq,h] at h1
    exact h1
 ·have h:=si hx
  rw[iE,bT]
  cases hcl:ae c.hp x.1 with
  | none=>exact h
  | some v =>
   exfalso
   rcases hk.2 _ (dg hcl) with h1 | h1
   ·dsimp only at h1
    rw[jr,gx,h1] at h
    simp at h
   ·dsimp only at h1
    rw[look_eq,h] at h1
    cases h1
theorem oK {c:TSt} (hd:kK fx cur (bE cur σs kt kh) σs = true):un2 fx ⟨c.tm ++ (bE cur σs kt kh).tm,c.hp ++ (bE cur σs kt kh).hp⟩ = un2 (fR fx cur (bE cur σs kt kh) σs) c:=by
 unfold kK at hd
 simp only[Bool.and_eq_true,List.all_eq_true,Bool.or_eq_true] at hd
 refine St.ext' (fun k=>?_) (fun o=>?_)
 ·rw[gq,gq]
  unfold je
  congr 2
  dsimp only
  rw[List.append_assoc,bT,bT c.tm,bT,nF]
  cases ae c.tm k with
  | some v=>rfl
  | none =>
   dsimp only
   cases hkt:ae (bE cur σs kt kh).tm k with
   | some v=>rfl
   | none =>
    dsimp only
    rw[kY] at hkt
    cases hs:cm (aW σs.tm) k with
    | true=>rw[hs] at hkt; cases hkt
    | false =>
     rw[hs] at hkt
     simp only[Bool.false_eq_true,if_false,Option.map_eq_none_iff] at hkt
     rw[(fm _ _).2 hkt]; rfl
 ·rw[fO,fO,iE,iE]
  congr 1
  dsimp only
  rw[List.append_assoc,bT,bT c.hp,bT,jr]
  cases ae c.hp o with
  | some v=>rfl
  | none =>
   dsimp only
   cases hkt:ae (bE cur σs kt kh).hp o with
   | some v=>rfl
   | none =>
    dsimp only
    cases hs:cm (aW σs.hp) o with
    | true =>
     rw[Bool.not_true,Bool.and_false]
     obtain⟨y,hy,rfl⟩:=List.mem_map.1 ((cP _ _).1 hs)
     have:=hd.2 y hy
     rw[look_eq] at this
     cases hl:ae fx.hp y.1 with
     | none=>rfl
     | some v=>rw[hl] at this; cases this
    | false =>
     cases hcu:ae cur.hp o with
     | none=>rw[(fm _ _).2 hcu]; rfl
     | some v =>
      have hk:=(cP _ _).2 (vx hcu)
      rw[hk]
      have:=hd.1 _ (dg hcu)
      dsimp only at this
      rcases this with (h1 | h1) | h1
      ·rw[hs] at h1; cases h1
      ·have:=(fm (bE cur σs kt kh).hp o).2 hkt
       rw[this] at h1; cases h1
      ·rw[look_eq] at h1
       cases hl:ae fx.hp o with
       | none=>rfl
       | some v=>rw[hl] at h1; cases h1
theorem DO (hd:kK fx cur (bE cur σs kt kh) σs = true):un2 (fR fx cur (bE cur σs kt kh) σs) (vd fx cur σs kt kh) = un2 fx cur:=by
 unfold kK at hd
 simp only[Bool.and_eq_true,List.all_eq_true,Bool.or_eq_true] at hd
 refine St.ext' (fun k=>?_) (fun o=>?_)
 ·rw[gq,gq]
  congr 1
  unfold je
  have hown:ae (vd fx cur σs kt kh).tm k = match (if cm (aW σs.tm) k || !cm kt k then ae cur.tm k else none) with | some x=>some x | none=>if cm (aW σs.tm) k && !cm (aW cur.tm) k then ae fx.tm k else none:=by
   unfold vd
   dsimp only
   rw[bT,eu (fun k=>cm (aW σs.tm) k || !cm kt k),eu (fun k=>cm (aW σs.tm) k && !cm (aW cur.tm) k)]
   generalize (if (cm (aW σs.tm) k || !cm kt k) = true then ae cur.tm k else none) = q
   cases q <;> rfl
  rw[bT,bT,hown,nF,kY]
  cases hs:cm (aW σs.tm) k with
  | true =>
   simp only[Bool.true_or,if_true,Bool.true_and]
   cases hcu:ae cur.tm k with
   | some v=>rfl
   | none =>
    rw[(fm _ _).2 hcu]
    simp only[Bool.not_false,if_true]
    cases ae fx.tm k <;> rfl
  | false =>
   simp only[Bool.false_or,Bool.false_eq_true,if_false,Bool.false_and,Bool.not_false,Bool.and_true]
   cases hcu:ae cur.tm k with
   | some v =>
    cases hk:cm kt k with
    | true=>simp
    | false=>simp
   | none =>
    rw[(fm _ _).2 hcu]
    simp
 ·rw[fO,fO,iE,iE]
  congr 1
  have hown:ae (vd fx cur σs kt kh).hp o = if cm (aW σs.hp) o || !cm kh o then ae cur.hp o else none:=by
   unfold vd
   exact eu (fun k=>cm (aW σs.hp) k || !cm kh k) _ _
  rw[bT,bT,hown,jr,gx]
  cases hs:cm (aW σs.hp) o with
  | true =>
   simp only[Bool.true_or,if_true,Bool.not_true,Bool.false_and,Bool.false_eq_true,if_false,Bool.and_false]
   cases hcu:ae cur.hp o with
   | some v=>rfl
   | none =>
    dsimp only
    obtain⟨y,hy,rfl⟩:=List.mem_map.1 ((cP _ _).1 hs)
    have:=hd.2 y hy
    rw[look_eq] at this
    cases hl:ae fx.hp y.1 with
    | none=>rfl
    | some v=>rw[hl] at this; cases this
  | false =>
   simp only[Bool.false_or,Bool.not_false,Bool.true_and,Bool.and_true]
   cases hcu:ae cur.hp o with
   | some v =>
    cases hk:cm kh o with
    | true=>simp
    | false=>simp
   | none =>
    rw[(fm _ _).2 hcu]
    simp
end
end Go.Lad
