import Derived.Test.YtaocfjifacnokaaGreatD3
namespace Go.Lad
set_option linter.unusedVariables false
set_option linter.unusedSimpArgs false
open Go.RowKit
section
variable {ρ:Type} {P:Program} {H:List (Nat × Ty)} {fx cur:TSt} {k:KE ρ} {r:ρ}
def dO (fx cur:TSt) (x:TSl):Arg:=(x.un,x.un.ids.map (un2 fx cur).hp)
def Did (o:Option Eff) (k:KE ρ) (r:ρ):Prop := ∃ y wr c,k y wr = some r ∧ o = some ⟨c,y.un,dN wr⟩ ∧ c
theorem did {o:Option Eff} {c:Prop} (y:TSl) (wr:List (Nat × cY)) (h:k y wr = some r) (ho:o = some ⟨c,y.un,dN wr⟩) (hc:c):Did o k r:=⟨y,wr,c,h,ho,hc⟩
theorem dI {o:Nat} {x:cY} (h:obT fx cur o = some x):(un2 fx cur).hp o = some x.un:=by rw[fO,h]; rfl
theorem I8 {b:BinOp} {x y:TSl} (h:GN b x y k = some r):b = .add ∧ Did (rM [x.un,y.un]) k r:=by
 unfold GN at h
 split at h
 ·exact⟨rfl,did _ [] h rfl trivial⟩
 ·cases h
theorem DD {x:TSl} (h:J9 x k = some r):Did (rH [x.un]) k r:=did x [] h rfl trivial
theorem G7 (c:Bool) (X Y:Slot):pM [.c (.v (.p (.bool c))),X,Y] = val (bif c then X else Y):=by
 unfold pM
 split
 ·rename_i c' x y heq
  simp only[List.cons.injEq,Slot.c.injEq,Cmp.v.injEq,aJ.p.injEq,PV.bool.injEq,and_true] at heq
  obtain⟨rfl,rfl,rfl⟩:=heq
  cases c <;> rfl
 ·rename_i c' x y _ heq
  simp only[List.cons.injEq,Slot.c.injEq,Cmp.v.injEq,aJ.p.injEq,PV.bool.injEq,and_true] at heq
  obtain⟨rfl,rfl,rfl⟩:=heq
  rfl
 ·rename_i h1 h2; exact absurd rfl (h2 c X Y)
theorem I9 {c x y:TSl} (h:GK c x y k = some r):Did (pM [c.un,x.un,y.un]) k r:=by
 unfold GK at h
 split at h
 ·rename_i c
  obtain⟨c,rfl⟩:∃ m:Bool,m = c:=⟨c,rfl⟩
  rw[show (TSl.c (.v (.v .bool c))).un = Slot.c (.v (.p (.bool c))) from rfl,G7]
  split at h
  ·rename_i x y
   exact did _ _ h (by cases c <;> rfl) trivial
  ·exact did _ _ h (by cases c <;> rfl) trivial
 ·cases h
theorem G8 {t:TypeId} {d:Option Nat} (h:Cj P fx cur t d k = some r):Did (ir P t d (bN (un2 fx cur).hp d) []) k r:=by
 unfold Cj at h
 split at h
 ·rename_i d cs hz
  obtain⟨h1,h2⟩:=a7 h
  refine did (c:=True) _ _ h2 ?_ trivial
  unfold ir
  simp only[Az hz,jf h1,if_true]
  rfl
 ·cases h
theorem G9 {ps:List PV} {off n:Nat} {agg:Bool} {c:Cmp} (h:mV (ps.map aJ.p) off n agg = some c):(agg = true → off + n ≤ ps.length ∧ c = .g (((ps.drop off).take n).map .p)) ∧ (agg = false → off < ps.length ∧ c = .v (.p (ps.getD off (.bool false)))):=by
 unfold mV at h
 cases agg with
 | true =>
  refine⟨fun _=>?_,(fun h=>nomatch h)⟩
  simp only[if_true,List.length_map] at h
  split at h
  ·rename_i hl
   injection h with h
   exact⟨hl,by rw[← h,List.map_take,List.map_drop]⟩
  ·cases h
 | false =>
  refine⟨(fun h=>nomatch h),fun _=>?_⟩
  simp only[Bool.false_eq_true,if_false,List.getElem?_map] at h
  cases hp:ps[off]? with
  | none=>rw[hp] at h; cases h
  | some p =>
   rw[hp] at h
   injection h with h
   exact⟨(List.getElem?_eq_some_iff.1 hp).1,by rw[← h,List.getD_eq_getElem?_getD,hp]; rfl⟩
theorem Ja {t:TypeId} {x:TSl} (h:GL P fx cur t x k = some r):Did (jQ P t [dO fx cur x]) k r:=by
 unfold GL at h
 split at h
 ·cases h
 ·rename_i n hn
  split at h
  ·rename_i o off
   split at h
   ·rename_i bt cs ho
    split at h
    ·rename_i c hc
     refine did (c:=True) _ _ h ?_ trivial
     show jQ P t [(.c (.v (.loc o off)),[(un2 fx cur).hp o])] = _
     rw[dI ho]
     simp only[jQ,cY.un,hn,qH hc]
     rfl
    ·cases h
   ·cases h
  ·rename_i t' x off
   split at h
   ·rename_i c hc
    have h1:=qH hc
    rw[gO] at h1
    obtain⟨h2,h3⟩:=G9 h1
    show Did (jQ P t [(.c (.v (.ip (enc t' x) off)),_)]) k r
    simp only[jQ,hn]
    cases hg:fJ P t with
    | true =>
     obtain⟨h4,h5⟩:=h2 hg
     exact did (c:=off + n ≤ (enc t' x).length) _ _ h (by rw[if_pos rfl,show (TSl.c c).un = .c c.un from rfl,h5]; rfl) h4
    | false =>
     obtain⟨h4,h5⟩:=h3 hg
     exact did (c:=off < (enc t' x).length) _ _ h (by rw[if_neg (by simp),show (TSl.c c).un = .c c.un from rfl,h5]; rfl) h4
   ·cases h
  ·rename_i o i off z
   split at h
   ·rename_i e t' l ho
    obtain⟨hz,h⟩:=a7 h
    rw[eB,decide_eq_true_eq] at hz
    obtain⟨x,hx,h⟩:=bind_some h
    split at h
    ·rename_i c hc
     have h1:=qH hc
     rw[gO] at h1
     obtain⟨h2,h3⟩:=G9 h1
     obtain⟨i1,i2,i3⟩:=lC hx
     have hg:=yD (enc t') hx
     show Did (jQ P t [(.c (.v (.el o i.toNat off z)),[(un2 fx cur).hp o])]) k r
     rw[dI ho]
     simp only[jQ,cY.un,hn,hz,if_true]
     rw[hg]
     rw[kk] at h2 h3
     cases ha:fJ P t with
     | true =>
      obtain⟨h4,h5⟩:=h2 ha
      exact did (c:=i.toNat < (l.map (enc t')).length ∧ off + n ≤ t'.cells) _ _ h (by rw[if_pos rfl,show (TSl.c c).un = .c c.un from rfl,h5]; rfl) ⟨by simpa using i2,h4⟩
     | false =>
      obtain⟨h4,h5⟩:=h3 ha
      exact did (c:=i.toNat < (l.map (enc t')).length ∧ off < t'.cells) _ _ h (by rw[if_neg (by simp),show (TSl.c c).un = .c c.un from rfl,h5]; rfl) ⟨by simpa using i2,h4⟩
    ·cases h
   ·cases h
  ·cases h
def unP:aJ → PV
 | .p p=>p
 | _=>.bool false
theorem Mc {A B C:List aJ} {qs:List PV} (h:A ++ B ++ C = qs.map aJ.p):B = (B.map unP).map aJ.p:=by
 rw[List.map_map]
 have:∀ x ∈ B,(aJ.p ∘ unP) x = x:=fun x hx=>by
  have:x ∈ qs.map aJ.p:=by rw[← h]; simp [hx]
  obtain⟨p,_,rfl⟩:=List.mem_map.1 this
  rfl
 conv=>lhs; rw[← List.map_id B]
 exact List.map_congr_left fun x hx=>(this x hx).symm
theorem Md {a b:List PV} (h:a.map aJ.p = b.map aJ.p):a = b:=by
 have:=congrArg (List.map unP) h
 simpa [List.map_map,Function.comp_def,unP] using this
theorem Ha {t:TypeId} {x v:TSl} (h:Ck P fx cur t x v k = some r):Did (kT P t [dO fx cur x,dO fx cur v]) k r:=by
 unfold Ck at h
 split at h
 ·rename_i n c hn
  split at h
  ·rename_i o off
   split at h
   ·rename_i bt cs ho
    obtain⟨hc,h⟩:=a7 h
    rw[Bool.and_eq_true,eB,lX,decide_eq_true_eq,decide_eq_true_eq] at hc
    refine did (c:=True) _ _ h ?_ trivial
    show kT P t [(.c (.v (.loc o off)),[(un2 fx cur).hp o]),(.c c.un,_)] = _
    rw[dI ho]
    simp only[kT,cY.un,hn,jq,List.length_map]
    rw[if_pos hc]
    simp only[dN,List.map_cons,List.map_nil,cY.un,List.map_append,List.map_take,List.map_drop,TSl.un]
   ·cases h
  ·rename_i o i off z
   split at h
   ·rename_i e t' l ho
    obtain⟨hc,h⟩:=a7 h
    simp only[Bool.and_eq_true,eB,lX,decide_eq_true_eq] at hc
    obtain⟨⟨hz,hl⟩,hoz⟩:=hc
    obtain⟨x,hx,h⟩:=bind_some h
    obtain⟨y,h,hp⟩:=fT h
    obtain⟨i1,i2,i3⟩:=lC hx
    have hg:=yD (enc t') hx
    rw[List.map_append,List.map_append,List.map_take,List.map_drop,gO] at hp
    have hm:=Mc hp
    have hps:dG c.un.leaves = some ((c.leaves.map TL.un).map unP):=by
     rw[jq]
     conv=>lhs; rw[hm]
     exact tF _
    have hy:(enc t' x).take off ++ (c.leaves.map TL.un).map unP ++ (enc t' x).drop (off + n) = enc t' y:=by
     apply Md
     rw[List.map_append,List.map_append,← hm,List.map_take,List.map_drop]
     exact hp
    refine did (c:=i.toNat < (l.map (enc t')).length ∧ off + n ≤ z) _ _ h ?_ ⟨by simpa using i2,hoz⟩
    show kT P t [(.c (.v (.el o i.toNat off z)),[(un2 fx cur).hp o]),(.c c.un,_)] = _
    rw[dI ho]
    simp only[kT,cY.un,hn,hps]
    rw[if_pos ⟨hz,by simpa using hl⟩,hg,hy]
    simp only[dN,List.map_cons,List.map_nil,cY.un,List.map_set,TSl.un,hz]
   ·cases h
  ·cases h
 ·cases h
theorem K2 {x:TSl} (h:Ky x k = some r):Did (zB [x.un]) k r:=by
 unfold Ky at h
 split at h
 ·exact did _ _ h rfl trivial
 ·exact did _ _ h rfl trivial
 ·exact did _ _ h rfl trivial
 ·cases h
theorem yL {t:TypeId} {f:Nat} {x:TSl} (h:pT P t f x k = some r):Did (gU P t f [x.un]) k r:=by
 unfold pT at h
 split at h
 ·rename_i j a b hf
  split at h
  ·exact did (c:=True) _ _ h (by simp only[TSl.un,TC.un,TL.un,gU,hf]; rfl) trivial
  ·exact did (c:=True) _ _ h (by simp only[TSl.un,TC.un,TL.un,gU,hf]; rfl) trivial
  ·exact did (c:=True) _ _ h (by simp only[TSl.un,TC.un,TL.un,gU,hf]; rfl) trivial
  ·cases h
 ·cases h
theorem lH {t:TypeId} {f:Nat} {x:TSl} (h:Cl P t f x k = some r):Did (o9 P t f [x.un]) k r:=by
 unfold Cl at h
 split at h
 ·rename_i j n agg xs hf
  split at h
  ·rename_i c hc
   exact did (c:=True) _ _ h (by simp only[TSl.un,TC.un,o9,hf,qH hc]; rfl) trivial
  ·cases h
 ·cases h
theorem AA {a b n:Int} {m:Nat} {u:Unit} (h:GM a b n m = some u):0 ≤ a ∧ 0 ≤ n ∧ n < b - a ∧ b ≤ m:=lf h
theorem yM {t:TypeId} {x i:TSl} (h:pU P fx cur t x i k = some r):Did (dX P t [dO fx cur x,dO fx cur i]) k r:=by
 unfold pU at h
 split at h
 ·rename_i e z kd n he
  obtain⟨n,rfl⟩:∃ m:Int,m = n:=⟨n,rfl⟩
  split at h
  ·rename_i t' l
   obtain⟨l,rfl⟩:∃ m:List t'.den,m = l:=⟨l,rfl⟩
   obtain⟨hz,h⟩:=a7 h
   rw[eB,decide_eq_true_eq] at hz
   obtain⟨x,hx,h⟩:=bind_some h
   obtain⟨i1,i2,i3⟩:=lC hx
   have hg:=yD (enc t') hx
   refine did (c:=0 ≤ n ∧ n.toNat < (List.map (enc t') l).length ∧ ((List.map (enc t') l).getD n.toNat []).length = z) _ _ h ?_ ⟨i1,by simpa using i2,by rw[hg,kk,hz]⟩
   show dX P t [(.c (.v (.p (.sl (List.map (enc t') l)))),_),(.c (.v (.p (.int kd n))),_)] = _
   simp only[dX,he,dL]
   rw[hg]; rfl
  ·rename_i o
   split at h
   ·rename_i e' t' l ho
    obtain⟨hz,h⟩:=a7 h
    rw[eB,decide_eq_true_eq] at hz
    obtain⟨x,hx,h⟩:=bind_some h
    obtain⟨i1,i2,i3⟩:=lC hx
    refine did (c:=0 ≤ n ∧ n.toNat < (l.map (enc t')).length) _ _ h ?_ ⟨i1,by simpa using i2⟩
    show dX P t [(.c (.v (.own o)),[(un2 fx cur).hp o]),(.c (.v (.p (.int kd n))),_)] = _
    rw[dI ho]
    simp only[dX,cY.un,he,hz,if_true,dL]
    rfl
   ·cases h
  ·rename_i o a b z2
   split at h
   ·rename_i e' t' l ho
    obtain⟨hz,h⟩:=a7 h
    rw[Bool.and_eq_true,eB,eB,decide_eq_true_eq,decide_eq_true_eq] at hz
    obtain⟨u,hu,h⟩:=bind_some h
    obtain⟨u1,u2,u3,u4⟩:=AA hu
    refine did (c:=0 ≤ n ∧ n.toNat < b.toNat - a.toNat ∧ b.toNat ≤ (l.map (enc t')).length) _ _ h ?_ ⟨u2,by omega,by simp; omega⟩
    show dX P t [(.c (.v (.sv o a.toNat b.toNat z2)),[(un2 fx cur).hp o]),(.c (.v (.p (.int kd n))),_)] = _
    rw[dI ho]
    simp only[dX,cY.un,he]
    rw[if_pos ⟨hz.1,by rw[hz.2,hz.1]⟩]
    simp only[dL,TSl.un,TC.un,TL.un,dN,List.map_nil]
    have:(Kz a n).toNat = a.toNat + n.toNat:=by unfold Kz; omega
    rw[this]
   ·cases h
  ·cases h
 ·cases h
theorem Cz (t:Ty):tx t = nB t:=by cases t <;> rfl
theorem AB {t:Ty} (hl:nB t = true):∀ (ls:List TL) (k:List t.den → Option ρ),Du t ls k = some r → ∃ l ps,k l = some r ∧ dG (ls.map TL.un) = some ps ∧ ps.length = l.length ∧ ls.length = l.length ∧ ∀ (i:Nat) x,l[i]? = some x → ∃ p,ps[i]? = some p ∧ (TL.v t x).un = .p p
 | [],k,h=>⟨[],[],h,rfl,rfl,rfl,fun i x hx=>by simp at hx⟩
 | .v t' x :: ls,k,h=>by
  unfold Du at h
  obtain⟨e,h⟩:=fL h
  subst e
  obtain⟨l,ps,h1,h2,h3,h4,h5⟩:=AB hl ls _ h
  obtain⟨p,hp,hu⟩:=oI hl x
  refine⟨_,p :: ps,h1,?_,by simp [h3],by simp [h4],fun i y hy=>?_⟩
  ·rw[List.map_cons,hu]
   show (dG (ls.map TL.un)).map (p :: ·) = _
   rw[h2]; rfl
  ·cases i with
   | zero =>
    have:x = y:=by simpa [jT] using hy
    subst this
    exact⟨p,rfl,hu⟩
   | succ i=>exact h5 i y (by simpa using hy)
 | .dead :: _,k,h=>by cases h
 | .nil :: _,k,h=>by cases h
 | .loc _ _ :: _,k,h=>by cases h
 | .own _ :: _,k,h=>by cases h
 | .el _ _ _ _ :: _,k,h=>by cases h
 | .ip _ _ _ :: _,k,h=>by cases h
 | .mp _ :: _,k,h=>by cases h
 | .fn _ _ :: _,k,h=>by cases h
 | .sv _ _ _ _ :: _,k,h=>by cases h
 | .oth _ :: _,k,h=>by cases h
 | .nb _ _ _ :: _,k,h=>by cases h
theorem Hb {t:TypeId} {x i:TSl} (h:Cm P t x i k = some r):Did (kR P t [x.un,i.un]) k r:=by
 unfold Cm at h
 split at h
 ·rename_i s kd n hu
  obtain⟨n,rfl⟩:∃ m:Int,m = n:=⟨n,rfl⟩
  obtain⟨s,rfl⟩:∃ m:Bs,m = s:=⟨s,rfl⟩
  obtain⟨c,hc,h⟩:=bind_some h
  obtain⟨b1,b2,b3⟩:=GD hc
  refine did (c:=0 ≤ n ∧ n.toNat < (mkS s).size) _ _ h ?_ ⟨b1,by rw[lB]; exact b2⟩
  show kR P t [.c (.v (.p (.str (mkS s)))),.c (.v (.p (.int kd n)))] = _
  simp only[kR,hu,mB]
  rw[b3]; rfl
 ·rename_i m e xs kd n hu
  obtain⟨n,rfl⟩:∃ m:Int,m = n:=⟨n,rfl⟩
  split at h
  ·rename_i t' x0 r0 hsz
   obtain⟨hc,h⟩:=a7 h
   simp only[Bool.and_eq_true,eB,decide_eq_true_eq,Bool.not_eq_true'] at hc
   obtain⟨⟨hm,hag⟩,hlf⟩:=hc
   rw[Cz] at hlf
   obtain⟨l,ps,h1,h2,h3,h4,h5⟩:=AB hlf _ _ h
   obtain⟨y,hy,h1⟩:=bind_some h1
   obtain⟨i1,i2,i3⟩:=lC hy
   obtain⟨p,hp,hu2⟩:=h5 _ _ i3
   refine did (c:=0 ≤ n ∧ n.toNat < ps.length) _ _ h1 ?_ ⟨i1,by omega⟩
   have e1:(tV t' y).un = .p p:=by
    show Slot.c (.v (TL.v t' y).un) = _
    rw[hu2]
   rw[e1]
   show kR P t [.c (.g ((TL.v t' x0 :: r0).map TL.un)),.c (.v (.p (.int kd n)))] = _
   simp only[kR,hu,hsz,h2]
   rw[if_pos ⟨by omega,hag⟩,List.getD_eq_getElem?_getD,hp]
   rfl
  ·cases h
 ·cases h
theorem qI {n m:Int} (h:z64 n = some m):n = m ∧ inK .i64 n:=by
 rw[yH] at h
 obtain⟨h1,h2⟩:=GC h
 exact⟨h1,h2⟩
theorem yN {k:IntKind} {n:Int} (h:inZ k n = true):inK k n:=by
 unfold inZ at h
 rw[Bool.and_eq_true,dk,dk,decide_eq_true_eq,decide_eq_true_eq] at h
 exact h
theorem EV {k:IntKind} {a b m:Int} (h:Kw k a b = some m):a.tdiv b = m ∧ b ≠ 0 ∧ inK k (a.tdiv b):=by
 unfold Kw at h
 obtain⟨h1,h2⟩:=a7 h
 rw[Bool.and_eq_true,bg] at h1
 injection h2 with h2
 exact⟨h2,by simpa using h1.1,yN h1.2⟩
theorem EW {k:IntKind} {a b m:Int} (h:Kx k a b = some m):a.tmod b = m ∧ b ≠ 0 ∧ inK k (a.tmod b):=by
 unfold Kx at h
 obtain⟨h1,h2⟩:=a7 h
 rw[Bool.and_eq_true,bg] at h1
 injection h2 with h2
 exact⟨h2,by simpa using h1.1,yN h1.2⟩
theorem K3 {op:BinOp} {kd:IntKind} {a b:Int} (h:KB op kd a b k = some r):Did (jy op kd a b) k r:=by
 unfold KB at h
 split at h
 ·split at h
  ·rename_i hk _
   obtain⟨c,hc,h⟩:=bind_some h
   obtain⟨rfl,hi⟩:=qI hc
   refine did (c:=inK .i64 (a + b)) _ _ h ?_ hi
   simp only[jy,hk.down,if_true]; rfl
  ·rename_i hk
   refine did (c:=True) _ _ h ?_ trivial
   have:kd ≠ .i64:=fun e=>by unfold IntKind.same at hk; rw[dif_pos e] at hk; cases hk
   simp only[jy,this,if_false]; rfl
 ·split at h
  ·rename_i hk _
   obtain⟨c,hc,h⟩:=bind_some h
   obtain⟨rfl,hi⟩:=qI hc
   refine did (c:=inK .i64 (a - b)) _ _ h ?_ hi
   simp only[jy,hk.down,if_true]; rfl
  ·rename_i hk
   refine did (c:=True) _ _ h ?_ trivial
   have:kd ≠ .i64:=fun e=>by unfold IntKind.same at hk; rw[dif_pos e] at hk; cases hk
   simp only[jy,this,if_false]; rfl
 ·split at h
  ·rename_i hk _
   obtain⟨c,hc,h⟩:=bind_some h
   obtain⟨rfl,hi⟩:=qI hc
   refine did (c:=inK .i64 (a * b)) _ _ h ?_ hi
   simp only[jy,hk.down,if_true]; rfl
  ·rename_i hk
   refine did (c:=True) _ _ h ?_ trivial
   have:kd ≠ .i64:=fun e=>by unfold IntKind.same at hk; rw[dif_pos e] at hk; cases hk
   simp only[jy,this,if_false]; rfl
 ·obtain⟨c,hc,h⟩:=bind_some h
  obtain⟨rfl,h1⟩:=EV hc
  exact did (c:=b ≠ 0 ∧ inK kd (a.tdiv b)) _ _ h rfl h1
 ·obtain⟨c,hc,h⟩:=bind_some h
  obtain⟨rfl,h1⟩:=EW hc
  exact did (c:=b ≠ 0 ∧ inK kd (a.tmod b)) _ _ h rfl h1
 ·exact did (c:=True) _ _ h (by rw[bg]; rfl) trivial
 ·exact did (c:=True) _ _ h (by rw[bg]; rfl) trivial
 ·exact did (c:=True) _ _ h (by rw[ao]; rfl) trivial
 ·exact did (c:=True) _ _ h (by rw[dk]; rfl) trivial
 ·exact did (c:=True) _ _ h (by rw[ao]; rfl) trivial
 ·exact did (c:=True) _ _ h (by rw[dk]; rfl) trivial
 ·cases h
theorem EX {k:IntKind} {a n m:Int} (h:ES k a n = some m):wD k a n = m ∧ 0 ≤ n ∧ inK k (wD k a n):=by
 unfold ES at h
 obtain⟨hc,h⟩:=a7 h
 rw[Bool.and_eq_true,dk,decide_eq_true_eq] at hc
 injection h with h
 exact⟨h,hc.1,yN hc.2⟩
theorem EY {k:IntKind} {a n m:Int} (h:KA k a n = some m):IC k a n = m ∧ 0 ≤ n:=by
 unfold KA at h
 obtain⟨hc,h⟩:=a7 h
 rw[dk,decide_eq_true_eq] at hc
 injection h with h
 exact⟨h,hc⟩
theorem Me {op:BinOp} {P:Program} {t:TypeId} {x y:TSl} (h:tSh op x y k = some r):jP P op t [x.un,y.un] = none ∧ ou P op t [x.un,y.un] = none ∧ Did (Et op [x.un,y.un]) k r:=by
 unfold tSh at h
 split at h
 ·rename_i kd a kd2 n
  obtain⟨a,rfl⟩:∃ q:Int,q = a:=⟨a,rfl⟩
  obtain⟨n,rfl⟩:∃ q:Int,q = n:=⟨n,rfl⟩
  show jP P op t [.c (.v (.p (.int kd a))),.c (.v (.p (.int kd2 n)))] = none ∧ ou P op t [.c (.v (.p (.int kd a))),.c (.v (.p (.int kd2 n)))] = none ∧ Did (Et op [.c (.v (.p (.int kd a))),.c (.v (.p (.int kd2 n)))]) k r
  refine⟨?_,rfl,?_⟩
  ·show (if kd = kd2 then jy op kd a n else none) = none
   split
   ·cases op <;> first | rfl | cases h
   ·rfl
  split at h
  ·obtain⟨c,hc,h⟩:=bind_some h
   obtain⟨rfl,h1⟩:=EY hc
   exact did (c:=0 ≤ n) _ _ h rfl h1
  ·obtain⟨c,hc,h⟩:=bind_some h
   obtain⟨rfl,h1⟩:=EX hc
   exact did (c:=0 ≤ n ∧ inK kd (wD kd a n)) _ _ h rfl h1
  ·split at h
   ·rename_i hk _
    exact did (c:=True) _ _ h (by show (if kd = kd2 then val (.p (.int kd (IA kd a n))) else none) = _; rw[if_pos hk.down]; rfl) trivial
   ·cases h
  ·split at h
   ·rename_i hk _
    exact did (c:=True) _ _ h (by show (if kd = kd2 then val (.p (.int kd (orI kd a n))) else none) = _; rw[if_pos hk.down]; rfl) trivial
   ·cases h
  ·split at h
   ·rename_i hk _
    exact did (c:=True) _ _ h (by show (if kd = kd2 then val (.p (.int kd (IB kd a n))) else none) = _; rw[if_pos hk.down]; rfl) trivial
   ·cases h
  ·split at h
   ·rename_i hk _
    exact did (c:=True) _ _ h (by show (if kd = kd2 then val (.p (.int kd (anI kd a n))) else none) = _; rw[if_pos hk.down]; rfl) trivial
   ·cases h
  ·cases h
 ·cases h
theorem K4 {op:BinOp} {a b:Bs} (h:KC op a b k = some r):Did (jR op (mkS a) (mkS b)) k r:=by
 have hd:decide (mkS a = mkS b) = decide (a = b):=by rw[Bool.eq_iff_iff]; simp [yC]
 unfold KC at h
 split at h
 ·obtain⟨c,hc,h⟩:=bind_some h
  obtain⟨rfl,h1⟩:=GF hc
  exact did (c:=(mkS a).size + (mkS b).size ≤ 9223372036854775807) _ _ h (by simp only[jR,IW]; rfl) (by rw[lB,lB]; exact h1)
 ·exact did (c:=True) _ _ h (by simp only[jR]; rw[hd]; rfl) trivial
 ·exact did (c:=True) _ _ h (by simp only[jR]; rw[hd]; rfl) trivial
 ·exact did (c:=True) _ _ h (by simp only[jR,nr]; rfl) trivial
 ·exact did (c:=True) _ _ h (by simp only[jR,nr]; rw[hd]; rfl) trivial
 ·exact did (c:=True) _ _ h (by simp only[jR,nr]; rw[hd]; rfl) trivial
 ·exact did (c:=True) _ _ h (by simp only[jR,nr]; rfl) trivial
 ·cases h
theorem K5 {op:BinOp} {t:TypeId} {x y:TSl} (h:KD P op t x y k = some r):Did (jP P op t [x.un,y.un]) k r:=by
 unfold KD at h
 split at h
 ·rename_i kd a kd' b
  split at h
  ·rename_i hk _
   have:=K3 h
   show Did (if kd = kd' then jy op kd a b else none) k r
   rw[if_pos hk.down]; exact this
  ·cases h
 ·exact K4 h
 ·rename_i a b
  split at h
  ·rename_i hu; exact did (c:=True) _ _ h (by simp only[TSl.un,TC.un,TL.un,enc,jP,hu]; rfl) trivial
  ·rename_i hu; exact did (c:=True) _ _ h (by simp only[TSl.un,TC.un,TL.un,enc,jP,hu]; rfl) trivial
  ·cases h
 ·rename_i t' l
  split at h
  ·rename_i hu; exact did (c:=True) _ _ h (by simp only[TSl.un,TC.un,TL.un,enc,jP,hu]; rfl) trivial
  ·rename_i hu; exact did (c:=True) _ _ h (by simp only[TSl.un,TC.un,TL.un,enc,jP,hu]; rfl) trivial
  ·cases h
 ·split at h
  ·rename_i hu; exact did (c:=True) _ _ h (by simp only[TSl.un,TC.un,TL.un,enc,jP,hu]; rfl) trivial
  ·rename_i hu; exact did (c:=True) _ _ h (by simp only[TSl.un,TC.un,TL.un,enc,jP,hu]; rfl) trivial
  ·cases h
 ·split at h
  ·rename_i hu; exact did (c:=True) _ _ h (by simp only[TSl.un,TC.un,TL.un,enc,jP,hu]; rfl) trivial
  ·rename_i hu; exact did (c:=True) _ _ h (by simp only[TSl.un,TC.un,TL.un,enc,jP,hu]; rfl) trivial
  ·cases h
 ·split at h
  ·rename_i hu; exact did (c:=True) _ _ h (by simp only[TSl.un,TC.un,TL.un,enc,jP,hu]; rfl) trivial
  ·rename_i hu; exact did (c:=True) _ _ h (by simp only[TSl.un,TC.un,TL.un,enc,jP,hu]; rfl) trivial
  ·cases h
 ·cases h
theorem Jb {t:Ty} {x y:t.den} {b:Bool} (h:KH t x y = some b):∃ p q,(TL.v t x).un = .p p ∧ (TL.v t y).un = .p q ∧ Es p q = some b:=by
 cases t with
 | int k =>
  obtain⟨x,rfl⟩:∃ m:Int,m = x:=⟨x,rfl⟩
  obtain⟨y,rfl⟩:∃ m:Int,m = y:=⟨y,rfl⟩
  have h:some (eqZ x y) = some b:=h
  simp only[Option.some.injEq] at h
  subst h
  refine⟨.int k x,.int k y,rfl,rfl,?_⟩
  unfold Es
  dsimp only
  rw[if_pos rfl,bg]
 | str =>
  obtain⟨x,rfl⟩:∃ m:Bs,m = x:=⟨x,rfl⟩
  obtain⟨y,rfl⟩:∃ m:Bs,m = y:=⟨y,rfl⟩
  have h:some (KG x y) = some b:=h
  simp only[Option.some.injEq] at h
  subst h
  refine⟨.str (mkS x),.str (mkS y),rfl,rfl,?_⟩
  unfold Es KG
  dsimp only
  congr 1
  rw[decide_eq_decide,yC]
 | bool =>
  simp only[KH,Option.some.injEq] at h
  subst h
  exact⟨_,_,rfl,rfl,rfl⟩
 | any=>cases h
 | sl e=>cases h
 | map kd e=>cases h
 | slu i=>cases h
 | pair a b=>cases h
theorem DE:∀ (xs ys:List TL) (b:Bool),jd xs ys = some b → ∃ ps qs,dG (xs.map TL.un) = some ps ∧ dG (ys.map TL.un) = some qs ∧ pF ps qs = some b
 | [],[],b,h=>by
  simp only[jd,Option.some.injEq] at h
  subst h
  exact⟨[],[],rfl,rfl,rfl⟩
 | .v t x :: xs,.v t' y :: ys,b,h=>by
  unfold jd at h
  split at h
  ·rename_i hs _
   obtain⟨e⟩:=hs
   subst e
   split at h
   ·rename_i a ha
    obtain⟨p,q,hp,hq,hpq⟩:=Jb ha
    have hq:(TL.v t' y).un = .p q:=hq
    have fin:∀ c,jd xs ys = some c → ∃ ps qs,dG ((TL.v t' x :: xs).map TL.un) = some ps ∧ dG ((TL.v t' y :: ys).map TL.un) = some qs ∧ pF ps qs = some (a && c):=fun c hc=>by
     obtain⟨ps,qs,h1,h2,h3⟩:=DE xs ys c hc
     refine⟨p :: ps,q :: qs,?_,?_,?_⟩
     ·rw[List.map_cons,hp]; show (dG (xs.map TL.un)).map (p :: ·) = _; rw[h1]; rfl
     ·rw[List.map_cons,hq]; show (dG (ys.map TL.un)).map (q :: ·) = _; rw[h2]; rfl
     ·unfold pF; rw[hpq,h3]
    split at h
    ·simp only[Option.some.injEq] at h
     subst h
     have:=fin true rfl
     rwa [Bool.and_true] at this
    ·split at h
     ·rename_i c hc
      simp only[Option.some.injEq] at h
      subst h
      exact fin c hc
     ·cases h
   ·cases h
  ·cases h
 | [],_ :: _,b,h=>by unfold jd at h; cases h
 | .v _ _ :: _,[],b,h=>by unfold jd at h; cases h
 | .dead :: _,_,b,h=>by unfold jd at h; cases h
 | .nil :: _,_,b,h=>by unfold jd at h; cases h
 | .loc _ _ :: _,_,b,h=>by unfold jd at h; cases h
 | .own _ :: _,_,b,h=>by unfold jd at h; cases h
 | .el _ _ _ _ :: _,_,b,h=>by unfold jd at h; cases h
 | .ip _ _ _ :: _,_,b,h=>by unfold jd at h; cases h
 | .mp _ :: _,_,b,h=>by unfold jd at h; cases h
 | .fn _ _ :: _,_,b,h=>by unfold jd at h; cases h
 | .sv _ _ _ _ :: _,_,b,h=>by unfold jd at h; cases h
 | .oth _ :: _,_,b,h=>by unfold jd at h; cases h
 | .nb _ _ _ :: _,_,b,h=>by unfold jd at h; cases h
 | .v _ _ :: _,.dead :: _,b,h=>by unfold jd at h; cases h
 | .v _ _ :: _,.nil :: _,b,h=>by unfold jd at h; cases h
 | .v _ _ :: _,.loc _ _ :: _,b,h=>by unfold jd at h; cases h
 | .v _ _ :: _,.own _ :: _,b,h=>by unfold jd at h; cases h
 | .v _ _ :: _,.el _ _ _ _ :: _,b,h=>by unfold jd at h; cases h
 | .v _ _ :: _,.ip _ _ _ :: _,b,h=>by unfold jd at h; cases h
 | .v _ _ :: _,.mp _ :: _,b,h=>by unfold jd at h; cases h
 | .v _ _ :: _,.fn _ _ :: _,b,h=>by unfold jd at h; cases h
 | .v _ _ :: _,.sv _ _ _ _ :: _,b,h=>by unfold jd at h; cases h
 | .v _ _ :: _,.oth _ :: _,b,h=>by unfold jd at h; cases h
 | .v _ _ :: _,.nb _ _ _ :: _,b,h=>by unfold jd at h; cases h
theorem nC {P:Program}:∀ (fs:List Field) (xs:List TL) (i:Nat) (ps:List PV),eS P i fs xs = true → dG (xs.map TL.un) = some ps → jE P i fs ps = true
 | [],[],i,ps,_,h=>by
  have:ps = []:=by simpa [dG] using h.symm
  subst this; rfl
 | f :: fs,.v (.int kd) x :: xs,i,ps,h,hp=>by
  unfold eS at h
  simp only[Bool.and_eq_true,eB,decide_eq_true_eq] at h
  rw[List.map_cons] at hp
  have hp:(dG (xs.map TL.un)).map (PV.int kd x :: ·) = some ps:=hp
  rw[Option.map_eq_some_iff] at hp
  obtain⟨qs,hq,rfl⟩:=hp
  unfold jE
  rw[nC fs xs (i + 1) qs h.2 hq]
  simp only[Bool.and_eq_true,decide_eq_true_eq]
  exact⟨⟨⟨h.1.1.1,h.1.1.2⟩,h.1.2⟩,trivial⟩
 | f :: fs,.v .str x :: xs,i,ps,h,hp=>by
  unfold eS at h
  simp only[Bool.and_eq_true,eB,decide_eq_true_eq] at h
  rw[List.map_cons] at hp
  have hp:(dG (xs.map TL.un)).map (PV.str (mkS x) :: ·) = some ps:=hp
  rw[Option.map_eq_some_iff] at hp
  obtain⟨qs,hq,rfl⟩:=hp
  unfold jE
  rw[nC fs xs (i + 1) qs h.2 hq]
  simp only[Bool.and_eq_true,decide_eq_true_eq]
  exact⟨⟨⟨h.1.1.1,h.1.1.2⟩,h.1.2⟩,trivial⟩
 | f :: fs,.v .bool x :: xs,i,ps,h,hp=>by
  unfold eS at h
  simp only[Bool.and_eq_true,eB,decide_eq_true_eq] at h
  rw[List.map_cons] at hp
  have hp:(dG (xs.map TL.un)).map (PV.bool x :: ·) = some ps:=hp
  rw[Option.map_eq_some_iff] at hp
  obtain⟨qs,hq,rfl⟩:=hp
  unfold jE
  rw[nC fs xs (i + 1) qs h.2 hq]
  simp only[Bool.and_eq_true,decide_eq_true_eq]
  exact⟨⟨⟨h.1.1.1,h.1.1.2⟩,h.1.2⟩,trivial⟩
 | [],_ :: _,i,ps,h,_=>by unfold eS at h; cases h
 | _ :: _,[],i,ps,h,_=>by unfold eS at h; cases h
 | _ :: _,.v .any _ :: _,i,ps,h,_=>by unfold eS at h; cases h
 | _ :: _,.v (.sl _) _ :: _,i,ps,h,_=>by unfold eS at h; cases h
 | _ :: _,.v (.pair _ _) _ :: _,i,ps,h,_=>by unfold eS at h; cases h
 | _ :: _,.dead :: _,i,ps,h,_=>by unfold eS at h; cases h
 | _ :: _,.nil :: _,i,ps,h,_=>by unfold eS at h; cases h
 | _ :: _,.loc _ _ :: _,i,ps,h,_=>by unfold eS at h; cases h
 | _ :: _,.own _ :: _,i,ps,h,_=>by unfold eS at h; cases h
 | _ :: _,.el _ _ _ _ :: _,i,ps,h,_=>by unfold eS at h; cases h
 | _ :: _,.ip _ _ _ :: _,i,ps,h,_=>by unfold eS at h; cases h
 | _ :: _,.mp _ :: _,i,ps,h,_=>by unfold eS at h; cases h
 | _ :: _,.fn _ _ :: _,i,ps,h,_=>by unfold eS at h; cases h
 | _ :: _,.sv _ _ _ _ :: _,i,ps,h,_=>by unfold eS at h; cases h
 | _ :: _,.oth _ :: _,i,ps,h,_=>by unfold eS at h; cases h
 | _ :: _,.nb _ _ _ :: _,i,ps,h,_=>by unfold eS at h; cases h
theorem K6 {op:BinOp} {t:TypeId} {xs ys:List TL} (h:KI P op t xs ys k = some r):Did (ou P op t [TSl.un (.c (.g xs)),TSl.un (.c (.g ys))]) k r:=by
 unfold KI at h
 split at h
 ·rename_i fs hst
  obtain⟨hc,h⟩:=a7 h
  rw[Bool.and_eq_true,Bool.and_eq_true] at hc
  have key:∀ b,jd xs ys = some b → ∃ ps qs,dG (xs.map TL.un) = some ps ∧ dG (ys.map TL.un) = some qs ∧ pF ps qs = some b ∧ jE P 0 fs.toList ps = true:=fun b hb=>by
   obtain⟨ps,qs,h1,h2,h3⟩:=DE xs ys b hb
   exact⟨ps,qs,h1,h2,h3,nC _ _ _ _ hc.1.1 h1⟩
  cases he:jd xs ys with
  | none=>rw[he] at h; cases op <;> cases h
  | some b =>
   rw[he] at h
   obtain⟨ps,qs,h1,h2,h3,h4⟩:=key _ he
   cases op <;> first | (cases h; done) | skip
   ·refine did (c:=True) _ _ h ?_ trivial
    show ou P .eql t [.c (.g (xs.map TL.un)),.c (.g (ys.map TL.un))] = _
    simp only[ou,hst,h1,h2]
    rw[if_pos (by rw[h4,hc.1.2,hc.2]; rfl),h3]
    rfl
   ·refine did (c:=True) _ _ h ?_ trivial
    show ou P .neq t [.c (.g (xs.map TL.un)),.c (.g (ys.map TL.un))] = _
    simp only[ou,hst,h1,h2]
    rw[if_pos (by rw[h4,hc.1.2,hc.2]; rfl),h3]
    rfl
 ·cases h
theorem Mf {op:UnOp} {x:TSl} (h:tUn op x k = some r):Did (FQ op [x.un]) k r:=by
 unfold tUn at h
 split at h
 ·exact did (c:=True) _ _ h rfl trivial
 ·exact did (c:=True) _ _ h rfl trivial
 ·rename_i a
  obtain⟨a,rfl⟩:∃ m:Int,m = a:=⟨a,rfl⟩
  obtain⟨c,hc,h⟩:=bind_some h
  obtain⟨rfl,hi⟩:=qI hc
  exact did (c:=inK .i64 (-a)) _ _ h rfl hi
 ·cases h
theorem CA {i:Nat} {x:TSl} (h:uZ i x k = some r):Did (ld i [x.un]) k r:=by
 unfold uZ at h
 split at h
 ·rename_i l
  split at h
  ·rename_i c hc
   refine did (c:=True) _ _ h ?_ trivial
   simp only[TSl.un,ld,List.getElem?_map,hc]; rfl
  ·cases h
 ·cases h
end
end Go.Lad
