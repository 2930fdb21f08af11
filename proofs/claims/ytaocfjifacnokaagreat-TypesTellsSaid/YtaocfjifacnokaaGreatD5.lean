import Derived.Test.YtaocfjifacnokaaGreatD4
namespace Go.Lad
set_option linter.unusedVariables false
set_option linter.unusedSimpArgs false
open Go.RowKit
section
variable {ρ:Type} {P:Program} {H:List (Nat × Ty)} {fx cur:TSt} {k:KE ρ} {r:ρ}
theorem lh {d:Ty} {x:TSl} {k:(t:Ty) → List t.den → Option ρ} (h:mc fx cur d x k = some r):∃ t l,k t l = some r ∧ ik (dO fx cur x) = some (l.map (enc t)):=by
 unfold mc at h
 split at h
 ·rename_i t l
  exact⟨t,l,h,rfl⟩
 ·exact⟨_,_,h,rfl⟩
 ·exact⟨_,_,h,rfl⟩
 ·rename_i o
  split at h
  ·rename_i e t l ho
   refine⟨_,_,h,?_⟩
   show ik (.c (.v (.own o)),[(un2 fx cur).hp o]) = _
   rw[dI ho]; rfl
  ·cases h
 ·rename_i o a b z
  split at h
  ·rename_i e t l ho
   obtain⟨hz,h⟩:=a7 h
   rw[eB,decide_eq_true_eq] at hz
   obtain⟨m,hm,h⟩:=bind_some h
   obtain⟨c1,c2,c3,c4,c5⟩:=oA hm
   refine⟨_,_,h,?_⟩
   show ik (.c (.v (.sv o a.toNat b.toNat z)),[(un2 fx cur).hp o]) = _
   rw[dI ho]
   show (if z = t.cells ∧ b.toNat ≤ (l.map (enc t)).length then some (((l.map (enc t)).take b.toNat).drop a.toNat) else none) = _
   rw[if_pos ⟨hz,by simpa using c5⟩,← c1,List.map_drop,List.map_take]
  ·cases h
 ·cases h
theorem yO {a b:Ty} (e:Ty.sl a = Ty.sl b):a = b:=by injection e
theorem lj {α:Type} {a b:Ty} {x:List a.den} {k:List b.den → Option α} {r:α} (h:jF (.sl a) (.sl b) x k = some r):∃ e:a = b,k (e ▸ x) = some r:=by
 obtain⟨e,h⟩:=fL h
 have e2:=yO e
 subst e2
 exact⟨rfl,h⟩
theorem jV (t:Ty) (l:List t.den):∀ x ∈ l.map (enc t),x.length = t.cells:=fun x hx=>by
 obtain⟨y,_,rfl⟩:=List.mem_map.1 hx
 exact kk t y
theorem AD:∀ l:List Int,bytesOf (l.map (enc (.int .u8))) = some (Al l)
 | []=>rfl
 | n :: l=>by
  show (match yo (enc (.int .u8) n),bytesOf (l.map (enc (.int .u8))) with | some b,some m=>some (b :: m) | _,_=>none) = _
  rw[AD l]; rfl
theorem K7 (s:Bs):((mkS s).data.toList.map fun b=>[PV.int .u8 (b.toNat:Int)]) = (Co s).map (enc (.int .u8)):=by
 rw[mB]
 induction s with
 | nil=>rfl
 | cons b s ih=>exact congrArg (List.cons [PV.int .u8 (b.toNat:Int)]) ih
theorem Jc {src dst:TypeId} {x:TSl} (h:GO P fx cur src dst x k = some r):Did (orE (il P src dst [x.un]) (kj P src dst [dO fx cur x])) k r:=by
 unfold GO at h
 split at h
 ·rename_i ks k' hs hd
  split at h
  ·rename_i kd n
   cases e1:IntKind.same k' .i64 with
   | some g1 =>
    cases e2:IntKind.same kd .u64 with
    | none =>
     rw[e1,e2] at h
     have h4:kd ≠ .u64:=fun e=>by unfold IntKind.same at e2; rw[dif_pos e] at e2; cases e2
     refine did (c:=True) _ _ h ?_ trivial
     show orE (il P src dst [.c (.v (.p (.int kd n)))]) _ = _
     simp only[il,hs,hd]
     rw[if_pos ⟨g1.down,h4⟩]; rfl
    | some g2 =>
     rw[e1,e2] at h
     refine did (c:=True) _ _ h ?_ trivial
     show orE (il P src dst [.c (.v (.p (.int kd n)))]) _ = _
     simp only[il,hs,hd]
     rw[if_neg (fun hh=>hh.2 g2.down)]; rfl
   | none =>
    have h4:k' ≠ .i64:=fun e=>by unfold IntKind.same at e1; rw[dif_pos e] at e1; cases e1
    have h:k (tV (.int k') (k'.wrap n)) [] = some r:=by
     rw[e1] at h; exact h
    refine did (c:=True) _ _ h ?_ trivial
    show orE (il P src dst [.c (.v (.p (.int kd n)))]) _ = _
    simp only[il,hs,hd]
    rw[if_neg (fun hh=>h4 hh.1)]; rfl
  ·cases h
 ·rename_i hs hd
  split at h
  ·refine did (c:=True) _ _ h ?_ trivial
   rename_i s
   show orE (il P src dst [.c (.v (.p (.str (mkS s))))]) _ = _
   simp only[il,hs,hd]; rfl
  ·cases h
 ·rename_i es hs hd
  split at h
  ·rename_i e he
   split at h
   ·rename_i hu
    obtain⟨t,l,h,hl⟩:=lh h
    obtain⟨rfl,h⟩:=lj h
    obtain⟨u,hu2,h⟩:=bind_some h
    have hn:=lf hu2
    refine did (c:=(Al l).length ≤ 9223372036854775807) _ _ h ?_ hn
    have hb:kj P src dst [dO fx cur x] = some ⟨(Al l).length ≤ 9223372036854775807,.p (.str ⟨(Al l).toArray⟩),[]⟩:=by
     unfold kj BU
     simp only[hs,hd]
     simp only[oq,he,hd,hl,hu]
     rw[AD l]
    have hc:il P src dst [x.un] = none:=by
     unfold il
     split
     ·rw[hs]
     ·rw[hs]
     ·rfl
    rw[hc,hb]; rfl
   ·cases h
  ·cases h
 ·rename_i el hs hd
  split at h
  ·rename_i hu
   split at h
   ·rename_i s
    refine did (c:=True) _ _ h ?_ trivial
    show orE (il P src dst [.c (.v (.p (.str (mkS s))))]) (kj P src dst [dO fx cur (.c (.v (.v .str s)))]) = _
    have hc:il P src dst [.c (.v (.p (.str (mkS s))))] = none:=by simp only[il,hs,hd]
    have hb:kj P src dst [dO fx cur (.c (.v (.v .str s)))] = some ⟨True,.p (.sl ((Co s).map (enc (.int .u8)))),[]⟩:=by
     unfold kj BU
     simp only[hs,hd,hu]
     have e:=K7 s
     rw[← e]; rfl
    rw[hc,hb]; rfl
   ·cases h
  ·cases h
 ·cases h
theorem DF:∀ (l:List (Nat × Nat × TC)) (cs out:List TL),Am cs l = some out → tY (cs.map TL.un) (l.map fun x=>(x.1,x.2.1,x.2.2.un)) = some (out.map TL.un)
 | [],cs,out,h=>by
  simp only[Am,Option.some.injEq] at h
  subst h; rfl
 | (off,n,c) :: l,cs,out,h=>by
  unfold Am at h
  obtain⟨hc,h⟩:=a7 h
  rw[Bool.and_eq_true,eB,lX,decide_eq_true_eq,decide_eq_true_eq] at hc
  have ih:=DF l _ _ h
  rw[List.map_cons]
  unfold tY
  dsimp only
  rw[jq,List.length_map,List.length_map,if_pos hc]
  simpa [List.map_append,List.map_take,List.map_drop] using ih
theorem AE {pl:List (Nat × Nat)}:∀ (is:List Nat) (args:List TSl) (l:List (Nat × Nat × TC)),u0 pl is args = some l → kS (fun i=>pl[i]?) is (args.map TSl.un) = some (l.map fun x=>(x.1,x.2.1,x.2.2.un))
 | [],[],l,h=>by
  simp only[u0,Option.some.injEq] at h
  subst h; rfl
 | i :: is,.c c :: args,l,h=>by
  unfold u0 at h
  split at h
  ·rename_i o n l' h1 h2
   simp only[Option.some.injEq] at h
   subst h
   have ih:=AE is args l' h2
   show (match pl[i]?,kS (fun i=>pl[i]?) is (args.map TSl.un) with | some (o,n),some l=>some ((o,n,c.un) :: l) | _,_=>none) = _
   rw[h1,ih]; rfl
  ·cases h
 | [],_ :: _,l,h=>by cases h
 | _ :: _,[],l,h=>by cases h
 | i :: is,.dead :: args,l,h=>by cases h
 | i :: is,.t _ :: args,l,h=>by cases h
theorem Hc {t:TypeId} {is:List Nat} {args:List TSl} (h:Cp P t is args k = some r):Did (pa P t is (args.map TSl.un)) k r:=by
 unfold Cp at h
 split at h
 ·rename_i pl z hp hz
  split at h
  ·rename_i l hl
   split at h
   ·rename_i cs hc
    refine did (c:=True) _ _ h ?_ trivial
    simp only[pa,hp,Az hz,AE _ _ _ hl,DF _ _ _ hc]
    rfl
   ·cases h
  ·cases h
 ·cases h
theorem DG {te:Ty}:∀ (args:List TSl) (k:List te.den → Option ρ),Dv te args k = some r → ∃ l,k l = some r ∧ rowsOf te.cells (args.map (dO fx cur)) = some (l.map (enc te))
 | [],k,h=>⟨[],h,rfl⟩
 | .c c :: args,k,h=>by
  unfold Dv at h
  obtain⟨x,h,hp⟩:=fT h
  obtain⟨l,h,ih⟩:=DG args _ h
  refine⟨x :: l,h,?_⟩
  show (match dG c.un.leaves,rowsOf te.cells (args.map (dO fx cur)) with | some ps,some l=>if ps.length = te.cells then some (ps :: l) else none | _,_=>none) = _
  rw[jq,hp,tF,ih]
  dsimp only
  rw[if_pos (kk te x)]; rfl
 | .dead :: _,k,h=>by cases h
 | .t _ :: _,k,h=>by cases h
theorem lI {t:Ty} {l:TL} {k:t.den → Option ρ} (hlf:nB t = true) (h:GP t l k = some r):∃ x,k x = some r ∧ ∃ p,enc t x = [p] ∧ BX l.un = some p:=by
 unfold GP at h
 split at h
 ·rename_i t' x
  obtain⟨y,h,he⟩:=jU h
  obtain⟨p,hp,hu⟩:=oI hlf y
  refine⟨_,h,p,hp,?_⟩
  show BX (match enc t' x with | [p]=>.p p | _=>.dead) = some p
  rw[← he,hp]; rfl
 ·obtain⟨y,h,he⟩:=rT h
  exact⟨_,h,_,he,rfl⟩
 ·cases h
theorem gW {x:aJ} {r:List aJ} {p:PV} {l:List PV} (h:BX x = some p) (hl:gL r = some l):gL (x :: r) = some (p :: l):=by
 unfold gL; rw[h,hl]
theorem vo:∀ {xs ys:List aJ} {ps qs:List PV},gL xs = some ps → gL ys = some qs → gL (xs ++ ys) = some (ps ++ qs)
 | [],ys,ps,qs,h,h'=>by simp only[gL,Option.some.injEq] at h; subst h; exact h'
 | x :: xs,ys,ps,qs,h,h'=>by
  unfold gL at h
  split at h
  ·rename_i p l hp hl
   simp only[Option.some.injEq] at h
   subst h
   exact gW hp (vo hl h')
  ·cases h
theorem qJ:∀ (t:Ty) (ls:List TL) (k:t.den → List TL → Option ρ),Ao t ls k = some r → ∃ x rest,k x rest = some r ∧ ∃ pre,ls = pre ++ rest ∧ gL (pre.map TL.un) = some (enc t x)
 | .pair a b,ls,k,h=>by
  unfold Ao at h
  obtain⟨x,r1,h1,p1,rfl,e1⟩:=qJ a ls _ h
  obtain⟨y,r2,h2,p2,rfl,e2⟩:=qJ b r1 _ h1
  refine⟨(x,y),r2,h2,p1 ++ p2,by rw[List.append_assoc],?_⟩
  rw[List.map_append]
  exact vo e1 e2
 | .any,[],k,h=>by cases h
 | .int kd,[],k,h=>by cases h
 | .bool,[],k,h=>by cases h
 | .str,[],k,h=>by cases h
 | .sl e,[],k,h=>by cases h
 | .map kd e,[],k,h=>by cases h
 | .map kd e,l :: ls,k,h=>by obtain⟨x,h2,p,e',hp⟩:=lI (t := .map kd e) rfl h; exact⟨x,ls,h2,[l],rfl,by rw[e']; exact gW hp rfl⟩
 | .slu i,[],k,h=>by cases h
 | .slu i,l :: ls,k,h=>by obtain⟨x,h2,p,e',hp⟩:=lI (t := .slu i) rfl h; exact⟨x,ls,h2,[l],rfl,by rw[e']; exact gW hp rfl⟩
 | .any,l :: ls,k,h=>by obtain⟨x,h2,p,e,hp⟩:=lI (t := .any) rfl h; exact⟨x,ls,h2,[l],rfl,by rw[e]; exact gW hp rfl⟩
 | .int kd,l :: ls,k,h=>by obtain⟨x,h2,p,e,hp⟩:=lI (t := .int kd) rfl h; exact⟨x,ls,h2,[l],rfl,by rw[e]; exact gW hp rfl⟩
 | .bool,l :: ls,k,h=>by obtain⟨x,h2,p,e,hp⟩:=lI (t := .bool) rfl h; exact⟨x,ls,h2,[l],rfl,by rw[e]; exact gW hp rfl⟩
 | .str,l :: ls,k,h=>by obtain⟨x,h2,p,e,hp⟩:=lI (t := .str) rfl h; exact⟨x,ls,h2,[l],rfl,by rw[e]; exact gW hp rfl⟩
 | .sl e,l :: ls,k,h=>by obtain⟨x,h2,p,e',hp⟩:=lI (t := .sl e) rfl h; exact⟨x,ls,h2,[l],rfl,by rw[e']; exact gW hp rfl⟩
theorem AF {te:Ty}:∀ (args:List TSl) (k:List te.den → Option ρ),Dw te args k = some r → ∃ l,k l = some r ∧ na te.cells (args.map TSl.un) = some (l.map (enc te))
 | [],k,h=>⟨[],h,rfl⟩
 | .c c :: args,k,h=>by
  unfold Dw pV at h
  obtain⟨x,rest,h1,pre,hp,e⟩:=qJ te _ _ h
  split at h1
  ·rw[List.append_nil] at hp
   obtain⟨l,h2,ih⟩:=AF args _ h1
   refine⟨x :: l,h2,?_⟩
   show (match gL c.un.leaves,na te.cells (args.map TSl.un) with | some ps,some l=>if ps.length = te.cells then some (ps :: l) else none | _,_=>none) = _
   rw[jq,hp,e,ih]
   dsimp only
   rw[if_pos (kk te x)]; rfl
  ·cases h1
 | .dead :: _,k,h=>by cases h
 | .t _ :: _,k,h=>by cases h
theorem qK:∀ (i:Nat) (is:List Nat),ph i is = true → is = List.range' i is.length
 | _,[],_=>rfl
 | i,x :: is,h=>by
  unfold ph at h
  rw[Bool.and_eq_true,eB,decide_eq_true_eq] at h
  obtain⟨rfl,h⟩:=h
  have:=qK _ is h
  rw[List.length_cons,List.range'_succ,← this]
theorem wM {t:TypeId} {len:Nat} {is:List Nat} {d:Option Nat} {args:List TSl} (h:oC P H fx cur t len is d args k = some r):Did (dB P t len is d (bN (un2 fx cur).hp d) (args.map (dO fx cur))) k r:=by
 unfold oC at h
 split at h
 ·rename_i e z d te he hh
  obtain⟨hc,h⟩:=a7 h
  simp only[Bool.and_eq_true,eB,lX,decide_eq_true_eq] at hc
  obtain⟨⟨⟨⟨⟨h1,h2⟩,h3⟩,h4⟩,h5⟩,h6⟩:=hc
  obtain⟨l,h,hl⟩:=DG (fx:=fx) (cur:=cur) args _ h
  refine did (c:=True) _ _ h ?_ trivial
  have hr:is = List.range len:=by rw[qK 0 is h1,h2,List.range_eq_range']
  simp only[dB,he]
  rw[if_pos ⟨hr,jf h3,h4,h5⟩,h6,hl]; rfl
 ·cases h
theorem DH:∀ {args:List TSl} {cs:List TL},GQ args = some cs → nc (args.map TSl.un) = some (cs.map TL.un)
 | [],cs,h=>by
  simp only[GQ,Option.some.injEq] at h
  subst h; rfl
 | x :: args,cs,h=>by
  unfold GQ at h
  split at h
  ·rename_i heq; cases heq
  ·rename_i y r heq
   injection heq with h1 h2
   subst h1 h2
   split at h
   ·rename_i l hl
    simp only[Option.some.injEq] at h
    subst h
    show (match nc (args.map TSl.un) with | some l=>some (y.un :: l) | none=>none) = _
    rw[DH hl]; rfl
   ·cases h
  ·cases h
theorem AG {t:TypeId} {len:Nat} {is:List Nat} {d:Option Nat} {args:List TSl} (h:rU P fx cur t len is d args k = some r):Did (eM P t len is d (bN (un2 fx cur).hp d) (args.map TSl.un)) k r:=by
 unfold rU at h
 split at h
 ·rename_i e z d cs he hl
  obtain⟨hc,h⟩:=a7 h
  simp only[Bool.and_eq_true,eB,lX,decide_eq_true_eq] at hc
  obtain⟨⟨⟨⟨h1,h2⟩,h3⟩,h4⟩,h5⟩:=hc
  refine did (c:=True) _ _ h ?_ trivial
  have hr:is = List.range len:=by rw[qK 0 is h1,h2,List.range_eq_range']
  simp only[eM,he]
  rw[if_pos ⟨hr,jf h3,h4,h5⟩,DH hl]; rfl
 ·cases h
theorem CB {t:TypeId} {len:Nat} {is:List Nat} {d:Option Nat} {args:List TSl} (h:u5 P H fx cur t len is d args k = some r):(dB P t len is d (bN (un2 fx cur).hp d) (args.map (dO fx cur)) = none ∧ Did (eM P t len is d (bN (un2 fx cur).hp d) (args.map TSl.un)) k r) ∨ Did (dB P t len is d (bN (un2 fx cur).hp d) (args.map (dO fx cur))) k r:=by
 unfold u5 at h
 cases ho:args.any ownRow with
 | false=>rw[ho,cond_false] at h; exact .inr (wM h)
 | true =>
  rw[ho,cond_true] at h
  refine .inl ⟨?_,AG h⟩
  unfold dB
  split
  ·rename_i e z d he
   split
   ·have:∀ {args:List TSl},args.any ownRow = true → rowsOf z (args.map (dO fx cur)) = none:=by
     intro args
     induction args with
     | nil=>intro h; cases h
     | cons x args ih =>
      intro h
      rw[List.any_cons,Bool.or_eq_true] at h
      rw[List.map_cons]
      rcases h with h | h
      ·unfold ownRow at h
       split at h
       ·rename_i y
        cases y <;> first | (cases h; done) | skip
        simp [rowsOf,dO,dG,TSl.un,TC.un,TL.un,Cmp.leaves]
       ·cases h
      ·have:=ih h
       unfold rowsOf
       split
       ·rename_i heq; cases heq
       ·rename_i heq
        injection heq with h1 h2
        subst h2
        rw[this]
        split <;> simp_all
       ·rfl
    rw[this ho]
   ·rfl
  ·rfl
theorem EZ {tl:Bool} {t:TypeId} {len:Nat} {is:List Nat} {args:List TSl} (h:yI P H tl t len is args k = some r):Did (ly P tl t len is (args.map TSl.un)) k r:=by
 unfold yI at h
 split at h
 ·rename_i e z te he hh
  obtain⟨hc,h⟩:=a7 h
  simp only[Bool.and_eq_true,eB,lX,decide_eq_true_eq] at hc
  obtain⟨⟨⟨⟨h1,h2⟩,h4⟩,h5⟩,h6⟩:=hc
  obtain⟨l,h,hl⟩:=AF args _ h
  refine did (c:=True) _ _ h ?_ trivial
  have hr:is = List.range len:=by rw[qK 0 is h1,h2,List.range_eq_range']
  simp only[ly,he]
  rw[if_pos ⟨hr,h4,h5⟩,h6,hl]
  cases tl <;> rfl
 ·cases h
theorem K8 {t:TypeId} {x:TSl} (h:KK P fx cur t x k = some r):Did (jz P t [dO fx cur x]) k r:=by
 unfold KK at h
 split at h
 ·rename_i kt et hu
  split at h
  ·rename_i o
   split at h
   ·rename_i kd agg te m ho
    obtain⟨u,hn,h⟩:=bind_some h
    have hn:=lf hn
    refine did (c:=(lD id (enc te) m).length ≤ 9223372036854775807) _ _ h ?_ (by rw[mC]; exact hn)
    show jz P t [(.c (.v (.mp o)),[(un2 fx cur).hp o])] = _
    rw[dI ho]
    simp only[jz,cY.un,hu,mC]; rfl
   ·rename_i kd agg te m ho
    obtain⟨u,hn,h⟩:=bind_some h
    have hn:=lf hn
    refine did (c:=(lD mkQ (enc te) m).length ≤ 9223372036854775807) _ _ h ?_ (by rw[mC]; exact hn)
    show jz P t [(.c (.v (.mp o)),[(un2 fx cur).hp o])] = _
    rw[dI ho]
    simp only[jz,cY.un,hu,mC]; rfl
   ·rename_i agg te m ho
    obtain⟨u,hn,h⟩:=bind_some h
    have hn:=lf hn
    refine did (c:=(lD mkS (enc te) m).length ≤ 9223372036854775807) _ _ h ?_ (by rw[mC]; exact hn)
    show jz P t [(.c (.v (.mp o)),[(un2 fx cur).hp o])] = _
    rw[dI ho]
    simp only[jz,cY.un,hu,mC]; rfl
   ·cases h
  ·cases h
 ·rename_i hu
  split at h
  ·rename_i s
   refine did (c:=True) _ _ h ?_ trivial
   show jz P t [(.c (.v (.p (.str (mkS s)))),_)] = _
   simp only[jz,hu,lB]; rfl
  ·cases h
 ·rename_i e hu
  obtain⟨t',l,h,hl⟩:=lh h
  refine did (c:=True) _ _ h ?_ trivial
  have:∀ a:Arg,ik a = some (l.map (enc t')) → jz P t [a] = some ⟨True,.p (.int .i64 l.length),[]⟩:=by
   intro a ha
   unfold jz
   split
   ·rename_i heq; simp only[List.cons.injEq,and_true] at heq; subst heq; simp [ik] at ha
   ·rename_i heq; simp only[List.cons.injEq,and_true] at heq; subst heq; simp [ik] at ha
   ·rename_i heq; simp only[List.cons.injEq,and_true] at heq; subst heq; simp [ik] at ha
   ·rename_i heq; simp only[List.cons.injEq,and_true] at heq; subst heq; simp [ik] at ha
   ·rename_i a' _ _ _ heq
    simp only[List.cons.injEq,and_true] at heq
    subst heq
    rw[hu]; simp only[ha,List.length_map]; rfl
   ·rename_i hno; exact absurd rfl (hno a)
  exact this _ hl
 ·cases h
theorem E0 {t:TypeId} {d:Option Nat} {x y:TSl} (h:tz P H fx cur t d x y k = some r):Did (ga P t d (bN (un2 fx cur).hp d) [dO fx cur x,dO fx cur y]) k r:=by
 unfold tz at h
 split at h
 ·rename_i e z d he
  obtain⟨hf0,h0⟩:=a7 h
  clear h
  have hf:=jf hf0
  clear hf0
  have h:=h0
  clear h0
  split at h
  ·rename_i o
   split at h
   ·rename_i e' t' l ho
    obtain⟨hc,h1⟩:=a7 h
    rw[Bool.and_eq_true,eB,eB,decide_eq_true_eq,decide_eq_true_eq] at hc
    obtain⟨he2,hz⟩:=hc
    subst he2
    obtain⟨t2,m,h2,hm⟩:=lh h1
    obtain⟨et,h3⟩:=lj h2
    subst et
    obtain⟨s,hs,h4⟩:=bind_some h3
    obtain⟨hs1,hl⟩:=qE hs
    subst hs1
    have h:=h4
    refine did (c:=(l.map (enc t2)).length + (m.map (enc t2)).length ≤ 2147483647 ∧ ∀ x ∈ m.map (enc t2),x.length = t2.cells) _ _ h ?_ ⟨by simpa using hl,jV _ _⟩
    show ga P t (some d) _ [(.c (.v (.own o)),[(un2 fx cur).hp o]),dO fx cur y] = _
    rw[dI ho]
    simp only[ga,cY.un,he,hm]
    rw[if_pos ⟨trivial,hz.symm,hf⟩]
    simp only[dN,List.map_cons,List.map_nil,cY.un,TSl.un,TC.un,TL.un,List.map_append]
   ·cases h
  ·split at h
   ·rename_i te hh
    obtain⟨hz,h⟩:=a7 h
    rw[eB,decide_eq_true_eq] at hz
    obtain⟨t2,m,h2,hm⟩:=lh h
    obtain⟨et,h3⟩:=lj h2
    subst et
    obtain⟨s,hs,h4⟩:=bind_some h3
    obtain⟨hs1,hl⟩:=qE hs
    subst hs1
    have h:=h4
    refine did (c:=(m.map (enc t2)).length ≤ 2147483647 ∧ ∀ x ∈ m.map (enc t2),x.length = z) _ _ h ?_ ⟨by simpa using hl,by rw[hz]; exact jV _ _⟩
    show ga P t (some d) _ [(.c (.v .nil),[]),dO fx cur y] = _
    simp only[ga,he,hm]
    rw[if_pos hf]
    simp only[dN,List.map_cons,List.map_nil,cY.un,TSl.un,TC.un,TL.un,List.nil_append,hz]
   ·cases h
  ·cases h
 ·cases h
theorem tG {hl hh:Bool} {n:Nat}:∀ {as:List TSl} {q:Int × Int},xo hl hh n as = some q → rI hl hh n (as.map (dO fx cur)) = some q:=by
 intro as q h
 unfold xo at h
 split at h <;> first | (cases h; done) | (simp only[Option.some.injEq] at h; subst h; rfl)
theorem Hd {t:TypeId} {hl hh:Bool} {x:TSl} {as:List TSl} (h:yJ P fx cur t hl hh x as k = some r):Did (gX P t hl hh (dO fx cur x :: as.map (dO fx cur))) k r:=by
 unfold yJ at h
 split at h
 ·rename_i s
  obtain⟨s,rfl⟩:∃ m:Bs,m = s:=⟨s,rfl⟩
  split at h
  ·rename_i i j hu hb
   obtain⟨m,hm,h⟩:=bind_some h
   obtain⟨c1,c2,c3,c4,c5⟩:=oA hm
   refine did (c:=0 ≤ i ∧ i ≤ j ∧ j ≤ (mkS s).size) _ _ h ?_ ⟨c2,c3,by rw[lB]; exact c4⟩
   show gX P t hl hh ((.c (.v (.p (.str (mkS s)))),_) :: as.map (dO fx cur)) = _
   simp only[gX,hu]
   rw[lB,tG hb]
   simp only[dL,Ag,c1]; rfl
  ·cases h
 ·rename_i t' l
  obtain⟨l,rfl⟩:∃ m:List t'.den,m = l:=⟨l,rfl⟩
  split at h
  ·rename_i e z i j he hb
   obtain⟨hz,h⟩:=a7 h
   rw[eB,decide_eq_true_eq] at hz
   obtain⟨m,hm,h⟩:=bind_some h
   obtain⟨c1,c2,c3,c4,c5⟩:=oA hm
   refine did (c:=0 ≤ i ∧ i ≤ j ∧ j ≤ ((l.map (enc t')).length:Int) ∧ ∀ x ∈ l.map (enc t'),x.length = z) _ _ h ?_ ⟨c2,c3,by simpa using c4,by rw[hz]; exact jV _ _⟩
   show gX P t hl hh ((.c (.v (.p (.sl (l.map (enc t'))))),_) :: as.map (dO fx cur)) = _
   simp only[gX,he]
   rw[show rI hl hh (l.map (enc t')).length (as.map (dO fx cur)) = some (i,j) by rw[List.length_map]; exact tG hb]
   simp only[dL,← c1,TSl.un,TC.un,TL.un,enc,List.map_drop,List.map_take]; rfl
  ·cases h
 ·split at h
  ·rename_i q i j he hb
   obtain⟨u,hn,h⟩:=bind_some h
   have hn:=lf hn
   refine did (c:=i = 0 ∧ j = 0) _ _ h ?_ hn
   obtain⟨q1,q2⟩:=q
   show gX P t hl hh ((.c (.v .nil),_) :: as.map (dO fx cur)) = _
   simp only[gX,he]
   rw[tG hb]; rfl
  ·cases h
 ·rename_i o
  split at h
  ·rename_i e' t' l ho
   split at h
   ·rename_i e z i j he hb
    obtain⟨hz,h⟩:=a7 h
    rw[eB,decide_eq_true_eq] at hz
    obtain⟨m,hm,h⟩:=bind_some h
    obtain⟨c1,c2,c3,c4,c5⟩:=oA hm
    refine did (c:=0 ≤ i ∧ i ≤ j ∧ j ≤ ((l.map (enc t')).length:Int)) _ _ h ?_ ⟨c2,c3,by simpa using c4⟩
    show gX P t hl hh ((.c (.v (.own o)),[(un2 fx cur).hp o]) :: as.map (dO fx cur)) = _
    rw[dI ho]
    simp only[gX,cY.un,he]
    rw[show rI hl hh (l.map (enc t')).length (as.map (dO fx cur)) = some (i,j) by rw[List.length_map]; exact tG hb]
    simp only[hz,if_true,dL]; rfl
   ·cases h
  ·cases h
 ·cases h
theorem K9 {t:TypeId} {d:Option Nat} {x:TSl} (h:KL P fx cur t d x k = some r):Did (ux P t d (bN (un2 fx cur).hp d) [x.un]) k r:=by
 unfold KL at h
 split at h
 ·rename_i d n c hn
  obtain⟨hc,h⟩:=a7 h
  rw[Bool.and_eq_true,eB,decide_eq_true_eq] at hc
  refine did (c:=True) _ _ h ?_ trivial
  show ux P t (some d) _ [.c c.un] = _
  simp only[ux,hn,jq,List.length_map]
  rw[if_pos ⟨jf hc.1,hc.2⟩]; rfl
 ·cases h
theorem jg:∀ (t:Ty) (x:t.den),t.fK = true → ∀ p ∈ enc t x,p.flat = true
 | .any,x,_,p,hp=>by simp only[enc,List.mem_singleton] at hp; subst hp; rfl
 | .int _,x,_,p,hp=>by simp only[enc,List.mem_singleton] at hp; subst hp; rfl
 | .bool,x,_,p,hp=>by simp only[enc,List.mem_singleton] at hp; subst hp; rfl
 | .str,x,_,p,hp=>by simp only[enc,List.mem_singleton] at hp; subst hp; rfl
 | .sl _,x,h,_,_=>by cases h
 | .pair a b,x,h,p,hp=>by
  unfold Ty.fK at h
  rw[Bool.and_eq_true] at h
  unfold enc at hp
  rcases List.mem_append.1 hp with hp | hp
  ·exact jg a _ h.1 p hp
  ·exact jg b _ h.2 p hp
theorem pk {c:TC} {te:Ty} {y:te.den} (hp:c.leaves.map TL.un = (enc te y).map aJ.p):jA c.un = some (c.isAgg,enc te y):=by
 cases c with
 | v l =>
  simp only[TC.leaves,List.map_cons,List.map_nil] at hp
  cases he:enc te y with
  | nil=>rw[he] at hp; cases hp
  | cons p ps =>
   rw[he,List.map_cons] at hp
   injection hp with h1 h2
   have:ps = []:=by cases ps with | nil=>rfl | cons _ _=>cases h2
   subst this
   simp only[TC.un,h1]; rfl
 | g ls =>
  simp only[TC.leaves] at hp
  show ((dG (ls.map TL.un)).map fun ps=>(true,ps)) = _
  rw[hp,tF]; rfl
theorem qL {et:TypeId} {agg:Bool} {zl:List TL} {te:Ty} {z:te.den} (h:nv P et = some (agg,zl)) (hp:zl.map TL.un = (enc te z).map aJ.p) (hf:te.fK = true):pN P et = some (agg,enc te z):=by
 unfold nv at h
 unfold pN
 split at h
 ·rename_i i hi
  rw[hi]
  dsimp only
  split at h
  ·rename_i v hv
   rw[hv]
   dsimp only
   split at h
   ·rename_i c hc
    simp only[Option.some.injEq,Prod.mk.injEq] at h
    obtain⟨h1,rfl⟩:=h
    rw[← vn,hc]
    show (match jA c.un with | some (agg,ps)=>if ps.all PV.flat then some (agg,ps) else none | none=>none) = _
    rw[pk hp]
    dsimp only
    rw[if_pos (List.all_eq_true.2 (jg te z hf))]
    have:c.isAgg = agg:=by rw[← h1]; cases c <;> rfl
    rw[this]
   ·cases h
  ·cases h
 ·cases h
theorem xv:∀ (xs:List aJ) (ps:List PV),gL xs = some ps → dG (xs.map aJ.mb) = some ps
 | [],ps,h=>h
 | x :: xs,ps,h=>by
  unfold gL at h
  split at h
  ·rename_i p qs hp hq
   injection h with h
   subst h
   have e:x.mb = .p p:=by
    unfold BX at hp
    split at hp
    ·injection hp with hp; subst hp; rfl
    ·injection hp with hp; subst hp; rfl
    ·cases hp
   rw[List.map_cons,e]
   unfold dG
   rw[xv xs qs hq]; rfl
  ·cases h
theorem oJ {t:Ty} {ls:List TL} {k:t.den → Option ρ} (h:pV t ls k = some r):∃ x,k x = some r ∧ gL (ls.map TL.un) = some (enc t x):=by
 unfold pV at h
 obtain⟨x,rest,h2,pre,rfl,e⟩:=qJ t ls _ h
 split at h2
 ·exact⟨x,h2,by rw[List.append_nil]; exact e⟩
 ·cases h2
theorem CC {c:TC} {te:Ty} {y:te.den} (hp:gL (c.leaves.map TL.un) = some (enc te y)):jA c.un.mb = some (c.isAgg,enc te y):=by
 have h:=xv _ _ hp
 cases c with
 | v l =>
  simp only[TC.leaves,List.map_cons,List.map_nil] at h
  show jA (.v l.un.mb) = _
  cases hl:l.un.mb with
  | p p =>
   rw[hl] at h
   have h:some [p] = some (enc te y):=h
   injection h with h
   rw[← h]; rfl
  | _=>rw[hl] at h; cases h
 | g ls =>
  simp only[TC.leaves] at h
  show ((dG ((ls.map TL.un).map aJ.mb)).map fun ps=>(true,ps)) = _
  rw[h]; rfl
theorem vq {et:TypeId} {agg:Bool} {zl:List TL} {te:Ty} {z:te.den} (h:nv P et = some (agg,zl)) (hp:gL (zl.map TL.un) = some (enc te z)):mW P et = some (agg,enc te z):=by
 unfold nv at h
 unfold mW
 split at h
 ·rename_i i hi
  rw[hi]
  dsimp only
  split at h
  ·rename_i v hv
   rw[hv]
   dsimp only
   split at h
   ·rename_i c hc
    simp only[Option.some.injEq,Prod.mk.injEq] at h
    obtain⟨h1,rfl⟩:=h
    rw[← vn,hc]
    show jA c.un.mb = _
    rw[CC hp]
    have:c.isAgg = agg:=by rw[← h1]; cases c <;> rfl
    rw[this]
   ·cases h
  ·cases h
 ·cases h
theorem CD {t:TypeId} {d:Option Nat} (h:u6 P H fx cur t d k = some r):Did (hZ P t d (bN (un2 fx cur).hp d) []) k r:=by
 unfold u6 at h
 split at h
 ·rename_i kt et d te hu hh
  split at h
  ·rename_i kd agg z hk hz
   obtain⟨hc,h⟩:=a7 h
   rw[Bool.and_eq_true] at hc
   obtain⟨x,h,hp⟩:=fT h
   refine did (c:=True) _ _ h ?_ trivial
   simp only[hZ,hu,hk,qL hz hp hc.2]
   rw[if_pos (jf hc.1)]; rfl
  ·rename_i agg z hk hz
   obtain⟨hc,h⟩:=a7 h
   obtain⟨x,h,hp⟩:=oJ h
   refine did (c:=True) _ _ h ?_ trivial
   simp only[hZ,hu,hk,vq hz hp]
   rw[if_pos (jf hc)]; rfl
  ·rename_i fs agg z hk hz
   split at h
   ·rename_i kd hq
    obtain⟨hc,h⟩:=a7 h
    rw[Bool.and_eq_true] at hc
    obtain⟨x,h,hp⟩:=fT h
    refine did (c:=True) _ _ h ?_ trivial
    simp only[hZ,hu,hk,qL hz hp hc.2,hq]
    rw[if_pos (jf hc.1)]; rfl
   ·cases h
  ·cases h
 ·cases h
theorem DI (agg:Bool) (te:Ty) (y:te.den):(KM agg (dH te y)).un = tZ agg (enc te y):=by
 have:=gO te y
 cases agg with
 | true=>show Cmp.g ((dH te y).map TL.un) = .g _; rw[this]
 | false =>
  show Cmp.v (TL.un (match dH te y with | x :: _=>x | []=>.dead)) = .v (.p ((enc te y).headD (.bool false)))
  cases hl:dH te y with
  | nil =>
   have h1:=Cy te y
   rw[hl] at h1
   have h2:∀ t:Ty,0 < t.cells:=fun t=>by induction t <;> simp [Ty.cells] <;> omega
   have:=h2 te
   simp at h1; omega
  | cons l ls =>
   rw[hl,List.map_cons] at this
   cases he:enc te y with
   | nil=>rw[he] at this; cases this
   | cons p ps =>
    rw[he,List.map_cons] at this
    injection this with h1 h2
    dsimp only
    rw[h1]; rfl
theorem qM {ok agg:Bool} {te:Ty} {q:Option te.den} {z:te.den} (h:rV ok agg te q z k = some r):Did (val (jB ok agg (q.map (enc te)) (enc te z))) k r:=by
 have hg:(q.map (enc te)).getD (enc te z) = enc te (q.getD z):=by cases q <;> rfl
 have hs:(q.map (enc te)).isSome = q.isSome:=by cases q <;> rfl
 unfold rV at h
 cases ok with
 | true =>
  refine did (c:=True) _ _ h ?_ trivial
  simp only[jB,if_true,val,hg,hs,TSl.un,List.map_cons,List.map_nil,DI]; rfl
 | false =>
  refine did (c:=True) _ _ h ?_ trivial
  simp only[jB,Bool.false_eq_true,if_false,val,hg,hs,TSl.un,DI]; rfl
theorem iP {t:TypeId} {ok:Bool} {m x:TSl} (h:yK P fx cur t ok m x k = some r):Did (gd P t ok [dO fx cur m,dO fx cur x]) k r:=by
 unfold yK at h
 split at h
 ·rename_i kt et o hu
  split at h
  ·rename_i kd agg2 z hk hz
   split at h
   ·rename_i kd2 agg te m kd3 n ho
    obtain⟨n,rfl⟩:∃ q:Int,q = n:=⟨n,rfl⟩
    split at h
    ·split at h
     ·rename_i kd h1 h2 _ _
      obtain⟨ha,h7⟩:=a7 h
      obtain⟨z0,h8,hp⟩:=fT h7
      rw[Bool.and_eq_true,beq_iff_eq] at ha
      obtain⟨ha,hf⟩:=ha
      have hq:=qM h8
      have e1:=h1.down
      have e2:=h2.down
      subst e1 e2 ha
      rw[← L0] at hq
      show Did (gd P t ok [(.c (.v (.mp o)),[(un2 fx cur).hp o]),(.c (.v (.p (.int _ n))),_)]) k r
      rw[dI ho]
      simp only[gd,cY.un,hu,hk,qL hz hp hf]
      rw[if_pos (by simp)]
      exact hq
     ·cases h
    ·cases h
   ·rename_i agg te m s ho
    obtain⟨s,rfl⟩:∃ q:Bs,q = s:=⟨s,rfl⟩
    split at h
    ·obtain⟨ha,h⟩:=a7 h
     obtain⟨z0,h,hp⟩:=oJ h
     rw[beq_iff_eq] at ha
     have hq:=qM h
     subst ha
     rw[← LZ] at hq
     show Did (gd P t ok [(.c (.v (.mp o)),[(un2 fx cur).hp o]),(.c (.v (.p (.str (mkS s)))),_)]) k r
     rw[dI ho]
     simp only[gd,cY.un,hu,hk,vq hz hp]
     rw[if_pos (by simp)]
     exact hq
    ·cases h
   ·rename_i kd2 agg te m kd3 n s ho
    obtain⟨n,rfl⟩:∃ q:Int,q = n:=⟨n,rfl⟩
    obtain⟨s,rfl⟩:∃ q:Int,q = s:=⟨s,rfl⟩
    split at h
    ·rename_i kd hq0
     split at h
     ·rename_i h1 h2 _ _
      obtain⟨ha,h7⟩:=a7 h
      obtain⟨z0,h8,hp⟩:=fT h7
      rw[Bool.and_eq_true,beq_iff_eq] at ha
      obtain⟨ha,hf⟩:=ha
      have hq:=qM h8
      have e1:=h1.down
      have e2:=h2.down
      subst e1 e2 ha
      rw[← L1] at hq
      show Did (gd P t ok [(.c (.v (.mp o)),[(un2 fx cur).hp o]),(.c (.g [.p (.int _ n),.p (.int .i64 s)]),_)]) k r
      rw[dI ho]
      simp only[gd,cY.un,hu,hq0,qL hz hp hf]
      rw[if_pos (by simp)]
      exact hq
     ·cases h
    ·cases h
   ·cases h
  ·cases h
 ·cases h
theorem He {t:TypeId} {ok:Bool} {m x:TSl} (hm:m = .c (.v (.oth (.map none)))) (h:Cs P H t ok x k = some r):Did (gd P t ok [dO fx cur m,dO fx cur x]) k r:=by
 subst hm
 unfold Cs at h
 split at h
 ·rename_i kt et te hu hh
  split at h
  ·rename_i agg z hk hz
   split at h
   ·rename_i s
    obtain⟨s,rfl⟩:∃ q:Bs,q = s:=⟨s,rfl⟩
    obtain⟨z0,h,hp⟩:=oJ h
    have hq:=qM h
    show Did (gd P t ok [(.c (.v (.p (.oth (.map none)))),_),(.c (.v (.p (.str (mkS s)))),_)]) k r
    simp only[gd,hu,hk,vq hz hp]
    exact hq
   ·cases h
  ·cases h
 ·cases h
theorem qN {t:TypeId} {m x v:TSl} (h:nw P fx cur t m x v k = some r):Did (fb P t [dO fx cur m,dO fx cur x,dO fx cur v]) k r:=by
 unfold nw at h
 split at h
 ·rename_i kt et o c hu
  split at h
  ·rename_i kd hk
   split at h
   ·rename_i kd2 agg te m kd3 n ho
    obtain⟨n,rfl⟩:∃ q:Int,q = n:=⟨n,rfl⟩
    split at h
    ·split at h
     ·rename_i kd h1 h2 _ _
      obtain⟨ha,h⟩:=a7 h
      obtain⟨y,h,hp⟩:=fT h
      rw[Bool.and_eq_true,beq_iff_eq] at ha
      obtain⟨ha,hf⟩:=ha
      have e1:=h1.down
      have e2:=h2.down
      subst e1 e2 ha
      refine did (c := ∀ p ∈ enc te y,p.flat = true) _ _ h ?_ (jg te y hf)
      show fb P t [(.c (.v (.mp o)),[(un2 fx cur).hp o]),(.c (.v (.p (.int _ n))),_),(.c c.un,_)] = _
      rw[dI ho]
      simp only[fb,cY.un,hu,hk,pk hp]
      rw[if_pos (by simp),MK]; rfl
     ·cases h
    ·cases h
   ·rename_i agg te m s ho
    obtain⟨s,rfl⟩:∃ q:Bs,q = s:=⟨s,rfl⟩
    split at h
    ·obtain⟨ha,h⟩:=a7 h
     obtain⟨y,h,hp⟩:=fT h
     rw[beq_iff_eq] at ha
     subst ha
     refine did (c:=True) _ _ h ?_ trivial
     show fb P t [(.c (.v (.mp o)),[(un2 fx cur).hp o]),(.c (.v (.p (.str (mkS s)))),_),(.c c.un,_)] = _
     rw[dI ho]
     simp only[fb,cY.un,hu,hk,pk hp]
     rw[if_pos (by simp),MJ]; rfl
    ·cases h
   ·rename_i kd2 agg te m kd3 n s ho
    obtain⟨n,rfl⟩:∃ q:Int,q = n:=⟨n,rfl⟩
    obtain⟨s,rfl⟩:∃ q:Int,q = s:=⟨s,rfl⟩
    split at h
    ·rename_i kd hq0
     split at h
     ·rename_i h1 h2 _ _
      obtain⟨ha,h⟩:=a7 h
      obtain⟨y,h,hp⟩:=fT h
      rw[Bool.and_eq_true,beq_iff_eq] at ha
      obtain⟨ha,hf⟩:=ha
      have e1:=h1.down
      have e2:=h2.down
      subst e1 e2 ha
      refine did (c := ∀ p ∈ enc te y,p.flat = true) _ _ h ?_ (jg te y hf)
      show fb P t [(.c (.v (.mp o)),[(un2 fx cur).hp o]),(.c (.g [.p (.int _ n),.p (.int .i64 s)]),_),(.c c.un,_)] = _
      rw[dI ho]
      simp only[fb,cY.un,hu,hq0,pk hp]
      rw[if_pos (by simp),show (n,s) = mkQ (n,s) from rfl,ML]; rfl
     ·cases h
    ·cases h
   ·cases h
  ·cases h
 ·cases h
theorem yP:∀ (xs:List TSl) (l:List Nat),xt xs = some l → mZ (xs.map TSl.un) = some l
 | [],l,h=>by
  simp only[xt,Option.some.injEq] at h
  subst h; rfl
 | x :: xs,l,h=>by
  unfold xt at h
  split at h
  ·rename_i heq; cases heq
  ·rename_i o r heq
   injection heq with h1 h2
   subst h1 h2
   split at h
   ·rename_i l' hl
    simp only[Option.some.injEq] at h
    subst h
    have ih:=yP _ l' hl
    show (mZ (List.map TSl.un xs)).map (o :: ·) = _
    rw[ih]; rfl
   ·cases h
  ·cases h
theorem AH {f:FuncId} {first:Nat} {xs:List TSl} (h:rW f first (xt xs) k = some r):Did (jm (.func f) first (xs.map TSl.un)) k r:=by
 unfold rW at h
 split at h
 ·rename_i l hl
  split at h
  ·refine did (c:=True) _ _ h ?_ trivial
   unfold jm
   rw[yP _ _ hl]; rfl
  ·obtain⟨hc,h⟩:=a7 h
   rw[eB,decide_eq_true_eq] at hc
   refine did (c:=True) _ _ h ?_ trivial
   unfold jm
   rw[yP _ _ hl]
   dsimp only
   rw[if_pos hc]; rfl
 ·cases h
theorem Jd {m:Nat} {e t:TypeId} {x i:TSl} (hu:P.underlying t = some (.array m e)) (h:Ka P fx cur m e x i k = some r):Did (yp P t [dO fx cur x,dO fx cur i]) k r:=nomatch h
theorem Hf {t:TypeId} {m x:TSl} (h:Cr P t m x k = some r):Did (tv P t [m.un,x.un]) k r:=nomatch h
theorem Je {t:TypeId} {o:Nat} {x v:TSl} (h:Kb P fx cur t o x v k = some r):Did (yq P t [dO fx cur (.c (.v (.mp o))),dO fx cur x,dO fx cur v]) k r:=nomatch h
theorem Jf {t:TypeId} {x y:TSl} (h:GS P fx cur t x y k = some r):Did (mi P t [dO fx cur x,dO fx cur y]) k r:=by
 unfold GS at h
 split at h
 ·rename_i e z o he
  split at h
  ·rename_i e' t' l ho
   obtain⟨hc,h1⟩:=a7 h
   rw[Bool.and_eq_true,eB,eB,decide_eq_true_eq,decide_eq_true_eq] at hc
   obtain⟨he2,hz⟩:=hc
   subst he2
   obtain⟨t2,m,h2,hm⟩:=lh h1
   obtain⟨et,h3⟩:=lj h2
   subst et
   obtain⟨s,hs,h4⟩:=bind_some h3
   obtain⟨hs1,hl⟩:=qE hs
   subst hs1
   refine did (c:=(l.map (enc t2)).length + (m.map (enc t2)).length ≤ 2147483647 ∧ ∀ x ∈ m.map (enc t2),x.length = t2.cells) _ _ h4 ?_ ⟨by simpa using hl,jV _ _⟩
   show mi P t [(.c (.v (.own o)),[(un2 fx cur).hp o]),dO fx cur y] = _
   rw[dI ho]
   simp only[mi,cY.un,he,hm]
   rw[if_pos ⟨trivial,hz.symm⟩]
   simp only[dN,List.map_cons,List.map_nil,cY.un]
   rw[← List.map_append]; rfl
  ·cases h
 ·cases h
theorem E1 {α:Type} {l m r:List α} (h:appT? l m = some r):l ≠ [] ∧ m ≠ [] ∧ app? l m = some r:=by
 unfold appT? at h
 split at h
 ·exact⟨by simp,by simp,h⟩
 ·cases h
theorem Jg {t:TypeId} {d:Option Nat} {t':Ty} {l:List t'.den} {y:TSl} (h:xp P H fx cur t d (.c (.v (.tl t' l))) y k = some r):Did (kI P t d (bN (un2 fx cur).hp d) [dO fx cur (.c (.v (.tl t' l))),dO fx cur y]) k r:=by
 unfold xp at h
 dsimp only at h
 split at h
 ·rename_i e z d he
  obtain⟨hc,h⟩:=a7 h
  rw[Bool.and_eq_true,eB,decide_eq_true_eq] at hc
  obtain⟨hf,hz⟩:=hc
  obtain⟨t2,m,h2,hm⟩:=lh h
  obtain⟨et,h3⟩:=lj h2
  subst et
  obtain⟨s,hs,h4⟩:=bind_some h3
  obtain⟨a1,a2,a3⟩:=E1 hs
  obtain⟨hs1,hl⟩:=qE a3
  subst hs1
  refine did (c:=(l.map (enc t2)).length + (m.map (enc t2)).length ≤ 2147483647 ∧ l.map (enc t2) ≠ [] ∧ m.map (enc t2) ≠ [] ∧ (∀ x ∈ l.map (enc t2),x.length = z) ∧ ∀ x ∈ m.map (enc t2),x.length = z) _ _ h4 ?_ ⟨by simpa using hl,by simpa using a1,by simpa using a2,by rw[hz]; exact jV _ _,by rw[hz]; exact jV _ _⟩
  show kI P t (some d) _ [(.c (.v (.tl (l.map (enc t2)))),_),dO fx cur y] = _
  simp only[kI,he,hm]
  rw[if_pos (jf hf)]
  simp only[dN,List.map_cons,List.map_nil,cY.un,TSl.un,TC.un,TL.un,List.map_append,hz]
 ·cases h
theorem CE {t:TypeId} {d:Option Nat} {x y:TSl} (h:xp P H fx cur t d x y k = some r):(∃ t' l,x = .c (.v (.tl t' l))) ∨ tz P H fx cur t d x y k = some r:=by
 unfold xp at h
 split at h
 ·exact .inl ⟨_,_,rfl⟩
 ·exact .inr h
theorem Jh {b:BinOp} {t:TypeId} {x y:TSl} (h:Ke P fx cur b t x y k = some r):Kd b = true ∧ Did (BY P b t [dO fx cur x,dO fx cur y]) k r:=nomatch h
end
end Go.Lad
