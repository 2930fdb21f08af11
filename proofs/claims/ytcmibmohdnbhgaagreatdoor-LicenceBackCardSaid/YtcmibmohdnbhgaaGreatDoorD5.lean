import Derived.Test.YtcmibmohdnbhgaaGreatDoorD4
namespace Go.Lad
set_option linter.unusedVariables false
set_option linter.unusedSimpArgs false
open Go.RowKit
section
variable {ρ:Type} {P:Program} {H:List (Nat × Ty)} {fx cur:TSt} {k:KE ρ} {r:ρ}
theorem asList_ok {d:Ty} {x:TSl} {k:(t:Ty) → List t.den → Option ρ} (h:asListT fx cur d x k = some r):∃ t l,k t l = some r ∧ asList (argU fx cur x) = some (l.map (enc t)):=by
 unfold asListT at h
 split at h
 ·rename_i t l
  exact⟨t,l,h,rfl⟩
 ·exact⟨_,_,h,rfl⟩
 ·exact⟨_,_,h,rfl⟩
 ·rename_i o
  split at h
  ·rename_i e t l ho
   refine⟨_,_,h,?_⟩
   show asList (.c (.v (.own o)),[(un2 fx cur).hp o]) = _
   rw[hp_some ho]; rfl
  ·cases h
 ·rename_i o a b z
  split at h
  ·rename_i e t l ho
   obtain⟨hz,h⟩:=cond_some h
   rw[beqN,decide_eq_true_eq] at hz
   obtain⟨m,hm,h⟩:=bind_some h
   obtain⟨c1,c2,c3,c4,c5⟩:=cut_some hm
   refine⟨_,_,h,?_⟩
   show asList (.c (.v (.sv o a.toNat b.toNat z)),[(un2 fx cur).hp o]) = _
   rw[hp_some ho]
   show (if z = t.cells ∧ b.toNat ≤ (l.map (enc t)).length then some (((l.map (enc t)).take b.toNat).drop a.toNat) else none) = _
   rw[if_pos ⟨hz,by simpa using c5⟩,← c1,List.map_drop,List.map_take]
  ·cases h
 ·cases h
theorem sl_inj {a b:Ty} (e:Ty.sl a = Ty.sl b):a = b:=by injection e
theorem asSl_some {α:Type} {a b:Ty} {x:List a.den} {k:List b.den → Option α} {r:α} (h:asTy (.sl a) (.sl b) x k = some r):∃ e:a = b,k (e ▸ x) = some r:=by
 obtain⟨e,h⟩:=asTy_some h
 have e2:=sl_inj e
 subst e2
 exact⟨rfl,h⟩
theorem rows_cells (t:Ty) (l:List t.den):∀ x ∈ l.map (enc t),x.length = t.cells:=fun x hx=>by
 obtain⟨y,_,rfl⟩:=List.mem_map.1 hx
 exact enc_len t y
theorem bytes_u8:∀ l:List Int,bytesOf (l.map (enc (.int .u8))) = some (u8sT l)
 | []=>rfl
 | n :: l=>by
  show (match rowByte (enc (.int .u8) n),bytesOf (l.map (enc (.int .u8))) with | some b,some m=>some (b :: m) | _,_=>none) = _
  rw[bytes_u8 l]; rfl
theorem cb_enc (s:Bs):((mkS s).data.toList.map fun b=>[PV.int .u8 (b.toNat:Int)]) = (bytesT s).map (enc (.int .u8)):=by
 rw[mkS_data]
 induction s with
 | nil=>rfl
 | cons b s ih=>exact congrArg (List.cons [PV.int .u8 (b.toNat:Int)]) ih
theorem conv_ok {src dst:TypeId} {x:TSl} (h:tConv P fx cur src dst x k = some r):Did (orE (opConv P src dst [x.un]) (opBytes P src dst [argU fx cur x])) k r:=by
 unfold tConv at h
 split at h
 ·rename_i ks k' hs hd
  split at h
  ·rename_i kd n
   cases e1:IntKind.same k' .i64 with
   | some g1 =>
    cases e2:IntKind.same kd .u64 with
    | none =>
     rw[e1,e2] at h
     have h4:kd ≠ .u64:=fun e=>by unfold IntKind.same at e2; rw[dif_pos e] at e2; cases e2
     refine did (c:=True) _ _ h ?_ trivial
     show orE (opConv P src dst [.c (.v (.p (.int kd n)))]) _ = _
     simp only[opConv,hs,hd]
     rw[if_pos ⟨g1.down,h4⟩]; rfl
    | some g2 =>
     rw[e1,e2] at h
     refine did (c:=True) _ _ h ?_ trivial
     show orE (opConv P src dst [.c (.v (.p (.int kd n)))]) _ = _
     simp only[opConv,hs,hd]
     rw[if_neg (fun hh=>hh.2 g2.down)]; rfl
   | none =>
    have h4:k' ≠ .i64:=fun e=>by unfold IntKind.same at e1; rw[dif_pos e] at e1; cases e1
    have h:k (tV (.int k') (k'.wrap n)) [] = some r:=by
     rw[e1] at h; exact h
    refine did (c:=True) _ _ h ?_ trivial
    show orE (opConv P src dst [.c (.v (.p (.int kd n)))]) _ = _
    simp only[opConv,hs,hd]
    rw[if_neg (fun hh=>h4 hh.1)]; rfl
  ·cases h
 ·rename_i hs hd
  split at h
  ·refine did (c:=True) _ _ h ?_ trivial
   rename_i s
   show orE (opConv P src dst [.c (.v (.p (.str (mkS s))))]) _ = _
   simp only[opConv,hs,hd]; rfl
  ·cases h
 ·rename_i es hs hd
  split at h
  ·rename_i e he
   split at h
   ·rename_i hu
    obtain⟨t,l,h,hl⟩:=asList_ok h
    obtain⟨rfl,h⟩:=asSl_some h
    obtain⟨u,hu2,h⟩:=bind_some h
    have hn:=need_some hu2
    refine did (c:=(u8sT l).length ≤ 9223372036854775807) _ _ h ?_ hn
    have hb:opBytes P src dst [argU fx cur x] = some ⟨(u8sT l).length ≤ 9223372036854775807,.p (.str ⟨(u8sT l).toArray⟩),[]⟩:=by
     unfold opBytes opCB
     simp only[hs,hd]
     simp only[opBytes0,he,hd,hl,hu]
     rw[bytes_u8 l]
    have hc:opConv P src dst [x.un] = none:=by
     unfold opConv
     split
     ·rw[hs]
     ·rw[hs]
     ·rfl
    rw[hc,hb]; rfl
   ·cases h
  ·cases h
 ·rename_i el hs hd
  split at h
  ·rename_i hu
   split at h
   ·rename_i s
    refine did (c:=True) _ _ h ?_ trivial
    show orE (opConv P src dst [.c (.v (.p (.str (mkS s))))]) (opBytes P src dst [argU fx cur (.c (.v (.v .str s)))]) = _
    have hc:opConv P src dst [.c (.v (.p (.str (mkS s))))] = none:=by simp only[opConv,hs,hd]
    have hb:opBytes P src dst [argU fx cur (.c (.v (.v .str s)))] = some ⟨True,.p (.sl ((bytesT s).map (enc (.int .u8)))),[]⟩:=by
     unfold opBytes opCB
     simp only[hs,hd,hu]
     have e:=cb_enc s
     rw[← e]; rfl
    rw[hc,hb]; rfl
   ·cases h
  ·cases h
 ·cases h
theorem fill_un:∀ (l:List (Nat × Nat × TC)) (cs out:List TL),fillT cs l = some out → fillL (cs.map TL.un) (l.map fun x=>(x.1,x.2.1,x.2.2.un)) = some (out.map TL.un)
 | [],cs,out,h=>by
  simp only[fillT,Option.some.injEq] at h
  subst h; rfl
 | (off,n,c) :: l,cs,out,h=>by
  unfold fillT at h
  obtain⟨hc,h⟩:=cond_some h
  rw[Bool.and_eq_true,beqN,bleN,decide_eq_true_eq,decide_eq_true_eq] at hc
  have ih:=fill_un l _ _ h
  rw[List.map_cons]
  unfold fillL
  dsimp only
  rw[leavesC_un,List.length_map,List.length_map,if_pos hc]
  simpa [List.map_append,List.map_take,List.map_drop] using ih
theorem parts_un {pl:List (Nat × Nat)}:∀ (is:List Nat) (args:List TSl) (l:List (Nat × Nat × TC)),partsT pl is args = some l → partsAt (fun i=>pl[i]?) is (args.map TSl.un) = some (l.map fun x=>(x.1,x.2.1,x.2.2.un))
 | [],[],l,h=>by
  simp only[partsT,Option.some.injEq] at h
  subst h; rfl
 | i :: is,.c c :: args,l,h=>by
  unfold partsT at h
  split at h
  ·rename_i o n l' h1 h2
   simp only[Option.some.injEq] at h
   subst h
   have ih:=parts_un is args l' h2
   show (match pl[i]?,partsAt (fun i=>pl[i]?) is (args.map TSl.un) with | some (o,n),some l=>some ((o,n,c.un) :: l) | _,_=>none) = _
   rw[h1,ih]; rfl
  ·cases h
 | [],_ :: _,l,h=>by cases h
 | _ :: _,[],l,h=>by cases h
 | i :: is,.dead :: args,l,h=>by cases h
 | i :: is,.t _ :: args,l,h=>by cases h
theorem build_ok {t:TypeId} {is:List Nat} {args:List TSl} (h:tBuild P t is args k = some r):Did (opBuild P t is (args.map TSl.un)) k r:=by
 unfold tBuild at h
 split at h
 ·rename_i pl z hp hz
  split at h
  ·rename_i l hl
   split at h
   ·rename_i cs hc
    refine did (c:=True) _ _ h ?_ trivial
    simp only[opBuild,hp,tzero_un hz,parts_un _ _ _ hl,fill_un _ _ _ hc]
    rfl
   ·cases h
  ·cases h
 ·cases h
theorem leafZ_ok {t:Ty} {l:TL} {k:t.den → Option ρ} (hlf:isLeaf t = true) (h:leafZ t l k = some r):∃ x,k x = some r ∧ ∃ p,enc t x = [p] ∧ toPV l.un = some p:=by
 unfold leafZ at h
 split at h
 ·rename_i t' x
  obtain⟨y,h,he⟩:=asTyU_some h
  obtain⟨p,hp,hu⟩:=enc_leaf hlf y
  refine⟨_,h,p,hp,?_⟩
  show toPV (match enc t' x with | [p]=>.p p | _=>.dead) = some p
  rw[← he,hp]; rfl
 ·obtain⟨y,h,he⟩:=nilT_some h
  exact⟨_,h,_,he,rfl⟩
 ·cases h
theorem allPV0_cons {x:Leaf} {r:List Leaf} {p:PV} {l:List PV} (h:toPV x = some p) (hl:allPV0 r = some l):allPV0 (x :: r) = some (p :: l):=by
 unfold allPV0; rw[h,hl]
theorem allPV0_app:∀ {xs ys:List Leaf} {ps qs:List PV},allPV0 xs = some ps → allPV0 ys = some qs → allPV0 (xs ++ ys) = some (ps ++ qs)
 | [],ys,ps,qs,h,h'=>by simp only[allPV0,Option.some.injEq] at h; subst h; exact h'
 | x :: xs,ys,ps,qs,h,h'=>by
  unfold allPV0 at h
  split at h
  ·rename_i p l hp hl
   simp only[Option.some.injEq] at h
   subst h
   exact allPV0_cons hp (allPV0_app hl h')
  ·cases h
theorem packZ_ok:∀ (t:Ty) (ls:List TL) (k:t.den → List TL → Option ρ),packZ t ls k = some r → ∃ x rest,k x rest = some r ∧ ∃ pre,ls = pre ++ rest ∧ allPV0 (pre.map TL.un) = some (enc t x)
 | .pair a b,ls,k,h=>by
  unfold packZ at h
  obtain⟨x,r1,h1,p1,rfl,e1⟩:=packZ_ok a ls _ h
  obtain⟨y,r2,h2,p2,rfl,e2⟩:=packZ_ok b r1 _ h1
  refine⟨(x,y),r2,h2,p1 ++ p2,by rw[List.append_assoc],?_⟩
  rw[List.map_append]
  exact allPV0_app e1 e2
 | .any,[],k,h=>by cases h
 | .int kd,[],k,h=>by cases h
 | .bool,[],k,h=>by cases h
 | .str,[],k,h=>by cases h
 | .sl e,[],k,h=>by cases h
 | .map kd e,[],k,h=>by cases h
 | .map kd e,l :: ls,k,h=>by obtain⟨x,h2,p,e',hp⟩:=leafZ_ok (t := .map kd e) rfl h; exact⟨x,ls,h2,[l],rfl,by rw[e']; exact allPV0_cons hp rfl⟩
 | .slu i,[],k,h=>by cases h
 | .slu i,l :: ls,k,h=>by obtain⟨x,h2,p,e',hp⟩:=leafZ_ok (t := .slu i) rfl h; exact⟨x,ls,h2,[l],rfl,by rw[e']; exact allPV0_cons hp rfl⟩
 | .any,l :: ls,k,h=>by obtain⟨x,h2,p,e,hp⟩:=leafZ_ok (t := .any) rfl h; exact⟨x,ls,h2,[l],rfl,by rw[e]; exact allPV0_cons hp rfl⟩
 | .int kd,l :: ls,k,h=>by obtain⟨x,h2,p,e,hp⟩:=leafZ_ok (t := .int kd) rfl h; exact⟨x,ls,h2,[l],rfl,by rw[e]; exact allPV0_cons hp rfl⟩
 | .bool,l :: ls,k,h=>by obtain⟨x,h2,p,e,hp⟩:=leafZ_ok (t := .bool) rfl h; exact⟨x,ls,h2,[l],rfl,by rw[e]; exact allPV0_cons hp rfl⟩
 | .str,l :: ls,k,h=>by obtain⟨x,h2,p,e,hp⟩:=leafZ_ok (t := .str) rfl h; exact⟨x,ls,h2,[l],rfl,by rw[e]; exact allPV0_cons hp rfl⟩
 | .sl e,l :: ls,k,h=>by obtain⟨x,h2,p,e',hp⟩:=leafZ_ok (t := .sl e) rfl h; exact⟨x,ls,h2,[l],rfl,by rw[e']; exact allPV0_cons hp rfl⟩
theorem rowsZ_ok {te:Ty}:∀ (args:List TSl) (k:List te.den → Option ρ),rowsZ te args k = some r → ∃ l,k l = some r ∧ rowsOf0 te.cells (args.map TSl.un) = some (l.map (enc te))
 | [],k,h=>⟨[],h,rfl⟩
 | .c c :: args,k,h=>by
  unfold rowsZ packZA at h
  obtain⟨x,rest,h1,pre,hp,e⟩:=packZ_ok te _ _ h
  split at h1
  ·rw[List.append_nil] at hp
   obtain⟨l,h2,ih⟩:=rowsZ_ok args _ h1
   refine⟨x :: l,h2,?_⟩
   show (match allPV0 c.un.leaves,rowsOf0 te.cells (args.map TSl.un) with | some ps,some l=>if ps.length = te.cells then some (ps :: l) else none | _,_=>none) = _
   rw[leavesC_un,hp,e,ih]
   dsimp only
   rw[if_pos (enc_len te x)]; rfl
  ·cases h1
 | .dead :: _,k,h=>by cases h
 | .t _ :: _,k,h=>by cases h
theorem rows_ok {te:Ty}:∀ (args:List TSl) (k:List te.den → Option ρ),rowsZ te args k = some r → ∃ l,k l = some r ∧ rowsOf te.cells (args.map (argU fx cur)) = some (l.map (enc te))
 | [],k,h=>⟨[],h,rfl⟩
 | .c c :: args,k,h=>by
  unfold rowsZ packZA at h
  obtain⟨x,rest,h1,pre,hp,e⟩:=packZ_ok te _ _ h
  split at h1
  ·rw[List.append_nil] at hp
   obtain⟨l,h2,ih⟩:=rows_ok args _ h1
   refine⟨x :: l,h2,?_⟩
   show (match allPV0 c.un.leaves,rowsOf te.cells (args.map (argU fx cur)) with | some ps,some l=>if ps.length = te.cells then some (ps :: l) else none | _,_=>none) = _
   rw[leavesC_un,hp,e,ih]
   dsimp only
   rw[if_pos (enc_len te x)]; rfl
  ·cases h1
 | .dead :: _,k,h=>by cases h
 | .t _ :: _,k,h=>by cases h
theorem range_ok:∀ (i:Nat) (is:List Nat),isRange i is = true → is = List.range' i is.length
 | _,[],_=>rfl
 | i,x :: is,h=>by
  unfold isRange at h
  rw[Bool.and_eq_true,beqN,decide_eq_true_eq] at h
  obtain⟨rfl,h⟩:=h
  have:=range_ok _ is h
  rw[List.length_cons,List.range'_succ,← this]
theorem buildSlice_ok {t:TypeId} {len:Nat} {is:List Nat} {d:Option Nat} {args:List TSl} (h:tBuildSlice P H fx cur t len is d args k = some r):Did (opBuildSlice P t len is d (isFree (un2 fx cur).hp d) (args.map (argU fx cur))) k r:=by
 unfold tBuildSlice at h
 split at h
 ·rename_i e z d te he hh
  obtain⟨hc,h⟩:=cond_some h
  simp only[Bool.and_eq_true,beqN,bleN,decide_eq_true_eq] at hc
  obtain⟨⟨⟨⟨⟨h1,h2⟩,h3⟩,h4⟩,h5⟩,h6⟩:=hc
  obtain⟨l,h,hl⟩:=rows_ok (fx:=fx) (cur:=cur) args _ h
  refine did (c:=True) _ _ h ?_ trivial
  have hr:is = List.range len:=by rw[range_ok 0 is h1,h2,List.range_eq_range']
  simp only[opBuildSlice,he]
  rw[if_pos ⟨hr,freeT_un h3,h4,h5⟩,h6,hl]; rfl
 ·cases h
theorem litT_ok:∀ {args:List TSl} {cs:List TL},litT args = some cs → litRows (args.map TSl.un) = some (cs.map TL.un)
 | [],cs,h=>by
  simp only[litT,Option.some.injEq] at h
  subst h; rfl
 | x :: args,cs,h=>by
  unfold litT at h
  split at h
  ·rename_i heq; cases heq
  ·rename_i y r heq
   injection heq with h1 h2
   subst h1 h2
   split at h
   ·rename_i l hl
    simp only[Option.some.injEq] at h
    subst h
    show (match litRows (args.map TSl.un) with | some l=>some (y.un :: l) | none=>none) = _
    rw[litT_ok hl]; rfl
   ·cases h
  ·cases h
theorem buildLit_ok {t:TypeId} {len:Nat} {is:List Nat} {d:Option Nat} {args:List TSl} (h:tBuildLit P fx cur t len is d args k = some r):Did (opBuildLit P t len is d (isFree (un2 fx cur).hp d) (args.map TSl.un)) k r:=by
 unfold tBuildLit at h
 split at h
 ·rename_i e z d cs he hl
  obtain⟨hc,h⟩:=cond_some h
  simp only[Bool.and_eq_true,beqN,bleN,decide_eq_true_eq] at hc
  obtain⟨⟨⟨⟨h1,h2⟩,h3⟩,h4⟩,h5⟩:=hc
  refine did (c:=True) _ _ h ?_ trivial
  have hr:is = List.range len:=by rw[range_ok 0 is h1,h2,List.range_eq_range']
  simp only[opBuildLit,he]
  rw[if_pos ⟨hr,freeT_un h3,h4,h5⟩,litT_ok hl]; rfl
 ·cases h
theorem buildSl_ok {t:TypeId} {len:Nat} {is:List Nat} {d:Option Nat} {args:List TSl} (h:tBuildSl P H fx cur t len is d args k = some r):(opBuildSlice P t len is d (isFree (un2 fx cur).hp d) (args.map (argU fx cur)) = none ∧ Did (opBuildLit P t len is d (isFree (un2 fx cur).hp d) (args.map TSl.un)) k r) ∨ Did (opBuildSlice P t len is d (isFree (un2 fx cur).hp d) (args.map (argU fx cur))) k r:=by
 unfold tBuildSl at h
 cases ho:args.any ownRow with
 | false=>rw[ho,cond_false] at h; exact .inr (buildSlice_ok h)
 | true =>
  rw[ho,cond_true] at h
  refine .inl ⟨?_,buildLit_ok h⟩
  unfold opBuildSlice
  split
  ·rename_i e z d he
   split
   ·have:∀ {args:List TSl},args.any ownRow = true → rowsOf z (args.map (argU fx cur)) = none:=by
     intro args
     induction args with
     | nil=>intro h; cases h
     | cons x args ih =>
      intro h
      rw[List.any_cons,Bool.or_eq_true] at h
      rw[List.map_cons]
      rcases h with h | h
      ·unfold ownRow at h
       split at h
       ·rename_i y
        cases y <;> first | (cases h; done) | skip
        simp [rowsOf,argU,allPV0,toPV,TSl.un,TC.un,TL.un,Cmp.leaves]
       ·cases h
      ·have:=ih h
       unfold rowsOf
       split
       ·rename_i heq; cases heq
       ·rename_i heq
        injection heq with h1 h2
        subst h2
        rw[this]
        split <;> simp_all
       ·rfl
    rw[this ho]
   ·rfl
  ·rfl
theorem buildZ_ok {tl:Bool} {t:TypeId} {len:Nat} {is:List Nat} {args:List TSl} (h:tBuildZ P H tl t len is args k = some r):Did (opBuildZ P tl t len is (args.map TSl.un)) k r:=by
 unfold tBuildZ at h
 split at h
 ·rename_i e z te he hh
  obtain⟨hc,h⟩:=cond_some h
  simp only[Bool.and_eq_true,beqN,bleN,decide_eq_true_eq] at hc
  obtain⟨⟨⟨⟨h1,h2⟩,h4⟩,h5⟩,h6⟩:=hc
  obtain⟨l,h,hl⟩:=rowsZ_ok args _ h
  refine did (c:=True) _ _ h ?_ trivial
  have hr:is = List.range len:=by rw[range_ok 0 is h1,h2,List.range_eq_range']
  simp only[opBuildZ,he]
  rw[if_pos ⟨hr,h4,h5⟩,h6,hl]
  cases tl <;> rfl
 ·cases h
theorem len_ok {t:TypeId} {x:TSl} (h:tLen P fx cur t x k = some r):Did (opLen P t [argU fx cur x]) k r:=by
 unfold tLen at h
 split at h
 ·rename_i kt et hu
  split at h
  ·rename_i o
   split at h
   ·rename_i kd agg te m ho
    obtain⟨u,hn,h⟩:=bind_some h
    have hn:=need_some hn
    refine did (c:=(encM id (enc te) m).length ≤ 9223372036854775807) _ _ h ?_ (by rw[encM_len]; exact hn)
    show opLen P t [(.c (.v (.mp o)),[(un2 fx cur).hp o])] = _
    rw[hp_some ho]
    simp only[opLen,TObj.un,hu,encM_len]; rfl
   ·rename_i kd agg te m ho
    obtain⟨u,hn,h⟩:=bind_some h
    have hn:=need_some hn
    refine did (c:=(encM mkQ (enc te) m).length ≤ 9223372036854775807) _ _ h ?_ (by rw[encM_len]; exact hn)
    show opLen P t [(.c (.v (.mp o)),[(un2 fx cur).hp o])] = _
    rw[hp_some ho]
    simp only[opLen,TObj.un,hu,encM_len]; rfl
   ·rename_i agg te m ho
    obtain⟨u,hn,h⟩:=bind_some h
    have hn:=need_some hn
    refine did (c:=(encM mkS (enc te) m).length ≤ 9223372036854775807) _ _ h ?_ (by rw[encM_len]; exact hn)
    show opLen P t [(.c (.v (.mp o)),[(un2 fx cur).hp o])] = _
    rw[hp_some ho]
    simp only[opLen,TObj.un,hu,encM_len]; rfl
   ·cases h
  ·cases h
 ·rename_i hu
  split at h
  ·rename_i s
   refine did (c:=True) _ _ h ?_ trivial
   show opLen P t [(.c (.v (.p (.str (mkS s)))),_)] = _
   simp only[opLen,hu,mkS_size]; rfl
  ·cases h
 ·rename_i e hu
  obtain⟨t',l,h,hl⟩:=asList_ok h
  refine did (c:=True) _ _ h ?_ trivial
  have:∀ a:Arg,asList a = some (l.map (enc t')) → opLen P t [a] = some ⟨True,.p (.int .i64 l.length),[]⟩:=by
   intro a ha
   unfold opLen
   split
   ·rename_i heq; simp only[List.cons.injEq,and_true] at heq; subst heq; simp [asList] at ha
   ·rename_i heq; simp only[List.cons.injEq,and_true] at heq; subst heq; simp [asList] at ha
   ·rename_i heq; simp only[List.cons.injEq,and_true] at heq; subst heq; simp [asList] at ha
   ·rename_i heq; simp only[List.cons.injEq,and_true] at heq; subst heq; simp [asList] at ha
   ·rename_i a' _ _ _ heq
    simp only[List.cons.injEq,and_true] at heq
    subst heq
    rw[hu]; simp only[ha,List.length_map]; rfl
   ·rename_i hno; exact absurd rfl (hno a)
  exact this _ hl
 ·cases h
theorem append_ok {t:TypeId} {d:Option Nat} {x y:TSl} (h:tAppend P H fx cur t d x y k = some r):Did (opAppend P t d (isFree (un2 fx cur).hp d) [argU fx cur x,argU fx cur y]) k r:=by
 unfold tAppend at h
 split at h
 ·rename_i e z d he
  obtain⟨hf0,h0⟩:=cond_some h
  clear h
  have hf:=freeT_un hf0
  clear hf0
  have h:=h0
  clear h0
  split at h
  ·rename_i o
   split at h
   ·rename_i e' t' l ho
    obtain⟨hc,h1⟩:=cond_some h
    rw[Bool.and_eq_true,beqN,beqN,decide_eq_true_eq,decide_eq_true_eq] at hc
    obtain⟨he2,hz⟩:=hc
    subst he2
    obtain⟨t2,m,h2,hm⟩:=asList_ok h1
    obtain⟨et,h3⟩:=asSl_some h2
    subst et
    obtain⟨s,hs,h4⟩:=bind_some h3
    obtain⟨hs1,hl⟩:=app_some hs
    subst hs1
    have h:=h4
    refine did (c:=(l.map (enc t2)).length + (m.map (enc t2)).length ≤ 2147483647 ∧ ∀ x ∈ m.map (enc t2),x.length = t2.cells) _ _ h ?_ ⟨by simpa using hl,rows_cells _ _⟩
    show opAppend P t (some d) _ [(.c (.v (.own o)),[(un2 fx cur).hp o]),argU fx cur y] = _
    rw[hp_some ho]
    simp only[opAppend,TObj.un,he,hm]
    rw[if_pos ⟨trivial,hz.symm,hf⟩]
    simp only[unHp,List.map_cons,List.map_nil,TObj.un,TSl.un,TC.un,TL.un,List.map_append]
   ·cases h
  ·split at h
   ·rename_i te hh
    obtain⟨hz,h⟩:=cond_some h
    rw[beqN,decide_eq_true_eq] at hz
    obtain⟨t2,m,h2,hm⟩:=asList_ok h
    obtain⟨et,h3⟩:=asSl_some h2
    subst et
    obtain⟨s,hs,h4⟩:=bind_some h3
    obtain⟨hs1,hl⟩:=app_some hs
    subst hs1
    have h:=h4
    refine did (c:=(m.map (enc t2)).length ≤ 2147483647 ∧ ∀ x ∈ m.map (enc t2),x.length = z) _ _ h ?_ ⟨by simpa using hl,by rw[hz]; exact rows_cells _ _⟩
    show opAppend P t (some d) _ [(.c (.v .nil),[]),argU fx cur y] = _
    simp only[opAppend,he,hm]
    rw[if_pos hf]
    simp only[unHp,List.map_cons,List.map_nil,TObj.un,TSl.un,TC.un,TL.un,List.nil_append,hz]
   ·cases h
  ·cases h
 ·cases h
theorem bnds_ok {hl hh:Bool} {n:Nat}:∀ {as:List TSl} {q:Int × Int},bndsT hl hh n as = some q → bnds hl hh n (as.map (argU fx cur)) = some q:=by
 intro as q h
 unfold bndsT at h
 split at h <;> first | (cases h; done) | (simp only[Option.some.injEq] at h; subst h; rfl)
theorem slice_ok {t:TypeId} {hl hh:Bool} {x:TSl} {as:List TSl} (h:tSlice P fx cur t hl hh x as k = some r):Did (opSlice P t hl hh (argU fx cur x :: as.map (argU fx cur))) k r:=by
 unfold tSlice at h
 split at h
 ·rename_i s
  obtain⟨s,rfl⟩:∃ m:Bs,m = s:=⟨s,rfl⟩
  split at h
  ·rename_i i j hu hb
   obtain⟨m,hm,h⟩:=bind_some h
   obtain⟨c1,c2,c3,c4,c5⟩:=cut_some hm
   refine did (c:=0 ≤ i ∧ i ≤ j ∧ j ≤ (mkS s).size) _ _ h ?_ ⟨c2,c3,by rw[mkS_size]; exact c4⟩
   show opSlice P t hl hh ((.c (.v (.p (.str (mkS s)))),_) :: as.map (argU fx cur)) = _
   simp only[opSlice,hu]
   rw[mkS_size,bnds_ok hb]
   simp only[valIf,mkS_extract,c1]; rfl
  ·cases h
 ·rename_i t' l
  obtain⟨l,rfl⟩:∃ m:List t'.den,m = l:=⟨l,rfl⟩
  split at h
  ·rename_i e z i j he hb
   obtain⟨hz,h⟩:=cond_some h
   rw[beqN,decide_eq_true_eq] at hz
   obtain⟨m,hm,h⟩:=bind_some h
   obtain⟨c1,c2,c3,c4,c5⟩:=cut_some hm
   refine did (c:=0 ≤ i ∧ i ≤ j ∧ j ≤ ((l.map (enc t')).length:Int) ∧ ∀ x ∈ l.map (enc t'),x.length = z) _ _ h ?_ ⟨c2,c3,by simpa using c4,by rw[hz]; exact rows_cells _ _⟩
   show opSlice P t hl hh ((.c (.v (.p (.sl (l.map (enc t'))))),_) :: as.map (argU fx cur)) = _
   simp only[opSlice,he]
   rw[show bnds hl hh (l.map (enc t')).length (as.map (argU fx cur)) = some (i,j) by rw[List.length_map]; exact bnds_ok hb]
   simp only[valIf,← c1,TSl.un,TC.un,TL.un,enc,List.map_drop,List.map_take]; rfl
  ·cases h
 ·split at h
  ·rename_i q i j he hb
   obtain⟨u,hn,h⟩:=bind_some h
   have hn:=need_some hn
   refine did (c:=i = 0 ∧ j = 0) _ _ h ?_ hn
   obtain⟨q1,q2⟩:=q
   show opSlice P t hl hh ((.c (.v .nil),_) :: as.map (argU fx cur)) = _
   simp only[opSlice,he]
   rw[bnds_ok hb]; rfl
  ·cases h
 ·rename_i o
  split at h
  ·rename_i e' t' l ho
   split at h
   ·rename_i e z i j he hb
    obtain⟨hz,h⟩:=cond_some h
    rw[beqN,decide_eq_true_eq] at hz
    obtain⟨m,hm,h⟩:=bind_some h
    obtain⟨c1,c2,c3,c4,c5⟩:=cut_some hm
    refine did (c:=0 ≤ i ∧ i ≤ j ∧ j ≤ ((l.map (enc t')).length:Int)) _ _ h ?_ ⟨c2,c3,by simpa using c4⟩
    show opSlice P t hl hh ((.c (.v (.own o)),[(un2 fx cur).hp o]) :: as.map (argU fx cur)) = _
    rw[hp_some ho]
    simp only[opSlice,TObj.un,he]
    rw[show bnds hl hh (l.map (enc t')).length (as.map (argU fx cur)) = some (i,j) by rw[List.length_map]; exact bnds_ok hb]
    simp only[hz,if_true,valIf]; rfl
   ·cases h
  ·cases h
 ·cases h
theorem box_ok {t:TypeId} {d:Option Nat} {x:TSl} (h:tBox P fx cur t d x k = some r):Did (opBox P t d (isFree (un2 fx cur).hp d) [x.un]) k r:=by
 unfold tBox at h
 split at h
 ·rename_i d n c hn
  obtain⟨hc,h⟩:=cond_some h
  rw[Bool.and_eq_true,beqN,decide_eq_true_eq] at hc
  refine did (c:=True) _ _ h ?_ trivial
  show opBox P t (some d) _ [.c c.un] = _
  simp only[opBox,hn,leavesC_un,List.length_map]
  rw[if_pos ⟨freeT_un hc.1,hc.2⟩]; rfl
 ·cases h
theorem enc_flat:∀ (t:Ty) (x:t.den),t.flatB = true → ∀ p ∈ enc t x,p.flat = true
 | .any,x,_,p,hp=>by simp only[enc,List.mem_singleton] at hp; subst hp; rfl
 | .int _,x,_,p,hp=>by simp only[enc,List.mem_singleton] at hp; subst hp; rfl
 | .bool,x,_,p,hp=>by simp only[enc,List.mem_singleton] at hp; subst hp; rfl
 | .str,x,_,p,hp=>by simp only[enc,List.mem_singleton] at hp; subst hp; rfl
 | .sl _,x,h,_,_=>by cases h
 | .pair a b,x,h,p,hp=>by
  unfold Ty.flatB at h
  rw[Bool.and_eq_true] at h
  unfold enc at hp
  rcases List.mem_append.1 hp with hp | hp
  ·exact enc_flat a _ h.1 p hp
  ·exact enc_flat b _ h.2 p hp
theorem cmpRow_ok {c:TC} {te:Ty} {y:te.den} (hp:c.leaves.map TL.un = (enc te y).map Leaf.p):cmpRow c.un = some (c.isAgg,enc te y):=by
 cases c with
 | v l =>
  simp only[TC.leaves,List.map_cons,List.map_nil] at hp
  cases he:enc te y with
  | nil=>rw[he] at hp; cases hp
  | cons p ps =>
   rw[he,List.map_cons] at hp
   injection hp with h1 h2
   have:ps = []:=by cases ps with | nil=>rfl | cons _ _=>cases h2
   subst this
   simp only[TC.un,h1]; rfl
 | g ls =>
  simp only[TC.leaves] at hp
  show ((allPV (ls.map TL.un)).map fun ps=>(true,ps)) = _
  rw[hp,allPV_p]; rfl
theorem zeroT_ok {et:TypeId} {agg:Bool} {zl:List TL} {te:Ty} {z:te.den} (h:tyZeroT P et = some (agg,zl)) (hp:zl.map TL.un = (enc te z).map Leaf.p) (hf:te.flatB = true):tyZero P et = some (agg,enc te z):=by
 unfold tyZeroT at h
 unfold tyZero
 split at h
 ·rename_i i hi
  rw[hi]
  dsimp only
  split at h
  ·rename_i v hv
   rw[hv]
   dsimp only
   split at h
   ·rename_i c hc
    simp only[Option.some.injEq,Prod.mk.injEq] at h
    obtain⟨h1,rfl⟩:=h
    rw[← const_un,hc]
    show (match cmpRow c.un with | some (agg,ps)=>if ps.all PV.flat then some (agg,ps) else none | none=>none) = _
    rw[cmpRow_ok hp]
    dsimp only
    rw[if_pos (List.all_eq_true.2 (enc_flat te z hf))]
    have:c.isAgg = agg:=by rw[← h1]; cases c <;> rfl
    rw[this]
   ·cases h
  ·cases h
 ·cases h
theorem lookup_ok {t:TypeId} {ok:Bool} {m x:TSl} (h:tLookup P fx cur t ok m x k = some r):Did (opLookup P t ok [argU fx cur m,argU fx cur x]) k r:=nomatch h
theorem look0_ok {t:TypeId} {ok:Bool} {m x:TSl} (hm:m = .c (.v (.oth (.map none)))) (h:tLook0 P H t ok x k = some r):Did (opLookup P t ok [argU fx cur m,argU fx cur x]) k r:=nomatch h
theorem mapUpdate_ok {t:TypeId} {m x v:TSl} (h:tMapUpdate P fx cur t m x v k = some r):Did (opMapUpdate P t [argU fx cur m,argU fx cur x,argU fx cur v]) k r:=nomatch h
theorem appI_ok {t t':TypeId} {d:Option Nat} {x y:TSl} (h:tAppI P H fx cur t t' d x y k = some r):Did (opAppI P t t' d (isFree (un2 fx cur).hp d) [argU fx cur x,argU fx cur y]) k r:=by
 unfold tAppI at h
 split at h
 ·rename_i e z d te he hh
  split at h
  ·rename_i k2 q zl kd n hu hz
   obtain⟨n,rfl⟩:∃ q:Int,q = n:=⟨n,rfl⟩
   obtain⟨hc,h⟩:=cond_some h
   simp only[Bool.and_eq_true,beqN,decide_eq_true_eq] at hc
   obtain⟨⟨h1,h2⟩,h3⟩:=hc
   obtain⟨z0,h,hp⟩:=packAll_some h
   obtain⟨u,hu2,h⟩:=bind_some h
   refine did (c:=1 ≤ n ∧ n ≤ 2147483647) _ _ h ?_ (need_some hu2)
   show opAppI P t t' (some d) _ [(.c (.v .nil),_),(.c (.v (.p (.int _ n))),_)] = _
   simp only[opAppI,he,hu,zeroT_ok hz hp h2]
   rw[if_pos ⟨freeT_un h1,by rw[enc_len,h3]⟩]
   simp only[unHp,List.map_cons,List.map_nil,TObj.un,TSl.un,TC.un,TL.un,repT,List.map_replicate,h3]
  ·cases h
 ·cases h
theorem cap_ok {t:TypeId} {x:TSl} (h:tCap P t x k = some r):Did (opCap P t [x.un]) k r:=by
 unfold tCap at h
 split at h
 ·rename_i e hu
  refine did (c:=True) _ _ h ?_ trivial
  show opCap P t [.c (.v .nil)] = _
  simp only[opCap,hu]; rfl
 ·cases h
theorem caps_ok:∀ (xs:List TSl) (l:List Nat),capsT xs = some l → capsOf (xs.map TSl.un) = some l
 | [],l,h=>by
  simp only[capsT,Option.some.injEq] at h
  subst h; rfl
 | x :: xs,l,h=>by
  unfold capsT at h
  split at h
  ·rename_i heq; cases heq
  ·rename_i o r heq
   injection heq with h1 h2
   subst h1 h2
   split at h
   ·rename_i l' hl
    simp only[Option.some.injEq] at h
    subst h
    have ih:=caps_ok _ l' hl
    show (capsOf (List.map TSl.un xs)).map (o :: ·) = _
    rw[ih]; rfl
   ·cases h
  ·cases h
theorem makeFunc_ok {f:FuncId} {first:Nat} {xs:List TSl} (h:tMakeFunc f first (capsT xs) k = some r):Did (opMakeFunc (.func f) first (xs.map TSl.un)) k r:=by
 unfold tMakeFunc at h
 split at h
 ·rename_i l hl
  split at h
  ·refine did (c:=True) _ _ h ?_ trivial
   unfold opMakeFunc
   rw[caps_ok _ _ hl]; rfl
  ·obtain⟨hc,h⟩:=cond_some h
   rw[beqN,decide_eq_true_eq] at hc
   refine did (c:=True) _ _ h ?_ trivial
   unfold opMakeFunc
   rw[caps_ok _ _ hl]
   dsimp only
   rw[if_pos hc]; rfl
 ·cases h
theorem idxV_ok {m:Nat} {e t:TypeId} {x i:TSl} (hu:P.underlying t = some (.array m e)) (h:tIdxV P fx cur m e x i k = some r):Did (opIdxV P t [argU fx cur x,argU fx cur i]) k r:=nomatch h
theorem lookD_ok {t:TypeId} {m x:TSl} (h:tLookD P t m x k = some r):Did (opLookD P t [m.un,x.un]) k r:=nomatch h
theorem putL_ok {t:TypeId} {o:Nat} {x v:TSl} (h:tPutL P fx cur t o x v k = some r):Did (opPutL P t [argU fx cur (.c (.v (.mp o))),argU fx cur x,argU fx cur v]) k r:=nomatch h
theorem appZ_ok {t:TypeId} {x y:TSl} (h:tAppZ P fx cur t x y k = some r):Did (opAppZ P t [argU fx cur x,argU fx cur y]) k r:=by
 unfold tAppZ at h
 split at h
 ·rename_i e z o he
  split at h
  ·rename_i e' t' l ho
   obtain⟨hc,h1⟩:=cond_some h
   rw[Bool.and_eq_true,beqN,beqN,decide_eq_true_eq,decide_eq_true_eq] at hc
   obtain⟨he2,hz⟩:=hc
   subst he2
   obtain⟨t2,m,h2,hm⟩:=asList_ok h1
   obtain⟨et,h3⟩:=asSl_some h2
   subst et
   obtain⟨s,hs,h4⟩:=bind_some h3
   obtain⟨hs1,hl⟩:=app_some hs
   subst hs1
   refine did (c:=(l.map (enc t2)).length + (m.map (enc t2)).length ≤ 2147483647 ∧ ∀ x ∈ m.map (enc t2),x.length = t2.cells) _ _ h4 ?_ ⟨by simpa using hl,rows_cells _ _⟩
   show opAppZ P t [(.c (.v (.own o)),[(un2 fx cur).hp o]),argU fx cur y] = _
   rw[hp_some ho]
   simp only[opAppZ,TObj.un,he,hm]
   rw[if_pos ⟨trivial,hz.symm⟩]
   simp only[unHp,List.map_cons,List.map_nil,TObj.un]
   rw[← List.map_append]; rfl
  ·cases h
 ·cases h
theorem appT_some {α:Type} {l m r:List α} (h:appT? l m = some r):l ≠ [] ∧ m ≠ [] ∧ app? l m = some r:=by
 unfold appT? at h
 split at h
 ·exact⟨by simp,by simp,h⟩
 ·cases h
theorem appT_ok {t:TypeId} {d:Option Nat} {t':Ty} {l:List t'.den} {y:TSl} (h:tAppT P H fx cur t d (.c (.v (.tl t' l))) y k = some r):Did (opAppT P t d (isFree (un2 fx cur).hp d) [argU fx cur (.c (.v (.tl t' l))),argU fx cur y]) k r:=by
 unfold tAppT at h
 dsimp only at h
 split at h
 ·rename_i e z d he
  obtain⟨hc,h⟩:=cond_some h
  rw[Bool.and_eq_true,beqN,decide_eq_true_eq] at hc
  obtain⟨hf,hz⟩:=hc
  obtain⟨t2,m,h2,hm⟩:=asList_ok h
  obtain⟨et,h3⟩:=asSl_some h2
  subst et
  obtain⟨s,hs,h4⟩:=bind_some h3
  obtain⟨a1,a2,a3⟩:=appT_some hs
  obtain⟨hs1,hl⟩:=app_some a3
  subst hs1
  refine did (c:=(l.map (enc t2)).length + (m.map (enc t2)).length ≤ 2147483647 ∧ l.map (enc t2) ≠ [] ∧ m.map (enc t2) ≠ [] ∧ (∀ x ∈ l.map (enc t2),x.length = z) ∧ ∀ x ∈ m.map (enc t2),x.length = z) _ _ h4 ?_ ⟨by simpa using hl,by simpa using a1,by simpa using a2,by rw[hz]; exact rows_cells _ _,by rw[hz]; exact rows_cells _ _⟩
  show opAppT P t (some d) _ [(.c (.v (.tl (l.map (enc t2)))),_),argU fx cur y] = _
  simp only[opAppT,he,hm]
  rw[if_pos (freeT_un hf)]
  simp only[unHp,List.map_cons,List.map_nil,TObj.un,TSl.un,TC.un,TL.un,List.map_append,hz]
 ·cases h
theorem appT_cases {t:TypeId} {d:Option Nat} {x y:TSl} (h:tAppT P H fx cur t d x y k = some r):(∃ t' l,x = .c (.v (.tl t' l))) ∨ tAppend P H fx cur t d x y k = some r:=by
 unfold tAppT at h
 split at h
 ·exact .inl ⟨_,_,rfl⟩
 ·exact .inr h
theorem nilO_ok {b:BinOp} {t:TypeId} {x y:TSl} (h:tNilO P fx cur b t x y k = some r):isEqB b = true ∧ Did (opNilO P b t [argU fx cur x,argU fx cur y]) k r:=nomatch h
theorem cutO_ok {t:TypeId} {hl hh:Bool} {d:Option Nat} {x:TSl} {as:List TSl} (h:tCutO P fx cur t hl hh d x as k = some r):Did (opCutO P t hl hh d (isFree (un2 fx cur).hp d) (argU fx cur x :: as.map (argU fx cur))) k r:=by
 unfold tCutO at h
 split at h
 ·rename_i o d
  split at h
  ·rename_i e t' l ho
   split at h
   ·rename_i q z i j he hb
    obtain⟨hc,h⟩:=cond_some h
    rw[Bool.and_eq_true,beqN,decide_eq_true_eq] at hc
    obtain⟨m,hm,h⟩:=bind_some h
    obtain⟨c1,c2,c3,c4,c5⟩:=cut_some hm
    refine did (c:=0 ≤ i ∧ i ≤ j ∧ j ≤ ((l.map (enc t')).length:Int)) _ _ h ?_ ⟨c2,c3,by simpa using c4⟩
    show opCutO P t hl hh (some d) _ ((.c (.v (.own o)),[(un2 fx cur).hp o]) :: as.map (argU fx cur)) = _
    rw[hp_some ho]
    simp only[TObj.un,opCutO,he]
    rw[show bnds hl hh (l.map (enc t')).length (as.map (argU fx cur)) = some (i,j) by rw[List.length_map]; exact bnds_ok hb]
    dsimp only
    rw[if_pos ⟨hc.1,freeT_un hc.2⟩]
    simp only[unHp,List.map_cons,List.map_nil,TObj.un,TSl.un,TC.un,TL.un,← c1,List.map_drop,List.map_take]
   ·cases h
  ·cases h
 ·cases h
end
end Go.Lad
