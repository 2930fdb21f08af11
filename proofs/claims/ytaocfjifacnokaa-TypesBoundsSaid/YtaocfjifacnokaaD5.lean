import Derived.Test.YtaocfjifacnokaaD4
namespace Go.Lad
set_option linter.unusedVariables false
set_option linter.unusedSimpArgs false
open Go.RowKit
section
variable {ρ:Type} {P:Program} {H:List (Nat × Ty)} {fx cur:TSt} {k:KE ρ} {r:ρ}
theorem asList_ok {d:Ty} {x:TSl} {k:(t:Ty) → List t.den → Option ρ} (h:asListT fx cur d x k = some r):∃ t l,k t l = some r ∧ asList (argU fx cur x) = some (l.map (enc t)):=by
 unfold asListT at h
 split at h
 ·rename_i t l
  exact⟨t,l,h,rfl⟩
 ·exact⟨_,_,h,rfl⟩
 ·exact⟨_,_,h,rfl⟩
 ·rename_i o
  split at h
  ·rename_i e t l ho
   refine⟨_,_,h,?_⟩
   show asList (.c (.v (.own o)),[(un2 fx cur).hp o]) = _
   rw[hp_some ho]; rfl
  ·cases h
 ·rename_i o a b z
  split at h
  ·rename_i e t l ho
   obtain⟨hz,h⟩:=cond_some h
   rw[beqN,decide_eq_true_eq] at hz
   obtain⟨m,hm,h⟩:=bind_some h
   obtain⟨c1,c2,c3,c4,c5⟩:=cut_some hm
   refine⟨_,_,h,?_⟩
   show asList (.c (.v (.sv o a.toNat b.toNat z)),[(un2 fx cur).hp o]) = _
   rw[hp_some ho]
   show (if z = t.cells ∧ b.toNat ≤ (l.map (enc t)).length then some (((l.map (enc t)).take b.toNat).drop a.toNat) else none) = _
   rw[if_pos ⟨hz,by simpa using c5⟩,← c1,List.map_drop,List.map_take]
  ·cases h
 ·cases h
theorem sl_inj {a b:Ty} (e:Ty.sl a = Ty.sl b):a = b:=by injection e
theorem asSl_some {α:Type} {a b:Ty} {x:List a.den} {k:List b.den → Option α} {r:α} (h:asTy (.sl a) (.sl b) x k = some r):∃ e:a = b,k (e ▸ x) = some r:=by
 obtain⟨e,h⟩:=asTy_some h
 have e2:=sl_inj e
 subst e2
 exact⟨rfl,h⟩
theorem rows_cells (t:Ty) (l:List t.den):∀ x ∈ l.map (enc t),x.length = t.cells:=fun x hx=>by
 obtain⟨y,_,rfl⟩:=List.mem_map.1 hx
 exact enc_len t y
theorem bytes_u8:∀ l:List Int,bytesOf (l.map (enc (.int .u8))) = some (u8sT l)
 | []=>rfl
 | n :: l=>by
  show (match rowByte (enc (.int .u8) n),bytesOf (l.map (enc (.int .u8))) with | some b,some m=>some (b :: m) | _,_=>none) = _
  rw[bytes_u8 l]; rfl
theorem cb_enc (s:Bs):((mkS s).data.toList.map fun b=>[PV.int .u8 (b.toNat:Int)]) = (bytesT s).map (enc (.int .u8)):=by
 rw[mkS_data]
 induction s with
 | nil=>rfl
 | cons b s ih=>exact congrArg (List.cons [PV.int .u8 (b.toNat:Int)]) ih
theorem conv_ok {src dst:TypeId} {x:TSl} (h:tConv P fx cur src dst x k = some r):Did (orE (opConv P src dst [x.un]) (opBytes P src dst [argU fx cur x])) k r:=by
 unfold tConv at h
 split at h
 ·rename_i ks k' hs hd
  split at h
  ·rename_i kd n
   cases e1:IntKind.same k' .i64 with
   | some g1 =>
    cases e2:IntKind.same kd .u64 with
    | none =>
     rw[e1,e2] at h
     have h4:kd ≠ .u64:=fun e=>by unfold IntKind.same at e2; rw[dif_pos e] at e2; cases e2
     refine did (c:=True) _ _ h ?_ trivial
     show orE (opConv P src dst [.c (.v (.p (.int kd n)))]) _ = _
     simp only[opConv,hs,hd]
     rw[if_pos ⟨g1.down,h4⟩]; rfl
    | some g2 =>
     rw[e1,e2] at h
     refine did (c:=True) _ _ h ?_ trivial
     show orE (opConv P src dst [.c (.v (.p (.int kd n)))]) _ = _
     simp only[opConv,hs,hd]
     rw[if_neg (fun hh=>hh.2 g2.down)]; rfl
   | none =>
    have h4:k' ≠ .i64:=fun e=>by unfold IntKind.same at e1; rw[dif_pos e] at e1; cases e1
    have h:k (tV (.int k') (k'.wrap n)) [] = some r:=by
     rw[e1] at h; exact h
    refine did (c:=True) _ _ h ?_ trivial
    show orE (opConv P src dst [.c (.v (.p (.int kd n)))]) _ = _
    simp only[opConv,hs,hd]
    rw[if_neg (fun hh=>h4 hh.1)]; rfl
  ·cases h
 ·rename_i hs hd
  split at h
  ·refine did (c:=True) _ _ h ?_ trivial
   rename_i s
   show orE (opConv P src dst [.c (.v (.p (.str (mkS s))))]) _ = _
   simp only[opConv,hs,hd]; rfl
  ·cases h
 ·rename_i es hs hd
  split at h
  ·rename_i e he
   split at h
   ·rename_i hu
    obtain⟨t,l,h,hl⟩:=asList_ok h
    obtain⟨rfl,h⟩:=asSl_some h
    obtain⟨u,hu2,h⟩:=bind_some h
    have hn:=need_some hu2
    refine did (c:=(u8sT l).length ≤ 9223372036854775807) _ _ h ?_ hn
    have hb:opBytes P src dst [argU fx cur x] = some ⟨(u8sT l).length ≤ 9223372036854775807,.p (.str ⟨(u8sT l).toArray⟩),[]⟩:=by
     unfold opBytes opCB
     simp only[hs,hd]
     simp only[opBytes0,he,hd,hl,hu]
     rw[bytes_u8 l]
    have hc:opConv P src dst [x.un] = none:=by
     unfold opConv
     split
     ·rw[hs]
     ·rw[hs]
     ·rfl
    rw[hc,hb]; rfl
   ·cases h
  ·cases h
 ·rename_i el hs hd
  split at h
  ·rename_i hu
   split at h
   ·rename_i s
    refine did (c:=True) _ _ h ?_ trivial
    show orE (opConv P src dst [.c (.v (.p (.str (mkS s))))]) (opBytes P src dst [argU fx cur (.c (.v (.v .str s)))]) = _
    have hc:opConv P src dst [.c (.v (.p (.str (mkS s))))] = none:=by simp only[opConv,hs,hd]
    have hb:opBytes P src dst [argU fx cur (.c (.v (.v .str s)))] = some ⟨True,.p (.sl ((bytesT s).map (enc (.int .u8)))),[]⟩:=by
     unfold opBytes opCB
     simp only[hs,hd,hu]
     have e:=cb_enc s
     rw[← e]; rfl
    rw[hc,hb]; rfl
   ·cases h
  ·cases h
 ·cases h
theorem fill_un:∀ (l:List (Nat × Nat × TC)) (cs out:List TL),fillT cs l = some out → fillL (cs.map TL.un) (l.map fun x=>(x.1,x.2.1,x.2.2.un)) = some (out.map TL.un)
 | [],cs,out,h=>by
  simp only[fillT,Option.some.injEq] at h
  subst h; rfl
 | (off,n,c) :: l,cs,out,h=>by
  unfold fillT at h
  obtain⟨hc,h⟩:=cond_some h
  rw[Bool.and_eq_true,beqN,bleN,decide_eq_true_eq,decide_eq_true_eq] at hc
  have ih:=fill_un l _ _ h
  rw[List.map_cons]
  unfold fillL
  dsimp only
  rw[leavesC_un,List.length_map,List.length_map,if_pos hc]
  simpa [List.map_append,List.map_take,List.map_drop] using ih
theorem parts_un {pl:List (Nat × Nat)}:∀ (is:List Nat) (args:List TSl) (l:List (Nat × Nat × TC)),partsT pl is args = some l → partsAt (fun i=>pl[i]?) is (args.map TSl.un) = some (l.map fun x=>(x.1,x.2.1,x.2.2.un))
 | [],[],l,h=>by
  simp only[partsT,Option.some.injEq] at h
  subst h; rfl
 | i :: is,.c c :: args,l,h=>by
  unfold partsT at h
  split at h
  ·rename_i o n l' h1 h2
   simp only[Option.some.injEq] at h
   subst h
   have ih:=parts_un is args l' h2
   show (match pl[i]?,partsAt (fun i=>pl[i]?) is (args.map TSl.un) with | some (o,n),some l=>some ((o,n,c.un) :: l) | _,_=>none) = _
   rw[h1,ih]; rfl
  ·cases h
 | [],_ :: _,l,h=>by cases h
 | _ :: _,[],l,h=>by cases h
 | i :: is,.dead :: args,l,h=>by cases h
 | i :: is,.t _ :: args,l,h=>by cases h
theorem build_ok {t:TypeId} {is:List Nat} {args:List TSl} (h:tBuild P t is args k = some r):Did (opBuild P t is (args.map TSl.un)) k r:=by
 unfold tBuild at h
 split at h
 ·rename_i pl z hp hz
  split at h
  ·rename_i l hl
   split at h
   ·rename_i cs hc
    refine did (c:=True) _ _ h ?_ trivial
    simp only[opBuild,hp,tzero_un hz,parts_un _ _ _ hl,fill_un _ _ _ hc]
    rfl
   ·cases h
  ·cases h
 ·cases h
theorem rows_ok {te:Ty}:∀ (args:List TSl) (k:List te.den → Option ρ),rowsT te args k = some r → ∃ l,k l = some r ∧ rowsOf te.cells (args.map (argU fx cur)) = some (l.map (enc te))
 | [],k,h=>⟨[],h,rfl⟩
 | .c c :: args,k,h=>by
  unfold rowsT at h
  obtain⟨x,h,hp⟩:=packAll_some h
  obtain⟨l,h,ih⟩:=rows_ok args _ h
  refine⟨x :: l,h,?_⟩
  show (match allPV c.un.leaves,rowsOf te.cells (args.map (argU fx cur)) with | some ps,some l=>if ps.length = te.cells then some (ps :: l) else none | _,_=>none) = _
  rw[leavesC_un,hp,allPV_p,ih]
  dsimp only
  rw[if_pos (enc_len te x)]; rfl
 | .dead :: _,k,h=>by cases h
 | .t _ :: _,k,h=>by cases h
theorem leafZ_ok {t:Ty} {l:TL} {k:t.den → Option ρ} (hlf:isLeaf t = true) (h:leafZ t l k = some r):∃ x,k x = some r ∧ ∃ p,enc t x = [p] ∧ toPV l.un = some p:=by
 unfold leafZ at h
 split at h
 ·rename_i t' x
  obtain⟨y,h,he⟩:=asTyU_some h
  obtain⟨p,hp,hu⟩:=enc_leaf hlf y
  refine⟨_,h,p,hp,?_⟩
  show toPV (match enc t' x with | [p]=>.p p | _=>.dead) = some p
  rw[← he,hp]; rfl
 ·obtain⟨y,h,he⟩:=nilT_some h
  exact⟨_,h,_,he,rfl⟩
 ·cases h
theorem allPV0_cons {x:Leaf} {r:List Leaf} {p:PV} {l:List PV} (h:toPV x = some p) (hl:allPV0 r = some l):allPV0 (x :: r) = some (p :: l):=by
 unfold allPV0; rw[h,hl]
theorem allPV0_app:∀ {xs ys:List Leaf} {ps qs:List PV},allPV0 xs = some ps → allPV0 ys = some qs → allPV0 (xs ++ ys) = some (ps ++ qs)
 | [],ys,ps,qs,h,h'=>by simp only[allPV0,Option.some.injEq] at h; subst h; exact h'
 | x :: xs,ys,ps,qs,h,h'=>by
  unfold allPV0 at h
  split at h
  ·rename_i p l hp hl
   simp only[Option.some.injEq] at h
   subst h
   exact allPV0_cons hp (allPV0_app hl h')
  ·cases h
theorem packZ_ok:∀ (t:Ty) (ls:List TL) (k:t.den → List TL → Option ρ),packZ t ls k = some r → ∃ x rest,k x rest = some r ∧ ∃ pre,ls = pre ++ rest ∧ allPV0 (pre.map TL.un) = some (enc t x)
 | .pair a b,ls,k,h=>by
  unfold packZ at h
  obtain⟨x,r1,h1,p1,rfl,e1⟩:=packZ_ok a ls _ h
  obtain⟨y,r2,h2,p2,rfl,e2⟩:=packZ_ok b r1 _ h1
  refine⟨(x,y),r2,h2,p1 ++ p2,by rw[List.append_assoc],?_⟩
  rw[List.map_append]
  exact allPV0_app e1 e2
 | .any,[],k,h=>by cases h
 | .int kd,[],k,h=>by cases h
 | .bool,[],k,h=>by cases h
 | .str,[],k,h=>by cases h
 | .sl e,[],k,h=>by cases h
 | .map kd e,[],k,h=>by cases h
 | .map kd e,l :: ls,k,h=>by obtain⟨x,h2,p,e',hp⟩:=leafZ_ok (t := .map kd e) rfl h; exact⟨x,ls,h2,[l],rfl,by rw[e']; exact allPV0_cons hp rfl⟩
 | .slu i,[],k,h=>by cases h
 | .slu i,l :: ls,k,h=>by obtain⟨x,h2,p,e',hp⟩:=leafZ_ok (t := .slu i) rfl h; exact⟨x,ls,h2,[l],rfl,by rw[e']; exact allPV0_cons hp rfl⟩
 | .any,l :: ls,k,h=>by obtain⟨x,h2,p,e,hp⟩:=leafZ_ok (t := .any) rfl h; exact⟨x,ls,h2,[l],rfl,by rw[e]; exact allPV0_cons hp rfl⟩
 | .int kd,l :: ls,k,h=>by obtain⟨x,h2,p,e,hp⟩:=leafZ_ok (t := .int kd) rfl h; exact⟨x,ls,h2,[l],rfl,by rw[e]; exact allPV0_cons hp rfl⟩
 | .bool,l :: ls,k,h=>by obtain⟨x,h2,p,e,hp⟩:=leafZ_ok (t := .bool) rfl h; exact⟨x,ls,h2,[l],rfl,by rw[e]; exact allPV0_cons hp rfl⟩
 | .str,l :: ls,k,h=>by obtain⟨x,h2,p,e,hp⟩:=leafZ_ok (t := .str) rfl h; exact⟨x,ls,h2,[l],rfl,by rw[e]; exact allPV0_cons hp rfl⟩
 | .sl e,l :: ls,k,h=>by obtain⟨x,h2,p,e',hp⟩:=leafZ_ok (t := .sl e) rfl h; exact⟨x,ls,h2,[l],rfl,by rw[e']; exact allPV0_cons hp rfl⟩
theorem rowsZ_ok {te:Ty}:∀ (args:List TSl) (k:List te.den → Option ρ),rowsZ te args k = some r → ∃ l,k l = some r ∧ rowsOf0 te.cells (args.map TSl.un) = some (l.map (enc te))
 | [],k,h=>⟨[],h,rfl⟩
 | .c c :: args,k,h=>by
  unfold rowsZ packZA at h
  obtain⟨x,rest,h1,pre,hp,e⟩:=packZ_ok te _ _ h
  split at h1
  ·rw[List.append_nil] at hp
   obtain⟨l,h2,ih⟩:=rowsZ_ok args _ h1
   refine⟨x :: l,h2,?_⟩
   show (match allPV0 c.un.leaves,rowsOf0 te.cells (args.map TSl.un) with | some ps,some l=>if ps.length = te.cells then some (ps :: l) else none | _,_=>none) = _
   rw[leavesC_un,hp,e,ih]
   dsimp only
   rw[if_pos (enc_len te x)]; rfl
  ·cases h1
 | .dead :: _,k,h=>by cases h
 | .t _ :: _,k,h=>by cases h
theorem range_ok:∀ (i:Nat) (is:List Nat),isRange i is = true → is = List.range' i is.length
 | _,[],_=>rfl
 | i,x :: is,h=>by
  unfold isRange at h
  rw[Bool.and_eq_true,beqN,decide_eq_true_eq] at h
  obtain⟨rfl,h⟩:=h
  have:=range_ok _ is h
  rw[List.length_cons,List.range'_succ,← this]
theorem buildSlice_ok {t:TypeId} {len:Nat} {is:List Nat} {d:Option Nat} {args:List TSl} (h:tBuildSlice P H fx cur t len is d args k = some r):Did (opBuildSlice P t len is d (isFree (un2 fx cur).hp d) (args.map (argU fx cur))) k r:=by
 unfold tBuildSlice at h
 split at h
 ·rename_i e z d te he hh
  obtain⟨hc,h⟩:=cond_some h
  simp only[Bool.and_eq_true,beqN,bleN,decide_eq_true_eq] at hc
  obtain⟨⟨⟨⟨⟨h1,h2⟩,h3⟩,h4⟩,h5⟩,h6⟩:=hc
  obtain⟨l,h,hl⟩:=rows_ok (fx:=fx) (cur:=cur) args _ h
  refine did (c:=True) _ _ h ?_ trivial
  have hr:is = List.range len:=by rw[range_ok 0 is h1,h2,List.range_eq_range']
  simp only[opBuildSlice,he]
  rw[if_pos ⟨hr,freeT_un h3,h4,h5⟩,h6,hl]; rfl
 ·cases h
theorem litT_ok:∀ {args:List TSl} {cs:List TL},litT args = some cs → litRows (args.map TSl.un) = some (cs.map TL.un)
 | [],cs,h=>by
  simp only[litT,Option.some.injEq] at h
  subst h; rfl
 | x :: args,cs,h=>by
  unfold litT at h
  split at h
  ·rename_i heq; cases heq
  ·rename_i y r heq
   injection heq with h1 h2
   subst h1 h2
   split at h
   ·rename_i l hl
    simp only[Option.some.injEq] at h
    subst h
    show (match litRows (args.map TSl.un) with | some l=>some (y.un :: l) | none=>none) = _
    rw[litT_ok hl]; rfl
   ·cases h
  ·cases h
theorem buildLit_ok {t:TypeId} {len:Nat} {is:List Nat} {d:Option Nat} {args:List TSl} (h:tBuildLit P fx cur t len is d args k = some r):Did (opBuildLit P t len is d (isFree (un2 fx cur).hp d) (args.map TSl.un)) k r:=by
 unfold tBuildLit at h
 split at h
 ·rename_i e z d cs he hl
  obtain⟨hc,h⟩:=cond_some h
  simp only[Bool.and_eq_true,beqN,bleN,decide_eq_true_eq] at hc
  obtain⟨⟨⟨⟨h1,h2⟩,h3⟩,h4⟩,h5⟩:=hc
  refine did (c:=True) _ _ h ?_ trivial
  have hr:is = List.range len:=by rw[range_ok 0 is h1,h2,List.range_eq_range']
  simp only[opBuildLit,he]
  rw[if_pos ⟨hr,freeT_un h3,h4,h5⟩,litT_ok hl]; rfl
 ·cases h
theorem buildSl_ok {t:TypeId} {len:Nat} {is:List Nat} {d:Option Nat} {args:List TSl} (h:tBuildSl P H fx cur t len is d args k = some r):(opBuildSlice P t len is d (isFree (un2 fx cur).hp d) (args.map (argU fx cur)) = none ∧ Did (opBuildLit P t len is d (isFree (un2 fx cur).hp d) (args.map TSl.un)) k r) ∨ Did (opBuildSlice P t len is d (isFree (un2 fx cur).hp d) (args.map (argU fx cur))) k r:=by
 unfold tBuildSl at h
 cases ho:args.any ownRow with
 | false=>rw[ho,cond_false] at h; exact .inr (buildSlice_ok h)
 | true =>
  rw[ho,cond_true] at h
  refine .inl ⟨?_,buildLit_ok h⟩
  unfold opBuildSlice
  split
  ·rename_i e z d he
   split
   ·have:∀ {args:List TSl},args.any ownRow = true → rowsOf z (args.map (argU fx cur)) = none:=by
     intro args
     induction args with
     | nil=>intro h; cases h
     | cons x args ih =>
      intro h
      rw[List.any_cons,Bool.or_eq_true] at h
      rw[List.map_cons]
      rcases h with h | h
      ·unfold ownRow at h
       split at h
       ·rename_i y
        cases y <;> first | (cases h; done) | skip
        simp [rowsOf,argU,allPV,TSl.un,TC.un,TL.un,Cmp.leaves]
       ·cases h
      ·have:=ih h
       unfold rowsOf
       split
       ·rename_i heq; cases heq
       ·rename_i heq
        injection heq with h1 h2
        subst h2
        rw[this]
        split <;> simp_all
       ·rfl
    rw[this ho]
   ·rfl
  ·rfl
theorem buildZ_ok {tl:Bool} {t:TypeId} {len:Nat} {is:List Nat} {args:List TSl} (h:tBuildZ P H tl t len is args k = some r):Did (opBuildZ P tl t len is (args.map TSl.un)) k r:=by
 unfold tBuildZ at h
 split at h
 ·rename_i e z te he hh
  obtain⟨hc,h⟩:=cond_some h
  simp only[Bool.and_eq_true,beqN,bleN,decide_eq_true_eq] at hc
  obtain⟨⟨⟨⟨h1,h2⟩,h4⟩,h5⟩,h6⟩:=hc
  obtain⟨l,h,hl⟩:=rowsZ_ok args _ h
  refine did (c:=True) _ _ h ?_ trivial
  have hr:is = List.range len:=by rw[range_ok 0 is h1,h2,List.range_eq_range']
  simp only[opBuildZ,he]
  rw[if_pos ⟨hr,h4,h5⟩,h6,hl]
  cases tl <;> rfl
 ·cases h
theorem clipN_some {n:Nat} {j m:Int} {u:Unit} (h:clipN n j m = some u):j = n ∧ m = n:=by
 unfold clipN at h
 obtain⟨hc,_⟩:=cond_some h
 rw[Bool.and_eq_true,eqZ_eq,eqZ_eq,decide_eq_true_eq,decide_eq_true_eq] at hc
 exact hc
theorem sl3_ok {t:TypeId} {x j m:TSl} (h:tSl3 P t x j m k = some r):Did (opSl3 P t [x.un,j.un,m.un]) k r:=by
 unfold tSl3 at h
 split at h
 ·rename_i e z t' l kd j kd2 m he
  obtain⟨j,rfl⟩:∃ q:Int,q = j:=⟨j,rfl⟩
  obtain⟨m,rfl⟩:∃ q:Int,q = m:=⟨m,rfl⟩
  obtain⟨hz,h⟩:=cond_some h
  rw[beqN,decide_eq_true_eq] at hz
  obtain⟨u,hu,h⟩:=bind_some h
  obtain⟨hj,hm⟩:=clipN_some hu
  refine did (c:=j = (l.map (enc t')).length ∧ m = (l.map (enc t')).length ∧ ∀ x ∈ l.map (enc t'),x.length = z) _ _ h ?_ ⟨hj.trans (congrArg Int.ofNat (List.length_map (f:=enc t') (as:=l)).symm),hm.trans (congrArg Int.ofNat (List.length_map (f:=enc t') (as:=l)).symm),fun x hx=>?_⟩
  ·show opSl3 P t [.c (.v (.p (.sl (l.map (enc t'))))),.c (.v (.p (.int _ j))),.c (.v (.p (.int _ m)))] = _
   simp only[opSl3,he]; rfl
  ·obtain⟨y,_,rfl⟩:=List.mem_map.1 hx
   rw[enc_len,hz]
 ·cases h
theorem len_ok {t:TypeId} {x:TSl} (h:tLen P fx cur t x k = some r):Did (opLen P t [argU fx cur x]) k r:=by
 unfold tLen at h
 split at h
 ·rename_i kt et hu
  split at h
  ·rename_i o
   split at h
   ·rename_i kd agg te m ho
    obtain⟨u,hn,h⟩:=bind_some h
    have hn:=need_some hn
    refine did (c:=(encM id (enc te) m).length ≤ 9223372036854775807) _ _ h ?_ (by rw[encM_len]; exact hn)
    show opLen P t [(.c (.v (.mp o)),[(un2 fx cur).hp o])] = _
    rw[hp_some ho]
    simp only[opLen,TObj.un,hu,encM_len]; rfl
   ·rename_i kd agg te m ho
    obtain⟨u,hn,h⟩:=bind_some h
    have hn:=need_some hn
    refine did (c:=(encM mkQ (enc te) m).length ≤ 9223372036854775807) _ _ h ?_ (by rw[encM_len]; exact hn)
    show opLen P t [(.c (.v (.mp o)),[(un2 fx cur).hp o])] = _
    rw[hp_some ho]
    simp only[opLen,TObj.un,hu,encM_len]; rfl
   ·rename_i agg te m ho
    obtain⟨u,hn,h⟩:=bind_some h
    have hn:=need_some hn
    refine did (c:=(encM mkS (enc te) m).length ≤ 9223372036854775807) _ _ h ?_ (by rw[encM_len]; exact hn)
    show opLen P t [(.c (.v (.mp o)),[(un2 fx cur).hp o])] = _
    rw[hp_some ho]
    simp only[opLen,TObj.un,hu,encM_len]; rfl
   ·cases h
  ·cases h
 ·rename_i hu
  split at h
  ·rename_i s
   refine did (c:=True) _ _ h ?_ trivial
   show opLen P t [(.c (.v (.p (.str (mkS s)))),_)] = _
   simp only[opLen,hu,mkS_size]; rfl
  ·cases h
 ·rename_i e hu
  obtain⟨t',l,h,hl⟩:=asList_ok h
  refine did (c:=True) _ _ h ?_ trivial
  have:∀ a:Arg,asList a = some (l.map (enc t')) → opLen P t [a] = some ⟨True,.p (.int .i64 l.length),[]⟩:=by
   intro a ha
   unfold opLen
   split
   ·rename_i heq; simp only[List.cons.injEq,and_true] at heq; subst heq; simp [asList] at ha
   ·rename_i heq; simp only[List.cons.injEq,and_true] at heq; subst heq; simp [asList] at ha
   ·rename_i heq; simp only[List.cons.injEq,and_true] at heq; subst heq; simp [asList] at ha
   ·rename_i heq; simp only[List.cons.injEq,and_true] at heq; subst heq; simp [asList] at ha
   ·rename_i a' _ _ _ heq
    simp only[List.cons.injEq,and_true] at heq
    subst heq
    rw[hu]; simp only[ha,List.length_map]; rfl
   ·rename_i hno; exact absurd rfl (hno a)
  exact this _ hl
 ·cases h
theorem append_ok {t:TypeId} {d:Option Nat} {x y:TSl} (h:tAppend P H fx cur t d x y k = some r):Did (opAppend P t d (isFree (un2 fx cur).hp d) [argU fx cur x,argU fx cur y]) k r:=by
 unfold tAppend at h
 split at h
 ·rename_i e z d he
  obtain⟨hf0,h0⟩:=cond_some h
  clear h
  have hf:=freeT_un hf0
  clear hf0
  have h:=h0
  clear h0
  split at h
  ·rename_i o
   split at h
   ·rename_i e' t' l ho
    obtain⟨hc,h1⟩:=cond_some h
    rw[Bool.and_eq_true,beqN,beqN,decide_eq_true_eq,decide_eq_true_eq] at hc
    obtain⟨he2,hz⟩:=hc
    subst he2
    obtain⟨t2,m,h2,hm⟩:=asList_ok h1
    obtain⟨et,h3⟩:=asSl_some h2
    subst et
    obtain⟨s,hs,h4⟩:=bind_some h3
    obtain⟨hs1,hl⟩:=app_some hs
    subst hs1
    have h:=h4
    refine did (c:=(l.map (enc t2)).length + (m.map (enc t2)).length ≤ 2147483647 ∧ ∀ x ∈ m.map (enc t2),x.length = t2.cells) _ _ h ?_ ⟨by simpa using hl,rows_cells _ _⟩
    show opAppend P t (some d) _ [(.c (.v (.own o)),[(un2 fx cur).hp o]),argU fx cur y] = _
    rw[hp_some ho]
    simp only[opAppend,TObj.un,he,hm]
    rw[if_pos ⟨trivial,hz.symm,hf⟩]
    simp only[unHp,List.map_cons,List.map_nil,TObj.un,TSl.un,TC.un,TL.un,List.map_append]
   ·cases h
  ·split at h
   ·rename_i te hh
    obtain⟨hz,h⟩:=cond_some h
    rw[beqN,decide_eq_true_eq] at hz
    obtain⟨t2,m,h2,hm⟩:=asList_ok h
    obtain⟨et,h3⟩:=asSl_some h2
    subst et
    obtain⟨s,hs,h4⟩:=bind_some h3
    obtain⟨hs1,hl⟩:=app_some hs
    subst hs1
    have h:=h4
    refine did (c:=(m.map (enc t2)).length ≤ 2147483647 ∧ ∀ x ∈ m.map (enc t2),x.length = z) _ _ h ?_ ⟨by simpa using hl,by rw[hz]; exact rows_cells _ _⟩
    show opAppend P t (some d) _ [(.c (.v .nil),[]),argU fx cur y] = _
    simp only[opAppend,he,hm]
    rw[if_pos hf]
    simp only[unHp,List.map_cons,List.map_nil,TObj.un,TSl.un,TC.un,TL.un,List.nil_append,hz]
   ·cases h
  ·cases h
 ·cases h
theorem bnds_ok {hl hh:Bool} {n:Nat}:∀ {as:List TSl} {q:Int × Int},bndsT hl hh n as = some q → bnds hl hh n (as.map (argU fx cur)) = some q:=by
 intro as q h
 unfold bndsT at h
 split at h <;> first | (cases h; done) | (simp only[Option.some.injEq] at h; subst h; rfl)
theorem slice_ok {t:TypeId} {hl hh:Bool} {x:TSl} {as:List TSl} (h:tSlice P fx cur t hl hh x as k = some r):Did (opSlice P t hl hh (argU fx cur x :: as.map (argU fx cur))) k r:=by
 unfold tSlice at h
 split at h
 ·rename_i s
  obtain⟨s,rfl⟩:∃ m:Bs,m = s:=⟨s,rfl⟩
  split at h
  ·rename_i i j hu hb
   obtain⟨m,hm,h⟩:=bind_some h
   obtain⟨c1,c2,c3,c4,c5⟩:=cut_some hm
   refine did (c:=0 ≤ i ∧ i ≤ j ∧ j ≤ (mkS s).size) _ _ h ?_ ⟨c2,c3,by rw[mkS_size]; exact c4⟩
   show opSlice P t hl hh ((.c (.v (.p (.str (mkS s)))),_) :: as.map (argU fx cur)) = _
   simp only[opSlice,hu]
   rw[mkS_size,bnds_ok hb]
   simp only[valIf,mkS_extract,c1]; rfl
  ·cases h
 ·rename_i t' l
  obtain⟨l,rfl⟩:∃ m:List t'.den,m = l:=⟨l,rfl⟩
  split at h
  ·rename_i e z i j he hb
   obtain⟨hz,h⟩:=cond_some h
   rw[beqN,decide_eq_true_eq] at hz
   obtain⟨m,hm,h⟩:=bind_some h
   obtain⟨c1,c2,c3,c4,c5⟩:=cut_some hm
   refine did (c:=0 ≤ i ∧ i ≤ j ∧ j ≤ ((l.map (enc t')).length:Int) ∧ ∀ x ∈ l.map (enc t'),x.length = z) _ _ h ?_ ⟨c2,c3,by simpa using c4,by rw[hz]; exact rows_cells _ _⟩
   show opSlice P t hl hh ((.c (.v (.p (.sl (l.map (enc t'))))),_) :: as.map (argU fx cur)) = _
   simp only[opSlice,he]
   rw[show bnds hl hh (l.map (enc t')).length (as.map (argU fx cur)) = some (i,j) by rw[List.length_map]; exact bnds_ok hb]
   simp only[valIf,← c1,TSl.un,TC.un,TL.un,enc,List.map_drop,List.map_take]; rfl
  ·cases h
 ·split at h
  ·rename_i q i j he hb
   obtain⟨u,hn,h⟩:=bind_some h
   have hn:=need_some hn
   refine did (c:=i = 0 ∧ j = 0) _ _ h ?_ hn
   obtain⟨q1,q2⟩:=q
   show opSlice P t hl hh ((.c (.v .nil),_) :: as.map (argU fx cur)) = _
   simp only[opSlice,he]
   rw[bnds_ok hb]; rfl
  ·cases h
 ·rename_i o
  split at h
  ·rename_i e' t' l ho
   split at h
   ·rename_i e z i j he hb
    obtain⟨hz,h⟩:=cond_some h
    rw[beqN,decide_eq_true_eq] at hz
    obtain⟨m,hm,h⟩:=bind_some h
    obtain⟨c1,c2,c3,c4,c5⟩:=cut_some hm
    refine did (c:=0 ≤ i ∧ i ≤ j ∧ j ≤ ((l.map (enc t')).length:Int)) _ _ h ?_ ⟨c2,c3,by simpa using c4⟩
    show opSlice P t hl hh ((.c (.v (.own o)),[(un2 fx cur).hp o]) :: as.map (argU fx cur)) = _
    rw[hp_some ho]
    simp only[opSlice,TObj.un,he]
    rw[show bnds hl hh (l.map (enc t')).length (as.map (argU fx cur)) = some (i,j) by rw[List.length_map]; exact bnds_ok hb]
    simp only[hz,if_true,valIf]; rfl
   ·cases h
  ·cases h
 ·cases h
theorem box_ok {t:TypeId} {d:Option Nat} {x:TSl} (h:tBox P fx cur t d x k = some r):Did (opBox P t d (isFree (un2 fx cur).hp d) [x.un]) k r:=by
 unfold tBox at h
 split at h
 ·rename_i d n c hn
  obtain⟨hc,h⟩:=cond_some h
  rw[Bool.and_eq_true,beqN,decide_eq_true_eq] at hc
  refine did (c:=True) _ _ h ?_ trivial
  show opBox P t (some d) _ [.c c.un] = _
  simp only[opBox,hn,leavesC_un,List.length_map]
  rw[if_pos ⟨freeT_un hc.1,hc.2⟩]; rfl
 ·cases h
theorem minmax_ok {mx:Bool} {x y:TSl} (h:tMinMax mx x y k = some r):Did (opMinMax mx [x.un,y.un]) k r:=by
 unfold tMinMax at h
 split at h
 ·rename_i kd a kd' b
  split at h
  ·rename_i hk _
   refine did (c:=True) _ _ h ?_ trivial
   show (if kd = kd' then val (.p (.int kd (if mx then max a b else min a b))) else none) = _
   rw[if_pos hk.down]
   cases mx <;> rfl
  ·cases h
 ·cases h
theorem enc_flat:∀ (t:Ty) (x:t.den),t.flatB = true → ∀ p ∈ enc t x,p.flat = true
 | .any,x,_,p,hp=>by simp only[enc,List.mem_singleton] at hp; subst hp; rfl
 | .int _,x,_,p,hp=>by simp only[enc,List.mem_singleton] at hp; subst hp; rfl
 | .bool,x,_,p,hp=>by simp only[enc,List.mem_singleton] at hp; subst hp; rfl
 | .str,x,_,p,hp=>by simp only[enc,List.mem_singleton] at hp; subst hp; rfl
 | .sl _,x,h,_,_=>by cases h
 | .pair a b,x,h,p,hp=>by
  unfold Ty.flatB at h
  rw[Bool.and_eq_true] at h
  unfold enc at hp
  rcases List.mem_append.1 hp with hp | hp
  ·exact enc_flat a _ h.1 p hp
  ·exact enc_flat b _ h.2 p hp
theorem cmpRow_ok {c:TC} {te:Ty} {y:te.den} (hp:c.leaves.map TL.un = (enc te y).map Leaf.p):cmpRow c.un = some (c.isAgg,enc te y):=by
 cases c with
 | v l =>
  simp only[TC.leaves,List.map_cons,List.map_nil] at hp
  cases he:enc te y with
  | nil=>rw[he] at hp; cases hp
  | cons p ps =>
   rw[he,List.map_cons] at hp
   injection hp with h1 h2
   have:ps = []:=by cases ps with | nil=>rfl | cons _ _=>cases h2
   subst this
   simp only[TC.un,h1]; rfl
 | g ls =>
  simp only[TC.leaves] at hp
  show ((allPV (ls.map TL.un)).map fun ps=>(true,ps)) = _
  rw[hp,allPV_p]; rfl
theorem zeroT_ok {et:TypeId} {agg:Bool} {zl:List TL} {te:Ty} {z:te.den} (h:tyZeroT P et = some (agg,zl)) (hp:zl.map TL.un = (enc te z).map Leaf.p) (hf:te.flatB = true):tyZero P et = some (agg,enc te z):=by
 unfold tyZeroT at h
 unfold tyZero
 split at h
 ·rename_i i hi
  rw[hi]
  dsimp only
  split at h
  ·rename_i v hv
   rw[hv]
   dsimp only
   split at h
   ·rename_i c hc
    simp only[Option.some.injEq,Prod.mk.injEq] at h
    obtain⟨h1,rfl⟩:=h
    rw[← const_un,hc]
    show (match cmpRow c.un with | some (agg,ps)=>if ps.all PV.flat then some (agg,ps) else none | none=>none) = _
    rw[cmpRow_ok hp]
    dsimp only
    rw[if_pos (List.all_eq_true.2 (enc_flat te z hf))]
    have:c.isAgg = agg:=by rw[← h1]; cases c <;> rfl
    rw[this]
   ·cases h
  ·cases h
 ·cases h
theorem allPV0_eq:∀ (xs:List Leaf) (ps:List PV),allPV0 xs = some ps → allPV (xs.map Leaf.deNil) = some ps
 | [],ps,h=>h
 | x :: xs,ps,h=>by
  unfold allPV0 at h
  split at h
  ·rename_i p qs hp hq
   injection h with h
   subst h
   have e:x.deNil = .p p:=by
    unfold toPV at hp
    split at hp
    ·injection hp with hp; subst hp; rfl
    ·injection hp with hp; subst hp; rfl
    ·cases hp
   rw[List.map_cons,e]
   unfold allPV
   rw[allPV0_eq xs qs hq]; rfl
  ·cases h
theorem packZA_some {t:Ty} {ls:List TL} {k:t.den → Option ρ} (h:packZA t ls k = some r):∃ x,k x = some r ∧ allPV0 (ls.map TL.un) = some (enc t x):=by
 unfold packZA at h
 obtain⟨x,rest,h2,pre,rfl,e⟩:=packZ_ok t ls _ h
 split at h2
 ·exact⟨x,h2,by rw[List.append_nil]; exact e⟩
 ·cases h2
theorem cmpRowN_ok {c:TC} {te:Ty} {y:te.den} (hp:allPV0 (c.leaves.map TL.un) = some (enc te y)):cmpRow c.un.deNil = some (c.isAgg,enc te y):=by
 have h:=allPV0_eq _ _ hp
 cases c with
 | v l =>
  simp only[TC.leaves,List.map_cons,List.map_nil] at h
  show cmpRow (.v l.un.deNil) = _
  cases hl:l.un.deNil with
  | p p =>
   rw[hl] at h
   have h:some [p] = some (enc te y):=h
   injection h with h
   rw[← h]; rfl
  | _=>rw[hl] at h; cases h
 | g ls =>
  simp only[TC.leaves] at h
  show ((allPV ((ls.map TL.un).map Leaf.deNil)).map fun ps=>(true,ps)) = _
  rw[h]; rfl
theorem zeroS_ok {et:TypeId} {agg:Bool} {zl:List TL} {te:Ty} {z:te.den} (h:tyZeroT P et = some (agg,zl)) (hp:allPV0 (zl.map TL.un) = some (enc te z)):tyZeroS P et = some (agg,enc te z):=by
 unfold tyZeroT at h
 unfold tyZeroS
 split at h
 ·rename_i i hi
  rw[hi]
  dsimp only
  split at h
  ·rename_i v hv
   rw[hv]
   dsimp only
   split at h
   ·rename_i c hc
    simp only[Option.some.injEq,Prod.mk.injEq] at h
    obtain⟨h1,rfl⟩:=h
    rw[← const_un,hc]
    show cmpRow c.un.deNil = _
    rw[cmpRowN_ok hp]
    have:c.isAgg = agg:=by rw[← h1]; cases c <;> rfl
    rw[this]
   ·cases h
  ·cases h
 ·cases h
theorem makeMap_ok {t:TypeId} {d:Option Nat} (h:tMakeMap P H fx cur t d k = some r):Did (opMakeMap P t d (isFree (un2 fx cur).hp d) []) k r:=by
 unfold tMakeMap at h
 split at h
 ·rename_i kt et d te hu hh
  split at h
  ·rename_i kd agg z hk hz
   obtain⟨hc,h⟩:=cond_some h
   rw[Bool.and_eq_true] at hc
   obtain⟨x,h,hp⟩:=packAll_some h
   refine did (c:=True) _ _ h ?_ trivial
   simp only[opMakeMap,hu,hk,zeroT_ok hz hp hc.2]
   rw[if_pos (freeT_un hc.1)]; rfl
  ·rename_i agg z hk hz
   obtain⟨hc,h⟩:=cond_some h
   obtain⟨x,h,hp⟩:=packZA_some h
   refine did (c:=True) _ _ h ?_ trivial
   simp only[opMakeMap,hu,hk,zeroS_ok hz hp]
   rw[if_pos (freeT_un hc)]; rfl
  ·rename_i fs agg z hk hz
   split at h
   ·rename_i kd hq
    obtain⟨hc,h⟩:=cond_some h
    rw[Bool.and_eq_true] at hc
    obtain⟨x,h,hp⟩:=packAll_some h
    refine did (c:=True) _ _ h ?_ trivial
    simp only[opMakeMap,hu,hk,zeroT_ok hz hp hc.2,hq]
    rw[if_pos (freeT_un hc.1)]; rfl
   ·cases h
  ·cases h
 ·cases h
theorem rowC_ok (agg:Bool) (te:Ty) (y:te.den):(rowC agg (leavesT te y)).un = rowCmp agg (enc te y):=by
 have:=leaves_un te y
 cases agg with
 | true=>show Cmp.g ((leavesT te y).map TL.un) = .g _; rw[this]
 | false =>
  show Cmp.v (TL.un (match leavesT te y with | x :: _=>x | []=>.dead)) = .v (.p ((enc te y).headD (.bool false)))
  cases hl:leavesT te y with
  | nil =>
   have h1:=leaves_len te y
   rw[hl] at h1
   have h2:∀ t:Ty,0 < t.cells:=fun t=>by induction t <;> simp [Ty.cells] <;> omega
   have:=h2 te
   simp at h1; omega
  | cons l ls =>
   rw[hl,List.map_cons] at this
   cases he:enc te y with
   | nil=>rw[he] at this; cases this
   | cons p ps =>
    rw[he,List.map_cons] at this
    injection this with h1 h2
    dsimp only
    rw[h1]; rfl
theorem found_ok {ok agg:Bool} {te:Ty} {q:Option te.den} {z:te.den} (h:foundT ok agg te q z k = some r):Did (val (foundCmp ok agg (q.map (enc te)) (enc te z))) k r:=by
 have hg:(q.map (enc te)).getD (enc te z) = enc te (q.getD z):=by cases q <;> rfl
 have hs:(q.map (enc te)).isSome = q.isSome:=by cases q <;> rfl
 unfold foundT at h
 cases ok with
 | true =>
  refine did (c:=True) _ _ h ?_ trivial
  simp only[foundCmp,if_true,val,hg,hs,TSl.un,List.map_cons,List.map_nil,rowC_ok]; rfl
 | false =>
  refine did (c:=True) _ _ h ?_ trivial
  simp only[foundCmp,Bool.false_eq_true,if_false,val,hg,hs,TSl.un,rowC_ok]; rfl
theorem lookup_ok {t:TypeId} {ok:Bool} {m x:TSl} (h:tLookup P fx cur t ok m x k = some r):Did (opLookup P t ok [argU fx cur m,argU fx cur x]) k r:=by
 unfold tLookup at h
 split at h
 ·rename_i kt et o hu
  split at h
  ·rename_i kd agg2 z hk hz
   split at h
   ·rename_i kd2 agg te m kd3 n ho
    obtain⟨n,rfl⟩:∃ q:Int,q = n:=⟨n,rfl⟩
    split at h
    ·split at h
     ·rename_i kd h1 h2 _ _
      obtain⟨ha,h7⟩:=cond_some h
      obtain⟨z0,h8,hp⟩:=packAll_some h7
      rw[Bool.and_eq_true,beq_iff_eq] at ha
      obtain⟨ha,hf⟩:=ha
      have hq:=found_ok h8
      have e1:=h1.down
      have e2:=h2.down
      subst e1 e2 ha
      rw[← lookN] at hq
      show Did (opLookup P t ok [(.c (.v (.mp o)),[(un2 fx cur).hp o]),(.c (.v (.p (.int _ n))),_)]) k r
      rw[hp_some ho]
      simp only[opLookup,TObj.un,hu,hk,zeroT_ok hz hp hf]
      rw[if_pos (by simp)]
      exact hq
     ·cases h
    ·cases h
   ·rename_i agg te m s ho
    obtain⟨s,rfl⟩:∃ q:Bs,q = s:=⟨s,rfl⟩
    split at h
    ·obtain⟨ha,h⟩:=cond_some h
     obtain⟨z0,h,hp⟩:=packZA_some h
     rw[beq_iff_eq] at ha
     have hq:=found_ok h
     subst ha
     rw[← lookS] at hq
     show Did (opLookup P t ok [(.c (.v (.mp o)),[(un2 fx cur).hp o]),(.c (.v (.p (.str (mkS s)))),_)]) k r
     rw[hp_some ho]
     simp only[opLookup,TObj.un,hu,hk,zeroS_ok hz hp]
     rw[if_pos (by simp)]
     exact hq
    ·cases h
   ·rename_i kd2 agg te m kd3 n s ho
    obtain⟨n,rfl⟩:∃ q:Int,q = n:=⟨n,rfl⟩
    obtain⟨s,rfl⟩:∃ q:Int,q = s:=⟨s,rfl⟩
    split at h
    ·rename_i kd hq0
     split at h
     ·rename_i h1 h2 _ _
      obtain⟨ha,h7⟩:=cond_some h
      obtain⟨z0,h8,hp⟩:=packAll_some h7
      rw[Bool.and_eq_true,beq_iff_eq] at ha
      obtain⟨ha,hf⟩:=ha
      have hq:=found_ok h8
      have e1:=h1.down
      have e2:=h2.down
      subst e1 e2 ha
      rw[← lookQ] at hq
      show Did (opLookup P t ok [(.c (.v (.mp o)),[(un2 fx cur).hp o]),(.c (.g [.p (.int _ n),.p (.int .i64 s)]),_)]) k r
      rw[hp_some ho]
      simp only[opLookup,TObj.un,hu,hq0,zeroT_ok hz hp hf]
      rw[if_pos (by simp)]
      exact hq
     ·cases h
    ·cases h
   ·cases h
  ·cases h
 ·cases h
theorem look0_ok {t:TypeId} {ok:Bool} {m x:TSl} (hm:m = .c (.v (.oth (.map none)))) (h:tLook0 P H t ok x k = some r):Did (opLookup P t ok [argU fx cur m,argU fx cur x]) k r:=by
 subst hm
 unfold tLook0 at h
 split at h
 ·rename_i kt et te hu hh
  split at h
  ·rename_i agg z hk hz
   split at h
   ·rename_i s
    obtain⟨s,rfl⟩:∃ q:Bs,q = s:=⟨s,rfl⟩
    obtain⟨z0,h,hp⟩:=packZA_some h
    have hq:=found_ok h
    show Did (opLookup P t ok [(.c (.v (.p (.oth (.map none)))),_),(.c (.v (.p (.str (mkS s)))),_)]) k r
    simp only[opLookup,hu,hk,zeroS_ok hz hp]
    exact hq
   ·cases h
  ·cases h
 ·cases h
theorem mapUpdate_ok {t:TypeId} {m x v:TSl} (h:tMapUpdate P fx cur t m x v k = some r):Did (opMapUpdate P t [argU fx cur m,argU fx cur x,argU fx cur v]) k r:=by
 unfold tMapUpdate at h
 split at h
 ·rename_i kt et o c hu
  split at h
  ·rename_i kd hk
   split at h
   ·rename_i kd2 agg te m kd3 n ho
    obtain⟨n,rfl⟩:∃ q:Int,q = n:=⟨n,rfl⟩
    split at h
    ·split at h
     ·rename_i kd h1 h2 _ _
      obtain⟨ha,h⟩:=cond_some h
      obtain⟨y,h,hp⟩:=packAll_some h
      rw[Bool.and_eq_true,beq_iff_eq] at ha
      obtain⟨ha,hf⟩:=ha
      have e1:=h1.down
      have e2:=h2.down
      subst e1 e2 ha
      refine did (c := ∀ p ∈ enc te y,p.flat = true) _ _ h ?_ (enc_flat te y hf)
      show opMapUpdate P t [(.c (.v (.mp o)),[(un2 fx cur).hp o]),(.c (.v (.p (.int _ n))),_),(.c c.un,_)] = _
      rw[hp_some ho]
      simp only[opMapUpdate,TObj.un,hu,hk,cmpRow_ok hp]
      rw[if_pos (by simp),putN]; rfl
     ·cases h
    ·cases h
   ·rename_i agg te m s ho
    obtain⟨s,rfl⟩:∃ q:Bs,q = s:=⟨s,rfl⟩
    split at h
    ·obtain⟨ha,h⟩:=cond_some h
     obtain⟨y,h,hp⟩:=packAll_some h
     rw[beq_iff_eq] at ha
     subst ha
     refine did (c:=True) _ _ h ?_ trivial
     show opMapUpdate P t [(.c (.v (.mp o)),[(un2 fx cur).hp o]),(.c (.v (.p (.str (mkS s)))),_),(.c c.un,_)] = _
     rw[hp_some ho]
     simp only[opMapUpdate,TObj.un,hu,hk,cmpRow_ok hp]
     rw[if_pos (by simp),putS]; rfl
    ·cases h
   ·rename_i kd2 agg te m kd3 n s ho
    obtain⟨n,rfl⟩:∃ q:Int,q = n:=⟨n,rfl⟩
    obtain⟨s,rfl⟩:∃ q:Int,q = s:=⟨s,rfl⟩
    split at h
    ·rename_i kd hq0
     split at h
     ·rename_i h1 h2 _ _
      obtain⟨ha,h⟩:=cond_some h
      obtain⟨y,h,hp⟩:=packAll_some h
      rw[Bool.and_eq_true,beq_iff_eq] at ha
      obtain⟨ha,hf⟩:=ha
      have e1:=h1.down
      have e2:=h2.down
      subst e1 e2 ha
      refine did (c := ∀ p ∈ enc te y,p.flat = true) _ _ h ?_ (enc_flat te y hf)
      show opMapUpdate P t [(.c (.v (.mp o)),[(un2 fx cur).hp o]),(.c (.g [.p (.int _ n),.p (.int .i64 s)]),_),(.c c.un,_)] = _
      rw[hp_some ho]
      simp only[opMapUpdate,TObj.un,hu,hq0,cmpRow_ok hp]
      rw[if_pos (by simp),show (n,s) = mkQ (n,s) from rfl,putQ]; rfl
     ·cases h
    ·cases h
   ·cases h
  ·cases h
 ·cases h
theorem msNeed_some {n m:Int} {u:Unit} (h:msNeed n m = some u):0 ≤ n ∧ n = m ∧ n ≤ 4294967296:=need_some h
theorem makeSlice_ok {t:TypeId} {d:Option Nat} {x y:TSl} (h:tMakeSlice P H fx cur t d x y k = some r):Did (opMakeSlice P t d (isFree (un2 fx cur).hp d) [x.un,y.un]) k r:=by
 unfold tMakeSlice at h
 split at h
 ·rename_i e z d te he hh
  split at h
  ·rename_i q zl kd n kd2 m hz
   obtain⟨n,rfl⟩:∃ q:Int,q = n:=⟨n,rfl⟩
   obtain⟨m,rfl⟩:∃ q:Int,q = m:=⟨m,rfl⟩
   obtain⟨hc,h⟩:=cond_some h
   simp only[Bool.and_eq_true,beqN,decide_eq_true_eq] at hc
   obtain⟨⟨h1,h2⟩,h3⟩:=hc
   obtain⟨z0,h,hp⟩:=packAll_some h
   obtain⟨u,hu,h⟩:=bind_some h
   refine did (c:=0 ≤ n ∧ n = m ∧ n ≤ 4294967296) _ _ h ?_ (msNeed_some hu)
   show opMakeSlice P t (some d) _ [.c (.v (.p (.int _ n))),.c (.v (.p (.int _ m)))] = _
   simp only[opMakeSlice,he,zeroT_ok hz hp h2]
   rw[if_pos ⟨freeT_un h1,by rw[enc_len,h3]⟩]
   simp only[unHp,List.map_cons,List.map_nil,TObj.un,TSl.un,TC.un,TL.un,repT,List.map_replicate,h3]
  ·cases h
 ·cases h
theorem appI_ok {t t':TypeId} {d:Option Nat} {x y:TSl} (h:tAppI P H fx cur t t' d x y k = some r):Did (opAppI P t t' d (isFree (un2 fx cur).hp d) [argU fx cur x,argU fx cur y]) k r:=by
 unfold tAppI at h
 split at h
 ·rename_i e z d te he hh
  split at h
  ·rename_i k2 q zl kd n hu hz
   obtain⟨n,rfl⟩:∃ q:Int,q = n:=⟨n,rfl⟩
   obtain⟨hc,h⟩:=cond_some h
   simp only[Bool.and_eq_true,beqN,decide_eq_true_eq] at hc
   obtain⟨⟨h1,h2⟩,h3⟩:=hc
   obtain⟨z0,h,hp⟩:=packAll_some h
   obtain⟨u,hu2,h⟩:=bind_some h
   refine did (c:=1 ≤ n ∧ n ≤ 2147483647) _ _ h ?_ (need_some hu2)
   show opAppI P t t' (some d) _ [(.c (.v .nil),_),(.c (.v (.p (.int _ n))),_)] = _
   simp only[opAppI,he,hu,zeroT_ok hz hp h2]
   rw[if_pos ⟨freeT_un h1,by rw[enc_len,h3]⟩]
   simp only[unHp,List.map_cons,List.map_nil,TObj.un,TSl.un,TC.un,TL.un,repT,List.map_replicate,h3]
  ·cases h
 ·cases h
theorem cap_ok {t:TypeId} {x:TSl} (h:tCap P t x k = some r):Did (opCap P t [x.un]) k r:=by
 unfold tCap at h
 split at h
 ·rename_i e hu
  refine did (c:=True) _ _ h ?_ trivial
  show opCap P t [.c (.v .nil)] = _
  simp only[opCap,hu]; rfl
 ·cases h
theorem caps_ok:∀ (xs:List TSl) (l:List Nat),capsT xs = some l → capsOf (xs.map TSl.un) = some l
 | [],l,h=>by
  simp only[capsT,Option.some.injEq] at h
  subst h; rfl
 | x :: xs,l,h=>by
  unfold capsT at h
  split at h
  ·rename_i heq; cases heq
  ·rename_i o r heq
   injection heq with h1 h2
   subst h1 h2
   split at h
   ·rename_i l' hl
    simp only[Option.some.injEq] at h
    subst h
    have ih:=caps_ok _ l' hl
    show (capsOf (List.map TSl.un xs)).map (o :: ·) = _
    rw[ih]; rfl
   ·cases h
  ·cases h
theorem makeFunc_ok {f:FuncId} {first:Nat} {xs:List TSl} (h:tMakeFunc f first (capsT xs) k = some r):Did (opMakeFunc (.func f) first (xs.map TSl.un)) k r:=by
 unfold tMakeFunc at h
 split at h
 ·rename_i l hl
  split at h
  ·refine did (c:=True) _ _ h ?_ trivial
   unfold opMakeFunc
   rw[caps_ok _ _ hl]; rfl
  ·obtain⟨hc,h⟩:=cond_some h
   rw[beqN,decide_eq_true_eq] at hc
   refine did (c:=True) _ _ h ?_ trivial
   unfold opMakeFunc
   rw[caps_ok _ _ hl]
   dsimp only
   rw[if_pos hc]; rfl
 ·cases h
theorem vNeed_some {n:Int} {m:Nat} {u:Unit} (h:vNeed n m = some u):n < m:=by
 unfold vNeed at h
 obtain⟨hc,_⟩:=cond_some h
 rw[ltZ_eq,decide_eq_true_eq] at hc
 exact hc
theorem idxV_ok {m:Nat} {e t:TypeId} {x i:TSl} (hu:P.underlying t = some (.array m e)) (h:tIdxV P fx cur m e x i k = some r):Did (opIdxV P t [argU fx cur x,argU fx cur i]) k r:=by
 unfold tIdxV at h
 split at h
 ·rename_i o a kd n
  obtain⟨n,rfl⟩:∃ q:Int,q = n:=⟨n,rfl⟩
  obtain⟨hc,h0⟩:=cond_some h
  clear h
  rw[Bool.and_eq_true,Bool.and_eq_true,eqZ_eq,bleN,decide_eq_true_eq,decide_eq_true_eq] at hc
  obtain⟨⟨ha,h2⟩,hs⟩:=hc
  subst ha
  have hs:=isOne_eq hs
  split at h0
  ·rename_i e' t' l ho
   obtain⟨hz,h⟩:=cond_some h0
   rw[beqN,decide_eq_true_eq] at hz
   obtain⟨u,hv,h⟩:=bind_some h
   obtain⟨y,hy,h⟩:=bind_some h
   obtain⟨c1,c2,_⟩:=idx_some hy
   refine did (c:=0 ≤ n ∧ n < m ∧ n.toNat < (l.map (enc t')).length) _ _ h ?_ ⟨c1,vNeed_some hv,by simpa using c2⟩
   show opIdxV P t [(.c (.v (.el o 0 0 1)),[(un2 fx cur).hp o]),(.c (.v (.p (.int _ n))),_)] = _
   rw[hp_some ho]
   simp only[TObj.un,hz]
   simp only[opIdxV,hu]
   rw[if_pos ⟨hs,h2⟩]; rfl
  ·cases h0
 ·cases h
theorem lookD_ok {t:TypeId} {m x:TSl} (h:tLookD P t m x k = some r):Did (opLookD P t [m.un,x.un]) k r:=by
 unfold tLookD at h
 split at h
 ·rename_i kd e m kd3 n
  obtain⟨n,rfl⟩:∃ q:Int,q = n:=⟨n,rfl⟩
  obtain⟨m,rfl⟩:∃ q:List (Int × List e.den),q = m:=⟨m,rfl⟩
  split at h
  ·rename_i kt et hu
   split at h
   ·rename_i kd2 hk
    split at h
    ·rename_i e1 e2 _ _
     obtain⟨hz,h⟩:=cond_some h
     have e1:=e1.down
     have e2:=e2.down
     subst e1 e2
     refine did (c:=True) _ _ h ?_ trivial
     show opLookD P t [.c (.v (.p (.mp kd3 (encX (List.map (enc e)) m)))),.c (.v (.p (.int kd3 n)))] = some ⟨True,.c (.v (.p (.sl (((lookM m n).getD []).map (enc e))))),[]⟩
     simp only[opLookD,hu,hk,hz,encX_look]
     rw[if_pos ⟨trivial,trivial⟩]
     cases lookM m n <;> rfl
    ·cases h
   ·cases h
  ·cases h
 ·cases h
theorem hNeed_some {h:Option Int} {n:Int} {u:Unit} (hh:hNeed h n = some u):h = none ∨ h = some n:=by
 unfold hNeed at hh
 split at hh
 ·exact .inl rfl
 ·exact .inr (by rw[need_some hh])
theorem putL_ok {t:TypeId} {o:Nat} {x v:TSl} (h:tPutL P fx cur t o x v k = some r):Did (opPutL P t [argU fx cur (.c (.v (.mp o))),argU fx cur x,argU fx cur v]) k r:=by
 unfold tPutL at h
 split at h
 ·rename_i kd e te m hh kd3 n d ho
  obtain⟨n,rfl⟩:∃ q:Int,q = n:=⟨n,rfl⟩
  split at h
  ·rename_i kt et hu
   split at h
   ·rename_i kd2 hk
    split at h
    ·rename_i e1 e2 _ _
     have e1:=e1.down
     have e2:=e2.down
     subst e1 e2
     split at h
     ·rename_i e' t' l hd
      obtain⟨hc,h⟩:=cond_some h
      rw[beqN,decide_eq_true_eq] at hc
      obtain⟨et,h⟩:=asSl_some h
      subst et
      obtain⟨u,hn,h⟩:=bind_some h
      refine did (c:=hh = none ∨ hh = some n) _ _ h ?_ (hNeed_some hn)
      show opPutL P t [(.c (.v (.mp o)),[(un2 fx cur).hp o]),(.c (.v (.p (.int _ n))),_),(.c (.v (.own d)),[(un2 fx cur).hp d])] = _
      rw[hp_some ho,hp_some hd]
      simp only[TObj.un,opPutL,hu,hk]
      rw[if_pos ⟨trivial,trivial,hc,trivial⟩]
      simp only[unHp,List.map_cons,List.map_nil,TObj.un,TSl.un]
      rw[encX_put (List.map (enc t')) m n l]
     ·cases h
    ·cases h
   ·cases h
  ·cases h
 ·cases h
theorem clear_ok {t:TypeId} {x:TSl} (h:tClear P fx cur t x k = some r):Did (opClear P t [argU fx cur x]) k r:=by
 unfold tClear at h
 split at h
 ·rename_i e2 z2 o a b z he
  split at h
  ·rename_i e t' l q zl ho hz
   obtain⟨hc,h⟩:=cond_some h
   rw[Bool.and_eq_true,Bool.and_eq_true,beqN,beqN,decide_eq_true_eq,decide_eq_true_eq] at hc
   obtain⟨⟨h1,h2⟩,h3⟩:=hc
   obtain⟨z0,h,hp⟩:=packAll_some h
   obtain⟨u,hu,h⟩:=bind_some h
   have hu:=need_some hu
   refine did (c:=a.toNat ≤ b.toNat ∧ b.toNat ≤ (l.map (enc t')).length) _ _ h ?_ (by simpa using hu)
   show opClear P t [(.c (.v (.sv o a.toNat b.toNat z)),[(un2 fx cur).hp o])] = _
   rw[hp_some ho]
   simp only[TObj.un,opClear,he,zeroT_ok hz hp h3]
   rw[if_pos ⟨h1,h2,enc_len t' z0⟩]
   simp only[unHp,List.map_cons,List.map_nil,TObj.un,TSl.un,clrT,List.map_append,List.map_take,List.map_drop,List.map_replicate]
  ·cases h
 ·cases h
theorem mapEntry_ok {t:TypeId} {d:Option Nat} {m x:TSl} (h:tMapEntry P fx cur t d m x k = some r):Did (opMapEntry P t d (isFree (un2 fx cur).hp d) [argU fx cur m,argU fx cur x]) k r:=by
 unfold tMapEntry at h
 split at h
 ·rename_i kt et o d hu
  split at h
  ·rename_i agg2 z kd2 agg te m kd3 n s hz ho
   obtain⟨n,rfl⟩:∃ q:Int,q = n:=⟨n,rfl⟩
   obtain⟨s,rfl⟩:∃ q:Int,q = s:=⟨s,rfl⟩
   split at h
   ·rename_i kd hq0
    split at h
    ·rename_i h1 h2 _ _
     obtain⟨ha,h7⟩:=cond_some h
     obtain⟨z0,h8,hp⟩:=packAll_some h7
     rw[Bool.and_eq_true,Bool.and_eq_true,beq_iff_eq] at ha
     obtain⟨ha,hf,hfr⟩:=ha
     have e1:=h1.down
     have e2:=h2.down
     subst e1 e2 ha
     have hg:((lookM m (n,s)).map (enc te)).getD (enc te z0) = enc te ((lookM m (n,s)).getD z0):=by cases lookM m (n,s) <;> rfl
     refine did (c:=True) _ _ h8 ?_ trivial
     show opMapEntry P t (some d) _ [(.c (.v (.mp o)),[(un2 fx cur).hp o]),(.c (.g [.p (.int _ n),.p (.int .i64 s)]),_)] = _
     rw[hp_some ho]
     simp only[opMapEntry,TObj.un,hu,hq0,zeroT_ok hz hp hf]
     rw[if_pos ⟨by trivial,by trivial,by trivial,freeT_un hfr⟩,show (n,s) = mkQ (n,s) from rfl,lookQ,hg,putQ]
     simp only[TSl.un,List.map_cons,List.map_nil,rowC_ok,unHp,TObj.un]; rfl
    ·cases h
   ·cases h
  ·cases h
 ·cases h
theorem entryStore_ok {t:TypeId} {m st v:TSl} (h:tEntryStore fx cur m st v k = some r):Did (opEntryStore P t [argU fx cur m,argU fx cur st,argU fx cur v]) k r:=by
 unfold tEntryStore at h
 split at h
 ·rename_i o d' c
  split at h
  ·rename_i kd agg te m key d ho
   obtain⟨ha,h7⟩:=cond_some h
   obtain⟨y,h8,hp⟩:=packAll_some h7
   rw[Bool.and_eq_true,Bool.and_eq_true,beq_iff_eq,beqN,decide_eq_true_eq] at ha
   obtain⟨hdd,ha,hf⟩:=ha
   subst hdd ha
   refine did (c := ∀ p ∈ enc te y,p.flat = true) _ _ h8 ?_ (enc_flat te y hf)
   show opEntryStore P t [(.c (.v (.mp o)),[(un2 fx cur).hp o]),(.c (.v (.own _)),_),(.c c.un,_)] = _
   rw[hp_some ho]
   simp only[opEntryStore,TObj.un,cmpRow_ok hp]
   rw[if_pos ⟨by trivial,by trivial⟩,putQ]; rfl
  ·cases h
 ·cases h
theorem putAt_map {α β:Type} (f:α → β) (l s:List α) (p n:Nat):(putAt l p (s.take n)).map f = putAt (l.map f) p ((s.map f).take n):=by
 unfold putAt
 rw[List.map_append,List.map_append,List.map_take,List.map_take,List.map_drop,List.length_take,List.length_take,List.length_map]
theorem bytesPV_enc (s:Bs):bytesPV (mkS s) = (bytesT s).map (enc (.int .u8)):=cb_enc s
theorem copyT_ok {t u:TypeId} {o:Nat} {e e2:TypeId} {te:Ty} {l:List te.den} {a b:Int} {s:Bs} (he:tyElem P t = some (e2,1)) (hu:P.underlying u = some .string) (h:tCopyE o e te l a b s k = some r) :
  Did (copyE P t u o e te.cells (l.map (enc te)) a.toNat b.toNat (mkS s)) k r:=by
 unfold tCopyE at h
 obtain⟨et,h⟩:=asSl_some h
 subst et
 obtain⟨u',hu',h⟩:=bind_some h
 have hn:=need_some hu'
 refine did (c:=a.toNat ≤ b.toNat ∧ b.toNat ≤ (l.map (enc (.int .u8))).length ∧ b.toNat ≤ 9223372036854775807) _ _ h ?_ (by simpa using hn)
 simp only[copyE,he,hu]
 rw[if_pos ⟨by trivial,by trivial⟩,mkS_size,bytesPV_enc]
 have e3:(cpB l a b s).map (enc (.int .u8)) = putAt (l.map (enc (.int .u8))) a.toNat (((bytesT s).map (enc (.int .u8))).take (b.toNat - a.toNat)):=putAt_map (enc (.int .u8)) l (bytesT s) _ _
 simp only[unHp,List.map_cons,List.map_nil,TObj.un,e3]; rfl
theorem copy_ok {t u:TypeId} {x y:TSl} (h:tCopy P fx cur t u x y k = some r):Did (opCopy P t u [argU fx cur x,argU fx cur y]) k r:=by
 unfold tCopy at h
 split at h
 ·rename_i e2 s he hu
  split at h
  ·rename_i o
   split at h
   ·rename_i e te l ho
    have h2:=copyT_ok he hu h
    show Did (opCopy P t u [(.c (.v (.own o)),[(un2 fx cur).hp o]),(.c (.v (.p (.str (mkS s)))),_)]) k r
    rw[hp_some ho]
    simp only[opCopy,TObj.un,List.length_map]
    simpa using h2
   ·cases h
  ·rename_i o a b
   split at h
   ·rename_i e te l ho
    have h2:=copyT_ok he hu h
    show Did (opCopy P t u [(.c (.v (.sv o a.toNat b.toNat 1)),[(un2 fx cur).hp o]),(.c (.v (.p (.str (mkS s)))),_)]) k r
    rw[hp_some ho]
    simp only[opCopy,TObj.un]
    exact h2
   ·cases h
  ·cases h
 ·cases h
theorem co_ok {src dst:TypeId} {d:Option Nat} {x:TSl} (h:tCO P fx cur src dst d x k = some r):Did (opCO P src dst d (isFree (un2 fx cur).hp d) [argU fx cur x]) k r:=by
 unfold tCO at h
 split at h
 ·rename_i el d hs hd
  split at h
  ·rename_i s hu
   obtain⟨s,rfl⟩:∃ q:Bs,q = s:=⟨s,rfl⟩
   obtain⟨hf,h⟩:=cond_some h
   refine did (c:=True) _ _ h ?_ trivial
   show opCO P src dst (some d) _ [(.c (.v (.p (.str (mkS s)))),_)] = _
   rw[Bool.and_eq_true] at hf
   simp only[opCO,hs,hd,hu]
   rw[if_pos ⟨freeT_un hf.1,hf.2⟩,bytesPV_enc]
   rfl
  ·cases h
 ·cases h
theorem appZ_ok {t:TypeId} {x y:TSl} (h:tAppZ P fx cur t x y k = some r):Did (opAppZ P t [argU fx cur x,argU fx cur y]) k r:=by
 unfold tAppZ at h
 split at h
 ·rename_i e z o he
  split at h
  ·rename_i e' t' l ho
   obtain⟨hc,h1⟩:=cond_some h
   rw[Bool.and_eq_true,beqN,beqN,decide_eq_true_eq,decide_eq_true_eq] at hc
   obtain⟨he2,hz⟩:=hc
   subst he2
   obtain⟨t2,m,h2,hm⟩:=asList_ok h1
   obtain⟨et,h3⟩:=asSl_some h2
   subst et
   obtain⟨s,hs,h4⟩:=bind_some h3
   obtain⟨hs1,hl⟩:=app_some hs
   subst hs1
   refine did (c:=(l.map (enc t2)).length + (m.map (enc t2)).length ≤ 2147483647 ∧ ∀ x ∈ m.map (enc t2),x.length = t2.cells) _ _ h4 ?_ ⟨by simpa using hl,rows_cells _ _⟩
   show opAppZ P t [(.c (.v (.own o)),[(un2 fx cur).hp o]),argU fx cur y] = _
   rw[hp_some ho]
   simp only[opAppZ,TObj.un,he,hm]
   rw[if_pos ⟨trivial,hz.symm⟩]
   simp only[unHp,List.map_cons,List.map_nil,TObj.un]
   rw[← List.map_append]; rfl
  ·cases h
 ·cases h
theorem appT_some {α:Type} {l m r:List α} (h:appT? l m = some r):l ≠ [] ∧ m ≠ [] ∧ app? l m = some r:=by
 unfold appT? at h
 split at h
 ·exact⟨by simp,by simp,h⟩
 ·cases h
theorem appT_ok {t:TypeId} {d:Option Nat} {t':Ty} {l:List t'.den} {y:TSl} (h:tAppT P H fx cur t d (.c (.v (.tl t' l))) y k = some r):Did (opAppT P t d (isFree (un2 fx cur).hp d) [argU fx cur (.c (.v (.tl t' l))),argU fx cur y]) k r:=by
 unfold tAppT at h
 dsimp only at h
 split at h
 ·rename_i e z d he
  obtain⟨hc,h⟩:=cond_some h
  rw[Bool.and_eq_true,beqN,decide_eq_true_eq] at hc
  obtain⟨hf,hz⟩:=hc
  obtain⟨t2,m,h2,hm⟩:=asList_ok h
  obtain⟨et,h3⟩:=asSl_some h2
  subst et
  obtain⟨s,hs,h4⟩:=bind_some h3
  obtain⟨a1,a2,a3⟩:=appT_some hs
  obtain⟨hs1,hl⟩:=app_some a3
  subst hs1
  refine did (c:=(l.map (enc t2)).length + (m.map (enc t2)).length ≤ 2147483647 ∧ l.map (enc t2) ≠ [] ∧ m.map (enc t2) ≠ [] ∧ (∀ x ∈ l.map (enc t2),x.length = z) ∧ ∀ x ∈ m.map (enc t2),x.length = z) _ _ h4 ?_ ⟨by simpa using hl,by simpa using a1,by simpa using a2,by rw[hz]; exact rows_cells _ _,by rw[hz]; exact rows_cells _ _⟩
  show opAppT P t (some d) _ [(.c (.v (.tl (l.map (enc t2)))),_),argU fx cur y] = _
  simp only[opAppT,he,hm]
  rw[if_pos (freeT_un hf)]
  simp only[unHp,List.map_cons,List.map_nil,TObj.un,TSl.un,TC.un,TL.un,List.map_append,hz]
 ·cases h
theorem appT_cases {t:TypeId} {d:Option Nat} {x y:TSl} (h:tAppT P H fx cur t d x y k = some r):(∃ t' l,x = .c (.v (.tl t' l))) ∨ tAppend P H fx cur t d x y k = some r:=by
 unfold tAppT at h
 split at h
 ·exact .inl ⟨_,_,rfl⟩
 ·exact .inr h
theorem nilO_ok {b:BinOp} {t:TypeId} {x y:TSl} (h:tNilO P fx cur b t x y k = some r):isEqB b = true ∧ Did (opNilO P b t [argU fx cur x,argU fx cur y]) k r:=by
 unfold tNilO at h
 split at h
 ·rename_i o
  split at h
  ·rename_i e0 t' l ho
   split at h
   ·rename_i hu
    refine⟨rfl,did (c:=True) _ _ h ?_ trivial⟩
    show opNilO P .eql t [(.c (.v (.own o)),[(un2 fx cur).hp o]),(.c (.v .nil),[])] = _
    rw[hp_some ho]
    simp only[opNilO,TObj.un,hu]; rfl
   ·rename_i hu
    refine⟨rfl,did (c:=True) _ _ h ?_ trivial⟩
    show opNilO P .neq t [(.c (.v (.own o)),[(un2 fx cur).hp o]),(.c (.v .nil),[])] = _
    rw[hp_some ho]
    simp only[opNilO,TObj.un,hu]; rfl
   ·cases h
  ·cases h
 ·cases h
theorem take_ok {t:TypeId} {d:Option Nat} {m x:TSl} (h:tTake P fx cur t d m x k = some r):Did (opTake P t d (isFree (un2 fx cur).hp d) [argU fx cur m,argU fx cur x]) k r:=by
 unfold tTake at h
 split at h
 ·rename_i o kd3 n
  obtain⟨n,rfl⟩:∃ q:Int,q = n:=⟨n,rfl⟩
  split at h
  ·rename_i kd e te m ho
   split at h
   ·rename_i kt et d hu
    split at h
    ·rename_i kd2 hk
     split at h
     ·rename_i e1 e2 _ _
      have e1:=e1.down
      have e2:=e2.down
      subst e1 e2
      obtain⟨hc,h⟩:=cond_some h
      rw[Bool.and_eq_true] at hc
      refine did (c:=True) _ _ h ?_ trivial
      show opTake P t (some d) _ [(.c (.v (.mp o)),[(un2 fx cur).hp o]),(.c (.v (.p (.int _ n))),_)] = _
      rw[hp_some ho]
      simp only[TObj.un,opTake,hu,hk,hc.2]
      rw[if_pos ⟨trivial,trivial,freeT_un hc.1⟩]
      simp only[unHp,List.map_cons,List.map_nil,TObj.un,TSl.un,TC.un,TL.un,encX_look]
      cases lookM m n <;> rfl
     ·cases h
    ·cases h
   ·cases h
  ·cases h
 ·cases h
theorem cutO_ok {t:TypeId} {hl hh:Bool} {d:Option Nat} {x:TSl} {as:List TSl} (h:tCutO P fx cur t hl hh d x as k = some r):Did (opCutO P t hl hh d (isFree (un2 fx cur).hp d) (argU fx cur x :: as.map (argU fx cur))) k r:=by
 unfold tCutO at h
 split at h
 ·rename_i o d
  split at h
  ·rename_i e t' l ho
   split at h
   ·rename_i q z i j he hb
    obtain⟨hc,h⟩:=cond_some h
    rw[Bool.and_eq_true,beqN,decide_eq_true_eq] at hc
    obtain⟨m,hm,h⟩:=bind_some h
    obtain⟨c1,c2,c3,c4,c5⟩:=cut_some hm
    refine did (c:=0 ≤ i ∧ i ≤ j ∧ j ≤ ((l.map (enc t')).length:Int)) _ _ h ?_ ⟨c2,c3,by simpa using c4⟩
    show opCutO P t hl hh (some d) _ ((.c (.v (.own o)),[(un2 fx cur).hp o]) :: as.map (argU fx cur)) = _
    rw[hp_some ho]
    simp only[TObj.un,opCutO,he]
    rw[show bnds hl hh (l.map (enc t')).length (as.map (argU fx cur)) = some (i,j) by rw[List.length_map]; exact bnds_ok hb]
    dsimp only
    rw[if_pos ⟨hc.1,freeT_un hc.2⟩]
    simp only[unHp,List.map_cons,List.map_nil,TObj.un,TSl.un,TC.un,TL.un,← c1,List.map_drop,List.map_take]
   ·cases h
  ·cases h
 ·cases h
theorem toVT_ok {t:Ty} (h:leafV t = true) (x:t.den):∃ p,enc t x = [p] ∧ p.toV = toVT t x ∧ t.flatB = true ∧ t.cells = 1:=by
 cases t <;> first | (cases h; done) | exact⟨_,rfl,rfl,rfl,rfl⟩
theorem vec_ok {t:TypeId} {d:Option Nat} (h:tVec P H fx cur t d k = some r):Did (opVec P t d (isFree (un2 fx cur).hp d) []) k r:=by
 unfold tVec at h
 split at h
 ·rename_i m e d i te hu hi hh
  split at h
  ·rename_i l v hz hv
   obtain⟨hc,h⟩:=cond_some h
   rw[Bool.and_eq_true,Bool.and_eq_true,bleN,decide_eq_true_eq] at hc
   obtain⟨⟨hf,hlf⟩,hm⟩:=hc
   obtain⟨z0,hlu,h2⟩:=leafAs_some h
   clear h
   obtain⟨hr,h⟩:=cond_some h2
   obtain⟨p,hp,hpv,hfl,hcl⟩:=toVT_ok hlf z0
   refine did (c:=True) _ _ h ?_ trivial
   have hun:[l].map TL.un = (enc te z0).map Leaf.p:=by
    rw[hp]
    show [l.un] = _
    rw[hlu]
    show [match enc te z0 with | [p]=>Leaf.p p | _=>.dead] = _
    rw[hp]; rfl
   have hzt:=zeroT_ok hz hun hfl
   rw[hp] at hzt
   simp only[opVec,hu,hi,hv,hzt]
   rw[if_pos ⟨by rw[freeT_un hf,hpv,hr]; rfl,hm⟩]
   simp only[unHp,List.map_cons,List.map_nil,TObj.un,TSl.un,TC.un,TL.un,List.map_replicate,hp,hcl]
   rfl
  ·cases h
 ·cases h
theorem makeL_ok {t:TypeId} {d:Option Nat} (h:tMakeL P H fx cur t d k = some r):Did (opMakeL P t d (isFree (un2 fx cur).hp d) []) k r:=by
 unfold tMakeL at h
 split at h
 ·rename_i kt et d te hu hh
  split at h
  ·rename_i kd e z hk he
   obtain⟨hc,h⟩:=cond_some h
   rw[Bool.and_eq_true,beqN,decide_eq_true_eq] at hc
   refine did (c:=True) _ _ h ?_ trivial
   simp only[opMakeL,hu,hk,he]
   rw[if_pos (freeT_un hc.1)]
   simp only[unHp,List.map_cons,List.map_nil,TObj.un,TSl.un,TC.un,TL.un,hc.2]
   rfl
  ·cases h
 ·cases h
end
end Go.Lad
