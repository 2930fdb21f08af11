import Derived.Test.YtcmibmohdnbhgaaGreatDoorD3
namespace Go.Lad
set_option linter.unusedVariables false
set_option linter.unusedSimpArgs false
open Go.RowKit
section
variable {ρ:Type} {P:Program} {H:List (Nat × Ty)} {fx cur:TSt} {k:KE ρ} {r:ρ}
def argU (fx cur:TSt) (x:TSl):Arg:=(x.un,x.un.ids.map (un2 fx cur).hp)
def Did (o:Option Eff) (k:KE ρ) (r:ρ):Prop := ∃ y wr c,k y wr = some r ∧ o = some ⟨c,y.un,unHp wr⟩ ∧ c
theorem did {o:Option Eff} {c:Prop} (y:TSl) (wr:List (Nat × TObj)) (h:k y wr = some r) (ho:o = some ⟨c,y.un,unHp wr⟩) (hc:c):Did o k r:=⟨y,wr,c,h,ho,hc⟩
theorem hp_some {o:Nat} {x:TObj} (h:obT fx cur o = some x):(un2 fx cur).hp o = some x.un:=by rw[un2_hp,h]; rfl
theorem addW_ok {b:BinOp} {x y:TSl} (h:tAddW b x y k = some r):b = .add ∧ Did (opAddW [x.un,y.un]) k r:=by
 unfold tAddW at h
 split at h
 ·exact⟨rfl,did _ [] h rfl trivial⟩
 ·cases h
theorem move_ok {x:TSl} (h:tMove x k = some r):Did (opMove [x.un]) k r:=did x [] h rfl trivial
theorem pick_any (c:Bool) (X Y:Slot):opPick [.c (.v (.p (.bool c))),X,Y] = val (bif c then X else Y):=by
 unfold opPick
 split
 ·rename_i c' x y heq
  simp only[List.cons.injEq,Slot.c.injEq,Cmp.v.injEq,Leaf.p.injEq,PV.bool.injEq,and_true] at heq
  obtain⟨rfl,rfl,rfl⟩:=heq
  cases c <;> rfl
 ·rename_i c' x y _ heq
  simp only[List.cons.injEq,Slot.c.injEq,Cmp.v.injEq,Leaf.p.injEq,PV.bool.injEq,and_true] at heq
  obtain⟨rfl,rfl,rfl⟩:=heq
  rfl
 ·rename_i h1 h2; exact absurd rfl (h2 c X Y)
theorem pick_ok {c x y:TSl} (h:tPick c x y k = some r):Did (opPick [c.un,x.un,y.un]) k r:=by
 unfold tPick at h
 split at h
 ·rename_i c
  obtain⟨c,rfl⟩:∃ m:Bool,m = c:=⟨c,rfl⟩
  rw[show (TSl.c (.v (.v .bool c))).un = Slot.c (.v (.p (.bool c))) from rfl,pick_any]
  split at h
  ·rename_i x y
   exact did _ _ h (by cases c <;> rfl) trivial
  ·exact did _ _ h (by cases c <;> rfl) trivial
 ·cases h
theorem alloc_ok {t:TypeId} {d:Option Nat} (h:tAlloc P fx cur t d k = some r):Did (opAlloc P t d (isFree (un2 fx cur).hp d) []) k r:=by
 unfold tAlloc at h
 split at h
 ·rename_i d cs hz
  obtain⟨h1,h2⟩:=cond_some h
  refine did (c:=True) _ _ h2 ?_ trivial
  unfold opAlloc
  simp only[tzero_un hz,freeT_un h1,if_true]
  rfl
 ·cases h
theorem cutL_p {ps:List PV} {off n:Nat} {agg:Bool} {c:Cmp} (h:cutL (ps.map Leaf.p) off n agg = some c):(agg = true → off + n ≤ ps.length ∧ c = .g (((ps.drop off).take n).map .p)) ∧ (agg = false → off < ps.length ∧ c = .v (.p (ps.getD off (.bool false)))):=by
 unfold cutL at h
 cases agg with
 | true =>
  refine⟨fun _=>?_,(fun h=>nomatch h)⟩
  simp only[if_true,List.length_map] at h
  split at h
  ·rename_i hl
   injection h with h
   exact⟨hl,by rw[← h,List.map_take,List.map_drop]⟩
  ·cases h
 | false =>
  refine⟨(fun h=>nomatch h),fun _=>?_⟩
  simp only[Bool.false_eq_true,if_false,List.getElem?_map] at h
  cases hp:ps[off]? with
  | none=>rw[hp] at h; cases h
  | some p =>
   rw[hp] at h
   injection h with h
   exact⟨(List.getElem?_eq_some_iff.1 hp).1,by rw[← h,List.getD_eq_getElem?_getD,hp]; rfl⟩
theorem load_ok {t:TypeId} {x:TSl} (h:tLoad P fx cur t x k = some r):Did (opLoad P t [argU fx cur x]) k r:=by
 unfold tLoad at h
 split at h
 ·cases h
 ·rename_i n hn
  split at h
  ·rename_i o off
   split at h
   ·rename_i bt cs ho
    split at h
    ·rename_i c hc
     refine did (c:=True) _ _ h ?_ trivial
     show opLoad P t [(.c (.v (.loc o off)),[(un2 fx cur).hp o])] = _
     rw[hp_some ho]
     simp only[opLoad,TObj.un,hn,cutT_un hc]
     rfl
    ·cases h
   ·cases h
  ·rename_i t' x off
   split at h
   ·rename_i c hc
    have h1:=cutT_un hc
    rw[leaves_un] at h1
    obtain⟨h2,h3⟩:=cutL_p h1
    show Did (opLoad P t [(.c (.v (.ip (enc t' x) off)),_)]) k r
    simp only[opLoad,hn]
    cases hg:tyAgg P t with
    | true =>
     obtain⟨h4,h5⟩:=h2 hg
     exact did (c:=off + n ≤ (enc t' x).length) _ _ h (by rw[if_pos rfl,show (TSl.c c).un = .c c.un from rfl,h5]; rfl) h4
    | false =>
     obtain⟨h4,h5⟩:=h3 hg
     exact did (c:=off < (enc t' x).length) _ _ h (by rw[if_neg (by simp),show (TSl.c c).un = .c c.un from rfl,h5]; rfl) h4
   ·cases h
  ·rename_i o i off z
   split at h
   ·rename_i e t' l ho
    obtain⟨hz,h⟩:=cond_some h
    rw[beqN,decide_eq_true_eq] at hz
    obtain⟨x,hx,h⟩:=bind_some h
    split at h
    ·rename_i c hc
     have h1:=cutT_un hc
     rw[leaves_un] at h1
     obtain⟨h2,h3⟩:=cutL_p h1
     obtain⟨i1,i2,i3⟩:=idx_some hx
     have hg:=idx_map (enc t') hx
     show Did (opLoad P t [(.c (.v (.el o i.toNat off z)),[(un2 fx cur).hp o])]) k r
     rw[hp_some ho]
     simp only[opLoad,TObj.un,hn,hz,if_true]
     rw[hg]
     rw[enc_len] at h2 h3
     cases ha:tyAgg P t with
     | true =>
      obtain⟨h4,h5⟩:=h2 ha
      exact did (c:=i.toNat < (l.map (enc t')).length ∧ off + n ≤ t'.cells) _ _ h (by rw[if_pos rfl,show (TSl.c c).un = .c c.un from rfl,h5]; rfl) ⟨by simpa using i2,h4⟩
     | false =>
      obtain⟨h4,h5⟩:=h3 ha
      exact did (c:=i.toNat < (l.map (enc t')).length ∧ off < t'.cells) _ _ h (by rw[if_neg (by simp),show (TSl.c c).un = .c c.un from rfl,h5]; rfl) ⟨by simpa using i2,h4⟩
    ·cases h
   ·cases h
  ·cases h
def unP:Leaf → PV
 | .p p=>p
 | _=>.bool false
theorem mid_p {A B C:List Leaf} {qs:List PV} (h:A ++ B ++ C = qs.map Leaf.p):B = (B.map unP).map Leaf.p:=by
 rw[List.map_map]
 have:∀ x ∈ B,(Leaf.p ∘ unP) x = x:=fun x hx=>by
  have:x ∈ qs.map Leaf.p:=by rw[← h]; simp [hx]
  obtain⟨p,_,rfl⟩:=List.mem_map.1 this
  rfl
 conv=>lhs; rw[← List.map_id B]
 exact List.map_congr_left fun x hx=>(this x hx).symm
theorem p_inj {a b:List PV} (h:a.map Leaf.p = b.map Leaf.p):a = b:=by
 have:=congrArg (List.map unP) h
 simpa [List.map_map,Function.comp_def,unP] using this
theorem store_ok {t:TypeId} {x v:TSl} (h:tStore P fx cur t x v k = some r):Did (opStore P t [argU fx cur x,argU fx cur v]) k r:=by
 unfold tStore at h
 split at h
 ·rename_i n c hn
  split at h
  ·rename_i o off
   split at h
   ·rename_i bt cs ho
    obtain⟨hc,h⟩:=cond_some h
    rw[Bool.and_eq_true,beqN,bleN,decide_eq_true_eq,decide_eq_true_eq] at hc
    refine did (c:=True) _ _ h ?_ trivial
    show opStore P t [(.c (.v (.loc o off)),[(un2 fx cur).hp o]),(.c c.un,_)] = _
    rw[hp_some ho]
    simp only[opStore,TObj.un,hn,leavesC_un,List.length_map]
    rw[if_pos hc]
    simp only[unHp,List.map_cons,List.map_nil,TObj.un,List.map_append,List.map_take,List.map_drop,TSl.un]
   ·cases h
  ·rename_i o i off z
   split at h
   ·rename_i e t' l ho
    obtain⟨hc,h⟩:=cond_some h
    simp only[Bool.and_eq_true,beqN,bleN,decide_eq_true_eq] at hc
    obtain⟨⟨hz,hl⟩,hoz⟩:=hc
    obtain⟨x,hx,h⟩:=bind_some h
    obtain⟨y,h,hp⟩:=packAll_some h
    obtain⟨i1,i2,i3⟩:=idx_some hx
    have hg:=idx_map (enc t') hx
    rw[List.map_append,List.map_append,List.map_take,List.map_drop,leaves_un] at hp
    have hm:=mid_p hp
    have hps:allPV c.un.leaves = some ((c.leaves.map TL.un).map unP):=by
     rw[leavesC_un]
     conv=>lhs; rw[hm]
     exact allPV_p _
    have hy:(enc t' x).take off ++ (c.leaves.map TL.un).map unP ++ (enc t' x).drop (off + n) = enc t' y:=by
     apply p_inj
     rw[List.map_append,List.map_append,← hm,List.map_take,List.map_drop]
     exact hp
    refine did (c:=i.toNat < (l.map (enc t')).length ∧ off + n ≤ z) _ _ h ?_ ⟨by simpa using i2,hoz⟩
    show opStore P t [(.c (.v (.el o i.toNat off z)),[(un2 fx cur).hp o]),(.c c.un,_)] = _
    rw[hp_some ho]
    simp only[opStore,TObj.un,hn,hps]
    rw[if_pos ⟨hz,by simpa using hl⟩,hg,hy]
    simp only[unHp,List.map_cons,List.map_nil,TObj.un,List.map_set,TSl.un,hz]
   ·cases h
  ·cases h
 ·cases h
theorem nil_ok {x:TSl} (h:tNil x k = some r):Did (opNil [x.un]) k r:=by
 unfold tNil at h
 split at h
 ·exact did _ _ h rfl trivial
 ·exact did _ _ h rfl trivial
 ·exact did _ _ h rfl trivial
 ·cases h
theorem fieldAddr_ok {t:TypeId} {f:Nat} {x:TSl} (h:tFieldAddr P t f x k = some r):Did (opFieldAddr P t f [x.un]) k r:=by
 unfold tFieldAddr at h
 split at h
 ·rename_i j a b hf
  split at h
  ·exact did (c:=True) _ _ h (by simp only[TSl.un,TC.un,TL.un,opFieldAddr,hf]; rfl) trivial
  ·exact did (c:=True) _ _ h (by simp only[TSl.un,TC.un,TL.un,opFieldAddr,hf]; rfl) trivial
  ·exact did (c:=True) _ _ h (by simp only[TSl.un,TC.un,TL.un,opFieldAddr,hf]; rfl) trivial
  ·cases h
 ·cases h
theorem field_ok {t:TypeId} {f:Nat} {x:TSl} (h:tField P t f x k = some r):Did (opField P t f [x.un]) k r:=by
 unfold tField at h
 split at h
 ·rename_i j n agg xs hf
  split at h
  ·rename_i c hc
   exact did (c:=True) _ _ h (by simp only[TSl.un,TC.un,opField,hf,cutT_un hc]; rfl) trivial
  ·cases h
 ·cases h
theorem svNeed_some {a b n:Int} {m:Nat} {u:Unit} (h:svNeed a b n m = some u):0 ≤ a ∧ 0 ≤ n ∧ n < b - a ∧ b ≤ m:=need_some h
theorem indexAddr_ok {t:TypeId} {x i:TSl} (h:tIndexAddr P fx cur t x i k = some r):Did (opIndexAddr P t [argU fx cur x,argU fx cur i]) k r:=by
 unfold tIndexAddr at h
 split at h
 ·rename_i e z kd n he
  obtain⟨n,rfl⟩:∃ m:Int,m = n:=⟨n,rfl⟩
  split at h
  ·rename_i t' l
   obtain⟨l,rfl⟩:∃ m:List t'.den,m = l:=⟨l,rfl⟩
   obtain⟨hz,h⟩:=cond_some h
   rw[beqN,decide_eq_true_eq] at hz
   obtain⟨x,hx,h⟩:=bind_some h
   obtain⟨i1,i2,i3⟩:=idx_some hx
   have hg:=idx_map (enc t') hx
   refine did (c:=0 ≤ n ∧ n.toNat < (List.map (enc t') l).length ∧ ((List.map (enc t') l).getD n.toNat []).length = z) _ _ h ?_ ⟨i1,by simpa using i2,by rw[hg,enc_len,hz]⟩
   show opIndexAddr P t [(.c (.v (.p (.sl (List.map (enc t') l)))),_),(.c (.v (.p (.int kd n))),_)] = _
   simp only[opIndexAddr,he,valIf]
   rw[hg]; rfl
  ·rename_i o
   split at h
   ·rename_i e' t' l ho
    obtain⟨hz,h⟩:=cond_some h
    rw[beqN,decide_eq_true_eq] at hz
    obtain⟨x,hx,h⟩:=bind_some h
    obtain⟨i1,i2,i3⟩:=idx_some hx
    refine did (c:=0 ≤ n ∧ n.toNat < (l.map (enc t')).length) _ _ h ?_ ⟨i1,by simpa using i2⟩
    show opIndexAddr P t [(.c (.v (.own o)),[(un2 fx cur).hp o]),(.c (.v (.p (.int kd n))),_)] = _
    rw[hp_some ho]
    simp only[opIndexAddr,TObj.un,he,hz,if_true,valIf]
    rfl
   ·cases h
  ·rename_i o a b z2
   split at h
   ·rename_i e' t' l ho
    obtain⟨hz,h⟩:=cond_some h
    rw[Bool.and_eq_true,beqN,beqN,decide_eq_true_eq,decide_eq_true_eq] at hz
    obtain⟨u,hu,h⟩:=bind_some h
    obtain⟨u1,u2,u3,u4⟩:=svNeed_some hu
    refine did (c:=0 ≤ n ∧ n.toNat < b.toNat - a.toNat ∧ b.toNat ≤ (l.map (enc t')).length) _ _ h ?_ ⟨u2,by omega,by simp; omega⟩
    show opIndexAddr P t [(.c (.v (.sv o a.toNat b.toNat z2)),[(un2 fx cur).hp o]),(.c (.v (.p (.int kd n))),_)] = _
    rw[hp_some ho]
    simp only[opIndexAddr,TObj.un,he]
    rw[if_pos ⟨hz.1,by rw[hz.2,hz.1]⟩]
    simp only[valIf,TSl.un,TC.un,TL.un,unHp,List.map_nil]
    have:(addZ a n).toNat = a.toNat + n.toNat:=by unfold addZ; omega
    rw[this]
   ·cases h
  ·cases h
 ·cases h
theorem isLeafT_eq (t:Ty):isLeafT t = isLeaf t:=by cases t <;> rfl
theorem allOf_ok {t:Ty} (hl:isLeaf t = true):∀ (ls:List TL) (k:List t.den → Option ρ),allOf t ls k = some r → ∃ l ps,k l = some r ∧ allPV (ls.map TL.un) = some ps ∧ ps.length = l.length ∧ ls.length = l.length ∧ ∀ (i:Nat) x,l[i]? = some x → ∃ p,ps[i]? = some p ∧ (TL.v t x).un = .p p
 | [],k,h=>⟨[],[],h,rfl,rfl,rfl,fun i x hx=>by simp at hx⟩
 | .v t' x :: ls,k,h=>by
  unfold allOf at h
  obtain⟨e,h⟩:=asTy_some h
  subst e
  obtain⟨l,ps,h1,h2,h3,h4,h5⟩:=allOf_ok hl ls _ h
  obtain⟨p,hp,hu⟩:=enc_leaf hl x
  refine⟨_,p :: ps,h1,?_,by simp [h3],by simp [h4],fun i y hy=>?_⟩
  ·rw[List.map_cons,hu]
   show (allPV (ls.map TL.un)).map (p :: ·) = _
   rw[h2]; rfl
  ·cases i with
   | zero =>
    have:x = y:=by simpa [castTy] using hy
    subst this
    exact⟨p,rfl,hu⟩
   | succ i=>exact h5 i y (by simpa using hy)
 | .dead :: _,k,h=>by cases h
 | .nil :: _,k,h=>by cases h
 | .loc _ _ :: _,k,h=>by cases h
 | .own _ :: _,k,h=>by cases h
 | .el _ _ _ _ :: _,k,h=>by cases h
 | .ip _ _ _ :: _,k,h=>by cases h
 | .mp _ :: _,k,h=>by cases h
 | .fn _ _ :: _,k,h=>by cases h
 | .sv _ _ _ _ :: _,k,h=>by cases h
 | .oth _ :: _,k,h=>by cases h
 | .nb _ _ _ :: _,k,h=>by cases h
theorem index_ok {t:TypeId} {x i:TSl} (h:tIndex P t x i k = some r):Did (opIndex P t [x.un,i.un]) k r:=by
 unfold tIndex at h
 split at h
 ·rename_i s kd n hu
  obtain⟨n,rfl⟩:∃ m:Int,m = n:=⟨n,rfl⟩
  obtain⟨s,rfl⟩:∃ m:Bs,m = s:=⟨s,rfl⟩
  obtain⟨c,hc,h⟩:=bind_some h
  obtain⟨b1,b2,b3⟩:=bAt_some hc
  refine did (c:=0 ≤ n ∧ n.toNat < (mkS s).size) _ _ h ?_ ⟨b1,by rw[mkS_size]; exact b2⟩
  show opIndex P t [.c (.v (.p (.str (mkS s)))),.c (.v (.p (.int kd n)))] = _
  simp only[opIndex,hu,mkS_data]
  rw[b3]; rfl
 ·rename_i m e xs kd n hu
  obtain⟨n,rfl⟩:∃ m:Int,m = n:=⟨n,rfl⟩
  split at h
  ·rename_i t' x0 r0 hsz
   obtain⟨hc,h⟩:=cond_some h
   simp only[Bool.and_eq_true,beqN,decide_eq_true_eq,Bool.not_eq_true'] at hc
   obtain⟨⟨hm,hag⟩,hlf⟩:=hc
   rw[isLeafT_eq] at hlf
   obtain⟨l,ps,h1,h2,h3,h4,h5⟩:=allOf_ok hlf _ _ h
   obtain⟨y,hy,h1⟩:=bind_some h1
   obtain⟨i1,i2,i3⟩:=idx_some hy
   obtain⟨p,hp,hu2⟩:=h5 _ _ i3
   refine did (c:=0 ≤ n ∧ n.toNat < ps.length) _ _ h1 ?_ ⟨i1,by omega⟩
   have e1:(tV t' y).un = .p p:=by
    show Slot.c (.v (TL.v t' y).un) = _
    rw[hu2]
   rw[e1]
   show opIndex P t [.c (.g ((TL.v t' x0 :: r0).map TL.un)),.c (.v (.p (.int kd n)))] = _
   simp only[opIndex,hu,hsz,h2]
   rw[if_pos ⟨by omega,hag⟩,List.getD_eq_getElem?_getD,hp]
   rfl
  ·cases h
 ·cases h
theorem z64_some {n m:Int} (h:z64 n = some m):n = m ∧ inK .i64 n:=by
 rw[z64_eq] at h
 obtain⟨h1,h2⟩:=i64_some h
 exact⟨h1,h2⟩
theorem inZ_iff {k:IntKind} {n:Int} (h:inZ k n = true):inK k n:=by
 unfold inZ at h
 rw[Bool.and_eq_true,leZ_eq,leZ_eq,decide_eq_true_eq,decide_eq_true_eq] at h
 exact h
theorem quoZ_some {k:IntKind} {a b m:Int} (h:quoZ k a b = some m):a.tdiv b = m ∧ b ≠ 0 ∧ inK k (a.tdiv b):=by
 unfold quoZ at h
 obtain⟨h1,h2⟩:=cond_some h
 rw[Bool.and_eq_true,eqZ_eq] at h1
 injection h2 with h2
 exact⟨h2,by simpa using h1.1,inZ_iff h1.2⟩
theorem remZ_some {k:IntKind} {a b m:Int} (h:remZ k a b = some m):a.tmod b = m ∧ b ≠ 0 ∧ inK k (a.tmod b):=by
 unfold remZ at h
 obtain⟨h1,h2⟩:=cond_some h
 rw[Bool.and_eq_true,eqZ_eq] at h1
 injection h2 with h2
 exact⟨h2,by simpa using h1.1,inZ_iff h1.2⟩
theorem int_ok {op:BinOp} {kd:IntKind} {a b:Int} (h:tInt op kd a b k = some r):Did (intBin op kd a b) k r:=by
 unfold tInt at h
 split at h
 ·split at h
  ·rename_i hk _
   obtain⟨c,hc,h⟩:=bind_some h
   obtain⟨rfl,hi⟩:=z64_some hc
   refine did (c:=inK .i64 (a + b)) _ _ h ?_ hi
   simp only[intBin,hk.down,if_true]; rfl
  ·rename_i hk
   refine did (c:=True) _ _ h ?_ trivial
   have:kd ≠ .i64:=fun e=>by unfold IntKind.same at hk; rw[dif_pos e] at hk; cases hk
   simp only[intBin,this,if_false]; rfl
 ·split at h
  ·rename_i hk _
   obtain⟨c,hc,h⟩:=bind_some h
   obtain⟨rfl,hi⟩:=z64_some hc
   refine did (c:=inK .i64 (a - b)) _ _ h ?_ hi
   simp only[intBin,hk.down,if_true]; rfl
  ·rename_i hk
   refine did (c:=True) _ _ h ?_ trivial
   have:kd ≠ .i64:=fun e=>by unfold IntKind.same at hk; rw[dif_pos e] at hk; cases hk
   simp only[intBin,this,if_false]; rfl
 ·split at h
  ·rename_i hk _
   obtain⟨c,hc,h⟩:=bind_some h
   obtain⟨rfl,hi⟩:=z64_some hc
   refine did (c:=inK .i64 (a * b)) _ _ h ?_ hi
   simp only[intBin,hk.down,if_true]; rfl
  ·rename_i hk
   refine did (c:=True) _ _ h ?_ trivial
   have:kd ≠ .i64:=fun e=>by unfold IntKind.same at hk; rw[dif_pos e] at hk; cases hk
   simp only[intBin,this,if_false]; rfl
 ·obtain⟨c,hc,h⟩:=bind_some h
  obtain⟨rfl,h1⟩:=quoZ_some hc
  exact did (c:=b ≠ 0 ∧ inK kd (a.tdiv b)) _ _ h rfl h1
 ·obtain⟨c,hc,h⟩:=bind_some h
  obtain⟨rfl,h1⟩:=remZ_some hc
  exact did (c:=b ≠ 0 ∧ inK kd (a.tmod b)) _ _ h rfl h1
 ·exact did (c:=True) _ _ h (by rw[eqZ_eq]; rfl) trivial
 ·exact did (c:=True) _ _ h (by rw[eqZ_eq]; rfl) trivial
 ·exact did (c:=True) _ _ h (by rw[ltZ_eq]; rfl) trivial
 ·exact did (c:=True) _ _ h (by rw[leZ_eq]; rfl) trivial
 ·exact did (c:=True) _ _ h (by rw[ltZ_eq]; rfl) trivial
 ·exact did (c:=True) _ _ h (by rw[leZ_eq]; rfl) trivial
 ·cases h
theorem shrZ_some {k:IntKind} {a n m:Int} (h:shrZ k a n = some m):shrI k a n = m ∧ 0 ≤ n ∧ inK k (shrI k a n):=by
 unfold shrZ at h
 obtain⟨hc,h⟩:=cond_some h
 rw[Bool.and_eq_true,leZ_eq,decide_eq_true_eq] at hc
 injection h with h
 exact⟨h,hc.1,inZ_iff hc.2⟩
theorem shlZ_some {k:IntKind} {a n m:Int} (h:shlZ k a n = some m):shlI k a n = m ∧ 0 ≤ n:=by
 unfold shlZ at h
 obtain⟨hc,h⟩:=cond_some h
 rw[leZ_eq,decide_eq_true_eq] at hc
 injection h with h
 exact⟨h,hc⟩
theorem sh_ok {op:BinOp} {P:Program} {t:TypeId} {x y:TSl} (h:tSh op x y k = some r):opBin P op t [x.un,y.un] = none ∧ opEqS P op t [x.un,y.un] = none ∧ Did (opSh op [x.un,y.un]) k r:=by
 unfold tSh at h
 split at h
 ·rename_i kd a kd2 n
  obtain⟨a,rfl⟩:∃ q:Int,q = a:=⟨a,rfl⟩
  obtain⟨n,rfl⟩:∃ q:Int,q = n:=⟨n,rfl⟩
  show opBin P op t [.c (.v (.p (.int kd a))),.c (.v (.p (.int kd2 n)))] = none ∧ opEqS P op t [.c (.v (.p (.int kd a))),.c (.v (.p (.int kd2 n)))] = none ∧ Did (opSh op [.c (.v (.p (.int kd a))),.c (.v (.p (.int kd2 n)))]) k r
  refine⟨?_,rfl,?_⟩
  ·show (if kd = kd2 then intBin op kd a n else none) = none
   split
   ·cases op <;> first | rfl | cases h
   ·rfl
  split at h
  ·obtain⟨c,hc,h⟩:=bind_some h
   obtain⟨rfl,h1⟩:=shlZ_some hc
   exact did (c:=0 ≤ n) _ _ h rfl h1
  ·obtain⟨c,hc,h⟩:=bind_some h
   obtain⟨rfl,h1⟩:=shrZ_some hc
   exact did (c:=0 ≤ n ∧ inK kd (shrI kd a n)) _ _ h rfl h1
  ·split at h
   ·rename_i hk _
    exact did (c:=True) _ _ h (by show (if kd = kd2 then val (.p (.int kd (andI kd a n))) else none) = _; rw[if_pos hk.down]; rfl) trivial
   ·cases h
  ·split at h
   ·rename_i hk _
    exact did (c:=True) _ _ h (by show (if kd = kd2 then val (.p (.int kd (orI kd a n))) else none) = _; rw[if_pos hk.down]; rfl) trivial
   ·cases h
  ·split at h
   ·rename_i hk _
    exact did (c:=True) _ _ h (by show (if kd = kd2 then val (.p (.int kd (xorI kd a n))) else none) = _; rw[if_pos hk.down]; rfl) trivial
   ·cases h
  ·split at h
   ·rename_i hk _
    exact did (c:=True) _ _ h (by show (if kd = kd2 then val (.p (.int kd (anI kd a n))) else none) = _; rw[if_pos hk.down]; rfl) trivial
   ·cases h
  ·cases h
 ·cases h
theorem str_ok {op:BinOp} {a b:Bs} (h:tStr op a b k = some r):Did (strBin op (mkS a) (mkS b)) k r:=by
 have hd:decide (mkS a = mkS b) = decide (a = b):=by rw[Bool.eq_iff_iff]; simp [mkS_inj]
 unfold tStr at h
 split at h
 ·obtain⟨c,hc,h⟩:=bind_some h
  obtain⟨rfl,h1⟩:=cat_some hc
  exact did (c:=(mkS a).size + (mkS b).size ≤ 9223372036854775807) _ _ h (by simp only[strBin,mkS_app]; rfl) (by rw[mkS_size,mkS_size]; exact h1)
 ·exact did (c:=True) _ _ h (by simp only[strBin]; rw[hd]; rfl) trivial
 ·exact did (c:=True) _ _ h (by simp only[strBin]; rw[hd]; rfl) trivial
 ·exact did (c:=True) _ _ h (by simp only[strBin,mkS_toList]; rfl) trivial
 ·exact did (c:=True) _ _ h (by simp only[strBin,mkS_toList]; rw[hd]; rfl) trivial
 ·exact did (c:=True) _ _ h (by simp only[strBin,mkS_toList]; rw[hd]; rfl) trivial
 ·exact did (c:=True) _ _ h (by simp only[strBin,mkS_toList]; rfl) trivial
 ·cases h
theorem bin_ok {op:BinOp} {t:TypeId} {x y:TSl} (h:tBin P op t x y k = some r):Did (opBin P op t [x.un,y.un]) k r:=by
 unfold tBin at h
 split at h
 ·rename_i kd a kd' b
  split at h
  ·rename_i hk _
   have:=int_ok h
   show Did (if kd = kd' then intBin op kd a b else none) k r
   rw[if_pos hk.down]; exact this
  ·cases h
 ·exact str_ok h
 ·rename_i a b
  split at h
  ·rename_i hu; exact did (c:=True) _ _ h (by simp only[TSl.un,TC.un,TL.un,enc,opBin,hu]; rfl) trivial
  ·rename_i hu; exact did (c:=True) _ _ h (by simp only[TSl.un,TC.un,TL.un,enc,opBin,hu]; rfl) trivial
  ·cases h
 ·rename_i t' l
  split at h
  ·rename_i hu; exact did (c:=True) _ _ h (by simp only[TSl.un,TC.un,TL.un,enc,opBin,hu]; rfl) trivial
  ·rename_i hu; exact did (c:=True) _ _ h (by simp only[TSl.un,TC.un,TL.un,enc,opBin,hu]; rfl) trivial
  ·cases h
 ·split at h
  ·rename_i hu; exact did (c:=True) _ _ h (by simp only[TSl.un,TC.un,TL.un,enc,opBin,hu]; rfl) trivial
  ·rename_i hu; exact did (c:=True) _ _ h (by simp only[TSl.un,TC.un,TL.un,enc,opBin,hu]; rfl) trivial
  ·cases h
 ·split at h
  ·rename_i hu; exact did (c:=True) _ _ h (by simp only[TSl.un,TC.un,TL.un,enc,opBin,hu]; rfl) trivial
  ·rename_i hu; exact did (c:=True) _ _ h (by simp only[TSl.un,TC.un,TL.un,enc,opBin,hu]; rfl) trivial
  ·cases h
 ·split at h
  ·rename_i hu; exact did (c:=True) _ _ h (by simp only[TSl.un,TC.un,TL.un,enc,opBin,hu]; rfl) trivial
  ·rename_i hu; exact did (c:=True) _ _ h (by simp only[TSl.un,TC.un,TL.un,enc,opBin,hu]; rfl) trivial
  ·cases h
 ·cases h
theorem eqTy_pv {t:Ty} {x y:t.den} {b:Bool} (h:eqTy t x y = some b):∃ p q,(TL.v t x).un = .p p ∧ (TL.v t y).un = .p q ∧ eqPV p q = some b:=by
 cases t with
 | int k =>
  obtain⟨x,rfl⟩:∃ m:Int,m = x:=⟨x,rfl⟩
  obtain⟨y,rfl⟩:∃ m:Int,m = y:=⟨y,rfl⟩
  have h:some (eqZ x y) = some b:=h
  simp only[Option.some.injEq] at h
  subst h
  refine⟨.int k x,.int k y,rfl,rfl,?_⟩
  unfold eqPV
  dsimp only
  rw[if_pos rfl,eqZ_eq]
 | str =>
  obtain⟨x,rfl⟩:∃ m:Bs,m = x:=⟨x,rfl⟩
  obtain⟨y,rfl⟩:∃ m:Bs,m = y:=⟨y,rfl⟩
  have h:some (eqBs x y) = some b:=h
  simp only[Option.some.injEq] at h
  subst h
  refine⟨.str (mkS x),.str (mkS y),rfl,rfl,?_⟩
  unfold eqPV eqBs
  dsimp only
  congr 1
  rw[decide_eq_decide,mkS_inj]
 | bool =>
  simp only[eqTy,Option.some.injEq] at h
  subst h
  exact⟨_,_,rfl,rfl,rfl⟩
 | any=>cases h
 | sl e=>cases h
 | map kd e=>cases h
 | slu i=>cases h
 | pair a b=>cases h
theorem eqLs_pv:∀ (xs ys:List TL) (b:Bool),eqLs xs ys = some b → ∃ ps qs,allPV (xs.map TL.un) = some ps ∧ allPV (ys.map TL.un) = some qs ∧ eqRow ps qs = some b
 | [],[],b,h=>by
  simp only[eqLs,Option.some.injEq] at h
  subst h
  exact⟨[],[],rfl,rfl,rfl⟩
 | .v t x :: xs,.v t' y :: ys,b,h=>by
  unfold eqLs at h
  split at h
  ·rename_i hs _
   obtain⟨e⟩:=hs
   subst e
   split at h
   ·rename_i a ha
    obtain⟨p,q,hp,hq,hpq⟩:=eqTy_pv ha
    have hq:(TL.v t' y).un = .p q:=hq
    have fin:∀ c,eqLs xs ys = some c → ∃ ps qs,allPV ((TL.v t' x :: xs).map TL.un) = some ps ∧ allPV ((TL.v t' y :: ys).map TL.un) = some qs ∧ eqRow ps qs = some (a && c):=fun c hc=>by
     obtain⟨ps,qs,h1,h2,h3⟩:=eqLs_pv xs ys c hc
     refine⟨p :: ps,q :: qs,?_,?_,?_⟩
     ·rw[List.map_cons,hp]; show (allPV (xs.map TL.un)).map (p :: ·) = _; rw[h1]; rfl
     ·rw[List.map_cons,hq]; show (allPV (ys.map TL.un)).map (q :: ·) = _; rw[h2]; rfl
     ·unfold eqRow; rw[hpq,h3]
    split at h
    ·simp only[Option.some.injEq] at h
     subst h
     have:=fin true rfl
     rwa [Bool.and_true] at this
    ·split at h
     ·rename_i c hc
      simp only[Option.some.injEq] at h
      subst h
      exact fin c hc
     ·cases h
   ·cases h
  ·cases h
 | [],_ :: _,b,h=>by unfold eqLs at h; cases h
 | .v _ _ :: _,[],b,h=>by unfold eqLs at h; cases h
 | .dead :: _,_,b,h=>by unfold eqLs at h; cases h
 | .nil :: _,_,b,h=>by unfold eqLs at h; cases h
 | .loc _ _ :: _,_,b,h=>by unfold eqLs at h; cases h
 | .own _ :: _,_,b,h=>by unfold eqLs at h; cases h
 | .el _ _ _ _ :: _,_,b,h=>by unfold eqLs at h; cases h
 | .ip _ _ _ :: _,_,b,h=>by unfold eqLs at h; cases h
 | .mp _ :: _,_,b,h=>by unfold eqLs at h; cases h
 | .fn _ _ :: _,_,b,h=>by unfold eqLs at h; cases h
 | .sv _ _ _ _ :: _,_,b,h=>by unfold eqLs at h; cases h
 | .oth _ :: _,_,b,h=>by unfold eqLs at h; cases h
 | .nb _ _ _ :: _,_,b,h=>by unfold eqLs at h; cases h
 | .v _ _ :: _,.dead :: _,b,h=>by unfold eqLs at h; cases h
 | .v _ _ :: _,.nil :: _,b,h=>by unfold eqLs at h; cases h
 | .v _ _ :: _,.loc _ _ :: _,b,h=>by unfold eqLs at h; cases h
 | .v _ _ :: _,.own _ :: _,b,h=>by unfold eqLs at h; cases h
 | .v _ _ :: _,.el _ _ _ _ :: _,b,h=>by unfold eqLs at h; cases h
 | .v _ _ :: _,.ip _ _ _ :: _,b,h=>by unfold eqLs at h; cases h
 | .v _ _ :: _,.mp _ :: _,b,h=>by unfold eqLs at h; cases h
 | .v _ _ :: _,.fn _ _ :: _,b,h=>by unfold eqLs at h; cases h
 | .v _ _ :: _,.sv _ _ _ _ :: _,b,h=>by unfold eqLs at h; cases h
 | .v _ _ :: _,.oth _ :: _,b,h=>by unfold eqLs at h; cases h
 | .v _ _ :: _,.nb _ _ _ :: _,b,h=>by unfold eqLs at h; cases h
theorem fieldsT_ok {P:Program}:∀ (fs:List Field) (xs:List TL) (i:Nat) (ps:List PV),fieldsT P i fs xs = true → allPV (xs.map TL.un) = some ps → fieldsOK P i fs ps = true
 | [],[],i,ps,_,h=>by
  have:ps = []:=by simpa [allPV] using h.symm
  subst this; rfl
 | f :: fs,.v (.int kd) x :: xs,i,ps,h,hp=>by
  unfold fieldsT at h
  simp only[Bool.and_eq_true,beqN,decide_eq_true_eq] at h
  rw[List.map_cons] at hp
  have hp:(allPV (xs.map TL.un)).map (PV.int kd x :: ·) = some ps:=hp
  rw[Option.map_eq_some_iff] at hp
  obtain⟨qs,hq,rfl⟩:=hp
  unfold fieldsOK
  rw[fieldsT_ok fs xs (i + 1) qs h.2 hq]
  simp only[Bool.and_eq_true,decide_eq_true_eq]
  exact⟨⟨⟨h.1.1.1,h.1.1.2⟩,h.1.2⟩,trivial⟩
 | f :: fs,.v .str x :: xs,i,ps,h,hp=>by
  unfold fieldsT at h
  simp only[Bool.and_eq_true,beqN,decide_eq_true_eq] at h
  rw[List.map_cons] at hp
  have hp:(allPV (xs.map TL.un)).map (PV.str (mkS x) :: ·) = some ps:=hp
  rw[Option.map_eq_some_iff] at hp
  obtain⟨qs,hq,rfl⟩:=hp
  unfold fieldsOK
  rw[fieldsT_ok fs xs (i + 1) qs h.2 hq]
  simp only[Bool.and_eq_true,decide_eq_true_eq]
  exact⟨⟨⟨h.1.1.1,h.1.1.2⟩,h.1.2⟩,trivial⟩
 | f :: fs,.v .bool x :: xs,i,ps,h,hp=>by
  unfold fieldsT at h
  simp only[Bool.and_eq_true,beqN,decide_eq_true_eq] at h
  rw[List.map_cons] at hp
  have hp:(allPV (xs.map TL.un)).map (PV.bool x :: ·) = some ps:=hp
  rw[Option.map_eq_some_iff] at hp
  obtain⟨qs,hq,rfl⟩:=hp
  unfold fieldsOK
  rw[fieldsT_ok fs xs (i + 1) qs h.2 hq]
  simp only[Bool.and_eq_true,decide_eq_true_eq]
  exact⟨⟨⟨h.1.1.1,h.1.1.2⟩,h.1.2⟩,trivial⟩
 | [],_ :: _,i,ps,h,_=>by unfold fieldsT at h; cases h
 | _ :: _,[],i,ps,h,_=>by unfold fieldsT at h; cases h
 | _ :: _,.v .any _ :: _,i,ps,h,_=>by unfold fieldsT at h; cases h
 | _ :: _,.v (.sl _) _ :: _,i,ps,h,_=>by unfold fieldsT at h; cases h
 | _ :: _,.v (.pair _ _) _ :: _,i,ps,h,_=>by unfold fieldsT at h; cases h
 | _ :: _,.dead :: _,i,ps,h,_=>by unfold fieldsT at h; cases h
 | _ :: _,.nil :: _,i,ps,h,_=>by unfold fieldsT at h; cases h
 | _ :: _,.loc _ _ :: _,i,ps,h,_=>by unfold fieldsT at h; cases h
 | _ :: _,.own _ :: _,i,ps,h,_=>by unfold fieldsT at h; cases h
 | _ :: _,.el _ _ _ _ :: _,i,ps,h,_=>by unfold fieldsT at h; cases h
 | _ :: _,.ip _ _ _ :: _,i,ps,h,_=>by unfold fieldsT at h; cases h
 | _ :: _,.mp _ :: _,i,ps,h,_=>by unfold fieldsT at h; cases h
 | _ :: _,.fn _ _ :: _,i,ps,h,_=>by unfold fieldsT at h; cases h
 | _ :: _,.sv _ _ _ _ :: _,i,ps,h,_=>by unfold fieldsT at h; cases h
 | _ :: _,.oth _ :: _,i,ps,h,_=>by unfold fieldsT at h; cases h
 | _ :: _,.nb _ _ _ :: _,i,ps,h,_=>by unfold fieldsT at h; cases h
theorem eqS_ok {op:BinOp} {t:TypeId} {xs ys:List TL} (h:tEqS P op t xs ys k = some r):Did (opEqS P op t [TSl.un (.c (.g xs)),TSl.un (.c (.g ys))]) k r:=by
 unfold tEqS at h
 split at h
 ·rename_i fs hst
  obtain⟨hc,h⟩:=cond_some h
  rw[Bool.and_eq_true,Bool.and_eq_true] at hc
  have key:∀ b,eqLs xs ys = some b → ∃ ps qs,allPV (xs.map TL.un) = some ps ∧ allPV (ys.map TL.un) = some qs ∧ eqRow ps qs = some b ∧ fieldsOK P 0 fs.toList ps = true:=fun b hb=>by
   obtain⟨ps,qs,h1,h2,h3⟩:=eqLs_pv xs ys b hb
   exact⟨ps,qs,h1,h2,h3,fieldsT_ok _ _ _ _ hc.1.1 h1⟩
  cases he:eqLs xs ys with
  | none=>rw[he] at h; cases op <;> cases h
  | some b =>
   rw[he] at h
   obtain⟨ps,qs,h1,h2,h3,h4⟩:=key _ he
   cases op <;> first | (cases h; done) | skip
   ·refine did (c:=True) _ _ h ?_ trivial
    show opEqS P .eql t [.c (.g (xs.map TL.un)),.c (.g (ys.map TL.un))] = _
    simp only[opEqS,hst,h1,h2]
    rw[if_pos (by rw[h4,hc.1.2,hc.2]; rfl),h3]
    rfl
   ·refine did (c:=True) _ _ h ?_ trivial
    show opEqS P .neq t [.c (.g (xs.map TL.un)),.c (.g (ys.map TL.un))] = _
    simp only[opEqS,hst,h1,h2]
    rw[if_pos (by rw[h4,hc.1.2,hc.2]; rfl),h3]
    rfl
 ·cases h
theorem un_ok {op:UnOp} {x:TSl} (h:tUn op x k = some r):Did (opUn op [x.un]) k r:=by
 unfold tUn at h
 split at h
 ·exact did (c:=True) _ _ h rfl trivial
 ·exact did (c:=True) _ _ h rfl trivial
 ·rename_i a
  obtain⟨a,rfl⟩:∃ m:Int,m = a:=⟨a,rfl⟩
  obtain⟨c,hc,h⟩:=bind_some h
  obtain⟨rfl,hi⟩:=z64_some hc
  exact did (c:=inK .i64 (-a)) _ _ h rfl hi
 ·cases h
theorem extract_ok {i:Nat} {x:TSl} (h:tExtract i x k = some r):Did (opExtract i [x.un]) k r:=by
 unfold tExtract at h
 split at h
 ·rename_i l
  split at h
  ·rename_i c hc
   refine did (c:=True) _ _ h ?_ trivial
   simp only[TSl.un,opExtract,List.getElem?_map,hc]; rfl
  ·cases h
 ·cases h
end
end Go.Lad
