import Derived.Test.YtkpefpjpadahiaaGreatDoorAb4
namespace Go.Lad
set_option linter.unusedVariables false
set_option linter.unusedSimpArgs false
open Go.RowKit
section
variable {P:Program} {w0:World} {χ0:Col} {T0:Ctx} {s:St} {a:Act} {w:World} {G:Gh} {o:Oper} {Q:Exit->Act->World->Prop}
theorem Ho {e:Eff} {x:Operand} (r:cI w0 χ0 T0 s a w G) (hd:∀ k,o.dst=some k->k<a.tmps.size) (ho:o.op = .nilCheck x) (h:Ag [s.ev x]=some e) :
  o.wp P a w (bG w0 χ0 T0 a.tmps.size (s.app o.dst e)) Q:=by
 have hx:=r.ev x;have fin:∀ (y:aJ) b off,s.ev x = .x y->a.eval x=ptr b off->o.wp P a w (bG w0 χ0 T0 a.tmps.size (s.app o.dst ⟨True,.x y,[]⟩)) Q:=by
  intro y b off h1 h2;rw[h1] at hx;exact cf r hd (by simp [execOp,ho,h2,ptr]) hx
 unfold Ag at h;split at h
 ·rename_i ob off heq;simp only[List.cons.injEq,and_true] at heq;have h1:=heq;rw[h1] at hx;simp only[val,Option.some.injEq] at h;subst h;have hv:=LRd.val hx;exact fin _ _ _ h1 hv
 ·rename_i ob i off z heq;simp only[List.cons.injEq,and_true] at heq;have h1:=heq;rw[h1] at hx;simp only[val,Option.some.injEq] at h;subst h;have hv:=LRd.val hx;exact fin _ _ _ h1 hv
 ·rename_i cs off heq;simp only[List.cons.injEq,and_true] at heq;have h1:=heq;rw[h1] at hx;simp only[val,Option.some.injEq] at h;subst h;obtain⟨b,off0,hv,_⟩:=LRd.val hx;exact fin _ _ _ h1 hv
 ·cases h
theorem uQ {t:TypeId} {f k n:Nat} {agg:Bool} (h:lz P t f=some (k,n,agg)):∃ fs x i,P.underlying t=some (.struct fs)/\fs[f]?=some x/\P.info? x.type=some i/\x.offset=k/\i.size=n/\fW P x.type=agg/\P.underlying x.type≠none/\0<n:=by
 unfold lz at h;split at h
 ·split at h
  ·split at h
   ·split at h
    ·rename_i hc;simp only[Option.some.injEq,Prod.mk.injEq] at h;exact⟨_,_,_,by assumption,by assumption,by assumption,h.1,h.2.1,h.2.2,hc.1,by rw[← h.2.1]; exact hc.2⟩
    ·cases h
   ·cases h
  ·cases h
 ·cases h
theorem FE {t:TypeId} {f k n:Nat} {agg:Bool} (h:lz P t f=some (k,n,agg)) (b off:Nat):(Instr.fieldAt t (ptr b off) f).run P w = .ok (ptr b (off+k)) w:=by
 obtain⟨fs,x,i,h1,h2,h3,h4,h5,_,_,h6⟩:=uQ h;have hi:¬ i.size=0:=by omega
 simp [Instr.fieldAt,run_underlying h1,h2,Instr.sureAddr,ptr,fieldPlace,sizeOf,typeInfo,h3,hi,fT,h4]
theorem uR {e:Eff} {t:TypeId} {f:Nat} {x:Operand} (r:cI w0 χ0 T0 s a w G) (hd:∀ k,o.dst=some k->k<a.tmps.size) (ho:o.op = .fieldAddr t x f) (h:iS P t f [s.ev x]=some e) :
  o.wp P a w (bG w0 χ0 T0 a.tmps.size (s.app o.dst e)) Q:=by
 have hx:=r.ev x;have fin:∀ (y y':aJ) b off off' k n agg,s.ev x = .x y->LVal G w y (a.eval x)->a.eval x=ptr b off->lz P t f=some (k,n,agg)->y'.ids=y.ids->off'=off+k->LVal G w y' (ptr b off')->o.wp P a w (bG w0 χ0 T0 a.tmps.size (s.app o.dst ⟨True,.x y',[]⟩)) Q:=by
  intro y y' b off off' k n agg h1 h2 h3 h4 h5 h6 h7;rw[h1] at hx;subst h6;exact cf r hd (by simp [execOp,ho,h3,FE h4]) ⟨rfl,fun i hi=>hx.ids i (h5 ▸ hi),h7⟩
 unfold iS at h;split at h
 ·rename_i ob off heq;simp only[List.cons.injEq,and_true] at heq;have h1:=heq;rw[h1] at hx;split at h
  ·rename_i hf;simp only[val,Option.some.injEq] at h;subst h;have hv:=LRd.val hx;exact fin _ _ _ _ _ _ _ _ h1 hv hv hf rfl rfl rfl
  ·cases h
 ·rename_i ob i off z heq;simp only[List.cons.injEq,and_true] at heq;have h1:=heq;rw[h1] at hx;split at h
  ·rename_i hf;simp only[val,Option.some.injEq] at h;subst h;have hv:=LRd.val hx;exact fin _ _ _ _ (mu (G.hv ob)+(i * z+(off+_))) _ _ _ h1 hv hv hf rfl (by omega) rfl
  ·cases h
 ·rename_i cs off heq;simp only[List.cons.injEq,and_true] at heq;have h1:=heq;rw[h1] at hx;split at h
  ·rename_i hf;simp only[val,Option.some.injEq] at h;subst h;have hv':=LRd.val hx;obtain⟨b,off0,hv,h5⟩:=hv';exact fin _ _ _ _ _ _ _ _ h1 (LRd.val hx) hv hf rfl (Nat.add_assoc _ _ _).symm ⟨b,off0,rfl,h5⟩
  ·cases h
 ·cases h
theorem Cy {e:Eff} {t:TypeId} {f:Nat} {x:Operand} (r:cI w0 χ0 T0 s a w G) (hd:∀ k,o.dst=some k->k<a.tmps.size) (ho:o.op = .field t x f) (h:pJ P t f [s.ev x]=some e) :
  o.wp P a w (bG w0 χ0 T0 a.tmps.size (s.app o.dst e)) Q:=by
 have hx:=r.ev x;unfold pJ at h;split at h
 ·rename_i xs heq;simp only[List.cons.injEq,and_true] at heq;rw[heq] at hx;obtain⟨vs,hv,hall⟩:=hx;split at h
  ·rename_i k n agg hf;rw[Option.bind_eq_some_iff] at h;obtain⟨c,hcut,h⟩:=h;simp only[val,Option.some.injEq] at h;subst h;obtain⟨fs,y,i,h1,h2,h3,h4,h5,h6,h7,h8⟩:=uQ hf;subst h6;have key:∃ v,CRd G s.hp w c v/\(part y.type vs.toArray k).run P w = .ok v w:=by
    unfold nU at hcut;split at hcut
    ·rename_i ha;split at hcut
     ·rename_i hle;simp only[Option.some.injEq] at hcut;subst hcut;refine⟨.agg ((vs.drop k).take n).toArray,⟨_,rfl,hall.cut k n⟩,?_⟩;simp [part,gG h7,ha,sizeOf,typeInfo,h3,h5,List.extract_toArray,List.extract_eq_take_drop,Nat.add_sub_cancel_left]
     ·cases hcut
    ·rename_i ha;rw[Option.map_eq_some_iff] at hcut;obtain⟨x',hx',rfl⟩:=hcut;obtain⟨v,hv,hr⟩:=hall.get hx';exact⟨v,hr,by simp [part,gG h7,ha,hv]⟩
   obtain⟨v,g1,g2⟩:=key;refine cf r hd ?_ g1;simp [execOp,ho,hv,Instr.field,run_underlying h1,h2,asAgg,h4,g2]
  ·cases h
 ·cases h
theorem uS {e:Eff} {t:TypeId} {x y:Operand} (r:cI w0 χ0 T0 s a w G) (hd:∀ k,o.dst=some k->k<a.tmps.size) (ho:o.op = .indexAddr t x y) (h:eN P t [s.arg x,s.arg y]=some e) (hc:e.cond) :
  o.wp P a w (bG w0 χ0 T0 a.tmps.size (s.app o.dst e)) Q:=by
 have hx:=r.ev x;have hy:=r.ev y;have run:∀ el z b off len c k (n:Int),dy P t=some (el,z)->a.eval x = .slice (some ⟨b,off,none⟩) len c->a.eval y = .int k n->0<=n->n.toNat<len ->
   (execOp a.eval o).run P w = .ok (.value (ptr b (off+n.toNat * z))) w:=by
  intro el z b off len c k n h1 h2 h3 h4 h5;have hE:=eV h1;obtain⟨i,zz,hi,_,hs,_⟩:=hE.ex;have hlt:n<(len:Int):=by omega
  simp [execOp,ho,h2,h3,Instr.indexAt,asIntOf,run_underlying hE.ty,sizeOf,typeInfo,hi,hs,h4,hlt,fT,ptr]
 unfold eN at h;split at h
 ·rename_i l _ k n _ heq;simp only[List.cons.injEq,and_true] at heq;rw[(St.cE heq.1).1] at hx;rw[(St.cE heq.2).1] at hy;split at h
  ·rename_i el z hel;simp only[dS,Option.some.injEq] at h;subst h;obtain⟨c1,c2,c3⟩:=hc;obtain⟨A,c,z',hv,hsl,hz'⟩:=(xa hx).tA;have hrow:l[n.toNat]?=some (l.getD n.toNat []):=by simp [List.getD,List.getElem?_eq_getElem c2]
   have hzz:z'=z:=by rw[← hz' _ _ hrow]; exact c3
   subst hzz;obtain⟨b,off,rfl,H⟩:=hsl.at_ (by omega);have hpos:0<z':=(eV hel).pos;obtain⟨vs,⟨g1,g2⟩,g3⟩:=H _ _ hrow;refine cf r hd (run el z' b off _ c k n hel hv (fU hy).1 c1 c2) ⟨rfl,by simp [aJ.ids],⟨b,off+n.toNat * z',rfl,?_,?_,fun j p hj=>?_⟩⟩
   ·obtain⟨u,hu⟩:∃ u,vs[0]?=some u:=⟨_,List.getElem?_eq_getElem (by rw[g1]; exact hpos)⟩;exact (g3 0 u hu).1
   ·obtain⟨u,hu⟩:∃ u,vs[0]?=some u:=⟨_,List.getElem?_eq_getElem (by rw[g1]; exact hpos)⟩;exact qY (g3 0 u hu).2
   ·have hjl:=(List.getElem?_eq_some_iff.1 hj).1;obtain⟨u,hu⟩:∃ u,vs[j]?=some u:=⟨_,List.getElem?_eq_getElem (by rw[g1,← c3]; exact hjl)⟩;exact⟨u,(g3 j u hu).2,g2.2 j p u hj hu⟩
  ·cases h
 ·rename_i ob e' z' l k n _ heq;simp only[List.cons.injEq,and_true] at heq;obtain⟨h1,h2⟩:=St.cE heq.1;rw[h1] at hx;rw[(St.cE heq.2).1] at hy;have hob:s.hp ob=some (.arr e' z' l):=by simpa [Slot.ids,Cmp.ids,Cmp.leaves,aJ.ids] using h2
  have hval:a.eval x=G.hv ob:=LRd.val hx;split at h
  ·rename_i el z hel;split at h
   ·rename_i hzz;subst hzz;simp only[dS,Option.some.injEq] at h;subst h;obtain⟨c1,c2⟩:=hc;obtain⟨hown,hbl⟩:=r.iA ob _ hob;have hne:l≠[]:=by intro h0; subst h0; simp at c2
    obtain⟨g,c,hv,hg,_⟩:=hown.block hne;refine cf r hd (run el z g (mu (G.hv ob)) _ c k n hel (hval.trans hv) (fU hy).1 c1 c2) ⟨rfl,fun i hi=>?_,?_⟩
    ·simp [aJ.ids] at hi;subst hi;rw[hob]; simp
    ·show ptr g (mu (G.hv ob)+n.toNat * z)=ptr (G.bl ob) (mu (G.hv ob)+(n.toNat * z+0));rw[hbl g hg,Nat.add_zero]
   ·cases h
  ·cases h
 ·rename_i ob a' b' z2 e' z' l k n _ heq;simp only[List.cons.injEq,and_true] at heq;obtain⟨h1,h2⟩:=St.cE heq.1;rw[h1] at hx;rw[(St.cE heq.2).1] at hy;have hob:s.hp ob=some (.arr e' z' l):=by simpa [Slot.ids,Cmp.ids,Cmp.leaves,aJ.ids] using h2
  obtain⟨A,m,c,hv0,hab,hbm,hmc,hval⟩:=LRd.val hx;split at h
  ·rename_i el z hel;split at h
   ·rename_i hzz;obtain⟨rfl,rfl⟩:=hzz;simp only[dS,Option.some.injEq] at h;subst h;obtain⟨c1,c2,c3⟩:=hc;obtain⟨hown,hbl⟩:=r.iA ob _ hob;have hne:l≠[]:=by intro h0; subst h0; simp at c3; omega
    obtain⟨g,c',hv,hg,_⟩:=hown.block hne;obtain⟨off0,ho0⟩:∃ q,mu (G.hv ob)=q:=⟨_,rfl⟩;rw[ho0] at hv;rw[hv0] at hv;injection hv with hA hm hc'
    subst hA hm hc';have hval':a.eval x = .slice (some ⟨g,off0+a' * z2,none⟩) (b'-a') (c-a'):=by
     rw[hval];unfold svV;rw[if_neg (by omega)];simp [fT]
    refine cf r hd (run el z2 g _ _ _ k n hel hval' (fU hy).1 c1 c2) ⟨rfl,fun i hi=>?_,?_⟩
    ·simp [aJ.ids] at hi;subst hi;rw[hob]; simp
    ·show ptr g (off0+a' * z2+n.toNat * z2)=ptr (G.bl ob) (mu (G.hv ob)+((a'+n.toNat) * z2+0));rw[hbl g hg,ho0,Nat.add_mul,Nat.add_zero,Nat.add_assoc]
   ·cases h
  ·cases h
 ·cases h
theorem Hq (c:UInt8):inK .u8 c.toNat:=by
 have:=c.toNat_lt;simp only[inK,IntKind.min,IntKind.max,IntKind.signed,IntKind.bits];simp;omega
theorem rf:∀ {xs:List aJ} {ps:List PV},dZ xs=some ps->xs=ps.map aJ.p
 | [],ps,h=>by simp [dZ] at h; subst h; rfl
 | .p p::r,ps,h=>by
  simp only[dZ,Option.map_eq_some_iff] at h;obtain⟨q,hq,rfl⟩:=h;rw[rf hq]; rfl
 | .dead::r,ps,h=>by simp [dZ] at h
 | .nil::r,ps,h=>by simp [dZ] at h
 | .loc _ _::r,ps,h=>by simp [dZ] at h
 | .own _::r,ps,h=>by simp [dZ] at h
 | .el _ _ _ _::r,ps,h=>by simp [dZ] at h
 | .ip _ _::r,ps,h=>by simp [dZ] at h
 | .mp _::r,ps,h=>by simp [dZ] at h
 | .fn _ _::r,ps,h=>by simp [dZ] at h
 | .nb _ _::r,ps,h=>by simp [dZ] at h
 | .sv _ _ _ _::r,ps,h=>by simp [dZ] at h
 | .tl _::r,ps,h=>by simp [dZ] at h
 | .ps _::r,ps,h=>by simp [dZ] at h
theorem Cz {e:Eff} {t:TypeId} {x y:Operand} (r:cI w0 χ0 T0 s a w G) (hd:∀ k,o.dst=some k->k<a.tmps.size) (ho:o.op = .index t x y) (h:lY P t [s.ev x,s.ev y]=some e) (hc:e.cond) :
  o.wp P a w (bG w0 χ0 T0 a.tmps.size (s.app o.dst e)) Q:=by
 have hx:=r.ev x;have hy:=r.ev y;unfold lY at h;split at h
 ·rename_i t' k n heq;simp only[List.cons.injEq,and_true] at heq;rw[heq.1] at hx;rw[heq.2] at hy;split at h
  ·rename_i hu;simp only[dS,Option.some.injEq] at h;subst h;obtain⟨c1,c2⟩:=hc;have c2':n.toNat<t'.data.toList.length:=by simpa using c2
   have hb:t'[n.toNat]?=some (t'.data.toList.getD n.toNat 0):=by
    have h1:t'[n.toNat]?=some t'[n.toNat]:=by rw[getElem?_pos t' n.toNat c2]
    rw[h1,List.getD_eq_getElem?_getD,List.getElem?_eq_getElem c2'];rfl
   refine cf r hd (v := .int .u8 (t'.data.toList.getD n.toNat 0).toNat) ?_ (gZ ?_)
   ·simp only[execOp,ho,(ka hx).1,(fU hy).1,Instr.index,asIntOf,Sem.run_bind,Sem.run_pure,Result.andThen_ok,run_underlying hu,c1,if_true,hb]
   ·exact Hq _
  ·cases h
 ·rename_i xs k n heq;simp only[List.cons.injEq,and_true] at heq;rw[heq.1] at hx;rw[heq.2] at hy;split at h
  ·rename_i m el hu;split at h
   ·rename_i ps hsz hps;split at h
    ·rename_i hm;obtain⟨hlen,hag⟩:=hm;simp only[dS,Option.some.injEq] at h;subst h;obtain⟨c1,c2⟩:=hc;obtain⟨vs,hv,hall⟩:=hx;rw[rf hps] at hall;have hl:vs.length=ps.length:=by have:=hall.1; simpa using this.symm
     obtain⟨i,hi,hisz⟩:∃ i,P.info? el=some i/\i.size=1:=by
      unfold gK at hsz;split at hsz
      ·rw[Option.map_eq_some_iff] at hsz; exact hsz
      ·cases hsz
     have hus:(P.underlying el).isSome=true:=by
      unfold gK at hsz;split at hsz
      ·assumption
      ·cases hsz
     obtain⟨ud,hud⟩:=Option.isSome_iff_exists.1 hus;have hvn:vs[n.toNat]?=some vs[n.toNat]:=List.getElem?_eq_getElem (by omega);have hr:=hall.2 n.toNat (.p (ps.getD n.toNat (.bool false))) vs[n.toNat] (by rw[List.getElem?_map,List.getD_eq_getElem?_getD,List.getElem?_eq_getElem c2]; rfl) hvn;refine cf r hd (v:=vs[n.toNat]) ?_ hr;have hpart:(part el vs.toArray (n.toNat * 1)).run P w = .ok vs[n.toNat] w:=by
      rw[Nat.mul_one];simp [part,gG (t:=el) (P:=P) (by rw[hud]; simp),hag,hvn]
     have hnm:n<(m:Int):=by omega
     rw[Nat.mul_one] at hpart;simp [execOp,ho,hv,(fU hy).1,Instr.index,asIntOf,run_underlying hu,c1,hnm,sizeOf,typeInfo,hi,hisz,hpart]
    ·cases h
   ·cases h
  ·cases h
 ·cases h
theorem CA {A:Arg} {x:Operand} {l:List (List PV)} (r:cI w0 χ0 T0 s a w G) (h:s.arg x=A) (hl:jC A=some l):∃ B c,a.eval x = .slice B l.length c/\l.length<=9223372036854775807:=by
 have hx:=r.ev x;unfold jC at hl;split at hl
 ·rw[(St.cE h).1] at hx;simp only[Option.some.injEq] at hl;subst hl;obtain⟨B,c,z,hv,hs,_⟩:=(xa hx).tA;exact⟨B,c,hv,Nat.le_trans hs.cap hs.max⟩
 ·rw[(St.cE h).1] at hx;simp only[Option.some.injEq] at hl;subst hl;exact⟨none,0,k9 hx,by simp⟩
 ·rw[(St.cE h).1] at hx;simp only[Option.some.injEq] at hl;subst hl;obtain⟨B,c,z,hv,hs,_⟩:=((LRd.val hx).1:Rd _ _ _ _).tA;exact⟨B,c,hv,Nat.le_trans hs.cap hs.max⟩
 ·rename_i ob e z l';obtain⟨h1,h2⟩:=St.cE h;rw[h1] at hx;simp only[Option.some.injEq] at hl;subst hl;have hob:s.hp ob=some (.arr e z l'):=by simpa [Slot.ids,Cmp.ids,Cmp.leaves,aJ.ids] using h2
  have hval:a.eval x=G.hv ob:=LRd.val hx;obtain⟨B,c,hv,hc,hm⟩:=(r.iA ob _ hob).1.form;exact⟨B,c,hval.trans hv,Nat.le_trans hc hm⟩
 ·rename_i ob a' b' z2 e z l';obtain⟨h1,h2⟩:=St.cE h;rw[h1] at hx;split at hl
  ·rename_i hzb;simp only[Option.some.injEq] at hl;subst hl;have hob:s.hp ob=some (.arr e z l'):=by simpa [Slot.ids,Cmp.ids,Cmp.leaves,aJ.ids] using h2
   obtain⟨A,m,c,hv0,hab,hbm,hmc,hval⟩:=LRd.val hx;obtain⟨B,c',hv,hc,hm⟩:=(r.iA ob _ hob).1.form;rw[hv0] at hv;injection hv with hA hm' hc'
   subst hA hm' hc';refine⟨_,_,by rw[hval]; unfold svV; rw[show ((l'.take b').drop a').length=b'-a' by simp; omega],?_⟩;simp; omega
  ·cases hl
 ·cases hl
theorem rh {n:Nat} (h:n<=9223372036854775807):inK .i64 n:=by
 simp only[inK,IntKind.min,IntKind.max,IntKind.signed,IntKind.bits];simp; omega
theorem Hr {e:Eff} {t:TypeId} {x:Operand} {c:Call} (r:cI w0 χ0 T0 s a w G) (hd:∀ k,o.dst=some k->k<a.tmps.size) (ho:o.op = .call c) (hcc:c = { callee := .builtin .len,args := #[x],argTypes := #[t] }) (h:kF P t [s.arg x]=some e) (hc:e.cond) :
  o.wp P a w (bG w0 χ0 T0 a.tmps.size (s.app o.dst e)) Q:=by
 subst hcc;have hx:=r.ev x;have run:∀ v,(Builtin.len_ #[t] o.type #[a.eval x]).run P w = .ok v w->(execOp a.eval o).run P w = .ok (.value v) w:=by
  intro v h;simp only[execOp,ho,resolve,invoke,builtin,Sem.run_bind,Sem.run_pure,Result.andThen_ok,List.map_toArray,List.map_cons,List.map_nil,h]
 unfold kF at h;split at h
 ·rename_i ob k agg m heq;simp only[List.cons.injEq,and_true] at heq;obtain⟨h1,h2⟩:=St.cE heq;rw[h1] at hx;have hob:s.hp ob=some (.fO k agg m):=by simpa [Slot.ids,Cmp.ids,Cmp.leaves,aJ.ids] using h2
  have hval:a.eval x = .map (some (G.bl ob)):=LRd.val hx;obtain⟨es,clock,hm,_,_⟩:=r.iA ob _ hob;split at h
  ·rename_i hu;simp only[dS,Option.some.injEq] at h;subst h;exact cf r hd (run _ (by simp [Builtin.len_,run_underlying hu,hval,goInt,getObj,Sem.run,hm.at_,hm.len])) (gZ (rh hc))
  ·cases h
 ·rename_i ob agg m heq;simp only[List.cons.injEq,and_true] at heq;obtain⟨h1,h2⟩:=St.cE heq;rw[h1] at hx;have hob:s.hp ob=some (.fa agg m):=by simpa [Slot.ids,Cmp.ids,Cmp.leaves,aJ.ids] using h2
  have hval:a.eval x = .map (some (G.bl ob)):=LRd.val hx;obtain⟨es,clock,mv,hm,_,hmv,_⟩:=r.iA ob _ hob;have hlen:mv.length=m.length:=by have:=congrArg List.length hmv; simpa using this
  split at h
  ·rename_i hu;simp only[dS,Option.some.injEq] at h;subst h;exact cf r hd (run _ (by simp [Builtin.len_,run_underlying hu,hval,goInt,getObj,Sem.run,hm.at_,hm.len,hlen])) (gZ (rh hc))
  ·cases h
 ·rename_i ob k agg m heq;simp only[List.cons.injEq,and_true] at heq;obtain⟨h1,h2⟩:=St.cE heq;rw[h1] at hx;have hob:s.hp ob=some (.fb k agg m):=by simpa [Slot.ids,Cmp.ids,Cmp.leaves,aJ.ids] using h2
  have hval:a.eval x = .map (some (G.bl ob)):=LRd.val hx;obtain⟨es,clock,hm,_,_⟩:=r.iA ob _ hob;split at h
  ·rename_i hu;simp only[dS,Option.some.injEq] at h;subst h;exact cf r hd (run _ (by simp [Builtin.len_,run_underlying hu,hval,goInt,getObj,Sem.run,hm.at_,hm.len])) (gZ (rh hc))
  ·cases h
 ·rename_i t' _ heq;simp only[List.cons.injEq,and_true] at heq;rw[(St.cE heq).1] at hx;split at h
  ·rename_i hu;simp only[val,Option.some.injEq] at h;subst h;exact cf r hd (run _ (by simp [Builtin.len_,run_underlying hu,(ka hx).1,goInt])) (gZ (rh (ka hx).2))
  ·cases h
 ·rename_i A _ heq;simp only[List.cons.injEq,and_true] at heq;split at h
  ·rename_i el l hu hl;simp only[val,Option.some.injEq] at h;subst h;obtain⟨B,c,hv,hm⟩:=CA r heq hl;exact cf r hd (run _ (by simp [Builtin.len_,run_underlying hu,hv,goInt])) (gZ (rh hm))
  ·cases h
 ·cases h
end
end Go.Lad
