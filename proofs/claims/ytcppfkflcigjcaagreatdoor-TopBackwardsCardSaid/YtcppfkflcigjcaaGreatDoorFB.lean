import Derived.Test.YtcppfkflcigjcaaGreatDoorFA
import Derived.Great.BuildSlice
import Derived.Lib.AppendStr
import Derived.Laws.StructEq
set_option linter.unusedVariables false
set_option linter.unusedSimpArgs false
set_option linter.unusedSectionVars false
namespace Go.Lad
open Go.RowKit
section
variable {P:Program} {w0:World} {χ0:Col} {T0:Ctx} {s:St} {a:Act} {w:World} {G:Gh} {o:Oper} {Q:Exit->Act->World->Prop}
theorem Jm {e:Eff} {x:Operand} (r:bP w0 χ0 T0 s a w G) (hd:∀ k,o.dst=some k->k<a.tmps.size) (ho:o.op = .nilCheck x) (h:Cb [s.ev x]=some e) :
  o.wp P a w (aX w0 χ0 T0 a.tmps.size (s.app o.dst e)) Q:=by
 have hx:=r.ev x;have fin:∀ (y:av) b off,s.ev x = .x y->a.eval x=ptr b off->o.wp P a w (aX w0 χ0 T0 a.tmps.size (s.app o.dst ⟨True,.x y,[]⟩)) Q:=by
  intro y b off h1 h2;rw[h1] at hx;exact bD r hd (by simp [execOp,ho,h2,ptr]) hx
 unfold Cb at h;split at h
 ·rename_i ob off heq;simp only[List.cons.injEq,and_true] at heq;have h1:=heq;rw[h1] at hx;simp only[val,Option.some.injEq] at h;subst h;have hv:=LRd.val hx;exact fin _ _ _ h1 hv
 ·rename_i ob i off z heq;simp only[List.cons.injEq,and_true] at heq;have h1:=heq;rw[h1] at hx;simp only[val,Option.some.injEq] at h;subst h;have hv:=LRd.val hx;exact fin _ _ _ h1 hv
 ·rename_i cs off heq;simp only[List.cons.injEq,and_true] at heq;have h1:=heq;rw[h1] at hx;simp only[val,Option.some.injEq] at h;subst h;obtain⟨b,off0,hv,_⟩:=LRd.val hx;exact fin _ _ _ h1 hv
 ·cases h
theorem w6 {t:TypeId} {f k n:Nat} {agg:Bool} (h:nC P t f=some (k,n,agg)):∃ fs x i,P.underlying t=some (.struct fs)/\fs[f]?=some x/\P.info? x.type=some i/\x.offset=k/\i.size=n/\fv P x.type=agg/\P.underlying x.type≠none/\0<n:=by
 unfold nC at h;split at h
 ·split at h
  ·split at h
   ·split at h
    ·rename_i hc;simp only[Option.some.injEq,Prod.mk.injEq] at h;exact⟨_,_,_,by assumption,by assumption,by assumption,h.1,h.2.1,h.2.2,hc.1,by rw[← h.2.1]; exact hc.2⟩
    ·cases h
   ·cases h
  ·cases h
 ·cases h
theorem Hu {t:TypeId} {f k n:Nat} {agg:Bool} (h:nC P t f=some (k,n,agg)) (b off:Nat):(Instr.fieldAt t (ptr b off) f).run P w = .ok (ptr b (off+k)) w:=by
 obtain⟨fs,x,i,h1,h2,h3,h4,h5,_,_,h6⟩:=w6 h;have hi:¬ i.size=0:=by omega
 simp [Instr.fieldAt,run_underlying h1,h2,Instr.sureAddr,ptr,fieldPlace,sizeOf,typeInfo,h3,hi,fY,h4]
theorem w7 {e:Eff} {t:TypeId} {f:Nat} {x:Operand} (r:bP w0 χ0 T0 s a w G) (hd:∀ k,o.dst=some k->k<a.tmps.size) (ho:o.op = .fieldAddr t x f) (h:jS P t f [s.ev x]=some e) :
  o.wp P a w (aX w0 χ0 T0 a.tmps.size (s.app o.dst e)) Q:=by
 have hx:=r.ev x;have fin:∀ (y y':av) b off off' k n agg,s.ev x = .x y->LVal G w y (a.eval x)->a.eval x=ptr b off->nC P t f=some (k,n,agg)->y'.ids=y.ids->off'=off+k->LVal G w y' (ptr b off')->o.wp P a w (aX w0 χ0 T0 a.tmps.size (s.app o.dst ⟨True,.x y',[]⟩)) Q:=by
  intro y y' b off off' k n agg h1 h2 h3 h4 h5 h6 h7;rw[h1] at hx;subst h6;exact bD r hd (by simp [execOp,ho,h3,Hu h4]) ⟨rfl,fun i hi=>hx.ids i (h5 ▸ hi),h7⟩
 unfold jS at h;split at h
 ·rename_i ob off heq;simp only[List.cons.injEq,and_true] at heq;have h1:=heq;rw[h1] at hx;split at h
  ·rename_i hf;simp only[val,Option.some.injEq] at h;subst h;have hv:=LRd.val hx;exact fin _ _ _ _ _ _ _ _ h1 hv hv hf rfl rfl rfl
  ·cases h
 ·rename_i ob i off z heq;simp only[List.cons.injEq,and_true] at heq;have h1:=heq;rw[h1] at hx;split at h
  ·rename_i hf;simp only[val,Option.some.injEq] at h;subst h;have hv:=LRd.val hx;exact fin _ _ _ _ (lB (G.hv ob)+(i * z+(off+_))) _ _ _ h1 hv hv hf rfl (by omega) rfl
  ·cases h
 ·rename_i cs off heq;simp only[List.cons.injEq,and_true] at heq;have h1:=heq;rw[h1] at hx;split at h
  ·rename_i hf;simp only[val,Option.some.injEq] at h;subst h;have hv':=LRd.val hx;obtain⟨b,off0,hv,h5⟩:=hv';exact fin _ _ _ _ _ _ _ _ h1 (LRd.val hx) hv hf rfl (Nat.add_assoc _ _ _).symm ⟨b,off0,rfl,h5⟩
  ·cases h
 ·cases h
theorem Em {e:Eff} {t:TypeId} {f:Nat} {x:Operand} (r:bP w0 χ0 T0 s a w G) (hd:∀ k,o.dst=some k->k<a.tmps.size) (ho:o.op = .field t x f) (h:sf P t f [s.ev x]=some e) :
  o.wp P a w (aX w0 χ0 T0 a.tmps.size (s.app o.dst e)) Q:=by
 have hx:=r.ev x;unfold sf at h;split at h
 ·rename_i xs heq;simp only[List.cons.injEq,and_true] at heq;rw[heq] at hx;obtain⟨vs,hv,hall⟩:=hx;split at h
  ·rename_i k n agg hf;rw[Option.bind_eq_some_iff] at h;obtain⟨c,hcut,h⟩:=h;simp only[val,Option.some.injEq] at h;subst h;obtain⟨fs,y,i,h1,h2,h3,h4,h5,h6,h7,h8⟩:=w6 hf;subst h6;have key:∃ v,CRd G s.hp w c v/\(part y.type vs.toArray k).run P w = .ok v w:=by
    unfold qm at hcut;split at hcut
    ·rename_i ha;split at hcut
     ·rename_i hle;simp only[Option.some.injEq] at hcut;subst hcut;refine⟨.agg ((vs.drop k).take n).toArray,⟨_,rfl,hall.cut k n⟩,?_⟩;simp [part,fO h7,ha,sizeOf,typeInfo,h3,h5,List.extract_toArray,List.extract_eq_take_drop,Nat.add_sub_cancel_left]
     ·cases hcut
    ·rename_i ha;rw[Option.map_eq_some_iff] at hcut;obtain⟨x',hx',rfl⟩:=hcut;obtain⟨v,hv,hr⟩:=hall.get hx';exact⟨v,hr,by simp [part,fO h7,ha,hv]⟩
   obtain⟨v,g1,g2⟩:=key;refine bD r hd ?_ g1;simp [execOp,ho,hv,Instr.field,run_underlying h1,h2,asAgg,h4,g2]
  ·cases h
 ·cases h
theorem w8 {e:Eff} {t:TypeId} {x y:Operand} (r:bP w0 χ0 T0 s a w G) (hd:∀ k,o.dst=some k->k<a.tmps.size) (ho:o.op = .indexAddr t x y) (h:eX P t [s.arg x,s.arg y]=some e) (hc:e.cond) :
  o.wp P a w (aX w0 χ0 T0 a.tmps.size (s.app o.dst e)) Q:=by
 have hx:=r.ev x;have hy:=r.ev y;have run:∀ el z b off len c k (n:Int),cR P t=some (el,z)->a.eval x = .slice (some ⟨b,off,none⟩) len c->a.eval y = .int k n->0<=n->n.toNat<len ->
   (execOp a.eval o).run P w = .ok (.value (ptr b (off+n.toNat * z))) w:=by
  intro el z b off len c k n h1 h2 h3 h4 h5;have hE:=fe h1;obtain⟨i,zz,hi,_,hs,_⟩:=hE.ex;have hlt:n<(len:Int):=by omega
  simp [execOp,ho,h2,h3,Instr.indexAt,asIntOf,run_underlying hE.ty,sizeOf,typeInfo,hi,hs,h4,hlt,fY,ptr]
 unfold eX at h;split at h
 ·rename_i l _ k n _ heq;simp only[List.cons.injEq,and_true] at heq;rw[(St.bF heq.1).1] at hx;rw[(St.bF heq.2).1] at hy;split at h
  ·rename_i el z hel;simp only[dQ,Option.some.injEq] at h;subst h;obtain⟨c1,c2,c3⟩:=hc;obtain⟨A,c,z',hv,hsl,hz'⟩:=(AU hx).vR;have hrow:l[n.toNat]?=some (l.getD n.toNat []):=by simp [List.getD,List.getElem?_eq_getElem c2]
   have hzz:z'=z:=by rw[← hz' _ _ hrow]; exact c3
   subst hzz;obtain⟨b,off,rfl,H⟩:=hsl.at_ (by omega);have hpos:0<z':=(fe hel).pos;obtain⟨vs,⟨g1,g2⟩,g3⟩:=H _ _ hrow;refine bD r hd (run el z' b off _ c k n hel hv (fH hy).1 c1 c2) ⟨rfl,by simp [av.ids],⟨b,off+n.toNat * z',rfl,?_,?_,fun j p hj=>?_⟩⟩
   ·obtain⟨u,hu⟩:∃ u,vs[0]?=some u:=⟨_,List.getElem?_eq_getElem (by rw[g1]; exact hpos)⟩;exact (g3 0 u hu).1
   ·obtain⟨u,hu⟩:∃ u,vs[0]?=some u:=⟨_,List.getElem?_eq_getElem (by rw[g1]; exact hpos)⟩;exact tI (g3 0 u hu).2
   ·have hjl:=(List.getElem?_eq_some_iff.1 hj).1;obtain⟨u,hu⟩:∃ u,vs[j]?=some u:=⟨_,List.getElem?_eq_getElem (by rw[g1,← c3]; exact hjl)⟩;exact⟨u,(g3 j u hu).2,g2.2 j p u hj hu⟩
  ·cases h
 ·rename_i ob e' z' l k n _ heq;simp only[List.cons.injEq,and_true] at heq;obtain⟨h1,h2⟩:=St.bF heq.1;rw[h1] at hx;rw[(St.bF heq.2).1] at hy;have hob:s.hp ob=some (.arr e' z' l):=by simpa [Slot.ids,Cmp.ids,Cmp.leaves,av.ids] using h2
  have hval:a.eval x=G.hv ob:=LRd.val hx;split at h
  ·rename_i el z hel;split at h
   ·rename_i hzz;subst hzz;simp only[dQ,Option.some.injEq] at h;subst h;obtain⟨c1,c2⟩:=hc;obtain⟨hown,hbl⟩:=r.gM ob _ hob;have hne:l≠[]:=by intro h0; subst h0; simp at c2
    obtain⟨g,c,hv,hg,_⟩:=hown.block hne;refine bD r hd (run el z g (lB (G.hv ob)) _ c k n hel (hval.trans hv) (fH hy).1 c1 c2) ⟨rfl,fun i hi=>?_,?_⟩
    ·simp [av.ids] at hi;subst hi;rw[hob]; simp
    ·show ptr g (lB (G.hv ob)+n.toNat * z)=ptr (G.bl ob) (lB (G.hv ob)+(n.toNat * z+0));rw[hbl g hg,Nat.add_zero]
   ·cases h
  ·cases h
 ·rename_i ob a' b' z2 e' z' l k n _ heq;simp only[List.cons.injEq,and_true] at heq;obtain⟨h1,h2⟩:=St.bF heq.1;rw[h1] at hx;rw[(St.bF heq.2).1] at hy;have hob:s.hp ob=some (.arr e' z' l):=by simpa [Slot.ids,Cmp.ids,Cmp.leaves,av.ids] using h2
  obtain⟨A,m,c,hv0,hab,hbm,hmc,hval⟩:=LRd.val hx;split at h
  ·rename_i el z hel;split at h
   ·rename_i hzz;obtain⟨rfl,rfl⟩:=hzz;simp only[dQ,Option.some.injEq] at h;subst h;obtain⟨c1,c2,c3⟩:=hc;obtain⟨hown,hbl⟩:=r.gM ob _ hob;have hne:l≠[]:=by intro h0; subst h0; simp at c3; omega
    obtain⟨g,c',hv,hg,_⟩:=hown.block hne;obtain⟨off0,ho0⟩:∃ q,lB (G.hv ob)=q:=⟨_,rfl⟩;rw[ho0] at hv;rw[hv0] at hv;injection hv with hA hm hc'
    subst hA hm hc';have hval':a.eval x = .slice (some ⟨g,off0+a' * z2,none⟩) (b'-a') (c-a'):=by
     rw[hval];unfold svV;rw[if_neg (by omega)];simp [fY]
    refine bD r hd (run el z2 g _ _ _ k n hel hval' (fH hy).1 c1 c2) ⟨rfl,fun i hi=>?_,?_⟩
    ·simp [av.ids] at hi;subst hi;rw[hob]; simp
    ·show ptr g (off0+a' * z2+n.toNat * z2)=ptr (G.bl ob) (lB (G.hv ob)+((a'+n.toNat) * z2+0));rw[hbl g hg,ho0,Nat.add_mul,Nat.add_zero,Nat.add_assoc]
   ·cases h
  ·cases h
 ·cases h
theorem Jn (c:UInt8):inK .u8 c.toNat:=by
 have:=c.toNat_lt;simp only[inK,IntKind.min,IntKind.max,IntKind.signed,IntKind.bits];simp;omega
theorem tO:∀ {xs:List av} {ps:List PV},ew xs=some ps->xs=ps.map av.p
 | [],ps,h=>by simp [ew] at h; subst h; rfl
 | .p p::r,ps,h=>by
  simp only[ew,Option.map_eq_some_iff] at h;obtain⟨q,hq,rfl⟩:=h;rw[tO hq]; rfl
 | .dead::r,ps,h=>by simp [ew] at h
 | .nil::r,ps,h=>by simp [ew] at h
 | .loc _ _::r,ps,h=>by simp [ew] at h
 | .own _::r,ps,h=>by simp [ew] at h
 | .el _ _ _ _::r,ps,h=>by simp [ew] at h
 | .ip _ _::r,ps,h=>by simp [ew] at h
 | .mp _::r,ps,h=>by simp [ew] at h
 | .fn _ _::r,ps,h=>by simp [ew] at h
 | .nb _ _::r,ps,h=>by simp [ew] at h
 | .sv _ _ _ _::r,ps,h=>by simp [ew] at h
 | .tl _::r,ps,h=>by simp [ew] at h
 | .ps _::r,ps,h=>by simp [ew] at h
theorem En {e:Eff} {t:TypeId} {x y:Operand} (r:bP w0 χ0 T0 s a w G) (hd:∀ k,o.dst=some k->k<a.tmps.size) (ho:o.op = .index t x y) (h:ov P t [s.ev x,s.ev y]=some e) (hc:e.cond) :
  o.wp P a w (aX w0 χ0 T0 a.tmps.size (s.app o.dst e)) Q:=by
 have hx:=r.ev x;have hy:=r.ev y;unfold ov at h;split at h
 ·rename_i t' k n heq;simp only[List.cons.injEq,and_true] at heq;rw[heq.1] at hx;rw[heq.2] at hy;split at h
  ·rename_i hu;simp only[dQ,Option.some.injEq] at h;subst h;obtain⟨c1,c2⟩:=hc;have c2':n.toNat<t'.data.toList.length:=by simpa using c2
   have hb:t'[n.toNat]?=some (t'.data.toList.getD n.toNat 0):=by
    have h1:t'[n.toNat]?=some t'[n.toNat]:=by rw[getElem?_pos t' n.toNat c2]
    rw[h1,List.getD_eq_getElem?_getD,List.getElem?_eq_getElem c2'];rfl
   refine bD r hd (v := .int .u8 (t'.data.toList.getD n.toNat 0).toNat) ?_ (iz ?_)
   ·simp only[execOp,ho,(lv hx).1,(fH hy).1,Instr.index,asIntOf,Sem.run_bind,Sem.run_pure,Result.andThen_ok,run_underlying hu,c1,if_true,hb]
   ·exact Jn _
  ·cases h
 ·rename_i xs k n heq;simp only[List.cons.injEq,and_true] at heq;rw[heq.1] at hx;rw[heq.2] at hy;split at h
  ·rename_i m el hu;split at h
   ·rename_i ps hsz hps;split at h
    ·rename_i hm;obtain⟨hlen,hag⟩:=hm;simp only[dQ,Option.some.injEq] at h;subst h;obtain⟨c1,c2⟩:=hc;obtain⟨vs,hv,hall⟩:=hx;rw[tO hps] at hall;have hl:vs.length=ps.length:=by have:=hall.1; simpa using this.symm
     obtain⟨i,hi,hisz⟩:∃ i,P.info? el=some i/\i.size=1:=by
      unfold gB at hsz;split at hsz
      ·rw[Option.map_eq_some_iff] at hsz; exact hsz
      ·cases hsz
     have hus:(P.underlying el).isSome=true:=by
      unfold gB at hsz;split at hsz
      ·assumption
      ·cases hsz
     obtain⟨ud,hud⟩:=Option.isSome_iff_exists.1 hus;have hvn:vs[n.toNat]?=some vs[n.toNat]:=List.getElem?_eq_getElem (by omega);have hr:=hall.2 n.toNat (.p (ps.getD n.toNat (.bool false))) vs[n.toNat] (by rw[List.getElem?_map,List.getD_eq_getElem?_getD,List.getElem?_eq_getElem c2]; rfl) hvn;refine bD r hd (v:=vs[n.toNat]) ?_ hr;have hpart:(part el vs.toArray (n.toNat * 1)).run P w = .ok vs[n.toNat] w:=by
      rw[Nat.mul_one];simp [part,fO (t:=el) (P:=P) (by rw[hud]; simp),hag,hvn]
     have hnm:n<(m:Int):=by omega
     rw[Nat.mul_one] at hpart;simp [execOp,ho,hv,(fH hy).1,Instr.index,asIntOf,run_underlying hu,c1,hnm,sizeOf,typeInfo,hi,hisz,hpart]
    ·cases h
   ·cases h
  ·cases h
 ·cases h
theorem Eo {A:Arg} {x:Operand} {l:List (List PV)} (r:bP w0 χ0 T0 s a w G) (h:s.arg x=A) (hl:kF A=some l):∃ B c,a.eval x = .slice B l.length c/\l.length<=9223372036854775807:=by
 have hx:=r.ev x;unfold kF at hl;split at hl
 ·rw[(St.bF h).1] at hx;simp only[Option.some.injEq] at hl;subst hl;obtain⟨B,c,z,hv,hs,_⟩:=(AU hx).vR;exact⟨B,c,hv,Nat.le_trans hs.cap hs.max⟩
 ·rw[(St.bF h).1] at hx;simp only[Option.some.injEq] at hl;subst hl;exact⟨none,0,lx hx,by simp⟩
 ·rw[(St.bF h).1] at hx;simp only[Option.some.injEq] at hl;subst hl;obtain⟨B,c,z,hv,hs,_⟩:=((LRd.val hx).1:Rd _ _ _ _).vR;exact⟨B,c,hv,Nat.le_trans hs.cap hs.max⟩
 ·rename_i ob e z l';obtain⟨h1,h2⟩:=St.bF h;rw[h1] at hx;simp only[Option.some.injEq] at hl;subst hl;have hob:s.hp ob=some (.arr e z l'):=by simpa [Slot.ids,Cmp.ids,Cmp.leaves,av.ids] using h2
  have hval:a.eval x=G.hv ob:=LRd.val hx;obtain⟨B,c,hv,hc,hm⟩:=(r.gM ob _ hob).1.form;exact⟨B,c,hval.trans hv,Nat.le_trans hc hm⟩
 ·rename_i ob a' b' z2 e z l';obtain⟨h1,h2⟩:=St.bF h;rw[h1] at hx;split at hl
  ·rename_i hzb;simp only[Option.some.injEq] at hl;subst hl;have hob:s.hp ob=some (.arr e z l'):=by simpa [Slot.ids,Cmp.ids,Cmp.leaves,av.ids] using h2
   obtain⟨A,m,c,hv0,hab,hbm,hmc,hval⟩:=LRd.val hx;obtain⟨B,c',hv,hc,hm⟩:=(r.gM ob _ hob).1.form;rw[hv0] at hv;injection hv with hA hm' hc'
   subst hA hm' hc';refine⟨_,_,by rw[hval]; unfold svV; rw[show ((l'.take b').drop a').length=b'-a' by simp; omega],?_⟩;simp; omega
  ·cases hl
 ·cases hl
theorem tP {n:Nat} (h:n<=9223372036854775807):inK .i64 n:=by
 simp only[inK,IntKind.min,IntKind.max,IntKind.signed,IntKind.bits];simp; omega
theorem Jo {e:Eff} {t:TypeId} {x:Operand} {c:Call} (r:bP w0 χ0 T0 s a w G) (hd:∀ k,o.dst=some k->k<a.tmps.size) (ho:o.op = .call c) (hcc:c = { callee := .builtin .len,args := #[x],argTypes := #[t] }) (h:me P t [s.arg x]=some e) (hc:e.cond) :
  o.wp P a w (aX w0 χ0 T0 a.tmps.size (s.app o.dst e)) Q:=by
 subst hcc;have hx:=r.ev x;have run:∀ v,(Builtin.len_ #[t] o.type #[a.eval x]).run P w = .ok v w->(execOp a.eval o).run P w = .ok (.value v) w:=by
  intro v h;simp only[execOp,ho,resolve,invoke,builtin,Sem.run_bind,Sem.run_pure,Result.andThen_ok,List.map_toArray,List.map_cons,List.map_nil,h]
 unfold me at h;split at h
 ·rename_i ob k agg m heq;simp only[List.cons.injEq,and_true] at heq;obtain⟨h1,h2⟩:=St.bF heq;rw[h1] at hx;have hob:s.hp ob=some (.kx k agg m):=by simpa [Slot.ids,Cmp.ids,Cmp.leaves,av.ids] using h2
  have hval:a.eval x = .map (some (G.bl ob)):=LRd.val hx;obtain⟨es,clock,hm,_,_⟩:=r.gM ob _ hob;split at h
  ·rename_i hu;simp only[dQ,Option.some.injEq] at h;subst h;exact bD r hd (run _ (by simp [Builtin.len_,run_underlying hu,hval,goInt,getObj,Sem.run,hm.at_,hm.len])) (iz (tP hc))
  ·cases h
 ·rename_i ob agg m heq;simp only[List.cons.injEq,and_true] at heq;obtain⟨h1,h2⟩:=St.bF heq;rw[h1] at hx;have hob:s.hp ob=some (.iJ agg m):=by simpa [Slot.ids,Cmp.ids,Cmp.leaves,av.ids] using h2
  have hval:a.eval x = .map (some (G.bl ob)):=LRd.val hx;obtain⟨es,clock,mv,hm,_,hmv,_⟩:=r.gM ob _ hob;have hlen:mv.length=m.length:=by have:=congrArg List.length hmv; simpa using this
  split at h
  ·rename_i hu;simp only[dQ,Option.some.injEq] at h;subst h;exact bD r hd (run _ (by simp [Builtin.len_,run_underlying hu,hval,goInt,getObj,Sem.run,hm.at_,hm.len,hlen])) (iz (tP hc))
  ·cases h
 ·rename_i ob k agg m heq;simp only[List.cons.injEq,and_true] at heq;obtain⟨h1,h2⟩:=St.bF heq;rw[h1] at hx;have hob:s.hp ob=some (.fM k agg m):=by simpa [Slot.ids,Cmp.ids,Cmp.leaves,av.ids] using h2
  have hval:a.eval x = .map (some (G.bl ob)):=LRd.val hx;obtain⟨es,clock,hm,_,_⟩:=r.gM ob _ hob;split at h
  ·rename_i hu;simp only[dQ,Option.some.injEq] at h;subst h;exact bD r hd (run _ (by simp [Builtin.len_,run_underlying hu,hval,goInt,getObj,Sem.run,hm.at_,hm.len])) (iz (tP hc))
  ·cases h
 ·rename_i t' _ heq;simp only[List.cons.injEq,and_true] at heq;rw[(St.bF heq).1] at hx;split at h
  ·rename_i hu;simp only[val,Option.some.injEq] at h;subst h;exact bD r hd (run _ (by simp [Builtin.len_,run_underlying hu,(lv hx).1,goInt])) (iz (tP (lv hx).2))
  ·cases h
 ·rename_i A _ heq;simp only[List.cons.injEq,and_true] at heq;split at h
  ·rename_i el l hu hl;simp only[val,Option.some.injEq] at h;subst h;obtain⟨B,c,hv,hm⟩:=Eo r heq hl;exact bD r hd (run _ (by simp [Builtin.len_,run_underlying hu,hv,goInt])) (iz (tP hm))
  ·cases h
 ·cases h
end
end Go.Lad
namespace Go.Lad
open Go.RowKit
section
variable {P:Program} {w0:World} {χ0:Col} {T0:Ctx} {s:St} {a:Act} {w:World} {G:Gh} {o:Oper} {Q:Exit->Act->World->Prop}
def Gh.add (G:Gh) (d:Nat) (b:Nat) (v:Value):Gh:={ χ:=fun i=>if i=b then d+2 else G.χ i,bl:=Lad.upd G.bl d b,hv:=Lad.upd G.hv d v }
theorem aE {α:Type} (f:Nat->α) (k:Nat) (v:α):Lad.upd f k v k=v:=by simp [Lad.upd]
theorem fV {α:Type} (f:Nat->α) {k j:Nat} (v:α) (h:j≠k):Lad.upd f k v j=f j:=by simp [Lad.upd,h]
theorem Ext.new {G:Gh} {hp:Hp} {w:World} {d:Nat} (hn:Norm G.χ w) (hf:hp d=none/\d<1000000) (x:Obj) (v:Value) (h:cu):Ext G hp w (G.add d w.heap.size v) (Lad.upd hp d (some h)) (w.alloc x):=by
 refine⟨fun b hb hl=>⟨?_,Below.heap_alloc w x b hl⟩,fun i hi=>?_,fun i hi=>?_,fun i hi=>?_⟩
 ·show (if b=w.heap.size then d+2 else G.χ b)=0;rw[if_neg (by omega)]; exact hb
 ·exact fV _ _ (fun e=>hi.elim (fun hi=>hi (by rw[e]; exact hf.1)) fun hi=>by omega)
 ·exact fV _ _ (fun e=>hi.elim (fun hi=>hi (by rw[e]; exact hf.1)) fun hi=>by omega)
 ·rw[fV _ _ (fun e=>hi (by rw[e]; exact hf.1))]; exact hi
theorem Step.new {G : Gh} {w : World} (d : Nat) (v : Value) (x : Obj) : Step [] G.χ w (G.add d w.heap.size v).χ (w.alloc x) :=
  ((Step.refl [] G.χ w).alloc x).FV fun b hb => by
    show (if b=w.heap.size then d+2 else G.χ b)=G.χ b;rw [if_neg (by omega)]
theorem Norm.new {G:Gh} {w:World} (hn:Norm G.χ w) (d:Nat) (v:Value) (x:Obj):Norm (G.add d w.heap.size v).χ (w.alloc x):=fun b hb=>by
 have hb':w.heap.size+1<=b:=by simpa using hb
 show (if b=w.heap.size then d+2 else G.χ b)=0;rw[if_neg (by omega)]; exact hn b (by omega)
theorem mh {d:Nat} {x:Obj} {v:Value} {y:av} {h:cu} {c:Prop} (r:bP w0 χ0 T0 s a w G) (hd:∀ k,o.dst=some k->k<a.tmps.size) (hf:s.hp d=none/\d<1000000) (hv:Value)
  (hrun:(execOp a.eval o).run P w = .ok (.value v) (w.alloc x)) (hy:LRd (G.add d w.heap.size hv) (Lad.upd s.hp d (some h)) (w.alloc x) y v)
  (hh:HRd (G.add d w.heap.size hv) (Lad.upd s.hp d (some h)) (w.alloc x) d h):o.wp P a w (aX w0 χ0 T0 a.tmps.size (s.app o.dst ⟨c,.x y,[(d,h)]⟩)) Q:=by
 unfold Oper.wp;rw[hrun];refine⟨Act.jF _ _ _,_,r.upd hd (Ext.new r.norm hf x hv h) (Step.new d hv x).chg (by simp) (Norm.new r.norm d hv x) (fun i h' hi=>?_) hy⟩;change Lad.upd s.hp d (some h) i=some h' at hi;by_cases hid:i=d
 ·subst hid;rw[aE] at hi;injection hi with hi
  subst hi;exact .inr hh
 ·rw[fV _ _ hid] at hi;exact .inl ⟨hi,by simp⟩
theorem sZ {t:TypeId} {cs:List av} (h:kN P t=some cs):∃ i v,P.info? t=some i/\i.zero=some v/\v.cells.all (·.oneCell')=true/\cs=v.cells.toList.map ir:=by
 unfold kN at h;split at h
 ·split at h
  ·split at h
   ·rename_i hc;simp only[Option.some.injEq] at h;exact⟨_,_,by assumption,by assumption,hc,h.symm⟩
   ·cases h
  ·cases h
 ·cases h
theorem FX {G:Gh} {hp:Hp} {w:World} {v:Value} (h:v.cells.all (·.oneCell')=true):dU (LRd G hp w) (v.cells.toList.map ir) v.cells.toList :=
 ⟨by simp,fun i x u hx hu=>by
  rw[List.getElem?_map,hu] at hx;simp only[Option.map_some,Option.some.injEq] at hx;subst hx;exact qk G hp w (Array.all_eq_true_iff_forall_mem.1 h u (by simpa using List.mem_of_getElem? hu))⟩
theorem Ep {e:Eff} {t:TypeId} (r:bP w0 χ0 T0 s a w G) (hd:∀ k,o.dst=some k->k<a.tmps.size) (ho:o.op = .alloc t) (h:kJ P t o.dst (aF s.hp o.dst) []=some e) :
  o.wp P a w (aX w0 χ0 T0 a.tmps.size (s.app o.dst e)) Q:=by
 cases hdst:o.dst with
 | none=>simp [kJ,hdst] at h
 | some d =>
 cases hz:kN P t with
 | none=>simp [kJ,hz] at h
 | some cs =>
 simp only[kJ,hdst,hz] at h
 ·split at h
  ·rename_i hf;simp only[Option.some.injEq] at h;subst h;have hf':s.hp d=none/\d<1000000:=by simpa [aF] using hf
   rw[← hdst];obtain⟨i,v,h1,h2,h3,rfl⟩:=sZ hz;refine mh r hd hf' (x := .cells v.cells t) (v:=ptr w.heap.size 0) .nilFunc ?_ ⟨rfl,fun j hj=>?_,?_⟩ ?_
   ·simp [execOp,ho,Instr.alloc,zeroValue,typeInfo,h1,h2,newVar,newRow,ptr]
   ·simp [av.ids] at hj; subst hj; rw[aE]; simp
   ·show ptr w.heap.size 0=ptr (Lad.upd G.bl d w.heap.size d) 0;rw[aE]
   ·refine⟨v.cells.toList,?_,?_,FX h3⟩
    ·show Blk _ (Lad.upd G.bl d w.heap.size d) t _;rw[aE]; simpa using Blk.new w t v.cells
    ·show (if (Lad.upd G.bl d w.heap.size d)=w.heap.size then d+2 else _)=d+2;rw[aE,if_pos rfl]
  ·cases h
theorem Jp (f:List Value):∀ (j:Nat) (cs:Array Value) (off:Nat),(f.zipIdx j).foldl (fun (cs:Array Value) (x:Value×Nat)=>cs.setIfInBounds (off+x.2) x.1) cs=(cs.toList.take (off+j)++f.take (cs.size-(off+j))++cs.toList.drop (off+j+f.length)).toArray:=by
 induction f with
 | nil=>intro j cs off; simp
 | cons v f ih =>
  intro j cs off;rw[List.zipIdx_cons,List.foldl_cons,ih];apply Array.ext';simp only[Array.toList_setIfInBounds,Array.size_setIfInBounds,List.length_cons];apply List.ext_getElem?;intro i;rcases Nat.lt_or_ge (off+j) cs.size with hlt | hge
  ·have e1:cs.size-(off+j)=(cs.size-(off+(j+1)))+1:=by omega
   rw[e1,List.take_succ_cons];have e2:(cs.toList.set (off+j) v).take (off+(j+1))=cs.toList.take (off+j)++[v]:=by
    rw[show off+(j+1)=off+j+1 by omega,List.take_set];rw[List.take_succ_eq_append_getElem (by simpa using hlt),List.set_append_right _ _ (by simp; omega)];have:(List.take (off+j) cs.toList).length=off+j:=by simp; omega
    simp [this]
   rw[e2,List.drop_set,if_pos (by omega)];rw[show off+(j+1)+f.length=off+j+(f.length+1) by omega];simp [List.append_assoc]
  ·have h1:cs.toList.set (off+j) v=cs.toList:=List.set_eq_of_length_le (by simpa using hge);have e0:cs.size-(off+j)=0:=by omega
   have e1:cs.size-(off+(j+1))=0:=by omega
   have e2:cs.toList.take (off+(j+1))=cs.toList:=List.take_of_length_le (by simp; omega);have e3:cs.toList.take (off+j)=cs.toList:=List.take_of_length_le (by simp; omega);have e4:cs.toList.drop (off+(j+1)+f.length)=[]:=List.drop_of_length_le (by simp; omega);have e5:cs.toList.drop (off+j+(f.length+1))=[]:=List.drop_of_length_le (by simp; omega);rw[h1,e0,e1,e2,e3,e4,e5]; simp
theorem CRd.cells {G:Gh} {hp:Hp} {w:World} {c:Cmp} {v:Value} (h:CRd G hp w c v):dU (LRd G hp w) c.leaves v.cells.toList:=by
 cases c with
 | v x =>
  have h1:=LRd.one h;have:v.cells = #[v]:=by cases v <;> first | rfl | simp [Value.oneCell'] at h1
  rw[this];refine⟨rfl,fun i a b ha hb=>?_⟩;cases i with
  | zero=>simp [Cmp.leaves] at ha hb; subst ha hb; exact h
  | succ i=>simp [Cmp.leaves] at ha
 | g xs =>
  obtain⟨vs,rfl,h2⟩:=h
  simpa [Cmp.leaves,Value.cells] using h2
theorem dU.append {α β:Type} {R:α->β->Prop} {l l':List α} {m m':List β} (h:dU R l m) (k:dU R l' m'):dU R (l++l') (m++m'):=by
 refine⟨by simp [h.1,k.1],fun i a b ha hb=>?_⟩;rcases Nat.lt_or_ge i l.length with hi | hi
 ·rw[List.getElem?_append_left hi] at ha;rw[List.getElem?_append_left (by rw[← h.1]; exact hi)] at hb;exact h.2 i a b ha hb
 ·rw[List.getElem?_append_right hi] at ha;rw[List.getElem?_append_right (by rw[← h.1]; exact hi),← h.1] at hb;exact k.2 _ a b ha hb
theorem dU.take {α β:Type} {R:α->β->Prop} {l:List α} {m:List β} (h:dU R l m) (n:Nat):dU R (l.take n) (m.take n):=by simpa using h.cut 0 n
theorem dU.drop {α β:Type} {R:α->β->Prop} {l:List α} {m:List β} (h:dU R l m) (n:Nat):dU R (l.drop n) (m.drop n):=by
 refine⟨by simp [h.1],fun i a b ha hb=>?_⟩;rw[List.getElem?_drop] at ha hb;exact h.2 _ a b ha hb
theorem Pj {G:Gh} {hp:Hp} {w:World} {cs:List av} {vs:List Value} {c:Cmp} {v:Value} {off:Nat} (h:dU (LRd G hp w) cs vs) (hc:CRd G hp w c v) (hle:off+c.leaves.length<=cs.length) :
  dU (LRd G hp w) (cs.take off++c.leaves++cs.drop (off+c.leaves.length)) (vs.take off++v.cells.toList++vs.drop (off+v.cells.toList.length)):=by
 have h1:=hc.cells;rw[← h1.1];exact ((h.take off).append h1).append (h.drop _)
theorem FY {place:Nat->Option (Nat×Nat)}:∀ (is:List Nat) (xs:List Operand) (l:List (Nat×Nat×Cmp)) (cs cs':List av) (vs:List Value),bP w0 χ0 T0 s a w G->ow place is (xs.map s.ev)=some l->wY cs l=some cs'->dU (LRd G s.hp w) cs vs ->
  ∃ vs':List Value,Instr.fill place vs.toArray (is.zip (xs.map a.eval))=some vs'.toArray/\dU (LRd G s.hp w) cs' vs'
 | [],[],l,cs,cs',vs,r,h1,h2,h3=>by
  simp [ow] at h1;subst h1;simp [wY] at h2;subst h2;exact⟨vs,by simp [Instr.fill],h3⟩
 | [],x::xs,l,cs,cs',vs,r,h1,h2,h3=>by simp [ow] at h1
 | i::is,[],l,cs,cs',vs,r,h1,h2,h3=>by simp [ow] at h1
 | i::is,x::xs,l,cs,cs',vs,r,h1,h2,h3=>by
  have hx:=r.ev x;rw[List.map_cons] at h1;unfold ow at h1;split at h1
  ·rename_i heq; cases heq
  ·rename_i i' is' c rest heq1 heq2;simp only[List.cons.injEq] at heq1 heq2;obtain⟨rfl,rfl⟩:=heq1;obtain⟨e1,rfl⟩:=heq2;rw[e1] at hx;split at h1
   ·rename_i off n l' hp hl;simp only[Option.some.injEq] at h1;subst h1;simp only[wY] at h2;split at h2
    ·rename_i hc;obtain⟨rfl,hle⟩:=hc;have hput:=Pj h3 hx hle;obtain⟨vs',g1,g2⟩:=FY is xs l' _ cs' _ r hl h2 hput;refine⟨vs',?_,g2⟩;have hcl:=(CRd.cells hx).1;have hsz:(a.eval x).cells.size=c.leaves.length:=by rw[hcl]; simp
     have hvl:=h3.1;simp only[List.map_cons,List.zip_cons_cons,Instr.fill,hp,hsz];rw[if_neg (by simp; omega)];have:=Jp (a.eval x).cells.toList 0 vs.toArray off;have e2:(a.eval x).cells.zipIdx.foldl (fun (cs:Array Value) (x:Value×Nat)=>cs.setIfInBounds (off+x.2) x.1) vs.toArray=((a.eval x).cells.toList.zipIdx 0).foldl (fun (cs:Array Value) (x:Value×Nat)=>cs.setIfInBounds (off+x.2) x.1) vs.toArray:=by
      rw[← Array.foldl_toList]; simp
     have e3:((a.eval x).cells.zipIdx.foldl (fun cs (c,j)=>cs.setIfInBounds (off+j) c) vs.toArray)=(vs.take off++(a.eval x).cells.toList++vs.drop (off+(a.eval x).cells.toList.length)).toArray:=by
      refine e2.trans (this.trans ?_);simp only[Nat.add_zero,List.size_toArray];rw[List.take_of_length_le (i:=vs.length-off) (by rw[← hcl]; omega)]
     rw[e3]; exact g1
    ·cases h2
   ·cases h1
  ·cases h1
theorem zB {f g:Nat->Option (Nat×Nat)} (h:∀ i x,f i=some x->g i=some x):∀ (l:List (Nat×Value)) (cs r:Array Value),Instr.fill f cs l=some r->Instr.fill g cs l=some r
 | [],cs,r,e=>e
 | (i,v)::l,cs,r,e=>by
  unfold Instr.fill at e ⊢;cases hf:f i with
  | none=>rw[hf] at e; cases e
  | some x =>
   rw[hf] at e;rw[h i x hf];obtain⟨off,size⟩:=x;dsimp only at e ⊢;split at e
   ·cases e
   ·rename_i hc;rw[if_neg hc];exact zB h _ _ _ e
theorem Er {e:Eff} {t:TypeId} {ps:Array (Nat×Operand)} (r:bP w0 χ0 T0 s a w G) (hd:∀ k,o.dst=some k->k<a.tmps.size) (ho:o.op = .build t ps) (h:si P t (ps.toList.map (·.1)) ((ps.toList.map (·.2)).map s.ev)=some e) :
  o.wp P a w (aX w0 χ0 T0 a.tmps.size (s.app o.dst e)) Q:=by
 unfold si at h;split at h
 ·rename_i pl z hpl hz;split at h
  ·rename_i l hl;split at h
   ·rename_i cs hcs;simp only[val,Option.some.injEq] at h;subst h;obtain⟨i,v,h1,h2,h3,rfl⟩:=sZ hz;obtain⟨vs,g1,g2⟩:=FY (place:=fun i=>pl[i]?) _ _ l _ cs _ r hl hcs (FX (G:=G) (hp:=s.hp) (w:=w) h3);have hb:P.built t (ps.map fun (i,x)=>(i,a.eval x)).toList=some vs.toArray:=by
     unfold placesOf at hpl;unfold Program.built;split at hpl
     ·rename_i fs hu;have e1:(ps.map fun (i,x)=>(i,a.eval x)).toList=(ps.toList.map (·.1)).zip ((ps.toList.map (·.2)).map a.eval):=by
       rw[Array.toList_map,List.map_map,List.zip_map']; rfl
      rw[e1];simp only[h1,hu,h2,hpl]
      simpa using g1
     ·rename_i m el hu;have e1:(ps.map fun (i,x)=>(i,a.eval x)).toList=(ps.toList.map (·.1)).zip ((ps.toList.map (·.2)).map a.eval):=by
       rw[Array.toList_map,List.map_map,List.zip_map']; rfl
      rw[e1];cases hi:P.info? el with
      | none=>rw[hi] at hpl; cases hpl
      | some ie =>
       rw[hi] at hpl;simp only[Option.map_some,Option.some.injEq] at hpl;subst hpl;simp only[h1,hu,h2,hi];refine zB (f:=fun i=>((List.range m).map fun k=>(k * ie.size,ie.size))[i]?) (fun i x hx=>?_) _ _ _ (by simpa using g1);rw[List.getElem?_map,Option.map_eq_some_iff] at hx;obtain⟨k,hk,rfl⟩:=hx;have hk2:=(List.getElem?_eq_some_iff.1 hk).2;rw[List.getElem_range] at hk2;rw[hk2]
     ·cases hpl
    refine bD r hd ?_ ⟨vs,rfl,g2⟩;simp only[execOp,ho,Sem.run_bind,run_build w t _ _ hb,Result.andThen_ok,Sem.run_pure]
   ·cases h
  ·cases h
 ·cases h
theorem Es {z:Nat} (hz:0<z) (vs:List Value) (h:∀ v∈vs,v.cells.size=z) {i:Nat} {v:Value} (hi:vs[i]?=some v):chunk z i (vs.flatMap fun v=>v.cells.toList)=v.cells.toList:=by
 have hv:v.cells.size=z:=h v (List.mem_of_getElem? hi);apply List.ext_getElem?;intro j;unfold chunk;rw[List.getElem?_take];split
 ·rename_i hj;have e1:(i * z+j) / z=i:=by rw[Nat.mul_comm,Nat.mul_add_div hz,Nat.div_eq_of_lt hj,Nat.add_zero]
  have e2:(i * z+j) % z=j:=by rw[Nat.mul_comm,Nat.mul_add_mod,Nat.mod_eq_of_lt hj]
  rw[List.getElem?_drop,Great.flat_get hz vs h (i * z+j),e1,e2,hi];simp
 ·rw[List.getElem?_eq_none (by simp; omega)]
theorem zC {z k:Nat} {e:TypeId} {χ:Col} {w:World} {l:List (List PV)} {vs:List Value} (hz:0<z) (hk:χ w.heap.size=k) (hm:l.length<=9223372036854775807)
  (hl:dU (fun row v=>v.cells.size=z/\RdL (In χ 0) (w.alloc (.cells (vs.flatMap fun v=>v.cells.toList).toArray e)) row v.cells.toList) l vs) :
  Own (α:=CZ z) k χ e (w.alloc (.cells (vs.flatMap fun v=>v.cells.toList).toArray e)) (.slice (some ⟨w.heap.size,0,none⟩) l.length l.length) l:=by
 have hs:∀ v∈vs,v.cells.size=z:=fun v hv=>by
  obtain⟨i,hi⟩:=List.mem_iff_getElem?.1 hv;have hlt:i<l.length:=by rw[hl.1]; exact (List.getElem?_eq_some_iff.1 hi).1
  exact (hl.2 i _ v (List.getElem?_eq_getElem hlt) hi).1
 have hlen:(vs.flatMap fun v=>v.cells.toList).length=l.length * z:=by
  rw[hl.1];clear hl hm;induction vs with
  | nil=>simp
  | cons v vs ih =>
   rw[List.flatMap_cons,List.length_append,ih (fun u hu=>hs u (List.mem_cons_of_mem _ hu)),List.length_cons,Nat.add_mul];have:=hs v List.mem_cons_self;simp; omega
 refine⟨⟨vs.flatMap fun v=>v.cells.toList,jq.of ⟨hlen,.inr ⟨w.heap.size,l.length,_,rfl,Nat.zero_le _,heap_alloc_new w _,Nat.le_refl _,by simpa [maxLen] using hm,by rw[show aA.sz (CZ z)=z from rfl]; simpa using hlen,by rw[show aA.sz (CZ z)=z from rfl]; exact List.take_of_length_le (Nat.le_of_eq hlen)⟩⟩,fun i x hx=>?_⟩,fun g hg=>?_⟩
 ·obtain⟨v,hv,h1,h2⟩:=hl.get hx;rw[show aA.sz (CZ z)=z from rfl,Es hz vs hs hv];exact⟨by simpa using h1,h2⟩
 ·simp [Value.ownBlock] at hg;subst hg;exact hk
theorem tQ:∀ {xs:List av} {ps:List PV},ew xs=some ps->xs=ps.map av.p
 | [],ps,h=>by simp [ew] at h; subst h; rfl
 | .p p::r,ps,h=>by
  simp only[ew,Option.map_eq_some_iff] at h;obtain⟨q,hq,rfl⟩:=h;rw[tQ hq]; rfl
 | .dead::r,ps,h=>by simp [ew] at h
 | .nil::r,ps,h=>by simp [ew] at h
 | .loc _ _::r,ps,h=>by simp [ew] at h
 | .own _::r,ps,h=>by simp [ew] at h
 | .el _ _ _ _::r,ps,h=>by simp [ew] at h
 | .ip _ _::r,ps,h=>by simp [ew] at h
 | .mp _::r,ps,h=>by simp [ew] at h
 | .fn _ _::r,ps,h=>by simp [ew] at h
 | .sv _ _ _ _::r,ps,h=>by simp [ew] at h
 | .tl _::r,ps,h=>by simp [ew] at h
 | .ps _::r,ps,h=>by simp [ew] at h
theorem qo {xs:List PV} {vs:List Value} (h:dU (LRd G s.hp w) (xs.map av.p) vs):RdL (In G.χ 0) w xs vs:=by
 refine⟨by simpa using h.1,fun j p v hp hv=>?_⟩;exact (h.2 j (.p p) v (by rw[List.getElem?_map,hp]; rfl) hv).val
theorem MC {x:av} {p:PV} {v:Value} (h:Cc x=some p) (hx:LRd G s.hp w x v):Rd (In G.χ 0) w p v:=by
 unfold Cc at h;split at h
 ·simp only[Option.some.injEq] at h; subst h; exact hx.val
 ·simp only[Option.some.injEq] at h;subst h;have:v = .slice none 0 0:=hx.val;subst this;exact .sl0 (fun _=>rfl) (by omega)
 ·cases h
theorem w9:∀ {xs:List av} {ps:List PV} {vs:List Value},iv xs=some ps->dU (LRd G s.hp w) xs vs->RdL (In G.χ 0) w ps vs
 | [],ps,vs,h,ha=>by
  simp only[iv,Option.some.injEq] at h;subst h;have:vs=[]:=List.eq_nil_of_length_eq_zero ha.1.symm;subst this;exact⟨rfl,by simp⟩
 | x::xs,ps,vs,h,ha=>by
  unfold iv at h;split at h
  ·rename_i p l hp hl;simp only[Option.some.injEq] at h;subst h;cases vs with
   | nil=>cases ha.1
   | cons v vs =>
    have ih:=w9 hl (vs:=vs) ⟨by simpa using ha.1,fun i a b h1 h2=>ha.2 (i+1) a b (by simpa using h1) (by simpa using h2)⟩;refine⟨by simp [ih.1],fun j p' v' h1 h2=>?_⟩;cases j with
    | zero =>
     simp at h1 h2;subst h1 h2;exact MC hp (ha.2 0 x v rfl rfl)
    | succ j=>exact ih.2 j p' v' (by simpa using h1) (by simpa using h2)
  ·cases h
theorem FZ {z:Nat}:∀ (xs:List Operand) (l:List (List PV)),bP w0 χ0 T0 s a w G->rowsOf z (xs.map s.arg)=some l->dU (fun row v=>v.cells.size=z/\RdL (In G.χ 0) w row v.cells.toList) l (xs.map a.eval)
 | [],l,r,h=>by simp [rowsOf] at h; subst h; exact⟨rfl,by simp⟩
 | x::xs,l,r,h=>by
  have hx:=r.ev x;rw[List.map_cons] at h;unfold rowsOf at h;split at h
  ·rename_i heq; cases heq
  ·rename_i c hs rest heq;simp only[List.cons.injEq] at heq;obtain⟨e1,rfl⟩:=heq;rw[(St.bF e1).1] at hx;split at h
   ·rename_i ps l' hps hl';split at h
    ·rename_i hz;simp only[Option.some.injEq] at h;subst h;have ih:=FZ xs l' r hl';have hc:=CRd.cells hx;have h2:=w9 hps hc;refine⟨by simp [ih.1],fun i row v hr hv=>?_⟩;cases i with
     | zero =>
      simp at hr hv;subst hr hv;exact⟨by have:=h2.1; simp at this; omega,h2⟩
     | succ i=>exact ih.2 i row v (by simpa using hr) (by simpa using hv)
    ·cases h
   ·cases h
  ·cases h
theorem uU {α:Type} (vs:List α):(List.range vs.length).zip vs=(vs.zipIdx 0).map fun x=>(x.2,x.1):=by
 apply List.ext_getElem?;intro i;rw[List.getElem?_map,List.getElem?_zipIdx];rcases Nat.lt_or_ge i vs.length with h | h
 ·simp [List.getElem?_eq_getElem,h]
 ·rw[List.getElem?_eq_none (by simp; omega),List.getElem?_eq_none h];rfl
theorem wo {e:Eff} {t:TypeId} {n:Nat} {ps:Array (Nat×Operand)} (r:bP w0 χ0 T0 s a w G) (hd:∀ k,o.dst=some k->k<a.tmps.size) (ho:o.op = .buildSlice t n ps)
  (h:dx P t n (ps.toList.map (·.1)) o.dst (aF s.hp o.dst) ((ps.toList.map (·.2)).map s.arg)=some e):o.wp P a w (aX w0 χ0 T0 a.tmps.size (s.app o.dst e)) Q:=by
 cases hdst:o.dst with
 | none=>simp [dx,hdst] at h
 | some d =>
 cases hel:cR P t with
 | none=>simp [dx,hel] at h
 | some ez =>
 obtain⟨el,z⟩:=ez;simp only[dx,hdst,hel] at h;split at h
 ·rename_i hc;obtain⟨h1,h2,h3,h4⟩:=hc;split at h
  ·rename_i l hl;simp only[Option.some.injEq] at h;subst h;have hf':s.hp d=none/\d<1000000:=by simpa [aF] using h2
   have hrd:=FZ _ l r hl;have hE:=fe hel;obtain⟨i,zv,hi,hz,hsz,hby,hzs⟩:=hE.ex;have hn:l.length=n:=by
    have:=congrArg List.length h1;rw[hrd.1]; simpa using this
   have hrun:(execOp a.eval o).run P w = .ok (.value (.slice (some ⟨w.heap.size,0,none⟩) l.length l.length)) (w.alloc (.cells (((ps.toList.map (·.2)).map a.eval).flatMap fun v=>v.cells.toList).toArray el)):=by
    have hlv:((ps.toList.map (·.2)).map a.eval).length=n:=by rw[← hrd.1]; exact hn
    have hvz:∀ v∈(ps.toList.map (·.2)).map a.eval,v.cells.size=z:=fun v hv=>by
     obtain⟨j,hj⟩:=List.mem_iff_getElem?.1 hv;have hlt:j<l.length:=by rw[hrd.1]; exact (List.getElem?_eq_some_iff.1 hj).1
     exact (hrd.2 j _ v (List.getElem?_eq_getElem hlt) hj).1
    have e1:(ps.map fun (i,x)=>(i,a.eval x)).toList=(((ps.toList.map (·.2)).map a.eval).zipIdx 0).map fun x=>(x.2,x.1):=by
     rw[← uU,hlv,← h1,Array.toList_map,List.map_map,List.zip_map']; rfl
    rw[hn];generalize (ps.toList.map (·.2)).map a.eval=vs at *
    have hbs:(Instr.buildSlice t n (ps.map fun (i,x)=>(i,a.eval x))).run P w = .ok (.slice (some ⟨w.heap.size,0,none⟩) n n) (w.alloc (.cells (vs.flatMap fun v=>v.cells.toList).toArray el)):=by
     by_cases hn0:n=0
     ·have hvs:vs=[]:=List.eq_nil_of_length_eq_zero (by rw[hlv,hn0]);subst hvs;subst hn0;have hps:ps = #[]:=by
       have:=congrArg List.length h1
       simpa using this
      subst hps;simp [Instr.buildSlice,run_underlying hE.ty,sizeOf,typeInfo,hi,Instr.fill,newRow];rw[show Array.range 0 = #[] from Array.eq_empty_of_size_eq_zero (by simp)];rw[Array.map_empty]
     ·refine run_buildSlice w t el n _ _ i zv hE.ty hi hz ?_ ?_ ?_
      ·rw[hsz];have:n * z<=100 * 1000:=Nat.mul_le_mul h3 h4;omega
      ·rw[hsz];intro h0;rcases Nat.mul_eq_zero.1 h0 with h0 | h0
       ·exact hn0 h0
       ·have:=hE.pos; omega
      ·rw[e1,hsz];exact Great.fill_whole hE.pos vs _ hvz (by simp [hlv])
    simp only[execOp,ho,Sem.run_bind,hbs,Result.andThen_ok,Sem.run_pure]
   rw[← hdst];refine mh r hd hf' (.slice (some ⟨w.heap.size,0,none⟩) l.length l.length) hrun ⟨rfl,fun j hj=>?_,?_⟩ ⟨?_,fun b hb=>?_⟩
   ·simp [av.ids] at hj; subst hj; rw[aE]; simp
   ·exact (aE G.hv d _).symm
   ·show Own (α:=CZ z) (d+2) _ el _ (Lad.upd G.hv d _ d) l;rw[aE];refine zC hE.pos ?_ (by omega) ⟨hrd.1,fun j row v hr hv=>?_⟩
    ·show (if w.heap.size=w.heap.size then d+2 else _)=d+2;rw[if_pos rfl]
    ·obtain⟨q1,q2⟩:=hrd.2 j row v hr hv;exact⟨q1,q2.frame (Ext.new r.norm hf' _ (.slice (some ⟨w.heap.size,0,none⟩) l.length l.length) .gone).blk⟩
   ·change (Lad.upd G.hv d _ d).ownBlock=some b at hb;rw[aE] at hb;simp [Value.ownBlock] at hb;show b=Lad.upd G.bl d w.heap.size d;rw[aE]; exact hb.symm
  ·cases h
 ·cases h
end
end Go.Lad
namespace Go.Lad
open Go.RowKit
def Src (χ:Col) (w:World) (z:Nat) (v:Value) (m:List (List PV)):Prop :=
 ∃ A c,∃ news:List Value,v = .slice A m.length c/\news.length=m.length * z/\(∀ u∈news,u.oneCell'=true)/\(∀ i x,m[i]?=some x->aA.rd (α:=CZ z) (In χ 0) w (chunk z i news) x)/\(A=none->m=[]) /\
  (∀ ad,A=some ad->∀ j u,news[j]?=some u->w.cell? (ad.add j)=some u)
theorem Src.sub {χ:Col} {w:World} {z n c a b:Nat} {A:Option Addr} {l:List (List PV)} (h:Src χ w z (.slice A n c) l) (hab:a<=b) (hb:b<=l.length) (hc:l.length<=c):Src χ w z (svV A c a b z) ((l.take b).drop a):=by
 obtain⟨A',c',news,hv,n1,n2,n3,n4,n5⟩:=h;injection hv with hA hn hc'
 subst hA hc';have hl:((l.take b).drop a).length=b-a:=by simp; omega
 have h1:(b-a) * z<=l.length * z-a * z:=by
  rw[← Nat.sub_mul]; exact Nat.mul_le_mul_right _ (by omega)
 refine⟨if c=a then A else A.map (·.add (a * z)),c-a,(news.drop (a * z)).take ((b-a) * z),by rw[hl]; rfl,by rw[hl,List.length_take,List.length_drop,n1]; omega,fun u hu=>n2 u (List.mem_of_mem_drop (List.mem_of_mem_take hu)),fun i x hx=>?_,fun hn=>?_,fun ad had j u hu=>?_⟩
 ·have hi:i<b-a:=by rw[← hl]; exact (List.getElem?_eq_some_iff.1 hx).1
  have hx':((l.take b).drop a)[i]?=some (show List PV from x):=hx;rw[List.getElem?_drop,List.getElem?_take,if_pos (by omega)] at hx';have:=n3 _ x hx';have e:chunk z i ((news.drop (a * z)).take ((b-a) * z))=chunk z (a+i) news:=by
   unfold chunk;apply List.ext_getElem?;intro j;rw[List.getElem?_take,List.getElem?_take];split
   ·rename_i hj;rw[List.getElem?_drop,List.getElem?_take,List.getElem?_drop,List.getElem?_drop];have:i * z+j<(b-a) * z:=by
     have:(i+1) * z<=(b-a) * z:=Nat.mul_le_mul_right _ hi;rw[Nat.add_mul] at this; omega
    rw[if_pos this,Nat.add_mul,Nat.add_assoc]
   ·rfl
  rw[e]; exact this
 ·by_cases hca:c=a
  ·exact List.eq_nil_of_length_eq_zero (by rw[hl]; omega)
  ·rw[if_neg hca] at hn;have:A=none:=by cases A <;> simp_all
   rw[n4 this]; simp
 ·have hj:j<(b-a) * z:=by
   have:=(List.getElem?_eq_some_iff.1 hu).1;rw[List.length_take] at this; omega
  by_cases hca:c=a
  ·have:b-a=0:=by omega
   rw[this] at hj; omega
  ·rw[if_neg hca,Option.map_eq_some_iff] at had;obtain⟨ad0,h0,rfl⟩:=had;rw[List.getElem?_take,if_pos hj,List.getElem?_drop] at hu;have:=n5 ad0 h0 _ u hu;rw[Addr.add_add]; exact this
theorem F0 {e:TypeId} {k kd z:Nat} {χ:Col} {w w':World} {v v':Value} {l m:List (List PV)} {xs news:List Value} (hxl:xs.length=l.length * z) (hx:∀ (i:Nat) x,l[i]?=some x->aA.rd (α:=CZ z) (In χ 0) w (chunk z i xs) x)
  (hcol:∀ g,v.ownBlock=some g->χ g=k) (n2:∀ (i:Nat) x,m[i]?=some x->aA.rd (α:=CZ z) (In χ 0) w (chunk z i news) x) (hk:k≠0) (hnm:Norm χ w)
  (h1:jq w' e z v' (l.length+m.length) (xs++news)) (h2:w.grownBy w' v.ownBlock) (h3:v'.ownBlock=v.ownBlock\/v'.ownBlock=some w.heap.size) :
  ∃ χ',Own (α:=CZ z) kd χ' e w' v' (l++m)/\Chg [k] χ w χ' w'/\Norm χ' w'/\(∀ b,In χ 0 b->b<w.heap.size->In χ' 0 b/\w'.heap[b]?=w.heap[b]?):=by
 have hold:∀ b,b<w.heap.size->v'.ownBlock=some b->χ b=k:=fun b hb hv=>by
  rcases h3 with h3 | h3
  ·exact hcol b (h3 ▸ hv)
  ·rw[h3] at hv; injection hv with hv; omega
 have hfr:∀ b,In χ 0 b->b<w.heap.size->In (fun b=>if v'.ownBlock=some b then kd else if b<w.heap.size then χ b else 0) 0 b/\w'.heap[b]?=w.heap[b]? := by
  intro b hb hl;have hne:v'.ownBlock≠some b:=fun hv=>hk ((hold b hl hv).symm.trans hb);refine⟨?_,h2.block b hl fun he=>hk ((hcol b he.symm).symm.trans hb)⟩;show (if v'.ownBlock=some b then kd else if b<w.heap.size then χ b else 0)=0;rw[if_neg hne,if_pos hl]; exact hb
 refine⟨fun b=>if v'.ownBlock=some b then kd else if b<w.heap.size then χ b else 0,?_,⟨h2.os,h2.tape,h2.output,h2.size,fun b hb hT=>?_,fun b hb hT=>h2.block b hb ?_⟩,fun b hb=>?_,hfr⟩
 ·refine⟨⟨xs++news,?_,fun j x hj=>?_⟩,fun g hg=>?_⟩
  ·exact (by rw[List.length_append]; exact h1:jq w' e z v' (l++m).length (xs++news))
  ·refine aA.frame hfr ?_;rcases Nat.lt_or_ge j l.length with hjl | hjl
   ·have hj':l[j]?=some x:=by rw[← List.getElem?_append_left (l₂:=m) hjl]; exact hj
    have e1:chunk z j (xs++news)=chunk z j xs:=by
     unfold chunk;have:j * z+z<=xs.length:=by
      rw[hxl,← Nat.succ_mul]; exact Nat.mul_le_mul_right _ hjl
     rw[List.drop_append_of_le_length (by omega),List.take_append_of_le_length (by rw[List.length_drop]; omega)]
    rw[show aA.sz (CZ z)=z from rfl,e1]; exact hx j x hj'
   ·have hj':m[j-l.length]?=some x:=by rw[← List.getElem?_append_right (l₁:=l) hjl]; exact hj
    have e1:chunk z j (xs++news)=chunk z (j-l.length) news:=by
     unfold chunk;have:j * z=xs.length+(j-l.length) * z:=by
      rw[hxl,← Nat.add_mul]; congr 1; omega
     rw[this,List.drop_append,Nat.add_sub_cancel_left,List.drop_of_length_le (Nat.le_add_right _ _),List.nil_append]
    rw[show aA.sz (CZ z)=z from rfl,e1];exact n2 _ x hj'
  ·show (if v'.ownBlock=some g then kd else _)=kd;rw[if_pos hg]
 ·show (if v'.ownBlock=some b then kd else if b<w.heap.size then χ b else 0)=χ b;rw[if_neg (fun hv=>hT (by rw[hold b hb hv]; simp)),if_pos hb]
 ·intro he;exact hT (by rw[hcol b he.symm]; simp)
 ·show (if v'.ownBlock=some b then kd else if b<w.heap.size then χ b else 0)=0;have h5:=h2.size;rw[if_neg (fun hv=>by have:=(h1.lt b hv).2; omega),if_neg (by omega)]
theorem Cg {P:Program} {t e ty:TypeId} {k kd z:Nat} {χ:Col} {w:World} {v y:Value} {l m:List (List PV)} (hE:Ej P t e z) (hown:Own (α:=CZ z) k χ e w v l) (hsrc:Src χ w z y m) (hk:k≠0) (hkd:kd≠0)
  (hlen:l.length+m.length<=2147483647) (hnm:Norm χ w) :
  ∃ v' w' χ',(Builtin.append_ #[t,t] ty #[v,y]).run P w = .ok v' w'/\Own (α:=CZ z) kd χ' e w' v' (l++m)/\Chg [k] χ w χ' w'/\Norm χ' w'/\(∀ b,In χ 0 b->b<w.heap.size->In χ' 0 b/\w'.heap[b]?=w.heap[b]?):=by
 obtain⟨i,zv,hi,hz,hsize,hby,hzs⟩:=hE.ex;obtain⟨⟨xs,ho,hx⟩,hcol⟩:=hown;obtain⟨A,c,news,rfl,n1,n1c,n2,hA,n3⟩:=hsrc;have hxl:xs.length=l.length * z:=ho.1;have fin:=fun v' w' h1 h2 h3=>F0 (kd:=kd) (e:=e) (w':=w') (v':=v') (m:=m) (news:=news) hxl hx hcol n2 hk hnm h1 h2 h3;have hsz0:aA.sz (CZ z)=z:=rfl;rw[hsz0] at ho;rcases A with _ | ad
 ·have hm0:=hA rfl;subst hm0;have hn:news=[]:=List.eq_nil_of_length_eq_zero (by simpa using n1);subst hn;obtain⟨χ',f1,f2⟩:=fin v w (by rw[List.length_nil,Nat.add_zero,List.append_nil]; exact ho) (World.grownBy.refl w _) (.inl rfl);exact⟨v,w,χ',tJ w t ty e i _ hE.ty hi v _ xs ho c,f1,f2⟩
 ·obtain⟨v',w',hrun,h2,h3,h4,h5⟩:=qj (P:=P) w t ty e i zv z i.bytes hE.ty hi hz hsize rfl hzs hE.pos v l.length xs ho ad m.length c news n1 (n3 ad rfl) n1c (by simp only[maxLen]; omega)
   (Nat.le_trans (Nat.mul_le_mul hlen hby) (by omega))
  obtain⟨χ',f1,f2⟩:=fin v' w' h2 h3 h5;exact⟨v',w',χ',hrun,f1,f2⟩
section
variable {P:Program} {w0:World} {χ0:Col} {T0:Ctx} {s:St} {a:Act} {w:World} {G:Gh} {o:Oper} {Q:Exit->Act->World->Prop}
def nD (s:ByteArray):List (List PV):=s.data.toList.map fun b=>[PV.int .u8 (b.toNat:Int)]
theorem vS (s:ByteArray):(nD s).length=s.size:=by unfold nD; rw[List.length_map,Array.length_toList]; rfl
theorem Et {F:Nat->Prop} {w:World} (s:ByteArray) (i:Nat) (x:List PV) (h:(nD s)[i]?=some x):aA.rd (α:=CZ 1) F w (chunk 1 i (Lib.strCells s)) x:=by
 unfold nD at h;rw[List.getElem?_map,Option.map_eq_some_iff] at h;obtain⟨b,hb,rfl⟩:=h;obtain⟨hl,he⟩:=List.getElem?_eq_some_iff.1 hb;have hc:chunk 1 i (Lib.strCells s)=[.int .u8 b.toNat]:=by
  unfold chunk Lib.strCells;rw[Nat.mul_one,List.drop_eq_getElem_cons (by rw[List.length_map]; exact hl),List.getElem_map,he]; rfl
 rw[hc];refine⟨rfl,rfl,fun j p u hp hu=>?_⟩;cases j with
 | zero =>
  simp at hp hu;subst hp hu;have:=b.toNat_lt;exact .int (by simp [inK,IntKind.min,IntKind.max,IntKind.signed,IntKind.bits]; omega)
 | succ j=>simp at hp
theorem sV {P:Program} (w:World) (t u ty e:TypeId) (i:TypeInfo) (ht:P.underlying t=some (.slice e)) (hu:P.underlying u=some .string) (hi:P.info? e=some i) (hs1:i.size=1)
  (g off sLen sCap:Nat) (cur:Array Value) (hg:jD w g cur e) (s:ByteArray) (hroom:sLen+s.size<=sCap) (hfit:off+sLen+s.size<=cur.size) :
  (Builtin.append_ #[t,u] ty #[.slice (some ⟨g,off,none⟩) sLen sCap,.string s]).run P w =
   .ok (.slice (some ⟨g,off,none⟩) (sLen+s.size) sCap) (w.setRow g (cur.toList.take (off+sLen)++Lib.strCells s++cur.toList.drop (off+sLen+s.size)).toArray):=by
 have hf:=Lib.run_firstCells_string (P:=P) w 1 s;have hst:=jE P g (off+sLen) e (Lib.strCells s) 0 cur w hg (by simpa [Lib.strCells_length] using hfit) (Lib.strCells_oneCell s);simp only[Nat.add_zero,Lib.strCells_length] at hst;simp [Builtin.append_,run_underlying ht,run_underlying hu,sizeOf,typeInfo,hi,hs1,Builtin.lenOf,hroom,hf,fY,hst]
theorem Ch {P:Program} {t u e ty:TypeId} {k kd:Nat} {χ:Col} {w:World} {v:Value} {l:List (List PV)} {s:ByteArray} (hE:Ej P t e 1) (hu:P.underlying u=some .string) (hown:Own (α:=CZ 1) k χ e w v l) (hk:k≠0)
  (hlen:l.length+s.size<=2147483647) (hnm:Norm χ w) :
  ∃ v' w' χ',(Builtin.append_ #[t,u] ty #[v,.string s]).run P w = .ok v' w'/\Own (α:=CZ 1) kd χ' e w' v' (l++nD s)/\Chg [k] χ w χ' w'/\Norm χ' w'/\(∀ b,In χ 0 b->b<w.heap.size->In χ' 0 b/\w'.heap[b]?=w.heap[b]?):=by
 obtain⟨i,zv,hi,hz,hsize,hby,hzs⟩:=hE.ex;obtain⟨⟨xs,ho,hx⟩,hcol⟩:=hown;have ht:=hE.ty;have ho:jq w e 1 v l.length xs:=ho;have hxl:xs.length=l.length * 1:=ho.1;have hxl':xs.length=l.length:=by omega
 have fin:=fun v' w' h1 h2 h3=>F0 (kd:=kd) (e:=e) (w':=w') (v':=v') (m:=nD s) (news:=Lib.strCells s) hxl hx hcol (Et s) hk hnm h1 h2 h3;rw[vS] at fin;have h2:(l.length+s.size) * i.bytes<=140737488355328:=Nat.le_trans (Nat.mul_le_mul hlen hby) (by omega);have hl:(xs++Lib.strCells s).length=(l.length+s.size) * 1:=by rw[List.length_append,hxl,Lib.strCells_length]; omega
 have grown:∀ (old:Nat),old<l.length+s.size->∀ (row:Option Nat),
   jq (w.drew.alloc (.cells (xs.toArray++(Lib.strCells s).toArray++Builtin.zeroCells zv.cells (grownCap w (l.length+s.size) old e-(l.length+s.size))) e)) e 1
    (.slice (some ⟨w.heap.size,0,none⟩) (l.length+s.size) (grownCap w (l.length+s.size) old e)) (l.length+s.size) (xs++Lib.strCells s) /\
   w.grownBy (w.drew.alloc (.cells (xs.toArray++(Lib.strCells s).toArray++Builtin.zeroCells zv.cells (grownCap w (l.length+s.size) old e-(l.length+s.size))) e)) row:=by
  intro old hold row;have hge:=grownCap_ge w (l.length+s.size) old e;have hcm:grownCap w (l.length+s.size) old e<=maxLen:=grownCap_le_maxLen w (l.length+s.size) old e (by simp only[maxLen]; omega);refine⟨⟨hl,.inr ⟨w.heap.size,_,_,0,rfl,Nat.zero_le _,.of (heap_alloc_new w.drew _),hge,hcm,?_,?_⟩⟩,⟨rfl,rfl,rfl,by simp,fun k hk _=>heap_alloc_old w.drew _ hk⟩⟩
  ·simp only[Array.size_append,List.size_toArray,size_zeroCells,hzs,hxl,Lib.strCells_length];omega
  ·rw[List.drop_zero];simp only[Array.toList_append,List.append_assoc];rw[← List.append_assoc,← hl];exact List.take_left
 rcases ho.2 with⟨rfl,hn0⟩ | ⟨g,cap,cur,off,rfl,hbg,hg,hnc,hcm,hcs,htake⟩
 ·have hl0:l=[]:=List.eq_nil_of_length_eq_zero hn0;subst hl0;have hx0:xs=[]:=List.eq_nil_of_length_eq_zero (by simpa using hxl);subst hx0;by_cases hm:s.size=0
  ·have hn:Lib.strCells s=[]:=List.eq_nil_of_length_eq_zero (by rw[Lib.strCells_length]; exact hm);have hf:=Lib.run_firstCells_string (P:=P) w 1 s;rw[hm] at hf;obtain⟨χ',f1,f2⟩:=fin (.slice none 0 0) w (by rw[hm,hn]; exact B9 w e 1) (World.grownBy.refl w _) (.inl rfl);exact⟨_,w,χ',by simp [Builtin.append_,run_underlying ht,run_underlying hu,sizeOf,typeInfo,hi,hsize,Builtin.lenOf,hm,hf],f1,f2⟩
  ·have hr:=run_append_nil_string (P:=P) w t u ty e i zv ht hu hi hz s (by omega) (by omega) (by simp only[List.length_nil,Nat.zero_add] at h2; omega);have hgr:=grown 0 (by simp; omega) (Value.ownBlock (.slice none 0 0));simp only[List.length_nil,Nat.zero_add,List.nil_append,Array.empty_append] at hgr;have e1:(s.data.map fun b=>Value.int .u8 b.toNat)=(Lib.strCells s).toArray:=by
    apply Array.ext';simp [Lib.strCells]
   rw[e1] at hr;obtain⟨χ',f1,f2⟩:=fin _ _ (by simpa using hgr.1) hgr.2 (.inr rfl);exact⟨_,_,χ',hr,f1,f2⟩
 ·by_cases hroom:l.length+s.size<=cap
  ·have hr:=sV (P:=P) w t u ty e i ht hu hi hsize g off l.length cap cur hg s hroom (by omega);have hfits:(cur.toList.take (off+l.length)++Lib.strCells s++cur.toList.drop (off+l.length+s.size)).length=cur.size:=by
    simp only[List.length_append,List.length_take,List.length_drop,Array.length_toList,Lib.strCells_length];omega
   have h1:jq (w.setRow g (cur.toList.take (off+l.length)++Lib.strCells s++cur.toList.drop (off+l.length+s.size)).toArray) e 1 (.slice (some ⟨g,off,none⟩) (l.length+s.size) cap) (l.length+s.size) (xs++Lib.strCells s):=by
    refine⟨hl,.inr ⟨g,cap,_,off,rfl,hbg,hg.set _ (by rw[List.size_toArray]; exact hfits),hroom,hcm,by rw[List.size_toArray,hfits]; exact hcs,?_⟩⟩;show (List.drop off (cur.toList.take (off+l.length)++Lib.strCells s++cur.toList.drop (off+l.length+s.size))).take ((l.length+s.size) * 1)=xs++Lib.strCells s;have h3:(cur.toList.drop off).take l.length=xs:=by simpa using htake
    have h4:off<=(cur.toList.take (off+l.length)).length:=by
     have:=Array.length_toList (xs:=cur);rw[List.length_take];omega
    rw[List.append_assoc,List.drop_append_of_le_length h4,List.drop_take,Nat.add_sub_cancel_left,h3,← List.append_assoc,← hl];exact List.take_left
   obtain⟨χ',f1,f2⟩:=fin _ _ h1 ⟨rfl,rfl,rfl,by simp,fun k _ hk=>setRow_other w g k _ (fun e=>hk (by simp [Value.ownBlock,e]))⟩ (.inl rfl);exact⟨_,_,χ',hr,f1,f2⟩
  ·have holds:∀ j u,xs[j]?=some u->w.cell? ((⟨g,off,none⟩:Addr).add j)=some u:=ho.cells (g:=g) rfl;have hr:=Lib.run_append_grow_string (P:=P) w t u ty e i zv ht hu hi hz ⟨g,off,none⟩ l.length cap xs (by rw[hsize]; exact hxl) holds s (by omega) (by omega) (growslice_fits (by omega) h2);have hgr:=grown cap (by omega) (Value.ownBlock (.slice (some ⟨g,off,none⟩) l.length cap));obtain⟨χ',f1,f2⟩:=fin _ _ hgr.1 hgr.2 (.inr rfl);exact⟨_,_,χ',hr,f1,f2⟩
theorem MD {k z:Nat} {χ:Col} {e:TypeId} {w:World} {v:Value} {l:List (List PV)} (hown:Own (α:=CZ z) k χ e w v l) (hz:∀ x∈l,x.length=z):Src χ w z v l:=by
 obtain⟨⟨xs,ho,hrd⟩,hcol⟩:=hown;rcases ho.2 with⟨hv,hn⟩ | ⟨g,cap,cur,off,hv,hb,hgg,hc,hm,hr⟩
 ·have:l=[]:=List.eq_nil_of_length_eq_zero hn;subst this;exact⟨none,0,[],hv,by simp,by simp,fun i x (hx:none=some x)=>(by cases hx),fun _=>rfl,by simp⟩
 ·refine⟨_,cap,xs,hv,ho.1,fun u hu=>?_,hrd,fun h=>(by cases h),fun ad had j u hu=>?_⟩
  ·obtain⟨j,hj⟩:=List.mem_iff_getElem?.1 hu;have hjl:j<l.length * z:=by rw[← show xs.length=l.length * z from ho.1]; exact (List.getElem?_eq_some_iff.1 hj).1
   have hzp:0<z:=by
    rcases Nat.eq_zero_or_pos z with h | h
    ·subst h; simp at hjl
    ·exact h
   have hi:j / z<l.length:=(Nat.div_lt_iff_lt_mul hzp).2 hjl;have hone:=aA.one (hrd (j / z) _ (List.getElem?_eq_getElem hi)) u;refine hone ?_;refine List.mem_of_getElem? (i:=j % z) ?_;show (chunk z (j / z) xs)[j % z]?=some u;unfold chunk;rw[List.getElem?_take,if_pos (Nat.mod_lt _ hzp),List.getElem?_drop,Nat.mul_comm,Nat.div_add_mod];exact hj
  ·injection had with had
   subst had;have h9:=ho.cells (g:=g) (by rw[hv]; rfl) j u hu;rw[show lB v=off by rw[hv]; rfl] at h9;exact h9
theorem Jq {F:Nat->Prop} {z:Nat} {v:Value} {m:List (List PV)} {χ:Col} (h:Rd F w (.sl m) v) (hF:∀ b,F b->χ b=0) (hz:∀ x∈m,x.length=z):Src χ w z v m:=by
 obtain⟨B,c,z',hv,hs,hz'⟩:=h.vR;have hs:=hs.mono (F':=In χ 0) fun b hb _=>hF b hb;obtain⟨news,n1,n2,n3,n4⟩:=hs.row;by_cases h0:m=[]
 ·subst h0;have hn:news=[]:=List.eq_nil_of_length_eq_zero (by simpa using n1);subst hn;exact⟨B,c,[],hv,by simp,by simp,fun i x (hx:none=some x)=>(by cases hx),fun _=>rfl,by simp⟩
 ·obtain⟨y,hy⟩:∃ y,m[0]?=some y:=⟨_,List.getElem?_eq_getElem (List.length_pos_iff.2 h0)⟩;have hzz:z'=z:=by rw[← hz' 0 y hy]; exact hz y (List.mem_of_getElem? hy)
  subst hzz;obtain⟨b,off,hB,hcells⟩:=n4 (List.length_pos_iff.2 h0);refine⟨B,c,news,hv,n1,n2,n3,fun hB'=>(by rw[hB] at hB'; cases hB'),fun ad had j u hu=>?_⟩;rw[hB] at had;injection had with had
  subst had;rw[fY]; exact hcells j u hu
theorem oQ {A:Arg} {x:Operand} {m:List (List PV)} {z:Nat} (r:bP w0 χ0 T0 s a w G) (h:s.arg x=A) (hl:kF A=some m) (hz:∀ x∈m,x.length=z):Src G.χ w z (a.eval x) m:=by
 have hx:=r.ev x;unfold kF at hl;split at hl
 ·rw[(St.bF h).1] at hx;simp only[Option.some.injEq] at hl;subst hl;obtain⟨B,c,z',hv,hs,hz'⟩:=(AU hx).vR;obtain⟨news,n1,n2,n3,n4⟩:=hs.row;rename_i l _;by_cases h0:l=[]
  ·subst h0;have hn:news=[]:=List.eq_nil_of_length_eq_zero (by simpa using n1);subst hn;exact⟨B,c,[],hv,by simp,by simp,fun i x (hx:none=some x)=>(by cases hx),fun _=>rfl,by simp⟩
  ·obtain⟨y,hy⟩:∃ y,l[0]?=some y:=⟨_,List.getElem?_eq_getElem (List.length_pos_iff.2 h0)⟩;have hzz:z'=z:=by rw[← hz' 0 y hy]; exact hz y (List.mem_of_getElem? hy)
   subst hzz;obtain⟨b,off,hB,hcells⟩:=n4 (List.length_pos_iff.2 h0);refine⟨B,c,news,hv,n1,n2,n3,fun hB'=>(by rw[hB] at hB'; cases hB'),fun ad had j u hu=>?_⟩;rw[hB] at had;injection had with had
   subst had;rw[fY]; exact hcells j u hu
 ·rw[(St.bF h).1] at hx;simp only[Option.some.injEq] at hl;subst hl;exact⟨none,0,[],lx hx,by simp,by simp,fun i x (hx:none=some x)=>(by cases hx),fun _=>rfl,by simp⟩
 ·rw[(St.bF h).1] at hx;simp only[Option.some.injEq] at hl;subst hl;exact Jq (LRd.val hx).1 (fun _ h=>h) hz
 ·rename_i ob e z' l';obtain⟨h1,h2⟩:=St.bF h;rw[h1] at hx;simp only[Option.some.injEq] at hl;subst hl;have hob:s.hp ob=some (.arr e z' l'):=by simpa [Slot.ids,Cmp.ids,Cmp.leaves,av.ids] using h2
  have hval:a.eval x=G.hv ob:=LRd.val hx;obtain⟨⟨⟨xs,ho,hrd⟩,hcol⟩,hbl⟩:=r.gM ob _ hob;have hz':∀ x∈l',x.length=z':=fun x hx=>by
   obtain⟨i,hi⟩:=List.mem_iff_getElem?.1 hx;have:=hrd i x hi;exact this.2.1.trans this.1
  have key:∀ z'',(l'=[]\/z''=z')->Src G.χ w z'' (G.hv ob) l':=by
   intro z'' hzz;rcases ho.2 with⟨hv,hn⟩ | ⟨g,cap,cur,off,hv,hb,hgg,hc,hm,hr⟩
   ·have:l'=[]:=List.eq_nil_of_length_eq_zero hn;subst this;exact⟨none,0,[],hv,by simp,by simp,fun i x (hx:none=some x)=>(by cases hx),fun _=>rfl,by simp⟩
   ·rcases hzz with h0 | rfl
    ·subst h0;exact⟨_,cap,[],hv,by simp,by simp,fun i x (hx:none=some x)=>(by cases hx),fun _=>rfl,by simp⟩
    ·refine⟨_,cap,xs,hv,ho.1,fun u hu=>?_,hrd,fun h=>(by cases h),fun ad had j u hu=>?_⟩
     ·obtain⟨j,hj⟩:=List.mem_iff_getElem?.1 hu;have hjl:j<l'.length * z'':=by rw[← show xs.length=l'.length * z'' from ho.1]; exact (List.getElem?_eq_some_iff.1 hj).1
      have hzp:0<z'':=by
       rcases Nat.eq_zero_or_pos z'' with h | h
       ·subst h; simp at hjl
       ·exact h
      have hi:j / z''<l'.length:=(Nat.div_lt_iff_lt_mul hzp).2 hjl;have hone:=aA.one (hrd (j / z'') _ (List.getElem?_eq_getElem hi)) u;refine hone ?_;refine List.mem_of_getElem? (i:=j % z'') ?_;show (chunk z'' (j / z'') xs)[j % z'']?=some u;unfold chunk;rw[List.getElem?_take,if_pos (Nat.mod_lt _ hzp),List.getElem?_drop,Nat.mul_comm,Nat.div_add_mod];exact hj
     ·injection had with had
      subst had;have h9:=ho.cells (g:=g) (by rw[hv]; rfl) j u hu;rw[show lB (G.hv ob)=off by rw[hv]; rfl] at h9;exact h9
  rw[hval];refine key z ?_;by_cases h0:l'=[]
  ·exact .inl h0
  ·obtain⟨y,hy⟩:=List.exists_mem_of_ne_nil l' h0;exact .inr ((hz y hy).symm.trans (hz' y hy))
 ·rename_i ob a' b' z2 e z' l';obtain⟨h1,h2⟩:=St.bF h;rw[h1] at hx;split at hl
  ·rename_i hzb;obtain⟨rfl,hbl⟩:=hzb;simp only[Option.some.injEq] at hl;subst hl;have hob:s.hp ob=some (.arr e z2 l'):=by simpa [Slot.ids,Cmp.ids,Cmp.leaves,av.ids] using h2
   obtain⟨A,m,c,hv0,hab,hbm,hmc,hval⟩:=LRd.val hx;obtain⟨hown,_⟩:=r.gM ob _ hob;have hrows:∀ x∈l',x.length=z2:=fun x hx=>by
    obtain⟨⟨xs,_,hrd⟩,_⟩:=hown;obtain⟨i,hi⟩:=List.mem_iff_getElem?.1 hx;have:=hrd i x hi;exact this.2.1.trans this.1
   obtain⟨B,c',hv,hc,hm⟩:=hown.form;rw[hv0] at hv;injection hv with hA hm' hc'
   subst hA hm' hc';have hwhole:=MD hown hrows;rw[hv0] at hwhole;rw[hval];have hsub:=hwhole.sub hab (by omega) hmc;by_cases h0:(l'.take b').drop a'=[]
   ·rw[h0];obtain⟨A2,c2,n2,q1,q2,q3,q4,q5,q6⟩:=hsub;rw[h0] at q1;exact⟨A2,c2,[],q1,by simp,by simp,fun i x (hx:none=some x)=>(by cases hx),fun _=>rfl,by simp⟩
   ·obtain⟨y,hy⟩:=List.exists_mem_of_ne_nil _ h0;have:z=z2:=(hz y hy).symm.trans (hrows y (List.mem_of_mem_take (List.mem_of_mem_drop hy)));rw[this]; exact hsub
  ·cases hl
 ·cases hl
theorem uV {t u el:TypeId} {z ob d:Nat} {l m:List (List PV)} {x y:Operand} {c:Prop} {c':Call} {wr:List (Nat×cu)} (r:bP w0 χ0 T0 s a w G) (hd:∀ k,o.dst=some k->k<a.tmps.size) (ho:o.op = .call c') (hc':c' = { callee := .builtin .append,args := #[x,y],argTypes := #[t,u] })
  (hf0:s.hp d=none/\d<1000000) (hr:∃ v' w' χ',(Builtin.append_ #[t,u] o.type #[a.eval x,a.eval y]).run P w = .ok v' w'/\Own (α:=CZ z) (d+2) χ' el w' v' (l++m)/\Chg [ob+2] G.χ w χ' w'/\Norm χ' w'/\(∀ b,In G.χ 0 b->b<w.heap.size->In χ' 0 b/\w'.heap[b]?=w.heap[b]?))
  (hwr:(wr=[(ob,.gone),(d,.arr el z (l++m))])\/(wr=[(d,.arr el z (l++m))]/\s.hp ob=none)) :
  o.wp P a w (aX w0 χ0 T0 a.tmps.size (s.app o.dst ⟨c,.x (.own d),wr⟩)) Q:=by
 have hf:=hf0.1;have hlt:=hf0.2;obtain⟨v',w',χ',hrun,h1,h2,h3,h4⟩:=hr;subst hc';have hrun':(execOp a.eval o).run P w = .ok (.value v') w':=by
  simp only[execOp,ho,resolve,invoke,builtin,Sem.run_bind,Sem.run_pure,Result.andThen_ok,List.map_toArray,List.map_cons,List.map_nil,hrun]
 unfold Oper.wp;rw[hrun']
 let bd:=(v'.ownBlock).getD 0
 let G':Gh:={ χ:=χ',bl:=Lad.upd G.bl d bd,hv:=Lad.upd G.hv d v' }
 have hext:Ext G s.hp w G' (eJ s.hp wr) w':=by
  refine⟨h4,fun i hi=>fV _ _ (fun e=>hi.elim (fun hi=>hi (by rw[e]; exact hf)) fun hi=>by omega),fun i hi=>fV _ _ (fun e=>hi.elim (fun hi=>hi (by rw[e]; exact hf)) fun hi=>by omega),fun i hi=>?_⟩;have hid:i≠d:=fun e=>hi (by rw[e]; exact hf);rcases hwr with rfl | ⟨rfl,_⟩
  ·show Lad.upd (Lad.upd s.hp ob _) d _ i≠none;rw[fV _ _ hid];by_cases hio:i=ob
   ·rw[hio,aE]; simp
   ·rw[fV _ _ hio]; exact hi
  ·show Lad.upd s.hp d _ i≠none;rw[fV _ _ hid]; exact hi
 have hnew:(eJ s.hp wr) d=some (.arr el z (l++m)):=by
  rcases hwr with rfl | ⟨rfl,_⟩ <;> exact aE _ _ _
 have hone:v'.oneCell'=true:=by
  obtain⟨B,cc,hv,_⟩:=h1.form;rw[hv]; rfl
 refine⟨Act.jF _ _ _,G',r.upd hd hext (T:=[ob+2]) h2 (by simp) h3 (fun i h hi=>?_) ⟨hone,fun j hj=>?_,?_⟩⟩
 ·by_cases hid:i=d
  ·subst hid;rw[show (⟨c,Slot.x (av.own i),wr⟩:Eff).wr=wr from rfl,hnew] at hi;injection hi with hi
   subst hi;refine .inr ⟨?_,fun b hb=>?_⟩
   ·show Own (α:=CZ z) (i+2) χ' el w' (Lad.upd G.hv i v' i) (l++m);rw[aE]; exact h1
   ·change (Lad.upd G.hv i v' i).ownBlock=some b at hb;rw[aE] at hb;show b=Lad.upd G.bl i bd i;rw[aE];show b=(v'.ownBlock).getD 0;rw[hb]; rfl
  ·rcases hwr with rfl | ⟨rfl,hob⟩
   ·change Lad.upd (Lad.upd s.hp ob _) d _ i=some h at hi;rw[fV _ _ hid] at hi;by_cases hio:i=ob
    ·subst hio;rw[aE] at hi;injection hi with hi
     subst hi;exact .inr trivial
    ·rw[fV _ _ hio] at hi;exact .inl ⟨hi,by simp; omega⟩
   ·change Lad.upd s.hp d _ i=some h at hi;rw[fV _ _ hid] at hi;refine .inl ⟨hi,?_⟩;have:i≠ob:=fun e=>by rw[e,hob] at hi; cases hi
    simp; omega
 ·simp [av.ids] at hj;subst hj;rw[show (⟨c,Slot.x (av.own j),wr⟩:Eff).wr=wr from rfl,hnew]; simp
 ·exact (aE G.hv d v').symm
theorem Ci {t el:TypeId} {z ob d:Nat} {l m:List (List PV)} {x y:Operand} {c:Prop} {c':Call} {wr:List (Nat×cu)} (r:bP w0 χ0 T0 s a w G) (hd:∀ k,o.dst=some k->k<a.tmps.size) (ho:o.op = .call c') (hc':c' = { callee := .builtin .append,args := #[x,y],argTypes := #[t,t] })
  (hel:cR P t=some (el,z)) (hf0:s.hp d=none/\d<1000000) (hown:Own (α:=CZ z) (ob+2) G.χ el w (a.eval x) l) (hsrc:Src G.χ w z (a.eval y) m) (hlen:l.length+m.length<=2147483647)
  (hwr:(wr=[(ob,.gone),(d,.arr el z (l++m))])\/(wr=[(d,.arr el z (l++m))]/\s.hp ob=none)) :
  o.wp P a w (aX w0 χ0 T0 a.tmps.size (s.app o.dst ⟨c,.x (.own d),wr⟩)) Q :=
 uV r hd ho hc' hf0 (Cg (kd:=d+2) (ty:=o.type) (fe hel) hown hsrc (by omega) (by omega) hlen r.norm) hwr
theorem Cj {e:Eff} {t:TypeId} {x y:Operand} {c:Call} (r:bP w0 χ0 T0 s a w G) (hd:∀ k,o.dst=some k->k<a.tmps.size) (ho:o.op = .call c) (hcc:c = { callee := .builtin .append,args := #[x,y],argTypes := #[t,t] })
  (h:iw P t o.dst (aF s.hp o.dst) [s.arg x,s.arg y]=some e) (hc:e.cond):o.wp P a w (aX w0 χ0 T0 a.tmps.size (s.app o.dst e)) Q:=by
 have hx:=r.ev x;cases hdst:o.dst with
 | none=>unfold iw at h; split at h <;> (try split at h) <;> simp_all
 | some d =>
 rw[hdst] at h;have hfr:aF s.hp (some d)=true->s.hp d=none/\d<1000000:=fun h=>by simpa [aF] using h
 rw[← hdst];unfold iw at h;split at h
 ·rename_i ob el z l y' heq;simp only[List.cons.injEq,and_true] at heq;obtain⟨h1,h2⟩:=St.bF heq.1;rw[h1] at hx;have hob:s.hp ob=some (.arr el z l):=by simpa [Slot.ids,Cmp.ids,Cmp.leaves,av.ids] using h2
  have hval:a.eval x=G.hv ob:=LRd.val hx;split at h
  ·rename_i e' z' m d' hel hm hdd;injection hdd with hdd
   subst hdd;split at h
   ·rename_i hcond;obtain⟨rfl,rfl,hfree⟩:=hcond;simp only[Option.some.injEq] at h;subst h;obtain⟨c1,c2⟩:=hc;exact Ci r hd ho hcc hel (hfr hfree) (by rw[hval]; exact (r.gM ob _ hob).1) (oQ r heq.2 hm c2) c1 (.inl rfl)
   ·cases h
  ·cases h
 ·rename_i y' heq;simp only[List.cons.injEq,and_true] at heq;rw[(St.bF heq.1).1] at hx;split at h
  ·rename_i e' z' m d' hel hm hdd;injection hdd with hdd
   subst hdd;split at h
   ·rename_i hfree;simp only[Option.some.injEq] at h;subst h;obtain⟨c1,c2⟩:=hc;have:=Ci (l:=[]) (m:=m) (ob:=d) (c:=m.length<=2147483647/\∀ x∈m,x.length=z') (Q:=Q) r hd ho hcc hel (hfr hfree) (by rw[lx hx]; exact Own.nil _ _ _ _) (oQ r heq.2 hm c2) (by simpa using c1) (.inr ⟨rfl,(hfr hfree).1⟩);exact this
   ·cases h
  ·cases h
 ·cases h
end
end Go.Lad
namespace Go.Lad
open Go.RowKit
def putAt {α:Type} (l:List α) (p:Nat) (us:List α):List α:=l.take p++us++l.drop (p+us.length)
theorem kj {α:Type} (l us:List α) (p:Nat) (h:p+us.length<=l.length):(putAt l p us).length=l.length:=by simp [putAt]; omega
theorem kY {α:Type} (l us:List α) (p:Nat) (h:p+us.length<=l.length) (j:Nat):(putAt l p us)[j]?=if p<=j/\j<p+us.length then us[j-p]? else l[j]? := by
 unfold putAt;by_cases h1:j<p
 ·rw[if_neg (by omega),List.getElem?_append_left (by simp; omega),List.getElem?_append_left (by simp; omega),List.getElem?_take,if_pos h1]
 ·by_cases h2:j<p+us.length
  ·rw[if_pos ⟨by omega,h2⟩,List.getElem?_append_left (by simp; omega),List.getElem?_append_right (by simp; omega)];congr 1;simp; omega
  ·rw[if_neg (by omega),List.getElem?_append_right (by simp; omega),List.getElem?_drop];congr 1;simp; omega
theorem xa {α:Type} (l us:List α) (p n:Nat) (h:p+us.length<=n) (hn:n<=l.length):(putAt l p us).take n=putAt (l.take n) p us:=by
 apply List.ext_getElem?;intro j;rw[kY _ _ _ (by simp; omega),List.getElem?_take,kY _ _ _ (by omega),List.getElem?_take];by_cases hj:j<n
 ·simp [hj]
 ·rw[if_neg hj,if_neg hj,if_neg (by omega)]
theorem xb {α:Type} (l us:List α) (o p:Nat) (h:o+p+us.length<=l.length):(putAt l (o+p) us).drop o=putAt (l.drop o) p us:=by
 apply List.ext_getElem?;intro j;rw[List.getElem?_drop,kY _ _ _ h,kY _ _ _ (by rw[List.length_drop]; omega),List.getElem?_drop];by_cases hj:p<=j/\j<p+us.length
 ·rw[if_pos (by omega),if_pos hj]; congr 1; omega
 ·rw[if_neg (by omega),if_neg hj]
theorem Ck {α:Type} (xs:List Value) (us:List Value) (z i off j:Nat) (hoff:off+us.length<=z) (hx:i * z+z<=xs.length):chunk z j (putAt xs (i * z+off) us)=if j=i then putAt (chunk z i xs) off us else chunk z j xs:=by
 apply List.ext_getElem?;intro m;unfold chunk;rw[List.getElem?_take];by_cases hm:m<z
 ·rw[if_pos hm,List.getElem?_drop,kY _ _ _ (by omega)];by_cases hji:j=i
  ·subst hji;rw[if_pos rfl,kY _ _ _ (by rw[List.length_take,List.length_drop]; omega),List.getElem?_take,if_pos hm,List.getElem?_drop];by_cases h1:off<=m/\m<off+us.length
   ·rw[if_pos h1,if_pos (by omega)]; congr 1; omega
   ·rw[if_neg h1,if_neg (by omega)]
  ·rw[if_neg hji,List.getElem?_take,if_pos hm,List.getElem?_drop,if_neg];rintro⟨h1,h2⟩;rcases Nat.lt_or_gt_of_ne hji with h | h
   ·have:(j+1) * z<=i * z:=Nat.mul_le_mul_right z h;rw[Nat.succ_mul] at this; omega
   ·have:(i+1) * z<=j * z:=Nat.mul_le_mul_right z h;rw[Nat.succ_mul] at this; omega
 ·rw[if_neg hm];split
  ·rw[kY _ _ _ (by rw[List.length_take,List.length_drop]; omega),if_neg (by omega),List.getElem?_take,if_neg hm]
  ·rw[List.getElem?_take,if_neg hm]
section
variable {P:Program} {w0:World} {χ0:Col} {T0:Ctx} {s:St} {a:Act} {w:World} {G:Gh} {o:Oper} {Q:Exit->Act->World->Prop}
theorem tR {t bt:TypeId} {g off:Nat} {cur:Array Value} {v:Value} (hg:jD w g cur bt) (hn:gB P t=some v.cells.size) (hle:off+v.cells.size<=cur.size) (h1:∀ u∈v.cells.toList,u.oneCell'=true) :
  (Instr.storeAt t (ptr g off) v).run P w = .ok () (w.setRow g (putAt cur.toList off v.cells.toList).toArray):=by
 obtain⟨i,hi,hs⟩:=rz hn;have:=jE P g off bt v.cells.toList 0 cur w hg (by simpa using hle) h1;simp only[Nat.add_zero] at this;simp only[Instr.storeAt,Instr.sureAddr,ptr,Sem.run_bind,Sem.run_pure,Result.andThen_ok,storeVar,sizeOf,typeInfo,run_program,hi,hs];rw[if_neg (by simp)];exact this
theorem xc {g:Nat} {cs:Array Value} {k:Nat} (hk:G.χ g=k):Chg [k] G.χ w G.χ (w.setRow g cs) :=
 ⟨rfl,rfl,rfl,by simp [World.setRow],fun _ _ _=>rfl,fun b _ hb=>setRow_other w g b cs (fun e=>hb (by rw[e,hk]; simp))⟩
theorem tc {g:Nat} {cs:Array Value} {ob:Nat} {h:cu} (hk:G.χ g=ob+2):Ext G s.hp w G (Lad.upd s.hp ob (some h)) (w.setRow g cs) :=
 ⟨fun b hb _=>⟨hb,setRow_other w g b cs (fun e=>by rw[e] at hb; have:G.χ g=0:=hb; omega)⟩,fun _ _=>rfl,fun _ _=>rfl,fun i hi=>by
  by_cases hio:i=ob
  ·rw[hio,aE]; simp
  ·rw[fV _ _ hio]; exact hi⟩
theorem xd {g ob:Nat} {cs:Array Value} {h:cu} {c:Prop} (r:bP w0 χ0 T0 s a w G) (hd:∀ k,o.dst=some k->k<a.tmps.size) (hk:G.χ g=ob+2)
  (hrun:(execOp a.eval o).run P w = .ok .skip (w.setRow g cs)) (hh:HRd G (Lad.upd s.hp ob (some h)) (w.setRow g cs) ob h):o.wp P a w (aX w0 χ0 T0 a.tmps.size (s.app o.dst ⟨c,.dead,[(ob,h)]⟩)) Q:=by
 unfold Oper.wp;rw[hrun];refine⟨Act.jF _ _ _,G,r.upd hd (tc hk) (xc hk) (by simp) (fun b hb=>r.norm b (by simpa [World.setRow] using hb)) (fun i h' hi=>?_) trivial⟩;change Lad.upd s.hp ob (some h) i=some h' at hi;by_cases hid:i=ob
 ·subst hid;rw[aE] at hi;injection hi with hi
  subst hi;exact .inr hh
 ·rw[fV _ _ hid] at hi;exact .inl ⟨hi,by simp; omega⟩
theorem dU.put {α β:Type} {R:α->β->Prop} {l u:List α} {m v:List β} (h:dU R l m) (k:dU R u v) (p:Nat):dU R (putAt l p u) (putAt m p v):=by
 unfold putAt;rw[k.1];exact ((h.take p).append k).append (h.drop _)
theorem ME {k z i off:Nat} {e:TypeId} {χ:Col} {v:Value} {l:List (List PV)} {ps:List PV} {us:List Value} (h:Own (α:=CZ z) k χ e w v l) (hi:i<l.length) (hoff:off+us.length<=z) (hk:k≠0) (hone:∀ u∈us,u.oneCell'=true)
  (hps:RdL (In χ 0) w ps us):∃ g cur,v.ownBlock=some g/\jD w g cur e/\lB v+(i * z+off)+us.length<=cur.size /\
   Own (α:=CZ z) k χ e (w.setRow g (putAt cur.toList (lB v+(i * z+off)) us).toArray) v (l.set i (putAt (l.getD i []) off ps)):=by
 obtain⟨⟨xs,h1,h2⟩,h3⟩:=h;have hxl:xs.length=l.length * z:=h1.1;have hiz:i * z+z<=l.length * z:=by rw[← Nat.succ_mul]; exact Nat.mul_le_mul_right _ hi
 rcases h1.2 with⟨rfl,hn⟩ | ⟨g,cap,cur,o0,rfl,hb,hgg,hc,hm,hcs,hr⟩
 ·have:l.length=0:=hn;omega
 have hcap:o0+l.length * z<=cur.size:=by
  have h5:o0+cap * z<=cur.size:=hcs;have h6:l.length * z<=cap * z:=Nat.mul_le_mul_right _ hc;omega
 have hg:χ g=k:=h3 g rfl;have e0:(l.set i (putAt (l.getD i []) off ps)).length=l.length:=List.length_set;refine⟨g,cur,rfl,hgg,by (show o0+_+_<=_); omega,⟨putAt xs (i * z+off) us,⟨?_,.inr ⟨g,cap,_,o0,?_,hb,hgg.set _ (by show (putAt cur.toList (o0+(i * z+off)) us).length=cur.size; rw[kj _ _ _ (by simp; omega)]; simp),?_,hm,?_,?_⟩⟩,fun j x hj=>?_⟩,h3⟩
 ·rw[kj _ _ _ (by omega)];exact hxl.trans (congrArg (· * z) e0.symm)
 ·exact congrArg (fun n=>Value.slice (some ⟨g,o0,none⟩) n cap) e0.symm
 ·exact Nat.le_trans (Nat.le_of_eq e0) hc
 ·show o0+_<=(putAt cur.toList (o0+(i * z+off)) us).length;rw[kj _ _ _ (by simp; omega)]
  simpa using hcs
 ·have hr':(cur.toList.drop o0).take (l.length * z)=xs:=hr;have e1:(l.set i (putAt (l.getD i []) off ps)).length * z=l.length * z:=by rw[List.length_set]
  have:((putAt cur.toList (o0+(i * z+off)) us).drop o0).take (l.length * z)=putAt xs (i * z+off) us:=by
   rw[xb _ _ _ _ (by simp; omega),xa _ _ _ _ (by omega) (by simp; omega),hr']
  exact (congrArg (fun n=>List.take n ((putAt cur.toList (o0+(i * z+off)) us).drop o0)) e1).trans this
 ·have hfr:∀ b,In χ 0 b->b<w.heap.size->In χ 0 b/\(w.setRow g (putAt cur.toList (o0+(i * z+off)) us).toArray).heap[b]?=w.heap[b]? :=
   fun b hb0 _=>⟨hb0,setRow_other w g b _ (fun e=>hk (by rw[← hg,← e]; exact hb0))⟩
  refine aA.frame hfr ?_;show aA.rd (α:=CZ z) (In χ 0) w (chunk z j (putAt xs (i * z+off) us)) x;rw[Ck (α:=Value) xs us z i off j hoff (by omega)];have hj':(l.set i (putAt (l.getD i []) off ps))[j]?=some x:=hj;rw[List.getElem?_set] at hj';by_cases hji:j=i
  ·subst hji;rw[if_pos rfl];rw[if_pos rfl,if_pos hi] at hj';injection hj' with hj'
   obtain⟨q1,q2⟩:=h2 j (l.getD j []) (show (l:List (List PV))[j]?=some (l.getD j []) by simp [List.getD,List.getElem?_eq_getElem hi]);have q1':(chunk z j xs).length=z:=q1;refine⟨by rw[kj _ _ _ (by omega)]; exact q1',?_⟩;have hj'':x=putAt (l.getD j []) off ps:=hj'.symm;subst hj'';have hrow:dU (fun p v=>Rd (In χ 0) w p v) (putAt (l.getD j []) off ps) (putAt (chunk z j xs) off us):=dU.put ⟨q2.1,q2.2⟩ ⟨hps.1,hps.2⟩ off;exact⟨hrow.1,hrow.2⟩
  ·rw[if_neg hji];rw[if_neg (fun e=>hji e.symm)] at hj';exact h2 j x hj'
theorem Eu {e:Eff} {t:TypeId} {x y:Operand} (r:bP w0 χ0 T0 s a w G) (hd:∀ k,o.dst=some k->k<a.tmps.size) (ho:o.op = .store t x y) (h:ox P t [s.arg x,s.arg y]=some e) (hc:e.cond) :
  o.wp P a w (aX w0 χ0 T0 a.tmps.size (s.app o.dst e)) Q:=by
 have hx:=r.ev x;have hy:=r.ev y;have hex:∀ w',(Instr.storeAt t (a.eval x) (a.eval y)).run P w = .ok () w'->(execOp a.eval o).run P w = .ok .skip w':=by
  intro w' h;simp only[execOp,ho,Sem.run_bind,h,Result.andThen_ok,Sem.run_pure]
 unfold ox at h;split at h
 ·rename_i ob off bt cs c _ heq;simp only[List.cons.injEq,and_true] at heq;obtain⟨h1,h2⟩:=St.bF heq.1;rw[h1] at hx;rw[(St.bF heq.2).1] at hy;have hob:s.hp ob=some (.box bt cs):=by simpa [Slot.ids,Cmp.ids,Cmp.leaves,av.ids] using h2
  have hval:a.eval x=ptr (G.bl ob) off:=LRd.val hx;obtain⟨vs,hb,hcol,hall⟩:=r.gM ob _ hob;split at h
  ·rename_i n hn;split at h
   ·rename_i hcond;obtain⟨hl,hle⟩:=hcond;simp only[Option.some.injEq] at h;subst h;have hcells:=CRd.cells hy;have hsz:(a.eval y).cells.size=n:=by have:=hcells.1; simp at this; omega
    have hone:∀ u∈(a.eval y).cells.toList,u.oneCell'=true:=fun u hu=>by
     obtain⟨j,hj⟩:=List.mem_iff_getElem?.1 hu;have hlt:j<c.leaves.length:=by rw[hcells.1]; exact (List.getElem?_eq_some_iff.1 hj).1
     exact (hcells.2 j _ u (List.getElem?_eq_getElem hlt) hj).one
    have hrun:=tR (P:=P) (t:=t) (off:=off) (v:=a.eval y) (jD.of hb) (by rw[hsz]; exact hn) (by rw[hsz]; simp; have:=hall.1; omega) hone;rw[← hval] at hrun;refine xd r hd hcol (hex _ hrun) ⟨putAt vs off (a.eval y).cells.toList,?_,hcol,?_⟩
    ·have:=setRow_heap w (G.bl ob) vs.toArray (putAt vs off (a.eval y).cells.toList).toArray bt (0,0) hb;exact this
    ·have hp:=dU.put hall hcells off;rw[show cs.take off++c.leaves++cs.drop (off+n)=putAt cs off c.leaves by unfold putAt; rw[hl]];exact hp.mono fun _ _ h=>h.ext (tc hcol)
   ·cases h
  ·cases h
 ·rename_i ob i off z el z' l c _ heq;simp only[List.cons.injEq,and_true] at heq;obtain⟨h1,h2⟩:=St.bF heq.1;rw[h1] at hx;rw[(St.bF heq.2).1] at hy;have hob:s.hp ob=some (.arr el z' l):=by simpa [Slot.ids,Cmp.ids,Cmp.leaves,av.ids] using h2
  have hval:a.eval x=ptr (G.bl ob) (lB (G.hv ob)+(i * z+off)):=LRd.val hx;obtain⟨hown,hbl⟩:=r.gM ob _ hob;split at h
  ·rename_i n ps hn hps;split at h
   ·rename_i hcond;obtain⟨rfl,hpl⟩:=hcond;simp only[Option.some.injEq] at h;subst h;obtain⟨hi,hle⟩:i<l.length/\off+n<=z:=hc;have hcells:=CRd.cells hy;have hpr:=hcells;rw[tQ hps] at hpr;have hrd:=qo hpr;have hsz:(a.eval y).cells.size=n:=by have:=hrd.1; simp at this; omega
    obtain⟨g,cur,g1,g2,g3,g4⟩:=ME (off:=off) hown hi (by simp; omega) (by omega) hrd.one hrd;have hrun:=tR (P:=P) (t:=t) (off:=lB (G.hv ob)+(i * z+off)) (v:=a.eval y) g2 (by rw[hsz]; exact hn) (by simpa using g3) hrd.one;have hgb:g=G.bl ob:=hbl g g1;rw[hgb,← hval] at hrun;rw[hgb] at g4 g2;have hcol:G.χ (G.bl ob)=ob+2:=by rw[← hgb]; exact hown.col g g1
    refine xd r hd hcol (hex _ hrun) ⟨?_,hbl⟩;rw[show (l.getD i []).take off++ps++(l.getD i []).drop (off+n)=putAt (l.getD i []) off ps by unfold putAt; rw[hpl]];exact g4
   ·cases h
  ·cases h
 ·cases h
theorem Hv {e:Eff} {sr ds:TypeId} {x:Operand} (r:bP w0 χ0 T0 s a w G) (hd:∀ k,o.dst=some k->k<a.tmps.size) (ho:o.op = .convert sr ds x) (h:kG P sr ds [s.ev x]=some e):o.wp P a w (aX w0 χ0 T0 a.tmps.size (s.app o.dst e)) Q:=by
 have hx:=r.ev x;unfold kG at h;split at h
 ·rename_i k n heq;simp only[List.cons.injEq,and_true] at heq;rw[heq] at hx;obtain⟨hv,hk⟩:=fH hx;split at h
  ·rename_i k1 k' hs hd';have hrun:(execOp a.eval o).run P w = .ok (.value (.int k' (k'.wrap n))) w:=by
    simp [execOp,ho,convert,run_underlying hs,run_underlying hd',hv,Conv.intToInt]
   split at h
   ·rename_i hc;simp only[val,Option.some.injEq] at h;subst h;obtain⟨rfl,hne⟩:=hc;have hin:inK .i64 n:=by
     cases k <;> first | exact absurd rfl hne | skip
     all_goals
      simp [inK,IntKind.min,IntKind.max,IntKind.signed,IntKind.bits] at hk ⊢;omega
    rw[wD hin] at hrun;exact bD r hd hrun (iz hin)
   ·simp only[val,Option.some.injEq] at h;subst h;exact bD r hd hrun (iz (lC _ _))
  ·cases h
 ·rename_i t heq;simp only[List.cons.injEq,and_true] at heq;rw[heq] at hx;obtain⟨hv,hk⟩:=lv hx;split at h
  ·rename_i hs hd';simp only[val,Option.some.injEq] at h;subst h;exact bD r hd (by simp [execOp,ho,convert,run_underlying hs,run_underlying hd',hv]) (AV hk)
  ·cases h
 ·cases h
theorem Rd.toV {F:Nat->Prop} {w:World} {p:PV} {v:Value} (h:Rd F w p v) (hf:p.flat=true):v=p.toV/\p.Plain:=by
 cases h with
 | int h=>exact⟨rfl,h⟩
 | bool=>exact⟨rfl,trivial⟩
 | str h=>exact⟨rfl,h⟩
 | oth h=>exact⟨rfl,h⟩
 | sl0 h hm=>cases hf
 | sl us h0 _ _ _ _ _ _ _=>cases hf
 | mp mv _ _ _ _=>cases hf
theorem td {c:Cmp} {v:Value} {hp:Hp} {agg:Bool} {ps:List PV} (h:CRd G hp w c v) (hr:mf c=some (agg,ps)) (hf:∀ p∈ps,p.flat=true):v=sS agg ps/\po agg ps:=by
 unfold mf at hr;split at hr
 ·rename_i p;simp only[Option.some.injEq,Prod.mk.injEq] at hr;obtain⟨rfl,rfl⟩:=hr;obtain⟨h1,h2⟩:=Rd.toV (LRd.val h) (hf p (by simp));exact⟨h1,by simpa using h2,fun _=>rfl⟩
 ·rename_i xs;rw[Option.map_eq_some_iff] at hr;obtain⟨qs,hq,hr⟩:=hr;simp only[Prod.mk.injEq] at hr;obtain⟨rfl,rfl⟩:=hr;obtain⟨vs,hv,hall⟩:=h;rw[tQ hq] at hall;have hget:∀ (i:Nat) u p,vs[i]?=some u->qs[i]?=some p->u=p.toV/\p.Plain:=fun i u p hu hp=>by
   have:=hall.2 i (.p p) u (by rw[List.getElem?_map,hp]; rfl) hu;exact Rd.toV (LRd.val this) (hf p (List.mem_of_getElem? hp))
  have hlen:qs.length=vs.length:=by simpa using hall.1
  refine⟨?_,fun p hp=>?_,fun h=>by cases h⟩
  ·rw[hv];show Value.agg vs.toArray = .agg (qs.map PV.toV).toArray;have:vs=qs.map PV.toV:=by
    apply List.ext_getElem?;intro i;rw[List.getElem?_map];rcases Nat.lt_or_ge i qs.length with hi | hi
    ·have h1:vs[i]?=some vs[i]:=List.getElem?_eq_getElem (by omega);have h2:qs[i]?=some qs[i]:=List.getElem?_eq_getElem hi;rw[h1,h2,(hget i _ _ h1 h2).1]; rfl
    ·rw[List.getElem?_eq_none (by omega),List.getElem?_eq_none hi]; rfl
   rw[this]
  ·obtain⟨i,hi⟩:=List.mem_iff_getElem?.1 hp;have hlt:i<vs.length:=by rw[← hlen]; exact (List.getElem?_eq_some_iff.1 hi).1
   exact (hget i _ p (List.getElem?_eq_getElem hlt) hi).2
 ·cases hr
theorem pU {agg:Bool} {ps:List PV} {hp:Hp} (h:po agg ps):CRd G hp w (ru agg ps) (sS agg ps):=by
 cases agg with
 | true =>
  refine⟨ps.map PV.toV,rfl,by simp,fun i a b ha hb=>?_⟩;rw[List.getElem?_map,Option.map_eq_some_iff] at ha hb;obtain⟨p,hp,rfl⟩:=ha;obtain⟨p',hp',rfl⟩:=hb;rw[hp] at hp';injection hp' with hp'
  subst hp';have hpl:=(h.1 p (List.mem_of_getElem? hp)).rd (F:=In G.χ 0) (w:=w);exact⟨hpl.one,by simp [av.ids],hpl⟩
 | false =>
  have hl:=h.2 rfl;cases ps with
  | nil=>simp at hl
  | cons p r =>
   have hpl:=(h.1 p List.mem_cons_self).rd (F:=In G.χ 0) (w:=w);exact⟨hpl.one,by simp [av.ids],hpl⟩
theorem xe {c:Cmp} {v:Value} {hp:Hp} {agg:Bool} {ps:List PV} (h:CRd G hp w c v) (hr:mf c=some (agg,ps)):wV (In G.χ 0) w agg ps v:=by
 unfold mf at hr;split at hr
 ·rename_i p;simp only[Option.some.injEq,Prod.mk.injEq] at hr;obtain⟨rfl,rfl⟩:=hr;exact⟨p,rfl,LRd.val h⟩
 ·rename_i xs;rw[Option.map_eq_some_iff] at hr;obtain⟨qs,hq,hr⟩:=hr;simp only[Prod.mk.injEq] at hr;obtain⟨rfl,rfl⟩:=hr;obtain⟨vs,hv,hall⟩:=h;rw[tQ hq] at hall;refine⟨vs,hv,by simpa using hall.1,fun i p u hp hu=>?_⟩;have:=hall.2 i (.p p) u (by rw[List.getElem?_map,hp]; rfl) hu;exact LRd.val this
 ·cases hr
theorem F1 {agg:Bool} {ps:List PV} {v:Value} {hp:Hp} (h:wV (In G.χ 0) w agg ps v):CRd G hp w (ru agg ps) v:=by
 cases agg with
 | true =>
  obtain⟨vs,h1,h2⟩:=h;refine⟨vs,h1,by simpa using h2.1,fun i a b ha hb=>?_⟩;rw[List.getElem?_map,Option.map_eq_some_iff] at ha;obtain⟨p,hp,rfl⟩:=ha;have h3:=h2.2 i p b hp hb;exact⟨h3.one,by simp [av.ids],h3⟩
 | false =>
  obtain⟨p,rfl,h2⟩:=h;exact⟨h2.one,by simp [av.ids],h2⟩
theorem zD {x:av} {v:Value} {hp:Hp} (h:LRd G hp w x v):LRd G hp w x.pq v:=by
 cases x with
 | nil =>
  have hv:v = .slice none 0 0:=h.val;subst hv;exact⟨rfl,by simp [av.pq,av.ids],.sl0 (fun _=>rfl) (by omega)⟩
 | _=>exact h
theorem Jr {c:Cmp} {v:Value} {hp:Hp} (h:CRd G hp w c v):CRd G hp w c.pq v:=by
 cases c with
 | v x=>exact zD h
 | g xs =>
  obtain⟨vs,h1,h2⟩:=h;refine⟨vs,h1,by simpa using h2.1,fun i a b ha hb=>?_⟩;rw[List.getElem?_map,Option.map_eq_some_iff] at ha;obtain⟨y,hy,rfl⟩:=ha;exact zD (h2.2 i y b hy hb)
theorem rA {t:TypeId} {agg:Bool} {z:List PV} (h:pJ P t=some (agg,z)):(∀ w,(zeroValue t).run P w = .ok (sS agg z) w)/\po agg z:=by
 unfold pJ at h;split at h
 ·rename_i i hi;split at h
  ·rename_i v hz;split at h
   ·rename_i c hs;split at h
    ·rename_i agg' ps hcr;split at h
     ·rename_i hfl;simp only[Option.some.injEq,Prod.mk.injEq] at h;obtain⟨rfl,rfl⟩:=h;have hrd:=ql (G:=⟨fun _=>0,fun _=>0,fun _=>.nilFunc⟩) (hp:=fun _=>none) (w:=default) v;rw[hs] at hrd;obtain⟨h1,h2⟩:=td hrd hcr (by simpa using hfl);exact⟨fun w=>by simp [zeroValue,typeInfo,hi,hz,h1],h2⟩
     ·cases h
    ·cases h
   ·cases h
  ·cases h
 ·cases h
theorem zE {t:TypeId} {agg:Bool} {z:List PV} (h:qn P t=some (agg,z)):∃ v,(∀ w,(zeroValue t).run P w = .ok v w)/\∀ (G:Gh) w,wV (In G.χ 0) w agg z v:=by
 unfold qn at h;split at h
 ·rename_i i hi;split at h
  ·rename_i v hz;split at h
   ·rename_i c hs;refine⟨v,fun w=>by simp [zeroValue,typeInfo,hi,hz],fun G w=>?_⟩;have hrd:=ql G (fun _=>none) w v;rw[hs] at hrd;exact xe (Jr hrd) h
   ·cases h
  ·cases h
 ·cases h
theorem pT.flat {F F':Nat->Prop} {w w':World} {agg:Bool} {mv:List (ByteArray×Value)} {m:List (ByteArray×List PV)} (h:pT F w agg mv m) (hf:∀ y∈m,∀ p∈y.2,p.flat=true):pT F' w' agg mv m:=by
 refine⟨h.1,fun i x y hx hy=>?_⟩;have h1:=h.2 i x y hx hy;have h2:=hf y (List.mem_of_getElem? hy);cases agg with
 | true =>
  obtain⟨vs,h3,h4⟩:=h1;refine⟨vs,h3,h4.1,fun j p v hp hv=>?_⟩;obtain⟨rfl,h5⟩:=Rd.toV (h4.2 j p v hp hv) (h2 p (List.mem_of_getElem? hp));exact h5.rd
 | false =>
  obtain⟨p,h3,h4⟩:=h1;obtain⟨h6,h5⟩:=Rd.toV h4 (h2 p (by rw[h3]; simp));rw[h6];exact⟨p,h3,h5.rd⟩
theorem pT.look {F:Nat->Prop} {agg:Bool} {mv:List (ByteArray×Value)} {m:List (ByteArray×List PV)} {z:List PV} {vz:Value} (h:pT F w agg mv m) (hz:wV F w agg z vz) (x:ByteArray) :
  wV F w agg ((bG m x).getD z) (((bG mv x).map id).getD vz)/\(bG mv x).isSome=(bG m x).isSome:=by
 unfold bG;rw[h.1];cases hp:pos (m.map (·.1)) x with
 | none=>exact⟨hz,rfl⟩
 | some i =>
  have hl:=mV hp;have hl2:i<mv.length:=by have:=congrArg List.length h.1; simp at this hl; omega
  have hl3:i<m.length:=by simpa using hl
  simp only[Option.bind_some,List.getElem?_eq_getElem hl2,List.getElem?_eq_getElem hl3,Option.map_some,Option.getD_some,Option.isSome_some,and_true];exact h.2 i _ _ (List.getElem?_eq_getElem hl2) (List.getElem?_eq_getElem hl3)
theorem pT.put {F:Nat->Prop} {agg:Bool} {mv:List (ByteArray×Value)} {m:List (ByteArray×List PV)} {ps:List PV} {v:Value} (h:pT F w agg mv m) (hv:wV F w agg ps v) (x:ByteArray):pT F w agg (fa mv x v) (fa m x ps):=by
 have hlen:mv.length=m.length:=by have:=congrArg List.length h.1; simpa using this
 refine⟨by rw[uS,uS,h.1],fun i a b ha hb=>?_⟩;unfold fa at ha hb;rw[h.1] at ha;cases hp:pos (m.map (·.1)) x with
 | none =>
  rw[hp] at ha hb;dsimp only at ha hb;by_cases hi:i<m.length
  ·rw[List.getElem?_append_left (by omega)] at ha;rw[List.getElem?_append_left hi] at hb;exact h.2 i a b ha hb
  ·rw[List.getElem?_append_right (by omega)] at ha;rw[List.getElem?_append_right (by omega)] at hb;rw[hlen] at ha;cases hk:i-m.length with
   | zero=>rw[hk] at ha hb; simp at ha hb; subst ha hb; exact hv
   | succ k=>rw[hk] at ha; simp at ha
 | some j =>
  rw[hp] at ha hb;dsimp only at ha hb;rw[List.getElem?_set] at ha hb;by_cases hj:j=i
  ·rw[if_pos hj] at ha hb;split at ha
   ·split at hb
    ·simp at ha hb; subst ha hb; exact hv
    ·cases hb
   ·cases ha
  ·rw[if_neg hj] at ha hb;exact h.2 i a b ha hb
theorem zF {ok agg:Bool} {mv:List (ByteArray×Value)} {m:List (ByteArray×List PV)} {x:ByteArray} {z:List PV} {vz:Value} {hp:Hp} (h:pT (In G.χ 0) w agg mv m) (hz:wV (In G.χ 0) w agg z vz) :
  SRd G hp w (mg ok agg (bG m x) z) (if ok then .tuple #[((bG mv x).map id).getD vz,.bool (bG mv x).isSome] else ((bG mv x).map id).getD vz):=by
 obtain⟨h1,h2⟩:=h.look hz x;have e:(bG mv x).map id=bG mv x:=by cases bG mv x <;> rfl
 rw[h2,e];rw[e] at h1;cases ok with
 | true =>
  refine⟨[_,_],rfl,rfl,fun i a b ha hb=>?_⟩;match i,ha,hb with
  | 0,ha,hb=>simp at ha hb; subst ha hb; exact F1 h1
  | 1,ha,hb=>simp at ha hb; subst ha hb; exact⟨rfl,by simp [av.ids],.bool⟩
 | false=>exact F1 h1
theorem F2 {α:Type} [DecidableEq α] {agg:Bool} {m:List (α×List PV)} {x:α} {ps:List PV} (h:∀ y∈m,po agg y.2) (hp:po agg ps):∀ y∈fa m x ps,po agg y.2:=by
 intro y hy;unfold fa at hy;split at hy
 ·rcases List.mem_or_eq_of_mem_set hy with hy | rfl
  ·exact h y hy
  ·exact hp
 ·rcases List.mem_append.1 hy with hy | hy
  ·exact h y hy
  ·rw[List.mem_singleton] at hy; subst hy; exact hp
theorem Js {α:Type} [DecidableEq α] {agg:Bool} {m:List (α×List PV)} {x:α} {z:List PV} (h:∀ y∈m,po agg y.2) (hz:po agg z):po agg ((bG m x).getD z)/\((bG m x).map (sS agg)).getD (sS agg z)=sS agg ((bG m x).getD z):=by
 cases hl:bG m x with
 | none=>exact⟨hz,rfl⟩
 | some ps =>
  refine⟨?_,rfl⟩;unfold bG at hl;rw[Option.bind_eq_some_iff] at hl;obtain⟨i,_,hl⟩:=hl;rw[Option.map_eq_some_iff] at hl;obtain⟨y,hy,rfl⟩:=hl;exact h y (List.mem_of_getElem? hy)
theorem Cl {α:Type} [DecidableEq α] {ok agg:Bool} {m:List (α×List PV)} {x:α} {z:List PV} {hp:Hp} (h:∀ y∈m,po agg y.2) (hz:po agg z) :
  SRd G hp w (mg ok agg (bG m x) z) (if ok then .tuple #[((bG m x).map (sS agg)).getD (sS agg z),.bool (bG m x).isSome] else ((bG m x).map (sS agg)).getD (sS agg z)):=by
 obtain⟨h1,h2⟩:=Js (x:=x) h hz;rw[h2];cases ok with
 | true =>
  refine⟨[_,_],rfl,rfl,fun i a b ha hb=>?_⟩;match i,ha,hb with
  | 0,ha,hb=>simp at ha hb; subst ha hb; exact pU h1
  | 1,ha,hb=>simp at ha hb; subst ha hb; exact⟨rfl,by simp [av.ids],.bool⟩
 | false=>exact pU h1
theorem Jt {t:TypeId} {k:IntKind} (h:Jg P t=some k):∃ fs f g hh,P.underlying t=some (.struct fs)/\fs.toList=[f,g,hh]/\P.underlying f.type=some (.int k)/\P.underlying g.type=some (.int k)/\P.underlying hh.type=some (.int k)/\f.offset=0/\g.offset=1/\hh.offset=2/\f.name ≠ "_" /\ g.name ≠ "_" /\ hh.name ≠ "_" /\ P.stoodInHeld t=false:=by
 unfold Jg at h;split at h
 ·rename_i fs hu;split at h
  ·rename_i f g hh hfs;split at h
   ·rename_i k0 k1 k2 hf hg hhh;split at h
    ·rename_i hc;simp only[Option.some.injEq] at h;subst h;simp only[Bool.and_eq_true,decide_eq_true_eq,bne_iff_ne,ne_eq,Bool.not_eq_true'] at hc;obtain⟨⟨⟨⟨⟨⟨⟨⟨rfl,rfl⟩,ho1⟩,ho2⟩,ho3⟩,hn1⟩,hn2⟩,hn3⟩,hst⟩:=hc;exact⟨fs,f,g,hh,hu,hfs,hf,hg,hhh,ho1,ho2,ho3,hn1,hn2,hn3,hst⟩
    ·cases h
   ·cases h
  ·cases h
 ·cases h
theorem pV {d:Nat} {xs ys:Array Value} {f:Field} {fs:List Field} {u v:Value} {b:Bool} (hn:f.name ≠ "_") (p1:(part f.type xs f.offset).run P w = .ok u w) (p2:(part f.type ys f.offset).run P w = .ok v w) (e:(Op.equalIn d f.type u v).run P w = .ok b w) :
  (Op.eqFields d xs ys (f::fs)).run P w=if b=true then (Op.eqFields d xs ys fs).run P w else .ok false w:=by
 conv=>lhs; unfold Op.eqFields
 rw[if_pos hn];simp only[Sem.run_bind,p1,p2,e,Result.andThen_ok];cases b <;> simp
theorem rB {t:TypeId} (hu:P.underlying t≠none) (ha:fv P t=false) {cs:Array Value} {off:Nat} {v:Value} (h:cs[off]?=some v) (w:World):(part t cs off).run P w = .ok v w:=by
 simp [part,fO (t:=t) (P:=P) hu,ha,h]
theorem xf {kt:TypeId} {k:IntKind} (h:Cd P kt=some k):KeyLaw P kt (tM k):=by
 unfold Cd at h;split at h
 ·rename_i fs hu;split at h
  ·rename_i f g i hfs;split at h
   ·rename_i k0 hf hg hi;split at h
    ·rename_i hc;simp only[Option.some.injEq] at h;subst h;simp only[Bool.and_eq_true,decide_eq_true_eq,bne_iff_ne,ne_eq,Bool.not_eq_true'] at hc;obtain⟨⟨⟨⟨⟨⟨⟨ho1,ho2⟩,ho3⟩,hn1⟩,hn2⟩,hn3⟩,hst⟩,hsz⟩:=hc;obtain⟨gs,a,b',c,gu,hgs,ha,hb,hcc,oa,ob,oc,na,nb,nc,gst⟩:=Jt hg;have hfo:P.fieldsOf kt=fs:=by simp [Program.fieldsOf,hu]
     have hgo:P.fieldsOf g.type=gs:=by simp [Program.fieldsOf,gu]
     obtain⟨inf,hinf,hsz⟩:∃ inf,P.info? g.type=some inf/\inf.size=3:=by
      unfold gB at hsz;split at hsz
      ·cases hq:P.info? g.type with
       | none=>rw[hq] at hsz; cases hsz
       | some q=>rw[hq] at hsz; exact⟨q,rfl,by simpa using hsz⟩
      ·cases hsz
     have nf:P.underlying f.type≠none:=by rw[hf]; simp
     have ni:P.underlying i.type≠none:=by rw[hi]; simp
     have ng:P.underlying g.type≠none:=by rw[gu]; simp
     have nna:P.underlying a.type≠none:=by rw[ha]; simp
     have nnb:P.underlying b'.type≠none:=by rw[hb]; simp
     have nnc:P.underlying c.type≠none:=by rw[hcc]; simp
     have af:fv P f.type=false:=by unfold fv; rw[hf]
     have ai:fv P i.type=false:=by unfold fv; rw[hi]
     have ag:fv P g.type=true:=by unfold fv; rw[gu]
     have aa:fv P a.type=false:=by unfold fv; rw[ha]
     have ab:fv P b'.type=false:=by unfold fv; rw[hb]
     have ac:fv P c.type=false:=by unfold fv; rw[hcc]
     have pf:∀ (x:ByteArray×Int×Int×Int×ByteArray) (w:World),(part f.type #[.string x.1,.int k0 x.2.1,.int k0 x.2.2.1,.int k0 x.2.2.2.1,.string x.2.2.2.2] f.offset).run P w = .ok (.string x.1) w:=fun x w=>rB nf af (by rw[ho1]; rfl) w;have pi:∀ (x:ByteArray×Int×Int×Int×ByteArray) (w:World),(part i.type #[.string x.1,.int k0 x.2.1,.int k0 x.2.2.1,.int k0 x.2.2.2.1,.string x.2.2.2.2] i.offset).run P w = .ok (.string x.2.2.2.2) w:=fun x w=>rB ni ai (by rw[ho3]; rfl) w;have pg:∀ (x:ByteArray×Int×Int×Int×ByteArray) (w:World),(part g.type #[.string x.1,.int k0 x.2.1,.int k0 x.2.2.1,.int k0 x.2.2.2.1,.string x.2.2.2.2] g.offset).run P w = .ok (.agg #[.int k0 x.2.1,.int k0 x.2.2.1,.int k0 x.2.2.2.1]) w:=fun x w=>by
      rw[ho2];simp [part,fO (t:=g.type) (P:=P) ng,ag,sizeOf,typeInfo,hinf,hsz]
     have pa:∀ (x y z:Int) (w:World),(part a.type #[.int k0 x,.int k0 y,.int k0 z] a.offset).run P w = .ok (.int k0 x) w:=fun x y z w=>rB nna aa (by rw[oa]; rfl) w;have pb:∀ (x y z:Int) (w:World),(part b'.type #[.int k0 x,.int k0 y,.int k0 z] b'.offset).run P w = .ok (.int k0 y) w:=fun x y z w=>rB nnb ab (by rw[ob]; rfl) w;have pc:∀ (x y z:Int) (w:World),(part c.type #[.int k0 x,.int k0 y,.int k0 z] c.offset).run P w = .ok (.int k0 z) w:=fun x y z w=>rB nnc ac (by rw[oc]; rfl) w;have ia:∀ w,(isAgg a.type).run P w = .ok false w:=fun w=>by rw[fO nna,aa]
     have ib:∀ w,(isAgg b'.type).run P w = .ok false w:=fun w=>by rw[fO nnb,ab]
     have ic:∀ w,(isAgg c.type).run P w = .ok false w:=fun w=>by rw[fO nnc,ac]
     have jf:∀ w,(isAgg f.type).run P w = .ok false w:=fun w=>by rw[fO nf,af]
     have jg:∀ w,(isAgg g.type).run P w = .ok true w:=fun w=>by rw[fO ng,ag]
     have ji:∀ w,(isAgg i.type).run P w = .ok false w:=fun w=>by rw[fO ni,ai]
     have e2:∀ x y:ByteArray,(x.toList == y.toList)=decide (x=y):=fun x y=>by
      rw[Bool.eq_iff_iff,beq_iff_eq,decide_eq_true_eq,ByteArray.toList_eq,ByteArray.toList_eq];exact⟨fun h=>ByteArray.ext (Array.ext' h),fun h=>by rw[h]⟩
     refine KeyLaw.struct hu (fun b x w=>?_) (fun x y w=>?_) (fun x=>?_)
     ·have kf:∀ n,(Instr.checkKey b (n+1) f.type (.string x.1)).run P w = .ok () w:=fun n=>by simp [Instr.checkKey,run_underlying hf]
      have ki:∀ n,(Instr.checkKey b (n+1) i.type (.string x.2.2.2.2)).run P w = .ok () w:=fun n=>by simp [Instr.checkKey,run_underlying hi]
      have ka:∀ n z,(Instr.checkKey b (n+1) a.type (.int k0 z)).run P w = .ok () w:=fun n z=>by simp [Instr.checkKey,run_underlying ha]
      have kb:∀ n z,(Instr.checkKey b (n+1) b'.type (.int k0 z)).run P w = .ok () w:=fun n z=>by simp [Instr.checkKey,run_underlying hb]
      have kc:∀ n z,(Instr.checkKey b (n+1) c.type (.int k0 z)).run P w = .ok () w:=fun n z=>by simp [Instr.checkKey,run_underlying hcc]
      have kg:∀ n,(Instr.checkKey b (n+1+1) g.type (.agg #[.int k0 x.2.1,.int k0 x.2.2.1,.int k0 x.2.2.2.1])).run P w = .ok () w:=by
       intro n;rw[Instr.checkKey];simp only[Sem.run_bind,run_underlying gu,Result.andThen_ok];rw[← Array.forIn_toList,hgs];simp [go_sem,na,nb,nc,oa,ob,oc,ia,ib,ic,ka,kb,kc]
      have key:∀ n,(Instr.checkKey b (n+1+1+1) kt (tM k0 x)).run P w = .ok () w:=by
       intro n;rw[tM,Instr.checkKey];simp only[Sem.run_bind,run_underlying hu,Result.andThen_ok];rw[← Array.forIn_toList,hfs];simp [go_sem,hn1,hn2,hn3,ho1,ho2,ho3,jf,jg,ji,sizeOf,typeInfo,hinf,hsz,kf,kg,ki]
      exact key 9997
     ·have e:(Op.equal kt (tM k0 x) (tM k0 y))=Op.equalIn (9999+1) kt (tM k0 x) (tM k0 y):=rfl;rw[e,tM,tM,run_equalIn_struct w 9999 kt _ _ (by rw[hfo]; exact hu) hst,hfo,hfs];have en:(Op.equalIn 9999 g.type (.agg #[.int k0 x.2.1,.int k0 x.2.2.1,.int k0 x.2.2.2.1]) (.agg #[.int k0 y.2.1,.int k0 y.2.2.1,.int k0 y.2.2.2.1])).run P w = .ok (decide (x.2.1=y.2.1) && (decide (x.2.2.1=y.2.2.1) && decide (x.2.2.2.1=y.2.2.2.1))) w:=by
       rw[run_equalIn_struct w 9998 g.type _ _ (by rw[hgo]; exact gu) gst,hgo,hgs];rw[pV na (pa _ _ _ w) (pa _ _ _ w) (run_equalIn_int w 9997 a.type k0 _ _ _ ha),pV nb (pb _ _ _ w) (pb _ _ _ w) (run_equalIn_int w 9997 b'.type k0 _ _ _ hb),pV nc (pc _ _ _ w) (pc _ _ _ w) (run_equalIn_int w 9997 c.type k0 _ _ _ hcc)];by_cases h1:x.2.1=y.2.1 <;> by_cases h2:x.2.2.1=y.2.2.1 <;> by_cases h3:x.2.2.2.1=y.2.2.2.1 <;> simp [h1,h2,h3,Op.eqFields]
      rw[pV hn1 (pf x w) (pf y w) (run_equalIn_string w 9998 f.type x.1 y.1 hf),pV hn2 (pg x w) (pg y w) en,pV hn3 (pi x w) (pi y w) (run_equalIn_string w 9998 i.type x.2.2.2.2 y.2.2.2.2 hi)];obtain⟨x1,x2,x3,x4,x5⟩:=x;obtain⟨y1,y2,y3,y4,y5⟩:=y;simp only[e2];by_cases h1:x1=y1 <;> by_cases h2:x2=y2 <;> by_cases h3:x3=y3 <;> by_cases h4:x4=y4 <;> by_cases h5:x5=y5 <;> simp [h1,h2,h3,h4,h5,Op.eqFields]
     ·simp [tM,Instr.sameBits,bytes_beq]
    ·cases h
   ·cases h
  ·cases h
 ·cases h
theorem Qu {k k4 k5:IntKind} {n n4 n5:Int} {t0 t:ByteArray} {hp:Hp} {v:Value} (h:SRd G hp w (.c (.g [.p (.str t0),.p (.int k n),.p (.int k4 n4),.p (.int k5 n5),.p (.str t)])) v):v = .agg #[.string t0,.int k n,.int k4 n4,.int k5 n5,.string t]:=by
 obtain⟨vs,rfl,hl,ha⟩:=h;match vs,hl with
 | [u1,u2,u3,u4,u5],_ =>
  have h1:=(ha 0 _ _ rfl rfl).val;have h2:=(ha 1 _ _ rfl rfl).val;have h3:=(ha 2 _ _ rfl rfl).val;have h4:=(ha 3 _ _ rfl rfl).val;have h5:=(ha 4 _ _ rfl rfl).val;cases h1;cases h2;cases h3;cases h4;cases h5;rfl
theorem Cm {e:Eff} {t:TypeId} {ok:Bool} {x y:Operand} (r:bP w0 χ0 T0 s a w G) (hd:∀ k,o.dst=some k->k<a.tmps.size) (ho:o.op = .lookup t x y ok) (h:iy P t ok [s.arg x,s.arg y]=some e) :
  o.wp P a w (aX w0 χ0 T0 a.tmps.size (s.app o.dst e)) Q:=by
 have hx:=r.ev x;have hy:=r.ev y;unfold iy at h;split at h
 ·rename_i ob k agg m k' n _ heq;simp only[List.cons.injEq,and_true] at heq;obtain⟨h1,h2⟩:=St.bF heq.1;rw[h1] at hx;rw[(St.bF heq.2).1] at hy;have hob:s.hp ob=some (.kx k agg m):=by simpa [Slot.ids,Cmp.ids,Cmp.leaves,av.ids] using h2
  have hval:a.eval x = .map (some (G.bl ob)):=LRd.val hx;obtain⟨es,clock,hm,_,hrow⟩:=r.gM ob _ hob;split at h
  ·rename_i kt et hu;split at h
   ·rename_i k2 agg2 z hk hz;split at h
    ·rename_i hc;obtain⟨rfl,rfl,rfl⟩:=hc;simp only[val,Option.some.injEq] at h;subst h;obtain⟨hz1,hz2⟩:=rA hz;refine bD r hd ?_ (Cl hrow hz2);cases ok with
     | true=>simp [execOp,ho,hval,(fH hy).1,hm.look_ok (KeyLaw.int hk) hu hz1 n,← show wU k' n = .int k' n from rfl]
     | false=>simp [execOp,ho,hval,(fH hy).1,hm.rp (KeyLaw.int hk) hu hz1 n,← show wU k' n = .int k' n from rfl]
    ·cases h
   ·cases h
  ·cases h
 ·rename_i ob agg m t' _ heq;simp only[List.cons.injEq,and_true] at heq;obtain⟨h1,h2⟩:=St.bF heq.1;rw[h1] at hx;rw[(St.bF heq.2).1] at hy;have hob:s.hp ob=some (.iJ agg m):=by simpa [Slot.ids,Cmp.ids,Cmp.leaves,av.ids] using h2
  have hval:a.eval x = .map (some (G.bl ob)):=LRd.val hx;obtain⟨es,clock,mv,hm,_,hrow⟩:=r.gM ob _ hob;split at h
  ·rename_i kt et hu;split at h
   ·rename_i agg2 z hk hz;split at h
    ·rename_i hc;subst hc;simp only[val,Option.some.injEq] at h;subst h;obtain⟨vz,hz1,hz2⟩:=zE hz;refine bD r hd ?_ (zF hrow (hz2 G w));cases ok with
     | true=>simp [execOp,ho,hval,(lv hy).1,hm.look_ok (KeyLaw.str hk) hu hz1 t',← show Ek t' = .string t' from rfl]
     | false=>simp [execOp,ho,hval,(lv hy).1,hm.rp (KeyLaw.str hk) hu hz1 t',← show Ek t' = .string t' from rfl]
    ·cases h
   ·cases h
  ·cases h
 ·rename_i _ t' _ heq;simp only[List.cons.injEq,and_true] at heq;rw[(St.bF heq.1).1] at hx;rw[(St.bF heq.2).1] at hy;have hval:a.eval x = .map none:=by
   have h1:Rd (In G.χ 0) w (.oth (.map none)) (a.eval x):=LRd.val hx;generalize a.eval x=v at h1 ⊢;cases h1; rfl
  split at h
  ·rename_i kt et hu;split at h
   ·rename_i agg z hk hz;simp only[val,Option.some.injEq] at h;subst h;obtain⟨vz,hz1,hz2⟩:=zE hz;have hf:=(KeyLaw.str hk).find t' [] [] rfl w;have hc:=(KeyLaw.str hk).chk true t' w;refine bD r hd ?_ (zF (mv:=[]) (m:=[]) (x:=t') ⟨rfl,fun i x y hx=>by simp at hx⟩ (hz2 G w));cases ok with
    | true=>simp [execOp,ho,hval,(lv hy).1,Instr.lookup,run_underlying hu,hc,hf,hz1,pos,bG]
    | false=>simp [execOp,ho,hval,(lv hy).1,Instr.lookup,run_underlying hu,hc,hf,hz1,pos,bG]
   ·cases h
  ·cases h
 ·rename_i ob k agg m t0 k' n k4 n4 k5 n5 t' _ heq;simp only[List.cons.injEq,and_true] at heq;obtain⟨h1,h2⟩:=St.bF heq.1;rw[h1] at hx;rw[(St.bF heq.2).1] at hy;have hob:s.hp ob=some (.fM k agg m):=by simpa [Slot.ids,Cmp.ids,Cmp.leaves,av.ids] using h2
  have hval:a.eval x = .map (some (G.bl ob)):=LRd.val hx;have hkey:=Qu hy;obtain⟨es,clock,hm,_,hrow⟩:=r.gM ob _ hob;split at h
  ·rename_i kt et hu;split at h
   ·rename_i k2 agg2 z hk hz;split at h
    ·rename_i hc;obtain⟨rfl,rfl,rfl,rfl,rfl⟩:=hc;have hkey:a.eval y=tM _ (t0,n,n4,n5,t'):=hkey;simp only[val,Option.some.injEq] at h;subst h;obtain⟨hz1,hz2⟩:=rA hz;refine bD r hd ?_ (Cl hrow hz2);cases ok with
     | true=>simp [execOp,ho,hval,hkey,hm.look_ok (xf hk) hu hz1 (t0,n,n4,n5,t')]
     | false=>simp [execOp,ho,hval,hkey,hm.rp (xf hk) hu hz1 (t0,n,n4,n5,t')]
    ·cases h
   ·cases h
  ·cases h
 ·cases h
theorem xg {ob:Nat} {es:Array MapEntry} {clock:Nat} {h:cu} {c:Prop} (r:bP w0 χ0 T0 s a w G) (hd:∀ k,o.dst=some k->k<a.tmps.size) (hk:G.χ (G.bl ob)=ob+2)
  (hrun:(execOp a.eval o).run P w = .ok .skip (fb w (G.bl ob) es clock)) (hh:HRd G (Lad.upd s.hp ob (some h)) (fb w (G.bl ob) es clock) ob h):o.wp P a w (aX w0 χ0 T0 a.tmps.size (s.app o.dst ⟨c,.dead,[(ob,h)]⟩)) Q:=by
 have hext:Ext G s.hp w G (Lad.upd s.hp ob (some h)) (fb w (G.bl ob) es clock) :=
  ⟨fun b hb _=>⟨hb,jZ w (G.bl ob) es clock b (fun e=>by rw[e] at hb; have:G.χ (G.bl ob)=0:=hb; omega)⟩,fun _ _=>rfl,fun _ _=>rfl,fun i hi=>by
   by_cases hio:i=ob
   ·rw[hio,aE]; simp
   ·rw[fV _ _ hio]; exact hi⟩
 have hchg:Chg [ob+2] G.χ w G.χ (fb w (G.bl ob) es clock) :=
  ⟨rfl,rfl,rfl,by simp,fun _ _ _=>rfl,fun b _ hb=>jZ w (G.bl ob) es clock b (fun e=>hb (by rw[e,hk]; simp))⟩
 unfold Oper.wp;rw[hrun];refine⟨Act.jF _ _ _,G,r.upd hd hext hchg (by simp) (fun b hb=>r.norm b (by simpa using hb)) (fun i h' hi=>?_) trivial⟩;change Lad.upd s.hp ob (some h) i=some h' at hi;by_cases hid:i=ob
 ·subst hid;rw[aE] at hi;injection hi with hi
  subst hi;exact .inr hh
 ·rw[fV _ _ hid] at hi;exact .inl ⟨hi,by simp; omega⟩
theorem xh {e:Eff} {t:TypeId} {x y z:Operand} (r:bP w0 χ0 T0 s a w G) (hd:∀ k,o.dst=some k->k<a.tmps.size) (ho:o.op = .mapUpdate t x y z) (h:gr P t [s.arg x,s.arg y,s.arg z]=some e) (hc:e.cond) :
  o.wp P a w (aX w0 χ0 T0 a.tmps.size (s.app o.dst e)) Q:=by
 have hx:=r.ev x;have hy:=r.ev y;have hz:=r.ev z;unfold gr at h;split at h
 ·rename_i ob k agg m k' n _ c _ heq;simp only[List.cons.injEq,and_true] at heq;obtain⟨h1,h2⟩:=St.bF heq.1;rw[h1] at hx;rw[(St.bF heq.2.1).1] at hy;rw[(St.bF heq.2.2).1] at hz;have hob:s.hp ob=some (.kx k agg m):=by simpa [Slot.ids,Cmp.ids,Cmp.leaves,av.ids] using h2
  have hval:a.eval x = .map (some (G.bl ob)):=LRd.val hx;obtain⟨es,clock,hm,hcol,hrow⟩:=r.gM ob _ hob;split at h
  ·rename_i kt et hu;split at h
   ·rename_i k2 agg2 ps hk hps;split at h
    ·rename_i hcc;obtain⟨rfl,rfl,rfl⟩:=hcc;simp only[Option.some.injEq] at h;subst h;obtain⟨hv,hok⟩:=td hz hps hc;obtain⟨g1,g2⟩:=hm.update (KeyLaw.int hk) hu n ps;refine xg r hd hcol ?_ ⟨_,_,g2,hcol,F2 hrow hok⟩;simp only[execOp,ho,hval,(fH hy).1,hv,Sem.run_bind,← show wU k' n = .int k' n from rfl,g1,Result.andThen_ok,Sem.run_pure]
    ·cases h
   ·cases h
  ·cases h
 ·rename_i ob agg m t' _ c _ heq;simp only[List.cons.injEq,and_true] at heq;obtain⟨h1,h2⟩:=St.bF heq.1;rw[h1] at hx;rw[(St.bF heq.2.1).1] at hy;rw[(St.bF heq.2.2).1] at hz;have hob:s.hp ob=some (.iJ agg m):=by simpa [Slot.ids,Cmp.ids,Cmp.leaves,av.ids] using h2
  have hval:a.eval x = .map (some (G.bl ob)):=LRd.val hx;obtain⟨es,clock,mv,hm,hcol,hrow⟩:=r.gM ob _ hob;split at h
  ·rename_i kt et hu;split at h
   ·rename_i agg2 ps hk hps;split at h
    ·rename_i hcc;subst hcc;simp only[Option.some.injEq] at h;subst h;have hok:=xe hz hps;obtain⟨g1,g2⟩:=hm.update (KeyLaw.str hk) hu t' (a.eval z);refine xg r hd hcol ?_ ⟨_,_,_,g2,hcol,(hrow.put hok t').frame fun b hb _=>⟨hb,jZ w (G.bl ob) _ _ b (fun e=>by rw[e] at hb; have:G.χ (G.bl ob)=0:=hb; omega)⟩⟩;have g1:(Instr.mapUpdate t (.map (some (G.bl ob))) (Ek t') (a.eval z)).run P w = .ok () (fb w (G.bl ob) (om es clock (pos (mv.map (·.1)) t') (Ek t') (a.eval z)).1 (om es clock (pos (mv.map (·.1)) t') (Ek t') (a.eval z)).2):=g1;simp only[execOp,ho,hval,(lv hy).1,Sem.run_bind,← show Ek t' = .string t' from rfl,g1,Result.andThen_ok,Sem.run_pure];rfl
    ·cases h
   ·cases h
  ·cases h
 ·rename_i ob k agg m t0 k' n k4 n4 k5 n5 t' _ c _ heq;simp only[List.cons.injEq,and_true] at heq;obtain⟨h1,h2⟩:=St.bF heq.1;rw[h1] at hx;rw[(St.bF heq.2.1).1] at hy;rw[(St.bF heq.2.2).1] at hz;have hob:s.hp ob=some (.fM k agg m):=by simpa [Slot.ids,Cmp.ids,Cmp.leaves,av.ids] using h2
  have hval:a.eval x = .map (some (G.bl ob)):=LRd.val hx;have hkey:=Qu hy;obtain⟨es,clock,hm,hcol,hrow⟩:=r.gM ob _ hob;split at h
  ·rename_i kt et hu;split at h
   ·rename_i k2 agg2 ps hk hps;split at h
    ·rename_i hcc;obtain⟨rfl,rfl,rfl,rfl,rfl⟩:=hcc;have hkey:a.eval y=tM _ (t0,n,n4,n5,t'):=hkey;simp only[Option.some.injEq] at h;subst h;obtain⟨hv,hok⟩:=td hz hps hc;obtain⟨g1,g2⟩:=hm.update (xf hk) hu (t0,n,n4,n5,t') ps;refine xg r hd hcol ?_ ⟨_,_,g2,hcol,F2 hrow hok⟩;simp only[execOp,ho,hval,hkey,hv,Sem.run_bind,g1,Result.andThen_ok,Sem.run_pure]
    ·cases h
   ·cases h
  ·cases h
 ·cases h
theorem AY {e:Eff} {t:TypeId} {rs:Option Operand} (r:bP w0 χ0 T0 s a w G) (hd:∀ k,o.dst=some k->k<a.tmps.size) (ho:o.op = .makeMap t rs) (h:kB P t o.dst (aF s.hp o.dst) (rs.toList.map s.arg)=some e) :
  o.wp P a w (aX w0 χ0 T0 a.tmps.size (s.app o.dst e)) Q:=by
 have hrs:rs=none:=by
  cases rs with
  | none=>rfl
  | some x=>simp [kB] at h
 subst hrs;have hrun:(execOp a.eval o).run P w = .ok (.value (.map (some w.heap.size))) (w.alloc (.map #[] 0)):=by
  simp [execOp,ho,Instr.makeMap]
 cases hdst:o.dst with
 | none=>unfold kB at h; split at h <;> (try split at h) <;> simp_all
 | some d =>
  rw[hdst] at h;rw[← hdst];have fin:∀ hh,(s.hp d=none/\d<1000000)->HRd (G.add d w.heap.size .nilFunc) (Lad.upd s.hp d (some hh)) (w.alloc (.map #[] 0)) d hh->o.wp P a w (aX w0 χ0 T0 a.tmps.size (s.app o.dst ⟨True,.x (.mp d),[(d,hh)]⟩)) Q:=by
   intro hh hf hhr;refine mh r hd hf .nilFunc hrun ⟨rfl,fun j hj=>?_,?_⟩ hhr
   ·simp [av.ids] at hj; subst hj; rw[aE]; simp
   ·show Value.map (some w.heap.size) = .map (some (Lad.upd G.bl d w.heap.size d));rw[aE]
  have hbl:Lad.upd G.bl d w.heap.size d=w.heap.size:=aE _ _ _;have hcol:(if w.heap.size=w.heap.size then d+2 else G.χ w.heap.size)=d+2:=if_pos rfl;unfold kB at h;split at h
  ·split at h
   ·rename_i kt et d' hu hdd;injection hdd with hdd
    subst hdd;split at h
    ·rename_i hk;split at h
     ·rename_i agg _ hz;split at h
      ·rename_i hf;simp only[Option.some.injEq] at h;subst h;refine fin _ (by simpa [aF] using hf) ⟨#[],0,[],?_,?_,rfl,fun i x y hx=>by simp at hx⟩
       ·show fW _ _ _ (Lad.upd G.bl d w.heap.size d) _ _ _;rw[hbl]; exact fW.made _ _ w
       ·show (if Lad.upd G.bl d w.heap.size d=w.heap.size then d+2 else _)=d+2;rw[hbl,if_pos rfl]
      ·cases h
     ·cases h
    ·split at h
     ·rename_i k agg _ hk hz;split at h
      ·rename_i hf;simp only[Option.some.injEq] at h;subst h;refine fin _ (by simpa [aF] using hf) ⟨#[],0,?_,?_,by simp⟩
       ·show fW _ _ _ (Lad.upd G.bl d w.heap.size d) _ _ _;rw[hbl]; exact fW.made _ _ w
       ·show (if Lad.upd G.bl d w.heap.size d=w.heap.size then d+2 else _)=d+2;rw[hbl,if_pos rfl]
      ·cases h
     ·rename_i fs agg _ hk hz;split at h
      ·rename_i kq hq;split at h
       ·rename_i hf;simp only[Option.some.injEq] at h;subst h;refine fin _ (by simpa [aF] using hf) ⟨#[],0,?_,?_,by simp⟩
        ·show fW _ _ _ (Lad.upd G.bl d w.heap.size d) _ _ _;rw[hbl]; exact fW.made _ _ w
        ·show (if Lad.upd G.bl d w.heap.size d=w.heap.size then d+2 else _)=d+2;rw[hbl,if_pos rfl]
       ·cases h
      ·cases h
     ·cases h
   ·cases h
  ·cases h
theorem sk {k:IntKind} {i:Int} {n:Nat} {code:BoundsCode} (h0:0<=i) (hn:i<=n):(Instr.sliceBound (.int k i) n code).run P w = .ok i.toNat w:=by
 simp [Instr.sliceBound,asIntOf,h0,hn]
theorem tS {isS:Bool} {n cap:Nat} {lo hi:Option Operand} {i j:Int} (r:bP w0 χ0 T0 s a w G) (h:sT lo.isSome hi.isSome n ((lo.toList++hi.toList).map s.arg)=some (i,j)) (h1:0<=i) (h2:i<=j) (h3:j<=n) (hc:n<=cap) :
  (Instr.sliceBounds isS n cap (lo.map a.eval) (hi.map a.eval) none).run P w = .ok (i.toNat,j.toNat,cap) w:=by
 have ev:∀ (x:Operand) (k:IntKind) (m:Int) (hs:List (Option cu)),s.arg x=(.c (.v (.p (.int k m))),hs)->a.eval x = .int k m:=fun x k m hs hx=>by
  have:=r.ev x;rw[(St.bF hx).1] at this;exact (fH this).1
 cases lo with
 | none=>cases hi with
  | none =>
   simp [sT] at h;obtain⟨rfl,rfl⟩:=h;simp [Instr.sliceBounds]
  | some y =>
   unfold sT at h;split at h <;> simp at *
   obtain⟨rfl,rfl⟩:=h;rename_i heq;have e:=ev y _ _ _ heq;simp [Instr.sliceBounds,e,sk (P:=P) (w:=w) (show (0:Int)<=_ from by omega) (show _<=(cap:Int) from by omega)]
 | some x=>cases hi with
  | none =>
   unfold sT at h;split at h <;> simp at *
   obtain⟨rfl,rfl⟩:=h;rename_i heq;have e:=ev x _ _ _ heq;simp [Instr.sliceBounds,e,sk (P:=P) (w:=w) (show (0:Int)<=_ from by omega) (show _<=(n:Int) from by omega)]
  | some y =>
   unfold sT at h;split at h <;> simp at *
   obtain⟨rfl,rfl⟩:=h;rename_i heq;have e1:=ev x _ _ _ heq.1;have e2:=ev y _ _ _ heq.2;have hj0:=Int.le_trans h1 h2;have hjc:=Int.le_trans h3 (Int.ofNat_le.2 hc);have hij:=Int.le_trans h2 (Int.le_of_eq (Int.toNat_of_nonneg hj0).symm);simp [Instr.sliceBounds,e1,e2,sk (P:=P) (w:=w) hj0 hjc,sk (P:=P) (w:=w) h1 hij]
theorem Ev {e:Eff} {t:TypeId} {x:Operand} {lo hi:Option Operand} (r:bP w0 χ0 T0 s a w G) (hd:∀ k,o.dst=some k->k<a.tmps.size) (ho:o.op = .slice t x lo hi none)
  (h:j0 P t lo.isSome hi.isSome (s.arg x::(lo.toList++hi.toList).map s.arg)=some e) (hc:e.cond):o.wp P a w (aX w0 χ0 T0 a.tmps.size (s.app o.dst e)) Q:=by
 have hx:=r.ev x;have run:∀ {el:TypeId} {z n c:Nat} {A:Option Addr} {i j:Int},cR P t=some (el,z)->a.eval x = .slice A n c->sT lo.isSome hi.isSome n ((lo.toList++hi.toList).map s.arg)=some (i,j)->0<=i->i<=j->j<=n->n<=c ->
   (execOp a.eval o).run P w = .ok (.value (svV A c i.toNat j.toNat z)) w:=by
  intro el z n c A i j h1 h2 h3 h4 h5 h6 h7;have hE:=fe h1;obtain⟨inf,zz,hi',_,hs,_⟩:=hE.ex;simp only[execOp,ho,h2,Instr.sliceAt,Instr.slice,Sem.run_bind,run_underlying hE.ty,Result.andThen_ok,Option.map_none,tS r h3 h4 h5 h6 h7,sizeOf,typeInfo,hi',Sem.run_pure];simp [hs,hi',svV]
 unfold j0 at h;split at h
 ·rename_i t' _ as heq;simp only[List.cons.injEq] at heq;obtain⟨heq,rfl⟩:=heq;rw[(St.bF heq).1] at hx;split at h
  ·rename_i i j hu hb;simp only[dQ,Option.some.injEq] at h;subst h;obtain⟨c1,c2,c3⟩:=hc;obtain⟨hv,hsz⟩:=lv hx;refine bD r hd (v := .string (t'.extract i.toNat j.toNat)) ?_ (AV ?_)
   ·simp only[execOp,ho,hv,Instr.sliceAt,Instr.slice,Sem.run_bind,run_underlying hu,Result.andThen_ok,Option.map_none,Option.isSome_none,tS r hb c1 c2 c3 (Nat.le_refl _)];simp [tS r hb c1 c2 c3 (Nat.le_refl _)]
   ·simp only[ByteArray.size_extract]; omega
  ·cases h
 ·rename_i l _ as heq;simp only[List.cons.injEq] at heq;obtain⟨heq,rfl⟩:=heq;rw[(St.bF heq).1] at hx;split at h
  ·rename_i el z i j hel hb;simp only[dQ,Option.some.injEq] at h;subst h;obtain⟨c1,c2,c3,c4⟩:=hc;obtain⟨A,c,z',hv,hs,hz'⟩:=(AU hx).vR;have hzp:=(fe hel).pos;refine bD r hd (run hel hv hb c1 c2 c3 hs.cap) (Jh ?_);by_cases h0:l=[]
   ·subst h0;have:i=0:=by simp at c3; omega
    have:j=0:=by simp at c3; omega
    subst_vars
    refine Rd.sl0 (fun hA=>?_) ?_
    ·have:A=none:=by
      revert hA
      split
      ·exact id
      ·cases A <;> simp
     have:=hs.nil this;omega
    ·have:=hs.max;omega
   ·obtain⟨y,hy⟩:=List.exists_mem_of_ne_nil l h0;obtain⟨k,hk⟩:=List.mem_iff_getElem?.1 hy;have hzz:z'=z:=(hz' k y hk).symm.trans (c4 y hy);subst hzz;have h1:=(hs.take (k:=j.toNat) (by omega)).drop (k:=i.toNat) (by omega);exact Rd.zw h1 (.inl hzp)
  ·cases h
 ·rename_i as heq;simp only[List.cons.injEq] at heq;obtain⟨heq,rfl⟩:=heq;rw[(St.bF heq).1] at hx;split at h
  ·rename_i ez i j hel hb;obtain⟨el,z⟩:=ez;simp only[dQ,Option.some.injEq] at h;subst h;obtain⟨rfl,rfl⟩:=hc;have hv:=lx hx;have:=run hel hv hb (Int.le_refl _) (Int.le_refl _) (Int.le_refl _) (Nat.le_refl _);refine bD r hd (v := .slice none 0 0) ?_ ⟨rfl,by simp [av.ids],rfl⟩
   simpa [svV] using this
  ·cases h
 ·rename_i ob e' z' l as heq;simp only[List.cons.injEq] at heq;obtain⟨heq,rfl⟩:=heq;obtain⟨h1,h2⟩:=St.bF heq;rw[h1] at hx;have hob:s.hp ob=some (.arr e' z' l):=by simpa [Slot.ids,Cmp.ids,Cmp.leaves,av.ids] using h2
  have hval:a.eval x=G.hv ob:=LRd.val hx;obtain⟨hown,hbl⟩:=r.gM ob _ hob;obtain⟨A,c,hv,hlc,hcm⟩:=hown.form;split at h
  ·rename_i el z i j hel hb;split at h
   ·rename_i hzz;subst hzz;simp only[dQ,Option.some.injEq] at h;subst h;obtain⟨c1,c2,c3⟩:=hc;refine bD r hd (run hel (hval.trans hv) hb c1 c2 c3 hlc) ⟨rfl,fun i hi=>?_,⟨A,_,c,hv,by omega,Int.toNat_le.2 c3,hlc,rfl⟩⟩;simp [av.ids] at hi;subst hi;rw[hob]; simp
   ·cases h
  ·cases h
 ·cases h
theorem Pk {e:Eff} (r:bP w0 χ0 T0 s a w G) (hd:∀ k,o.dst=some k->k<a.tmps.size) (h:opE P o.op o.dst (aF s.hp o.dst) ((Op.bq o.op).map s.arg)=some e) (hc:e.cond) :
  o.wp P a w (aX w0 χ0 T0 a.tmps.size (s.app o.dst e)) Q:=by
 have hm:((Op.bq o.op).map s.arg).map (·.1)=(Op.bq o.op).map s.ev:=by rw[List.map_map]; rfl
 unfold opE at h;rw[hm] at h;split at h <;> rename_i hop
 ·rw[hop] at h; exact zx r hd (.inl hop) h
 ·rw[hop] at h; exact zx r hd (.inr hop) h
 ·rw[hop] at h; exact Hn r hd hop h
 ·rw[hop] at h; exact Ep r hd hop h
 ·rw[hop] at h; exact Ht r hd hop h hc
 ·rw[hop] at h; exact Eu r hd hop h hc
 ·rw[hop] at h; exact Jm r hd hop h
 ·rw[hop] at h; exact w7 r hd hop h
 ·rw[hop] at h; exact Em r hd hop h
 ·rw[hop] at h; exact w8 r hd hop h hc
 ·rw[hop] at h; exact En r hd hop h hc
 ·rw[hop] at h; exact Jj r hd hop h hc
 ·rw[hop] at h; exact MA r hd hop h hc
 ·rw[hop] at h; exact AW r hd hop h
 ·rw[hop] at h; exact Er r hd hop h
 ·rw[hop] at h; exact wo r hd hop h
 ·rw[hop] at h; exact Hv r hd hop h
 ·rw[hop] at h; exact Ev r hd hop (by simpa [Op.bq] using h) hc
 ·rw[hop] at h; exact AY r hd hop h
 ·rw[hop] at h; exact Cm r hd hop h
 ·rw[hop] at h; exact xh r hd hop h hc
 ·rename_i args ts;rw[hop] at h;split at h
  ·rename_i t hts;have ht:ts = #[t]:=by rw[← Array.toArray_toList (xs:=ts),hts]
   have hx:∃ x,args.toList=[x]:=by
    simp only[Op.bq,List.nil_append] at h;cases ha:args.toList with
    | nil=>rw[ha] at h; simp [me] at h
    | cons x l =>
     cases l with
     | nil=>exact⟨x,rfl⟩
     | cons y l=>rw[ha] at h; simp [me] at h
   obtain⟨x,hx⟩:=hx;have ha:args = #[x]:=by rw[← Array.toArray_toList (xs:=args),hx]
   subst ht ha;exact Jo r hd hop rfl h hc
  ·cases h
 ·rename_i args ts;rw[hop] at h;split at h
  ·rename_i t t' hts;split at h
   ·rename_i htt;subst htt;have ht:ts = #[t,t]:=by rw[← Array.toArray_toList (xs:=ts),hts]
    have hx:∃ x y,args.toList=[x,y]:=by
     simp only[Op.bq,List.nil_append] at h;cases ha:args.toList with
     | nil=>rw[ha] at h; simp [iw] at h
     | cons x l =>
      cases l with
      | nil=>rw[ha] at h; simp [iw] at h
      | cons y l =>
       cases l with
       | nil=>exact⟨x,y,rfl⟩
       | cons z l=>rw[ha] at h; simp [iw] at h
    obtain⟨x,y,hx⟩:=hx;have ha:args = #[x,y]:=by rw[← Array.toArray_toList (xs:=args),hx]
    subst ht ha;exact Cj r hd hop rfl h hc
   ·cases h
  ·cases h
 ·cases h
end
end Go.Lad
